import Derived.Test.YtlonjogfeidgfaaCopiesB
import Derived.Test.YtlonjogfeidgfaaProg
import Derived.KernelRfl
set_option linter.unusedVariables false
namespace Go.Proofs.Ytlonjogfeidgfaa.c39p
open Go Go.Ev
set_option maxRecDepth 100000
set_option linter.unusedVariables false
theorem cp_err(nn:Int)(v1 v2:Value)(g g1 g2:Hp) :
  pvFn Try.prog (pvCall Try.prog 0) Try.f8 [.int .i64 nn,v1,v2] (.is g) [.ret (.pointer none) (.is g1),.ret (.bool true) (.is g2)] =
  some (.bool true,.is g2,[],[.call 15 [.int .i64 nn,v1] (.is g) (.pointer none) (.is g1),.call 11 [] (.is g1) (.bool true) (.is g2)]):=by intros;kernel_rfl
theorem cp_ntrue(b b2 o len p lw zw la za lb zb lc zc ld zd le ze:Nat)(ow oa ob oc od oe:Option Addr)(nn at1:Int)(v1:Value)(g g1 g2 g3 g4 g5 g6 g7 g8 g9 g10 g11:Hp) :
  let Z1:Value:=.pointer (some ⟨b,0,none⟩)
  let Z2:Value:=.pointer (some ⟨b2,0,none⟩)
  let Z3:Value:=.tuple #[.int .i64 at1,.bool true]
  let Z4:List Value:=[Z1]
  pvFn Try.prog (pvCall Try.prog 0) Try.f8 [.int .i64 nn,v1,.slice none 0 0] (.is g) [.ret Z1 (.is g1),.ret Z2 (.is g2),.ret (.slice ow lw zw) (.is g3),.ret Z3 (.is g4),.num 0,.unr 1,.bit false,.ret Z3 (.is g6),.ret (.slice oc lc zc) (.is g7),.ret (.bool true) (.is g7),.bit false,.num 0,.unr 1,.bit false,.ret (.bool true) (.is g8),.ret (.slice od ld zd) (.is g9),.ret (.slice oe le ze) (.is g10),.ret (.bool true) (.is g10),.ret (.bool true) (.is g11)] =
  some (.bool true,.is g11,[],[.call 15 [.int .i64 nn,v1] (.is g) Z1 (.is g1),.call 32 Z4 (.is g1) Z2 (.is g2),.call 12 Z4 (.is g2) (.slice ow lw zw) (.is g3),.call 28 Z4 (.is g3) Z3 (.is g4),.mm false 0 30 0,.cmp .lss 0 0 false,.call 28 Z4 (.is g4) Z3 (.is g6),.call 12 Z4 (.is g6) (.slice oc lc zc) (.is g7),.call 35 [.slice oc lc zc,.slice ow lw zw] (.is g7) (.bool true) (.is g7),.cmp .neq at1 at1 false,.mm false 0 30 0,.cmp .lss 0 0 false,.call 34 [.slice none 0 0,.slice none 0 0] (.is g7) (.bool true) (.is g8),.call 12 Z4 (.is g8) (.slice od ld zd) (.is g9),.call 12 [Z2] (.is g9) (.slice oe le ze) (.is g10),.call 35 [.slice od ld zd,.slice oe le ze] (.is g10) (.bool true) (.is g10),.call 11 [] (.is g10) (.bool true) (.is g11)]):=by intros;kernel_rfl
theorem cp_strue(b b2 o len p lw zw la za lb zb lc zc ld zd le ze:Nat)(ow oa ob oc od oe:Option Addr)(nn at1:Int)(v1:Value)(g g1 g2 g3 g4 g5 g6 g7 g8 g9 g10 g11:Hp) :
  let Z1:Value:=.slice (some ⟨o,0,none⟩) len 6
  let Z2:Value:=.pointer (some ⟨b,0,none⟩)
  let Z3:Value:=.pointer (some ⟨b2,0,none⟩)
  let Z4:Value:=.tuple #[.int .i64 at1,.bool true]
  let Z5:Env:=[(12,.slice oa la za),(7,Z2),(8,Z3),(9,.slice ow lw zw),(10,.int .i64 at1),(11,.bool true),(13,.slice none 0 0),(2,Z1)]
  let Z6:Env:=[(13,.slice ob lb zb),(7,Z2),(8,Z3),(12,.slice oa la za)]
  let Z7:List Value:=[Z2]
  let Z8:Value:=.slice (some ⟨o,0,none⟩) p 6
  pvFn Try.prog (pvCall Try.prog 0) Try.f8 [.int .i64 nn,v1,Z1] (.is g) [.ret Z2 (.is g1),.ret Z3 (.is g2),.ret (.slice ow lw zw) (.is g3),.ret Z4 (.is g4),.num (Int.ofNat p),.cut 0 p,.loop (.exit 0) Z5 (.is g5),.ret Z4 (.is g6),.ret (.slice oc lc zc) (.is g7),.ret (.bool true) (.is g7),.bit false,.num (Int.ofNat p),.cut 0 p,.loop (.exit 2) Z6 (.is g8),.ret (.bool true) (.is g8),.ret (.slice od ld zd) (.is g9),.ret (.slice oe le ze) (.is g10),.ret (.bool true) (.is g10),.ret (.bool true) (.is g11)] =
  some (.bool true,.is g11,[],[.call 15 [.int .i64 nn,v1] (.is g) Z2 (.is g1),.call 32 Z7 (.is g1) Z3 (.is g2),.call 12 Z7 (.is g2) (.slice ow lw zw) (.is g3),.call 28 Z7 (.is g3) Z4 (.is g4),.mm false (Int.ofNat len) 30 (Int.ofNat p),.cut none (some (.int .i64 (Int.ofNat p))) len 0 p,.loop 114 false (loopN Try.f8 0) [(47,.int .i64 0),(46,.int .i64 (Int.ofNat p)),(45,Z8),(44,.int .i64 (Int.ofNat p)),(43,.int .i64 (Int.ofNat len)),(42,Z1),(41,Z1),(13,.slice none 0 0),(12,.slice none 0 0),(11,.bool true),(10,.int .i64 at1),(40,.bool true),(39,.int .i64 at1),(36,Z4),(38,Z4),(37,Z2),(9,.slice ow lw zw),(35,.slice ow lw zw),(34,Z2),(33,.bool false),(32,Z3),(8,Z3),(31,Z3),(30,Z2),(28,.bool false),(27,Z2),(7,Z2),(26,Z2),(25,v1),(24,.int .i64 nn),(6,.bool false),(0,.int .i64 nn),(1,v1),(2,Z1)] (.is g4) (.exit 0) Z5 (.is g5),.call 28 Z7 (.is g5) Z4 (.is g6),.call 12 Z7 (.is g6) (.slice oc lc zc) (.is g7),.call 35 [.slice oc lc zc,.slice ow lw zw] (.is g7) (.bool true) (.is g7),.cmp .neq at1 at1 false,.mm false (Int.ofNat len) 30 (Int.ofNat p),.cut none (some (.int .i64 (Int.ofNat p))) len 0 p,.loop 114 false (loopN Try.f8 1) [(87,.int .i64 0),(86,.int .i64 (Int.ofNat p)),(85,Z8),(84,.int .i64 (Int.ofNat p)),(83,.int .i64 (Int.ofNat len)),(82,Z1),(81,Z1),(80,.bool false),(79,.bool false),(78,.bool true),(77,.bool true),(76,.bool false),(75,.bool false),(74,.bool false),(73,.int .i64 at1),(72,.int .i64 at1),(71,.bool false),(70,.bool false),(69,.bool true),(68,.slice ow lw zw),(67,.slice oc lc zc),(66,Z2),(19,.bool true),(18,.int .i64 at1),(65,.bool true),(64,.int .i64 at1),(61,Z4),(63,Z4),(62,Z2),(12,.slice oa la za),(7,Z2),(8,Z3),(9,.slice ow lw zw),(10,.int .i64 at1),(11,.bool true),(13,.slice none 0 0),(2,Z1)] (.is g7) (.exit 2) Z6 (.is g8),.call 34 [.slice oa la za,.slice ob lb zb] (.is g8) (.bool true) (.is g8),.call 12 Z7 (.is g8) (.slice od ld zd) (.is g9),.call 12 [Z3] (.is g9) (.slice oe le ze) (.is g10),.call 35 [.slice od ld zd,.slice oe le ze] (.is g10) (.bool true) (.is g10),.call 11 [] (.is g10) (.bool true) (.is g11)]):=by intros;kernel_rfl
theorem cp_nfalse(b b2 o len p lw zw la za lb zb lc zc ld zd le ze:Nat)(ow oa ob oc od oe:Option Addr)(nn at1:Int)(v1:Value)(g g1 g2 g3 g4 g5 g6 g7 g8 g9 g10 g11:Hp) :
  let Z1:Value:=.pointer (some ⟨b,0,none⟩)
  let Z2:Value:=.pointer (some ⟨b2,0,none⟩)
  let Z3:Value:=.tuple #[.int .i64 at1,.bool false]
  let Z4:List Value:=[Z1]
  pvFn Try.prog (pvCall Try.prog 0) Try.f8 [.int .i64 nn,v1,.slice none 0 0] (.is g) [.ret Z1 (.is g1),.ret Z2 (.is g2),.ret (.slice ow lw zw) (.is g3),.ret Z3 (.is g4),.num 0,.unr 1,.bit false,.ret Z3 (.is g6),.ret (.slice oc lc zc) (.is g7),.ret (.bool true) (.is g7),.bit false,.num 0,.unr 1,.bit false,.ret (.bool true) (.is g8),.ret (.slice od ld zd) (.is g9),.ret (.slice oe le ze) (.is g10),.ret (.bool true) (.is g10),.ret (.bool true) (.is g11)] =
  some (.bool true,.is g11,[],[.call 15 [.int .i64 nn,v1] (.is g) Z1 (.is g1),.call 32 Z4 (.is g1) Z2 (.is g2),.call 12 Z4 (.is g2) (.slice ow lw zw) (.is g3),.call 28 Z4 (.is g3) Z3 (.is g4),.mm false 0 30 0,.cmp .lss 0 0 false,.call 28 Z4 (.is g4) Z3 (.is g6),.call 12 Z4 (.is g6) (.slice oc lc zc) (.is g7),.call 35 [.slice oc lc zc,.slice ow lw zw] (.is g7) (.bool true) (.is g7),.cmp .neq at1 at1 false,.mm false 0 30 0,.cmp .lss 0 0 false,.call 34 [.slice none 0 0,.slice none 0 0] (.is g7) (.bool true) (.is g8),.call 12 Z4 (.is g8) (.slice od ld zd) (.is g9),.call 12 [Z2] (.is g9) (.slice oe le ze) (.is g10),.call 35 [.slice od ld zd,.slice oe le ze] (.is g10) (.bool true) (.is g10),.call 11 [] (.is g10) (.bool true) (.is g11)]):=by intros;kernel_rfl
theorem cp_sfalse(b b2 o len p lw zw la za lb zb lc zc ld zd le ze:Nat)(ow oa ob oc od oe:Option Addr)(nn at1:Int)(v1:Value)(g g1 g2 g3 g4 g5 g6 g7 g8 g9 g10 g11:Hp) :
  let Z1:Value:=.slice (some ⟨o,0,none⟩) len 6
  let Z2:Value:=.pointer (some ⟨b,0,none⟩)
  let Z3:Value:=.pointer (some ⟨b2,0,none⟩)
  let Z4:Value:=.tuple #[.int .i64 at1,.bool false]
  let Z5:Env:=[(12,.slice oa la za),(7,Z2),(8,Z3),(9,.slice ow lw zw),(10,.int .i64 at1),(11,.bool false),(13,.slice none 0 0),(2,Z1)]
  let Z6:Env:=[(13,.slice ob lb zb),(7,Z2),(8,Z3),(12,.slice oa la za)]
  let Z7:List Value:=[Z2]
  let Z8:Value:=.slice (some ⟨o,0,none⟩) p 6
  pvFn Try.prog (pvCall Try.prog 0) Try.f8 [.int .i64 nn,v1,Z1] (.is g) [.ret Z2 (.is g1),.ret Z3 (.is g2),.ret (.slice ow lw zw) (.is g3),.ret Z4 (.is g4),.num (Int.ofNat p),.cut 0 p,.loop (.exit 0) Z5 (.is g5),.ret Z4 (.is g6),.ret (.slice oc lc zc) (.is g7),.ret (.bool true) (.is g7),.bit false,.num (Int.ofNat p),.cut 0 p,.loop (.exit 2) Z6 (.is g8),.ret (.bool true) (.is g8),.ret (.slice od ld zd) (.is g9),.ret (.slice oe le ze) (.is g10),.ret (.bool true) (.is g10),.ret (.bool true) (.is g11)] =
  some (.bool true,.is g11,[],[.call 15 [.int .i64 nn,v1] (.is g) Z2 (.is g1),.call 32 Z7 (.is g1) Z3 (.is g2),.call 12 Z7 (.is g2) (.slice ow lw zw) (.is g3),.call 28 Z7 (.is g3) Z4 (.is g4),.mm false (Int.ofNat len) 30 (Int.ofNat p),.cut none (some (.int .i64 (Int.ofNat p))) len 0 p,.loop 114 false (loopN Try.f8 0) [(47,.int .i64 0),(46,.int .i64 (Int.ofNat p)),(45,Z8),(44,.int .i64 (Int.ofNat p)),(43,.int .i64 (Int.ofNat len)),(42,Z1),(41,Z1),(13,.slice none 0 0),(12,.slice none 0 0),(11,.bool false),(10,.int .i64 at1),(40,.bool false),(39,.int .i64 at1),(36,Z4),(38,Z4),(37,Z2),(9,.slice ow lw zw),(35,.slice ow lw zw),(34,Z2),(33,.bool false),(32,Z3),(8,Z3),(31,Z3),(30,Z2),(28,.bool false),(27,Z2),(7,Z2),(26,Z2),(25,v1),(24,.int .i64 nn),(6,.bool false),(0,.int .i64 nn),(1,v1),(2,Z1)] (.is g4) (.exit 0) Z5 (.is g5),.call 28 Z7 (.is g5) Z4 (.is g6),.call 12 Z7 (.is g6) (.slice oc lc zc) (.is g7),.call 35 [.slice oc lc zc,.slice ow lw zw] (.is g7) (.bool true) (.is g7),.cmp .neq at1 at1 false,.mm false (Int.ofNat len) 30 (Int.ofNat p),.cut none (some (.int .i64 (Int.ofNat p))) len 0 p,.loop 114 false (loopN Try.f8 1) [(87,.int .i64 0),(86,.int .i64 (Int.ofNat p)),(85,Z8),(84,.int .i64 (Int.ofNat p)),(83,.int .i64 (Int.ofNat len)),(82,Z1),(81,Z1),(80,.bool false),(79,.bool false),(78,.bool false),(77,.bool false),(76,.bool false),(75,.bool false),(74,.bool false),(73,.int .i64 at1),(72,.int .i64 at1),(71,.bool false),(70,.bool false),(69,.bool true),(68,.slice ow lw zw),(67,.slice oc lc zc),(66,Z2),(19,.bool false),(18,.int .i64 at1),(65,.bool false),(64,.int .i64 at1),(61,Z4),(63,Z4),(62,Z2),(12,.slice oa la za),(7,Z2),(8,Z3),(9,.slice ow lw zw),(10,.int .i64 at1),(11,.bool false),(13,.slice none 0 0),(2,Z1)] (.is g7) (.exit 2) Z6 (.is g8),.call 34 [.slice oa la za,.slice ob lb zb] (.is g8) (.bool true) (.is g8),.call 12 Z7 (.is g8) (.slice od ld zd) (.is g9),.call 12 [Z3] (.is g9) (.slice oe le ze) (.is g10),.call 35 [.slice od ld zd,.slice oe le ze] (.is g10) (.bool true) (.is g10),.call 11 [] (.is g10) (.bool true) (.is g11)]):=by intros;kernel_rfl
theorem c0_out(b o p q d w n m k d2:Nat)(i i1 ok on om fk:Int)(oy z:Bool)(ft:ByteArray)(u2 u7 u8 u9 u10 u11 u12 u13 acc:Value)(c news:List Value)(g g1:Hp) :
  pvCode Try.prog (pvCall Try.prog 0) 114 false (loopN Try.f8 0) [(47,.int .i64 i),(46,.int .i64 (Int.ofNat p)),(45,.slice (some ⟨o,0,none⟩) p 6),(8,.pointer (some ⟨b,0,none⟩)),(12,acc),(7,u7),(9,u9),(10,u10),(11,u11),(13,u13),(2,u2)] (.is g) [.bit false] =
  some (.exit 0,[(48,.bool false),(47,.int .i64 i),(46,.int .i64 (Int.ofNat p)),(45,.slice (some ⟨o,0,none⟩) p 6),(8,.pointer (some ⟨b,0,none⟩)),(12,acc),(7,u7),(9,u9),(10,u10),(11,u11),(13,u13),(2,u2)],.is g,[],[.cmp .lss i (Int.ofNat p) false]):=by intros;kernel_rfl
theorem c0_0(b o p q d w n m k d2:Nat)(i i1 ok on om fk:Int)(oy z:Bool)(ft:ByteArray)(u2 u7 u8 u9 u10 u11 u12 u13 acc:Value)(c news:List Value)(g g1:Hp) :
  let Z1:Value:=.pointer (some ⟨b,0,none⟩)
  let Z2:List Value:=[.int .i64 ok,.int .i64 on,.int .i64 om,.bool oy,.int .i64 fk,.string ft]
  let Z3:Value:=.tuple #[.slice none 0 0,.bool z]
  let Z4:Value:=.agg #[.int .i64 ok,.int .i64 on,.int .i64 om,.bool oy,.int .i64 fk,.string ft]
  let Z5:SH:=.push (.is g) (.cells [.int .i64 0,.int .i64 0,.int .i64 0,.bool false,.int .i64 0,.string { data:=#[] }] true)
  let Z6:SH:=.set Z5 d (.cells Z2 true)
  pvCode Try.prog (pvCall Try.prog 0) 114 false (loopN Try.f8 0) [(47,.int .i64 i),(46,.int .i64 (Int.ofNat p)),(45,.slice (some ⟨o,0,none⟩) p 6),(8,Z1),(12,.slice none 0 0),(7,u7),(9,u9),(10,u10),(11,u11),(13,u13),(2,u2)] (.is g) [.bit true,.offs q,.cells Z2,.idx d,.cells Z2,.cells Z2,.ret Z3 (.is g1),.app0,.num i1] =
  some (.normal,[(47,.int .i64 i1),(60,.int .i64 i1),(12,.slice none 0 0),(59,.slice none 0 0),(58,.slice none 0 0),(57,.slice none 0 0),(17,.bool z),(16,.slice none 0 0),(56,.bool z),(55,.slice none 0 0),(51,Z3),(54,Z3),(53,Z4),(52,Z1),(15,.pointer (some ⟨d,0,none⟩)),(50,Z4),(49,.pointer (some ⟨o,q,none⟩)),(48,.bool true),(47,.int .i64 i),(46,.int .i64 (Int.ofNat p)),(45,.slice (some ⟨o,0,none⟩) p 6),(8,Z1),(12,.slice none 0 0),(7,u7),(9,u9),(10,u10),(11,u11),(13,u13),(2,u2)],.is g1,[],[.cmp .lss i (Int.ofNat p) true,.off q 0 i p 6,.ldn (.is g) o q 6 Z2,.len (.is g) d,.st Z5 d 0 Z2 Z2,.ldn Z6 d 0 6 Z2,.call 13 [Z1,Z4] Z6 Z3 (.is g1),.arith .add .i64 i 1 i1]):=by intros;kernel_rfl
theorem c0_0s(b o p q d w n m k d2:Nat)(i i1 ok on om fk:Int)(oy z:Bool)(ft:ByteArray)(u2 u7 u8 u9 u10 u11 u12 u13 acc:Value)(c news:List Value)(g g1:Hp) :
  let Z1:Value:=.pointer (some ⟨b,0,none⟩)
  let Z2:Value:=.slice (some ⟨w,0,none⟩) n 5
  let Z3:List Value:=[.int .i64 ok,.int .i64 on,.int .i64 om,.bool oy,.int .i64 fk,.string ft]
  let Z4:Value:=.tuple #[.slice none 0 0,.bool z]
  let Z5:Value:=.agg #[.int .i64 ok,.int .i64 on,.int .i64 om,.bool oy,.int .i64 fk,.string ft]
  let Z6:SH:=.push (.is g) (.cells [.int .i64 0,.int .i64 0,.int .i64 0,.bool false,.int .i64 0,.string { data:=#[] }] true)
  let Z7:SH:=.set Z6 d (.cells Z3 true)
  pvCode Try.prog (pvCall Try.prog 0) 114 false (loopN Try.f8 0) [(47,.int .i64 i),(46,.int .i64 (Int.ofNat p)),(45,.slice (some ⟨o,0,none⟩) p 6),(8,Z1),(12,Z2),(7,u7),(9,u9),(10,u10),(11,u11),(13,u13),(2,u2)] (.is g) [.bit true,.offs q,.cells Z3,.idx d,.cells Z3,.cells Z3,.ret Z4 (.is g1),.app0,.num i1] =
  some (.normal,[(47,.int .i64 i1),(60,.int .i64 i1),(12,Z2),(59,Z2),(58,.slice none 0 0),(57,Z2),(17,.bool z),(16,.slice none 0 0),(56,.bool z),(55,.slice none 0 0),(51,Z4),(54,Z4),(53,Z5),(52,Z1),(15,.pointer (some ⟨d,0,none⟩)),(50,Z5),(49,.pointer (some ⟨o,q,none⟩)),(48,.bool true),(47,.int .i64 i),(46,.int .i64 (Int.ofNat p)),(45,.slice (some ⟨o,0,none⟩) p 6),(8,Z1),(12,Z2),(7,u7),(9,u9),(10,u10),(11,u11),(13,u13),(2,u2)],.is g1,[],[.cmp .lss i (Int.ofNat p) true,.off q 0 i p 6,.ldn (.is g) o q 6 Z3,.len (.is g) d,.st Z6 d 0 Z3 Z3,.ldn Z7 d 0 6 Z3,.call 13 [Z1,Z5] Z7 Z4 (.is g1),.arith .add .i64 i 1 i1]):=by intros;kernel_rfl
theorem c0_n(b o p q d w n m k d2:Nat)(i i1 ok on om fk:Int)(oy z:Bool)(ft:ByteArray)(u2 u7 u8 u9 u10 u11 u12 u13 acc:Value)(c news:List Value)(g g1:Hp) :
  let Z1:Value:=.pointer (some ⟨b,0,none⟩)
  let Z2:List Value:=[.int .i64 ok,.int .i64 on,.int .i64 om,.bool oy,.int .i64 fk,.string ft]
  let Z3:Value:=.slice (some ⟨d2,0,none⟩) (Nat.succ k) 5
  let Z4:Value:=.slice (some ⟨m,0,none⟩) (Nat.succ k) 5
  let Z5:Value:=.tuple #[Z4,.bool z]
  let Z6:Value:=.agg #[.int .i64 ok,.int .i64 on,.int .i64 om,.bool oy,.int .i64 fk,.string ft]
  let Z7:SH:=.push (.is g) (.cells [.int .i64 0,.int .i64 0,.int .i64 0,.bool false,.int .i64 0,.string { data:=#[] }] true)
  let Z8:SH:=.set Z7 d (.cells Z2 true)
  pvCode Try.prog (pvCall Try.prog 0) 114 false (loopN Try.f8 0) [(47,.int .i64 i),(46,.int .i64 (Int.ofNat p)),(45,.slice (some ⟨o,0,none⟩) p 6),(8,Z1),(12,.slice none 0 0),(7,u7),(9,u9),(10,u10),(11,u11),(13,u13),(2,u2)] (.is g) [.bit true,.offs q,.cells Z2,.idx d,.cells Z2,.cells Z2,.ret (.tuple #[.slice (some ⟨m,0,none⟩) (k+1) 5,.bool z]) (.is g1),.app [] news k d2,.num i1] =
  some (.normal,[(47,.int .i64 i1),(60,.int .i64 i1),(12,Z3),(59,Z3),(58,Z4),(57,.slice none 0 0),(17,.bool z),(16,Z4),(56,.bool z),(55,Z4),(51,Z5),(54,Z5),(53,Z6),(52,Z1),(15,.pointer (some ⟨d,0,none⟩)),(50,Z6),(49,.pointer (some ⟨o,q,none⟩)),(48,.bool true),(47,.int .i64 i),(46,.int .i64 (Int.ofNat p)),(45,.slice (some ⟨o,0,none⟩) p 6),(8,Z1),(12,.slice none 0 0),(7,u7),(9,u9),(10,u10),(11,u11),(13,u13),(2,u2)],.push (.is g1) (.cells news true),[],[.cmp .lss i (Int.ofNat p) true,.off q 0 i p 6,.ldn (.is g) o q 6 Z2,.len (.is g) d,.st Z7 d 0 Z2 Z2,.ldn Z8 d 0 6 Z2,.call 13 [Z1,Z6] Z8 Z5 (.is g1),.appNil (.is g1) m 0 (Nat.succ k) k 5 48 news d2,.arith .add .i64 i 1 i1]):=by intros;kernel_rfl
theorem c0_s(b o p q d w n m k d2:Nat)(i i1 ok on om fk:Int)(oy z:Bool)(ft:ByteArray)(u2 u7 u8 u9 u10 u11 u12 u13 acc:Value)(c news:List Value)(g g1:Hp) :
  let Z1:Value:=.pointer (some ⟨b,0,none⟩)
  let Z2:Value:=.slice (some ⟨w,0,none⟩) n 5
  let Z3:List Value:=[.int .i64 ok,.int .i64 on,.int .i64 om,.bool oy,.int .i64 fk,.string ft]
  let Z4:Value:=.slice (some ⟨d2,0,none⟩) (Nat.succ (n+(k+0))) 5
  let Z5:Value:=.slice (some ⟨m,0,none⟩) (Nat.succ k) 5
  let Z6:Value:=.tuple #[Z5,.bool z]
  let Z7:Value:=.agg #[.int .i64 ok,.int .i64 on,.int .i64 om,.bool oy,.int .i64 fk,.string ft]
  let Z8:SH:=.push (.is g) (.cells [.int .i64 0,.int .i64 0,.int .i64 0,.bool false,.int .i64 0,.string { data:=#[] }] true)
  let Z9:SH:=.set Z8 d (.cells Z3 true)
  pvCode Try.prog (pvCall Try.prog 0) 114 false (loopN Try.f8 0) [(47,.int .i64 i),(46,.int .i64 (Int.ofNat p)),(45,.slice (some ⟨o,0,none⟩) p 6),(8,Z1),(12,Z2),(7,u7),(9,u9),(10,u10),(11,u11),(13,u13),(2,u2)] (.is g) [.bit true,.offs q,.cells Z3,.idx d,.cells Z3,.cells Z3,.ret (.tuple #[.slice (some ⟨m,0,none⟩) (k+1) 5,.bool z]) (.is g1),.app c news k d2,.num i1] =
  some (.normal,[(47,.int .i64 i1),(60,.int .i64 i1),(12,Z4),(59,Z4),(58,Z5),(57,Z2),(17,.bool z),(16,Z5),(56,.bool z),(55,Z5),(51,Z6),(54,Z6),(53,Z7),(52,Z1),(15,.pointer (some ⟨d,0,none⟩)),(50,Z7),(49,.pointer (some ⟨o,q,none⟩)),(48,.bool true),(47,.int .i64 i),(46,.int .i64 (Int.ofNat p)),(45,.slice (some ⟨o,0,none⟩) p 6),(8,Z1),(12,Z2),(7,u7),(9,u9),(10,u10),(11,u11),(13,u13),(2,u2)],.push (.set (.is g1) w .dead) (.cells c true),[],[.cmp .lss i (Int.ofNat p) true,.off q 0 i p 6,.ldn (.is g) o q 6 Z3,.len (.is g) d,.st Z8 d 0 Z3 Z3,.ldn Z9 d 0 6 Z3,.call 13 [Z1,Z7] Z9 Z6 (.is g1),.app (.is g1) w 0 n m 0 (Nat.succ k) k 5 48 c news d2,.arith .add .i64 i 1 i1]):=by intros;kernel_rfl
theorem c1_out(b o p q d w n m k d2:Nat)(i i1 ok on om fk:Int)(oy z:Bool)(ft:ByteArray)(u2 u7 u8 u9 u10 u11 u12 u13 acc:Value)(c news:List Value)(g g1:Hp) :
  pvCode Try.prog (pvCall Try.prog 0) 114 false (loopN Try.f8 1) [(87,.int .i64 i),(86,.int .i64 (Int.ofNat p)),(85,.slice (some ⟨o,0,none⟩) p 6),(7,.pointer (some ⟨b,0,none⟩)),(13,acc),(8,u8),(12,u12)] (.is g) [.bit false] =
  some (.exit 2,[(88,.bool false),(87,.int .i64 i),(86,.int .i64 (Int.ofNat p)),(85,.slice (some ⟨o,0,none⟩) p 6),(7,.pointer (some ⟨b,0,none⟩)),(13,acc),(8,u8),(12,u12)],.is g,[],[.cmp .lss i (Int.ofNat p) false]):=by intros;kernel_rfl
theorem c1_0(b o p q d w n m k d2:Nat)(i i1 ok on om fk:Int)(oy z:Bool)(ft:ByteArray)(u2 u7 u8 u9 u10 u11 u12 u13 acc:Value)(c news:List Value)(g g1:Hp) :
  let Z1:Value:=.pointer (some ⟨b,0,none⟩)
  let Z2:List Value:=[.int .i64 ok,.int .i64 on,.int .i64 om,.bool oy,.int .i64 fk,.string ft]
  let Z3:Value:=.tuple #[.slice none 0 0,.bool z]
  let Z4:Value:=.agg #[.int .i64 ok,.int .i64 on,.int .i64 om,.bool oy,.int .i64 fk,.string ft]
  let Z5:SH:=.push (.is g) (.cells [.int .i64 0,.int .i64 0,.int .i64 0,.bool false,.int .i64 0,.string { data:=#[] }] true)
  let Z6:SH:=.set Z5 d (.cells Z2 true)
  pvCode Try.prog (pvCall Try.prog 0) 114 false (loopN Try.f8 1) [(87,.int .i64 i),(86,.int .i64 (Int.ofNat p)),(85,.slice (some ⟨o,0,none⟩) p 6),(7,Z1),(13,.slice none 0 0),(8,u8),(12,u12)] (.is g) [.bit true,.offs q,.cells Z2,.idx d,.cells Z2,.cells Z2,.ret Z3 (.is g1),.app0,.num i1] =
  some (.normal,[(87,.int .i64 i1),(100,.int .i64 i1),(13,.slice none 0 0),(99,.slice none 0 0),(98,.slice none 0 0),(97,.slice none 0 0),(23,.bool z),(22,.slice none 0 0),(96,.bool z),(95,.slice none 0 0),(91,Z3),(94,Z3),(93,Z4),(92,Z1),(21,.pointer (some ⟨d,0,none⟩)),(90,Z4),(89,.pointer (some ⟨o,q,none⟩)),(88,.bool true),(87,.int .i64 i),(86,.int .i64 (Int.ofNat p)),(85,.slice (some ⟨o,0,none⟩) p 6),(7,Z1),(13,.slice none 0 0),(8,u8),(12,u12)],.is g1,[],[.cmp .lss i (Int.ofNat p) true,.off q 0 i p 6,.ldn (.is g) o q 6 Z2,.len (.is g) d,.st Z5 d 0 Z2 Z2,.ldn Z6 d 0 6 Z2,.call 13 [Z1,Z4] Z6 Z3 (.is g1),.arith .add .i64 i 1 i1]):=by intros;kernel_rfl
theorem c1_0s(b o p q d w n m k d2:Nat)(i i1 ok on om fk:Int)(oy z:Bool)(ft:ByteArray)(u2 u7 u8 u9 u10 u11 u12 u13 acc:Value)(c news:List Value)(g g1:Hp) :
  let Z1:Value:=.pointer (some ⟨b,0,none⟩)
  let Z2:Value:=.slice (some ⟨w,0,none⟩) n 5
  let Z3:List Value:=[.int .i64 ok,.int .i64 on,.int .i64 om,.bool oy,.int .i64 fk,.string ft]
  let Z4:Value:=.tuple #[.slice none 0 0,.bool z]
  let Z5:Value:=.agg #[.int .i64 ok,.int .i64 on,.int .i64 om,.bool oy,.int .i64 fk,.string ft]
  let Z6:SH:=.push (.is g) (.cells [.int .i64 0,.int .i64 0,.int .i64 0,.bool false,.int .i64 0,.string { data:=#[] }] true)
  let Z7:SH:=.set Z6 d (.cells Z3 true)
  pvCode Try.prog (pvCall Try.prog 0) 114 false (loopN Try.f8 1) [(87,.int .i64 i),(86,.int .i64 (Int.ofNat p)),(85,.slice (some ⟨o,0,none⟩) p 6),(7,Z1),(13,Z2),(8,u8),(12,u12)] (.is g) [.bit true,.offs q,.cells Z3,.idx d,.cells Z3,.cells Z3,.ret Z4 (.is g1),.app0,.num i1] =
  some (.normal,[(87,.int .i64 i1),(100,.int .i64 i1),(13,Z2),(99,Z2),(98,.slice none 0 0),(97,Z2),(23,.bool z),(22,.slice none 0 0),(96,.bool z),(95,.slice none 0 0),(91,Z4),(94,Z4),(93,Z5),(92,Z1),(21,.pointer (some ⟨d,0,none⟩)),(90,Z5),(89,.pointer (some ⟨o,q,none⟩)),(88,.bool true),(87,.int .i64 i),(86,.int .i64 (Int.ofNat p)),(85,.slice (some ⟨o,0,none⟩) p 6),(7,Z1),(13,Z2),(8,u8),(12,u12)],.is g1,[],[.cmp .lss i (Int.ofNat p) true,.off q 0 i p 6,.ldn (.is g) o q 6 Z3,.len (.is g) d,.st Z6 d 0 Z3 Z3,.ldn Z7 d 0 6 Z3,.call 13 [Z1,Z5] Z7 Z4 (.is g1),.arith .add .i64 i 1 i1]):=by intros;kernel_rfl
theorem c1_n(b o p q d w n m k d2:Nat)(i i1 ok on om fk:Int)(oy z:Bool)(ft:ByteArray)(u2 u7 u8 u9 u10 u11 u12 u13 acc:Value)(c news:List Value)(g g1:Hp) :
  let Z1:Value:=.pointer (some ⟨b,0,none⟩)
  let Z2:List Value:=[.int .i64 ok,.int .i64 on,.int .i64 om,.bool oy,.int .i64 fk,.string ft]
  let Z3:Value:=.slice (some ⟨d2,0,none⟩) (Nat.succ k) 5
  let Z4:Value:=.slice (some ⟨m,0,none⟩) (Nat.succ k) 5
  let Z5:Value:=.tuple #[Z4,.bool z]
  let Z6:Value:=.agg #[.int .i64 ok,.int .i64 on,.int .i64 om,.bool oy,.int .i64 fk,.string ft]
  let Z7:SH:=.push (.is g) (.cells [.int .i64 0,.int .i64 0,.int .i64 0,.bool false,.int .i64 0,.string { data:=#[] }] true)
  let Z8:SH:=.set Z7 d (.cells Z2 true)
  pvCode Try.prog (pvCall Try.prog 0) 114 false (loopN Try.f8 1) [(87,.int .i64 i),(86,.int .i64 (Int.ofNat p)),(85,.slice (some ⟨o,0,none⟩) p 6),(7,Z1),(13,.slice none 0 0),(8,u8),(12,u12)] (.is g) [.bit true,.offs q,.cells Z2,.idx d,.cells Z2,.cells Z2,.ret (.tuple #[.slice (some ⟨m,0,none⟩) (k+1) 5,.bool z]) (.is g1),.app [] news k d2,.num i1] =
  some (.normal,[(87,.int .i64 i1),(100,.int .i64 i1),(13,Z3),(99,Z3),(98,Z4),(97,.slice none 0 0),(23,.bool z),(22,Z4),(96,.bool z),(95,Z4),(91,Z5),(94,Z5),(93,Z6),(92,Z1),(21,.pointer (some ⟨d,0,none⟩)),(90,Z6),(89,.pointer (some ⟨o,q,none⟩)),(88,.bool true),(87,.int .i64 i),(86,.int .i64 (Int.ofNat p)),(85,.slice (some ⟨o,0,none⟩) p 6),(7,Z1),(13,.slice none 0 0),(8,u8),(12,u12)],.push (.is g1) (.cells news true),[],[.cmp .lss i (Int.ofNat p) true,.off q 0 i p 6,.ldn (.is g) o q 6 Z2,.len (.is g) d,.st Z7 d 0 Z2 Z2,.ldn Z8 d 0 6 Z2,.call 13 [Z1,Z6] Z8 Z5 (.is g1),.appNil (.is g1) m 0 (Nat.succ k) k 5 48 news d2,.arith .add .i64 i 1 i1]):=by intros;kernel_rfl
theorem c1_s(b o p q d w n m k d2:Nat)(i i1 ok on om fk:Int)(oy z:Bool)(ft:ByteArray)(u2 u7 u8 u9 u10 u11 u12 u13 acc:Value)(c news:List Value)(g g1:Hp) :
  let Z1:Value:=.pointer (some ⟨b,0,none⟩)
  let Z2:Value:=.slice (some ⟨w,0,none⟩) n 5
  let Z3:List Value:=[.int .i64 ok,.int .i64 on,.int .i64 om,.bool oy,.int .i64 fk,.string ft]
  let Z4:Value:=.slice (some ⟨d2,0,none⟩) (Nat.succ (n+(k+0))) 5
  let Z5:Value:=.slice (some ⟨m,0,none⟩) (Nat.succ k) 5
  let Z6:Value:=.tuple #[Z5,.bool z]
  let Z7:Value:=.agg #[.int .i64 ok,.int .i64 on,.int .i64 om,.bool oy,.int .i64 fk,.string ft]
  let Z8:SH:=.push (.is g) (.cells [.int .i64 0,.int .i64 0,.int .i64 0,.bool false,.int .i64 0,.string { data:=#[] }] true)
  let Z9:SH:=.set Z8 d (.cells Z3 true)
  pvCode Try.prog (pvCall Try.prog 0) 114 false (loopN Try.f8 1) [(87,.int .i64 i),(86,.int .i64 (Int.ofNat p)),(85,.slice (some ⟨o,0,none⟩) p 6),(7,Z1),(13,Z2),(8,u8),(12,u12)] (.is g) [.bit true,.offs q,.cells Z3,.idx d,.cells Z3,.cells Z3,.ret (.tuple #[.slice (some ⟨m,0,none⟩) (k+1) 5,.bool z]) (.is g1),.app c news k d2,.num i1] =
  some (.normal,[(87,.int .i64 i1),(100,.int .i64 i1),(13,Z4),(99,Z4),(98,Z5),(97,Z2),(23,.bool z),(22,Z5),(96,.bool z),(95,Z5),(91,Z6),(94,Z6),(93,Z7),(92,Z1),(21,.pointer (some ⟨d,0,none⟩)),(90,Z7),(89,.pointer (some ⟨o,q,none⟩)),(88,.bool true),(87,.int .i64 i),(86,.int .i64 (Int.ofNat p)),(85,.slice (some ⟨o,0,none⟩) p 6),(7,Z1),(13,Z2),(8,u8),(12,u12)],.push (.set (.is g1) w .dead) (.cells c true),[],[.cmp .lss i (Int.ofNat p) true,.off q 0 i p 6,.ldn (.is g) o q 6 Z3,.len (.is g) d,.st Z8 d 0 Z3 Z3,.ldn Z9 d 0 6 Z3,.call 13 [Z1,Z7] Z9 Z6 (.is g1),.app (.is g1) w 0 n m 0 (Nat.succ k) k 5 48 c news d2,.arith .add .i64 i 1 i1]):=by intros;kernel_rfl
end Go.Proofs.Ytlonjogfeidgfaa.c39p
namespace Go.Proofs.Ytlonjogfeidgfaa.c32p
open Go Go.Ev
set_option maxRecDepth 100000
set_option linter.unusedVariables false
theorem nx_nil(i d len:Nat)(at1:Int)(g g1:Hp) :
  let Z1:List Value:=[.pointer (some ⟨i,0,none⟩)]
  pvFn Try.prog (pvCall Try.prog 0) Try.f28 Z1 (.is g) [.ret (.tuple #[]) (.is g1),.val (.slice none 0 0),.bit true] =
  some (.tuple #[.int .i64 0,.bool false],.is g1,[],[.call 52 Z1 (.is g) (.tuple #[]) (.is g1),.ld1 (.is g1) i 3 (.slice none 0 0),.cmp .eql 0 0 true]):=by intros;kernel_rfl
theorem nx_zero(i d len:Nat)(at1:Int)(g g1:Hp) :
  let Z1:List Value:=[.pointer (some ⟨i,0,none⟩)]
  let Z2:Value:=.slice (some ⟨d,0,none⟩) len 2
  pvFn Try.prog (pvCall Try.prog 0) Try.f28 Z1 (.is g) [.ret (.tuple #[]) (.is g1),.val Z2,.bit true] =
  some (.tuple #[.int .i64 0,.bool false],.is g1,[],[.call 52 Z1 (.is g) (.tuple #[]) (.is g1),.ld1 (.is g1) i 3 Z2,.cmp .eql (Int.ofNat len) 0 true]):=by intros;kernel_rfl
theorem nx_go(i d len:Nat)(at1:Int)(g g1:Hp) :
  let Z1:List Value:=[.pointer (some ⟨i,0,none⟩)]
  let Z2:Value:=.slice (some ⟨d,0,none⟩) len 2
  pvFn Try.prog (pvCall Try.prog 0) Try.f28 Z1 (.is g) [.ret (.tuple #[]) (.is g1),.val Z2,.bit false,.val Z2,.offs 0,.val (.int .i64 at1)] =
  some (.tuple #[.int .i64 at1,.bool true],.is g1,[],[.call 52 Z1 (.is g) (.tuple #[]) (.is g1),.ld1 (.is g1) i 3 Z2,.cmp .eql (Int.ofNat len) 0 false,.ld1 (.is g1) i 3 Z2,.off 0 0 0 len 2,.ld1 (.is g1) d 0 (.int .i64 at1)]):=by intros;kernel_rfl
theorem dl_out(K:Env)(j p:Int)(g:Hp) :
  pvCode Try.prog (pvCall Try.prog 0) 65 false (loopN Try.f30 0) ((23,.int .i64 j)::(22,.int .i64 p)::K) (.is g) [.bit false] =
  some (.exit 0,(24,.bool false)::(23,.int .i64 j)::(22,.int .i64 p)::K,.is g,[],[.cmp .lss j p false]):=by intros;kernel_rfl
end Go.Proofs.Ytlonjogfeidgfaa.c32p
namespace Go.Proofs.Ytlonjogfeidgfaa.c17p
open Go Go.Ev
set_option maxRecDepth 100000
set_option linter.unusedVariables false
theorem pd(i:Nat)(w:Value)(g g1:Hp) :
  let Z1:Value:=.pointer (some ⟨i,0,none⟩)
  pvFn Try.prog (pvCall Try.prog 0) Try.f12 [Z1] (.is g) [.loop (.exit 0) [(3,w)] (.is g1)] =
  some (w,.is g1,[],[.loop 17 false (loopN Try.f12 0) [(4,.int .i64 1),(3,.slice none 0 0),(2,.slice none 0 0),(0,Z1)] (.is g) (.exit 0) [(3,w)] (.is g1)]):=by intros;kernel_rfl
theorem pd_out(i b d o cnt:Nat)(j j1:Int)(w:Value)(c:List Value)(g g1:Hp) :
  pvCode Try.prog (pvCall Try.prog 0) 17 false (loopN Try.f12 0) [(4,.int .i64 j),(3,w),(0,.pointer (some ⟨i,0,none⟩))] (.is g) [.bit false] =
  some (.exit 0,[(6,.bool false),(5,.int .i64 j),(4,.int .i64 j),(3,w),(0,.pointer (some ⟨i,0,none⟩))],.is g,[],[.cmp .leq j 64 false]):=by intros;kernel_rfl
theorem pd_no(i b d o cnt:Nat)(j j1:Int)(w:Value)(c:List Value)(g g1:Hp) :
  let Z1:Value:=.pointer (some ⟨i,0,none⟩)
  pvCode Try.prog (pvCall Try.prog 0) 17 false (loopN Try.f12 0) [(4,.int .i64 j),(3,w),(0,Z1)] (.is g) [.bit true,.ret (.bool false) (.is g1),.num j1] =
  some (.normal,[(4,.int .i64 j1),(8,.int .i64 j1),(7,.int .i64 j),(11,.bool false),(10,.int .i64 j),(9,Z1),(6,.bool true),(5,.int .i64 j),(4,.int .i64 j),(3,w),(0,Z1)],.is g1,[],[.cmp .leq j 64 true,.call 22 [Z1,.int .i64 j] (.is g) (.bool false) (.is g1),.arith .add .i64 j 1 j1]):=by intros;kernel_rfl
theorem pd_n(i b d o cnt:Nat)(j j1:Int)(w:Value)(c:List Value)(g g1:Hp) :
  let Z1:Value:=.pointer (some ⟨i,0,none⟩)
  let Z2:Value:=.slice (some ⟨d,0,none⟩) 1 1
  let Z3:AObj:=.cells [.int .i64 j] true
  let Z4:SH:=.push (.is g1) Z3
  pvCode Try.prog (pvCall Try.prog 0) 17 false (loopN Try.f12 0) [(4,.int .i64 j),(3,.slice none 0 0),(0,Z1)] (.is g) [.bit true,.ret (.bool true) (.is g1),.idx b,.app [] [.int .i64 j] 0 d,.num j1] =
  some (.normal,[(4,.int .i64 j1),(8,.int .i64 j1),(7,.int .i64 j),(3,Z2),(15,Z2),(14,.slice (some ⟨b,0,none⟩) 1 1),(13,.int .i64 j),(12,.slice none 0 0),(11,.bool true),(10,.int .i64 j),(9,Z1),(6,.bool true),(5,.int .i64 j),(4,.int .i64 j),(3,.slice none 0 0),(0,Z1)],.push Z4 Z3,[],[.cmp .leq j 64 true,.call 22 [Z1,.int .i64 j] (.is g) (.bool true) (.is g1),.len (.is g1) b,.appNil Z4 b 0 1 0 1 8 [.int .i64 j] d,.arith .add .i64 j 1 j1]):=by intros;kernel_rfl
theorem pd_s(i b d o cnt:Nat)(j j1:Int)(w:Value)(c:List Value)(g g1:Hp) :
  let Z1:Value:=.slice (some ⟨o,0,none⟩) cnt 1
  let Z2:Value:=.pointer (some ⟨i,0,none⟩)
  let Z3:Value:=.slice (some ⟨d,0,none⟩) (Nat.succ cnt) 1
  let Z4:SH:=.push (.is g1) (.cells [.int .i64 j] true)
  pvCode Try.prog (pvCall Try.prog 0) 17 false (loopN Try.f12 0) [(4,.int .i64 j),(3,Z1),(0,Z2)] (.is g) [.bit true,.ret (.bool true) (.is g1),.idx b,.app c [.int .i64 j] 0 d,.num j1] =
  some (.normal,[(4,.int .i64 j1),(8,.int .i64 j1),(7,.int .i64 j),(3,Z3),(15,Z3),(14,.slice (some ⟨b,0,none⟩) 1 1),(13,.int .i64 j),(12,Z1),(11,.bool true),(10,.int .i64 j),(9,Z2),(6,.bool true),(5,.int .i64 j),(4,.int .i64 j),(3,Z1),(0,Z2)],.push (.set Z4 o .dead) (.cells c true),[],[.cmp .leq j 64 true,.call 22 [Z2,.int .i64 j] (.is g) (.bool true) (.is g1),.len (.is g1) b,.app Z4 o 0 cnt b 0 1 0 1 8 c [.int .i64 j] d,.arith .add .i64 j 1 j1]):=by intros;kernel_rfl
theorem ct(oa:Option Addr)(ln za:Nat)(n i:Int)(z:Bool)(g:Hp) :
  let Z1:List Value:=[.slice oa ln za,.int .i64 n]
  pvFn Try.prog (pvCall Try.prog 0) Try.f14 Z1 (.is g) [.ret (.int .i64 i) (.is g),.bit z] =
  some (.bool z,.is g,[],[.call 44 Z1 (.is g) (.int .i64 i) (.is g),.cmp .geq i 0 z]):=by intros;kernel_rfl
end Go.Proofs.Ytlonjogfeidgfaa.c17p
namespace Go.Proofs.Ytlonjogfeidgfaa.c16p
open Go Go.Ev
set_option maxRecDepth 100000
set_option linter.unusedVariables false
theorem rn_0(i b:Nat)(k n m fk x e:Int)(y z:Bool)(ft:ByteArray)(v:Value)(g g2:Hp) :
  let Z1:Value:=.pointer (some ⟨i,0,none⟩)
  let Z2:Value:=.tuple #[.int .i64 x,.int .i64 e]
  let Z3:SH:=.push (.is g) (.cells [.int .i64 k,.int .i64 n,.int .i64 m,.bool y,.int .i64 fk,.string ft] true)
  pvFn Try.prog (pvCall Try.prog 0) Try.f13 [Z1,.agg #[.int .i64 k,.int .i64 n,.int .i64 m,.bool y,.int .i64 fk,.string ft]] (.is g) [.idx b,.val (.int .i64 k),.bit true,.val (.int .i64 n),.val (.bool y),.val (.int .i64 m),.ret Z2 (.is g2),.bit z] =
  some (.tuple #[.slice none 0 0,.bool z],.is g2,[],[.len (.is g) b,.ld1 Z3 b 0 (.int .i64 k),.cmp .eql k 0 true,.ld1 Z3 b 1 (.int .i64 n),.ld1 Z3 b 3 (.bool y),.ld1 Z3 b 2 (.int .i64 m),.call 36 [Z1,.int .i64 n,.bool y,.int .i64 m] Z3 Z2 (.is g2),.cmp .eql e 0 z]):=by intros;kernel_rfl
theorem rn_1(i b:Nat)(k n m fk x e:Int)(y z:Bool)(ft:ByteArray)(v:Value)(g g2:Hp) :
  let Z1:Value:=.pointer (some ⟨i,0,none⟩)
  let Z2:Value:=.tuple #[.int .i64 x,.int .i64 e]
  let Z3:SH:=.push (.is g) (.cells [.int .i64 k,.int .i64 n,.int .i64 m,.bool y,.int .i64 fk,.string ft] true)
  pvFn Try.prog (pvCall Try.prog 0) Try.f13 [Z1,.agg #[.int .i64 k,.int .i64 n,.int .i64 m,.bool y,.int .i64 fk,.string ft]] (.is g) [.idx b,.val (.int .i64 k),.bit false,.bit true,.val (.int .i64 n),.ret Z2 (.is g2),.bit z] =
  some (.tuple #[.slice none 0 0,.bool z],.is g2,[],[.len (.is g) b,.ld1 Z3 b 0 (.int .i64 k),.cmp .eql k 0 false,.cmp .eql k 1 true,.ld1 Z3 b 1 (.int .i64 n),.call 37 [Z1,.int .i64 n] Z3 Z2 (.is g2),.cmp .eql e 0 z]):=by intros;kernel_rfl
theorem rn_2(i b:Nat)(k n m fk x e:Int)(y z:Bool)(ft:ByteArray)(v:Value)(g g2:Hp) :
  let Z1:Value:=.pointer (some ⟨i,0,none⟩)
  let Z2:List Value:=[.int .i64 fk,.string ft]
  let Z3:Value:=.tuple #[v,.int .i64 e]
  let Z4:SH:=.push (.is g) (.cells [.int .i64 k,.int .i64 n,.int .i64 m,.bool y,.int .i64 fk,.string ft] true)
  pvFn Try.prog (pvCall Try.prog 0) Try.f13 [Z1,.agg #[.int .i64 k,.int .i64 n,.int .i64 m,.bool y,.int .i64 fk,.string ft]] (.is g) [.idx b,.val (.int .i64 k),.bit false,.bit false,.bit true,.val (.int .i64 n),.cells Z2,.ret Z3 (.is g2),.bit z] =
  some (.tuple #[v,.bool z],.is g2,[],[.len (.is g) b,.ld1 Z4 b 0 (.int .i64 k),.cmp .eql k 0 false,.cmp .eql k 1 false,.cmp .eql k 2 true,.ld1 Z4 b 1 (.int .i64 n),.ldn Z4 b 4 2 Z2,.call 38 [Z1,.int .i64 n,.agg #[.int .i64 fk,.string ft]] Z4 Z3 (.is g2),.cmp .eql e 0 z]):=by intros;kernel_rfl
theorem rn_3(i b:Nat)(k n m fk x e:Int)(y z:Bool)(ft:ByteArray)(v:Value)(g g2:Hp) :
  let Z1:Value:=.pointer (some ⟨i,0,none⟩)
  let Z2:List Value:=[.int .i64 fk,.string ft]
  let Z3:Value:=.tuple #[v,.int .i64 e]
  let Z4:SH:=.push (.is g) (.cells [.int .i64 k,.int .i64 n,.int .i64 m,.bool y,.int .i64 fk,.string ft] true)
  pvFn Try.prog (pvCall Try.prog 0) Try.f13 [Z1,.agg #[.int .i64 k,.int .i64 n,.int .i64 m,.bool y,.int .i64 fk,.string ft]] (.is g) [.idx b,.val (.int .i64 k),.bit false,.bit false,.bit false,.bit true,.val (.int .i64 n),.cells Z2,.ret Z3 (.is g2),.bit z] =
  some (.tuple #[v,.bool z],.is g2,[],[.len (.is g) b,.ld1 Z4 b 0 (.int .i64 k),.cmp .eql k 0 false,.cmp .eql k 1 false,.cmp .eql k 2 false,.cmp .eql k 3 true,.ld1 Z4 b 1 (.int .i64 n),.ldn Z4 b 4 2 Z2,.call 39 [Z1,.int .i64 n,.agg #[.int .i64 fk,.string ft]] Z4 Z3 (.is g2),.cmp .eql e 0 z]):=by intros;kernel_rfl
theorem rn_4(i b:Nat)(k n m fk x e:Int)(y z:Bool)(ft:ByteArray)(v:Value)(g g2:Hp) :
  let Z1:Value:=.pointer (some ⟨i,0,none⟩)
  let Z2:SH:=.push (.is g) (.cells [.int .i64 k,.int .i64 n,.int .i64 m,.bool y,.int .i64 fk,.string ft] true)
  pvFn Try.prog (pvCall Try.prog 0) Try.f13 [Z1,.agg #[.int .i64 k,.int .i64 n,.int .i64 m,.bool y,.int .i64 fk,.string ft]] (.is g) [.idx b,.val (.int .i64 k),.bit false,.bit false,.bit false,.bit false,.bit true,.val (.int .i64 n),.ret (.int .i64 e) (.is g2),.bit z] =
  some (.tuple #[.slice none 0 0,.bool z],.is g2,[],[.len (.is g) b,.ld1 Z2 b 0 (.int .i64 k),.cmp .eql k 0 false,.cmp .eql k 1 false,.cmp .eql k 2 false,.cmp .eql k 3 false,.cmp .eql k 4 true,.ld1 Z2 b 1 (.int .i64 n),.call 26 [Z1,.int .i64 n] Z2 (.int .i64 e) (.is g2),.cmp .eql e 0 z]):=by intros;kernel_rfl
theorem rn_5(i b:Nat)(k n m fk x e:Int)(y z:Bool)(ft:ByteArray)(v:Value)(g g2:Hp) :
  let Z1:Value:=.pointer (some ⟨i,0,none⟩)
  let Z2:SH:=.push (.is g) (.cells [.int .i64 k,.int .i64 n,.int .i64 m,.bool y,.int .i64 fk,.string ft] true)
  pvFn Try.prog (pvCall Try.prog 0) Try.f13 [Z1,.agg #[.int .i64 k,.int .i64 n,.int .i64 m,.bool y,.int .i64 fk,.string ft]] (.is g) [.idx b,.val (.int .i64 k),.bit false,.bit false,.bit false,.bit false,.bit false,.bit true,.val (.int .i64 n),.ret (.int .i64 e) (.is g2),.bit z] =
  some (.tuple #[.slice none 0 0,.bool z],.is g2,[],[.len (.is g) b,.ld1 Z2 b 0 (.int .i64 k),.cmp .eql k 0 false,.cmp .eql k 1 false,.cmp .eql k 2 false,.cmp .eql k 3 false,.cmp .eql k 4 false,.cmp .eql k 5 true,.ld1 Z2 b 1 (.int .i64 n),.call 27 [Z1,.int .i64 n] Z2 (.int .i64 e) (.is g2),.cmp .eql e 0 z]):=by intros;kernel_rfl
theorem rn_6(i b:Nat)(k n m fk x e:Int)(y z:Bool)(ft:ByteArray)(v:Value)(g g2:Hp) :
  let Z1:Value:=.pointer (some ⟨i,0,none⟩)
  let Z2:List Value:=[.int .i64 fk,.string ft]
  let Z3:Value:=.tuple #[v,.int .i64 e]
  let Z4:SH:=.push (.is g) (.cells [.int .i64 k,.int .i64 n,.int .i64 m,.bool y,.int .i64 fk,.string ft] true)
  pvFn Try.prog (pvCall Try.prog 0) Try.f13 [Z1,.agg #[.int .i64 k,.int .i64 n,.int .i64 m,.bool y,.int .i64 fk,.string ft]] (.is g) [.idx b,.val (.int .i64 k),.bit false,.bit false,.bit false,.bit false,.bit false,.bit false,.bit true,.val (.int .i64 n),.cells Z2,.ret Z3 (.is g2),.bit z] =
  some (.tuple #[v,.bool z],.is g2,[],[.len (.is g) b,.ld1 Z4 b 0 (.int .i64 k),.cmp .eql k 0 false,.cmp .eql k 1 false,.cmp .eql k 2 false,.cmp .eql k 3 false,.cmp .eql k 4 false,.cmp .eql k 5 false,.cmp .eql k 6 true,.ld1 Z4 b 1 (.int .i64 n),.ldn Z4 b 4 2 Z2,.call 40 [Z1,.int .i64 n,.agg #[.int .i64 fk,.string ft]] Z4 Z3 (.is g2),.cmp .eql e 0 z]):=by intros;kernel_rfl
theorem rn_7(i b:Nat)(k n m fk x e:Int)(y z:Bool)(ft:ByteArray)(v:Value)(g g2:Hp) :
  let Z1:Value:=.pointer (some ⟨i,0,none⟩)
  let Z2:Value:=.tuple #[.int .i64 x,.int .i64 e]
  let Z3:SH:=.push (.is g) (.cells [.int .i64 k,.int .i64 n,.int .i64 m,.bool y,.int .i64 fk,.string ft] true)
  pvFn Try.prog (pvCall Try.prog 0) Try.f13 [Z1,.agg #[.int .i64 k,.int .i64 n,.int .i64 m,.bool y,.int .i64 fk,.string ft]] (.is g) [.idx b,.val (.int .i64 k),.bit false,.bit false,.bit false,.bit false,.bit false,.bit false,.bit false,.bit true,.ret Z2 (.is g2),.bit z] =
  some (.tuple #[.slice none 0 0,.bool z],.is g2,[],[.len (.is g) b,.ld1 Z3 b 0 (.int .i64 k),.cmp .eql k 0 false,.cmp .eql k 1 false,.cmp .eql k 2 false,.cmp .eql k 3 false,.cmp .eql k 4 false,.cmp .eql k 5 false,.cmp .eql k 6 false,.cmp .eql k 7 true,.call 41 [Z1] Z3 Z2 (.is g2),.cmp .eql e 0 z]):=by intros;kernel_rfl
theorem rn_8(i b:Nat)(k n m fk x e:Int)(y z:Bool)(ft:ByteArray)(v:Value)(g g2:Hp) :
  let Z1:Value:=.pointer (some ⟨i,0,none⟩)
  let Z2:Value:=.tuple #[v,.int .i64 e]
  let Z3:SH:=.push (.is g) (.cells [.int .i64 k,.int .i64 n,.int .i64 m,.bool y,.int .i64 fk,.string ft] true)
  pvFn Try.prog (pvCall Try.prog 0) Try.f13 [Z1,.agg #[.int .i64 k,.int .i64 n,.int .i64 m,.bool y,.int .i64 fk,.string ft]] (.is g) [.idx b,.val (.int .i64 k),.bit false,.bit false,.bit false,.bit false,.bit false,.bit false,.bit false,.bit false,.bit true,.val (.int .i64 n),.ret Z2 (.is g2),.bit z] =
  some (.tuple #[v,.bool z],.is g2,[],[.len (.is g) b,.ld1 Z3 b 0 (.int .i64 k),.cmp .eql k 0 false,.cmp .eql k 1 false,.cmp .eql k 2 false,.cmp .eql k 3 false,.cmp .eql k 4 false,.cmp .eql k 5 false,.cmp .eql k 6 false,.cmp .eql k 7 false,.cmp .eql k 8 true,.ld1 Z3 b 1 (.int .i64 n),.call 31 [Z1,.int .i64 n] Z3 Z2 (.is g2),.cmp .eql e 0 z]):=by intros;kernel_rfl
theorem rn_9(i b:Nat)(k n m fk x e:Int)(y z:Bool)(ft:ByteArray)(v:Value)(g g2:Hp) :
  let Z1:Value:=.pointer (some ⟨i,0,none⟩)
  let Z2:Value:=.tuple #[v,.int .i64 e]
  let Z3:SH:=.push (.is g) (.cells [.int .i64 k,.int .i64 n,.int .i64 m,.bool y,.int .i64 fk,.string ft] true)
  pvFn Try.prog (pvCall Try.prog 0) Try.f13 [Z1,.agg #[.int .i64 k,.int .i64 n,.int .i64 m,.bool y,.int .i64 fk,.string ft]] (.is g) [.idx b,.val (.int .i64 k),.bit false,.bit false,.bit false,.bit false,.bit false,.bit false,.bit false,.bit false,.bit false,.bit true,.val (.int .i64 n),.ret Z2 (.is g2),.bit z] =
  some (.tuple #[v,.bool z],.is g2,[],[.len (.is g) b,.ld1 Z3 b 0 (.int .i64 k),.cmp .eql k 0 false,.cmp .eql k 1 false,.cmp .eql k 2 false,.cmp .eql k 3 false,.cmp .eql k 4 false,.cmp .eql k 5 false,.cmp .eql k 6 false,.cmp .eql k 7 false,.cmp .eql k 8 false,.cmp .eql k 9 true,.ld1 Z3 b 1 (.int .i64 n),.call 29 [Z1,.int .i64 n] Z3 Z2 (.is g2),.cmp .eql e 0 z]):=by intros;kernel_rfl
theorem rn_d(i b:Nat)(k n m fk x e:Int)(y z:Bool)(ft:ByteArray)(v:Value)(g g2:Hp) :
  let Z1:SH:=.push (.is g) (.cells [.int .i64 k,.int .i64 n,.int .i64 m,.bool y,.int .i64 fk,.string ft] true)
  pvFn Try.prog (pvCall Try.prog 0) Try.f13 [.pointer (some ⟨i,0,none⟩),.agg #[.int .i64 k,.int .i64 n,.int .i64 m,.bool y,.int .i64 fk,.string ft]] (.is g) [.idx b,.val (.int .i64 k),.bit false,.bit false,.bit false,.bit false,.bit false,.bit false,.bit false,.bit false,.bit false,.bit false,.bit z] =
  some (.tuple #[.slice none 0 0,.bool z],Z1,[],[.len (.is g) b,.ld1 Z1 b 0 (.int .i64 k),.cmp .eql k 0 false,.cmp .eql k 1 false,.cmp .eql k 2 false,.cmp .eql k 3 false,.cmp .eql k 4 false,.cmp .eql k 5 false,.cmp .eql k 6 false,.cmp .eql k 7 false,.cmp .eql k 8 false,.cmp .eql k 9 false,.cmp .eql 0 0 z]):=by intros;kernel_rfl
theorem ma_err(b o len p:Nat)(n e:Int)(g g2 g3:Hp) :
  let Z1:Value:=.tuple #[.pointer none,.int .i64 e]
  pvFn Try.prog (pvCall Try.prog 0) Try.f15 [.int .i64 n,.slice none 0 0] (.is g) [.ret Z1 (.is g2),.bit true] =
  some (.pointer none,.is g2,[],[.call 10 [.int .i64 n] (.is g) Z1 (.is g2),.cmp .neq e 0 true]):=by intros;kernel_rfl
theorem ma_errs(b o len p:Nat)(n e:Int)(g g2 g3:Hp) :
  let Z1:Value:=.tuple #[.pointer none,.int .i64 e]
  pvFn Try.prog (pvCall Try.prog 0) Try.f15 [.int .i64 n,.slice (some ⟨o,0,none⟩) len 6] (.is g) [.ret Z1 (.is g2),.bit true] =
  some (.pointer none,.is g2,[],[.call 10 [.int .i64 n] (.is g) Z1 (.is g2),.cmp .neq e 0 true]):=by intros;kernel_rfl
theorem ma_nil(b o len p:Nat)(n e:Int)(g g2 g3:Hp) :
  let Z1:Value:=.pointer (some ⟨b,0,none⟩)
  let Z2:Value:=.tuple #[Z1,.int .i64 0]
  pvFn Try.prog (pvCall Try.prog 0) Try.f15 [.int .i64 n,.slice none 0 0] (.is g) [.ret Z2 (.is g2),.bit false,.num 0,.unr 1,.bit false] =
  some (Z1,.is g2,[],[.call 10 [.int .i64 n] (.is g) Z2 (.is g2),.cmp .neq 0 0 false,.mm false 0 60 0,.cmp .lss 0 0 false]):=by intros;kernel_rfl
theorem ma_some(b o len p:Nat)(n e:Int)(g g2 g3:Hp) :
  let Z1:Value:=.slice (some ⟨o,0,none⟩) len 6
  let Z2:Value:=.pointer (some ⟨b,0,none⟩)
  let Z3:Value:=.tuple #[Z2,.int .i64 0]
  let Z4:Env:=[(5,Z2)]
  pvFn Try.prog (pvCall Try.prog 0) Try.f15 [.int .i64 n,Z1] (.is g) [.ret Z3 (.is g2),.bit false,.num (Int.ofNat p),.cut 0 p,.loop (.exit 0) Z4 (.is g3)] =
  some (Z2,.is g3,[],[.call 10 [.int .i64 n] (.is g) Z3 (.is g2),.cmp .neq 0 0 false,.mm false (Int.ofNat len) 60 (Int.ofNat p),.cut none (some (.int .i64 (Int.ofNat p))) len 0 p,.loop 31 false (loopN Try.f15 0) [(22,.int .i64 0),(21,.int .i64 (Int.ofNat p)),(20,.slice (some ⟨o,0,none⟩) p 6),(19,.int .i64 (Int.ofNat p)),(18,.int .i64 (Int.ofNat len)),(17,Z1),(16,Z1),(15,.bool false),(14,.int .i64 0),(6,.int .i64 0),(5,Z2),(13,.int .i64 0),(12,Z2),(9,Z3),(11,Z3),(10,.int .i64 n),(4,.pointer none),(0,.int .i64 n),(1,Z1)] (.is g2) (.exit 0) Z4 (.is g3)]):=by intros;kernel_rfl
theorem ml_out(b o p q d:Nat)(i i1 k n m fk:Int)(y:Bool)(ft:ByteArray)(v:Value)(g g2:Hp) :
  pvCode Try.prog (pvCall Try.prog 0) 31 false (loopN Try.f15 0) [(22,.int .i64 i),(21,.int .i64 (Int.ofNat p)),(20,.slice (some ⟨o,0,none⟩) p 6),(5,.pointer (some ⟨b,0,none⟩))] (.is g) [.bit false] =
  some (.exit 0,[(23,.bool false),(22,.int .i64 i),(21,.int .i64 (Int.ofNat p)),(20,.slice (some ⟨o,0,none⟩) p 6),(5,.pointer (some ⟨b,0,none⟩))],.is g,[],[.cmp .lss i (Int.ofNat p) false]):=by intros;kernel_rfl
theorem ml_go(b o p q d:Nat)(i i1 k n m fk:Int)(y:Bool)(ft:ByteArray)(v:Value)(g g2:Hp) :
  let Z1:Value:=.pointer (some ⟨b,0,none⟩)
  let Z2:List Value:=[.int .i64 k,.int .i64 n,.int .i64 m,.bool y,.int .i64 fk,.string ft]
  let Z3:Value:=.agg #[.int .i64 k,.int .i64 n,.int .i64 m,.bool y,.int .i64 fk,.string ft]
  let Z4:SH:=.push (.is g) (.cells [.int .i64 0,.int .i64 0,.int .i64 0,.bool false,.int .i64 0,.string { data:=#[] }] true)
  let Z5:SH:=.set Z4 d (.cells Z2 true)
  pvCode Try.prog (pvCall Try.prog 0) 31 false (loopN Try.f15 0) [(22,.int .i64 i),(21,.int .i64 (Int.ofNat p)),(20,.slice (some ⟨o,0,none⟩) p 6),(5,Z1)] (.is g) [.bit true,.offs q,.cells Z2,.idx d,.cells Z2,.cells Z2,.ret v (.is g2),.num i1] =
  some (.normal,[(22,.int .i64 i1),(29,.int .i64 i1),(28,v),(27,Z3),(26,Z1),(8,.pointer (some ⟨d,0,none⟩)),(25,Z3),(24,.pointer (some ⟨o,q,none⟩)),(23,.bool true),(22,.int .i64 i),(21,.int .i64 (Int.ofNat p)),(20,.slice (some ⟨o,0,none⟩) p 6),(5,Z1)],.is g2,[],[.cmp .lss i (Int.ofNat p) true,.off q 0 i p 6,.ldn (.is g) o q 6 Z2,.len (.is g) d,.st Z4 d 0 Z2 Z2,.ldn Z5 d 0 6 Z2,.call 13 [Z1,Z3] Z5 v (.is g2),.arith .add .i64 i 1 i1]):=by intros;kernel_rfl
end Go.Proofs.Ytlonjogfeidgfaa.c16p
namespace Go.Proofs.Ytlonjogfeidgfaa.c13p
open Go Go.Ev
set_option maxRecDepth 100000
set_option linter.unusedVariables false
abbrev late:ByteArray:=⟨#[108,97,116,101]⟩
theorem dn_end(i len za:Nat)(oa:Option Addr)(k n k0 m j j2:Int)(g g1 g2 g3:Hp) :
  pvCode Try.prog (pvCall Try.prog 0) 48 false (loopN Try.f80 0) [(7,.int .i64 k),(2,.int .i64 n),(0,.iface 95 (.pointer (some ⟨i,3,none⟩))),(1,.int .i64 k0)] (.is g) [.num m,.num j,.bit true] =
  some (.exit 0,[(21,.bool true),(20,.tuple #[]),(19,.tuple #[]),(18,.bool true),(17,.bool true),(16,.int .i64 n),(15,.int .i64 j),(8,.int .i64 j),(14,.int .i64 j),(13,.int .i64 m),(12,.int .i64 k),(7,.int .i64 k),(2,.int .i64 n),(0,.iface 95 (.pointer (some ⟨i,3,none⟩))),(1,.int .i64 k0)],.is g,[],[.arith .mul .i64 2 k m,.arith .add .i64 m 1 j,.cmp .geq j n true]):=by intros;kernel_rfl
theorem dn_n_s(i len za:Nat)(oa:Option Addr)(k n k0 m j j2:Int)(g g1 g2 g3:Hp) :
  let Z1:Value:=.iface 95 (.pointer (some ⟨i,3,none⟩))
  pvCode Try.prog (pvCall Try.prog 0) 48 false (loopN Try.f80 0) [(7,.int .i64 k),(2,.int .i64 n),(0,Z1),(1,.int .i64 k0)] (.is g) [.num m,.num j,.bit false,.bit false,.num j2,.bit false,.mth 110 (.slice oa len za),.ret (.bool false) (.is g2)] =
  some (.exit 0, [(39, .bool true), (38, .bool false), (37, .int .i64 k), (36, .int .i64 j), (35, Z1), (33, .bool false), (32, .tuple #[]), (31, .tuple #[]), (30, .tuple #[]), (29, .tuple #[]), (28, .bool false), (27, .bool false), (26, .int .i64 n), (25, .int .i64 j2), (10, .int .i64 j2), (24, .int .i64 j2), (23, .int .i64 j), (9, .int .i64 j), (22, .int .i64 j), (21, .bool false), (20, .bool false), (19, .int .i64 j), (18, .bool false), (17, .bool false), (16, .int .i64 n), (15, .int .i64 j), (8, .int .i64 j), (14, .int .i64 j), (13, .int .i64 m), (12, .int .i64 k), (7, .int .i64 k), (2, .int .i64 n), (0, Z1), (1, .int .i64 k0)], .is g2, [], [.arith .mul .i64 2 k m, .arith .add .i64 m 1 j, .cmp .geq j n false, .cmp .lss j 0 false, .arith .add .i64 j 1 j2, .cmp .lss j2 n false, .call 110 [.slice oa len za, .int .i64 j, .int .i64 k] (.is g) (.bool false) (.is g2), .mth (.is g) "Less" Z1 110 (.slice oa len za)]) := by intros; kernel_rfl
theorem dn_n_g(i len za:Nat)(oa:Option Addr)(k n k0 m j j2:Int)(g g1 g2 g3:Hp) :
  let Z1:Value:=.iface 95 (.pointer (some ⟨i,3,none⟩))
  pvCode Try.prog (pvCall Try.prog 0) 48 false (loopN Try.f80 0) [(7,.int .i64 k),(2,.int .i64 n),(0,Z1),(1,.int .i64 k0)] (.is g) [.num m,.num j,.bit false,.bit false,.num j2,.bit false,.mth 110 (.slice oa len za),.ret (.bool true) (.is g2),.mth 111 (.slice oa len za),.ret (.tuple #[]) (.is g3)] =
  some (.normal, [(7, .int .i64 j), (44, .int .i64 j), (43, .tuple #[]), (42, .int .i64 j), (41, .int .i64 k), (40, Z1), (39, .bool false), (38, .bool true), (37, .int .i64 k), (36, .int .i64 j), (35, Z1), (33, .bool false), (32, .tuple #[]), (31, .tuple #[]), (30, .tuple #[]), (29, .tuple #[]), (28, .bool false), (27, .bool false), (26, .int .i64 n), (25, .int .i64 j2), (10, .int .i64 j2), (24, .int .i64 j2), (23, .int .i64 j), (9, .int .i64 j), (22, .int .i64 j), (21, .bool false), (20, .bool false), (19, .int .i64 j), (18, .bool false), (17, .bool false), (16, .int .i64 n), (15, .int .i64 j), (8, .int .i64 j), (14, .int .i64 j), (13, .int .i64 m), (12, .int .i64 k), (7, .int .i64 k), (2, .int .i64 n), (0, Z1), (1, .int .i64 k0)], .is g3, [], [.arith .mul .i64 2 k m, .arith .add .i64 m 1 j, .cmp .geq j n false, .cmp .lss j 0 false, .arith .add .i64 j 1 j2, .cmp .lss j2 n false, .call 110 [.slice oa len za, .int .i64 j, .int .i64 k] (.is g) (.bool true) (.is g2), .mth (.is g) "Less" Z1 110 (.slice oa len za), .call 111 [.slice oa len za, .int .i64 k, .int .i64 j] (.is g2) (.tuple #[]) (.is g3), .mth (.is g2) "Swap" Z1 111 (.slice oa len za)]) := by intros; kernel_rfl
theorem dn_0_s(i len za:Nat)(oa:Option Addr)(k n k0 m j j2:Int)(g g1 g2 g3:Hp) :
  let Z1:Value:=.iface 95 (.pointer (some ⟨i,3,none⟩))
  pvCode Try.prog (pvCall Try.prog 0) 48 false (loopN Try.f80 0) [(7,.int .i64 k),(2,.int .i64 n),(0,Z1),(1,.int .i64 k0)] (.is g) [.num m,.num j,.bit false,.bit false,.num j2,.bit true,.mth 110 (.slice oa len za),.ret (.bool false) (.is g1),.mth 110 (.slice oa len za),.ret (.bool false) (.is g2)] =
  some (.exit 0, [(39, .bool true), (38, .bool false), (37, .int .i64 k), (36, .int .i64 j), (35, Z1), (33, .bool false), (32, .bool false), (31, .int .i64 j), (30, .int .i64 j2), (29, Z1), (28, .bool true), (27, .bool true), (26, .int .i64 n), (25, .int .i64 j2), (10, .int .i64 j2), (24, .int .i64 j2), (23, .int .i64 j), (9, .int .i64 j), (22, .int .i64 j), (21, .bool false), (20, .bool false), (19, .int .i64 j), (18, .bool false), (17, .bool false), (16, .int .i64 n), (15, .int .i64 j), (8, .int .i64 j), (14, .int .i64 j), (13, .int .i64 m), (12, .int .i64 k), (7, .int .i64 k), (2, .int .i64 n), (0, Z1), (1, .int .i64 k0)], .is g2, [], [.arith .mul .i64 2 k m, .arith .add .i64 m 1 j, .cmp .geq j n false, .cmp .lss j 0 false, .arith .add .i64 j 1 j2, .cmp .lss j2 n true, .call 110 [.slice oa len za, .int .i64 j2, .int .i64 j] (.is g) (.bool false) (.is g1), .mth (.is g) "Less" Z1 110 (.slice oa len za), .call 110 [.slice oa len za, .int .i64 j, .int .i64 k] (.is g1) (.bool false) (.is g2), .mth (.is g1) "Less" Z1 110 (.slice oa len za)]) := by intros; kernel_rfl
theorem dn_0_g(i len za:Nat)(oa:Option Addr)(k n k0 m j j2:Int)(g g1 g2 g3:Hp) :
  let Z1:Value:=.iface 95 (.pointer (some ⟨i,3,none⟩))
  pvCode Try.prog (pvCall Try.prog 0) 48 false (loopN Try.f80 0) [(7,.int .i64 k),(2,.int .i64 n),(0,Z1),(1,.int .i64 k0)] (.is g) [.num m,.num j,.bit false,.bit false,.num j2,.bit true,.mth 110 (.slice oa len za),.ret (.bool false) (.is g1),.mth 110 (.slice oa len za),.ret (.bool true) (.is g2),.mth 111 (.slice oa len za),.ret (.tuple #[]) (.is g3)] =
  some (.normal, [(7, .int .i64 j), (44, .int .i64 j), (43, .tuple #[]), (42, .int .i64 j), (41, .int .i64 k), (40, Z1), (39, .bool false), (38, .bool true), (37, .int .i64 k), (36, .int .i64 j), (35, Z1), (33, .bool false), (32, .bool false), (31, .int .i64 j), (30, .int .i64 j2), (29, Z1), (28, .bool true), (27, .bool true), (26, .int .i64 n), (25, .int .i64 j2), (10, .int .i64 j2), (24, .int .i64 j2), (23, .int .i64 j), (9, .int .i64 j), (22, .int .i64 j), (21, .bool false), (20, .bool false), (19, .int .i64 j), (18, .bool false), (17, .bool false), (16, .int .i64 n), (15, .int .i64 j), (8, .int .i64 j), (14, .int .i64 j), (13, .int .i64 m), (12, .int .i64 k), (7, .int .i64 k), (2, .int .i64 n), (0, Z1), (1, .int .i64 k0)], .is g3, [], [.arith .mul .i64 2 k m, .arith .add .i64 m 1 j, .cmp .geq j n false, .cmp .lss j 0 false, .arith .add .i64 j 1 j2, .cmp .lss j2 n true, .call 110 [.slice oa len za, .int .i64 j2, .int .i64 j] (.is g) (.bool false) (.is g1), .mth (.is g) "Less" Z1 110 (.slice oa len za), .call 110 [.slice oa len za, .int .i64 j, .int .i64 k] (.is g1) (.bool true) (.is g2), .mth (.is g1) "Less" Z1 110 (.slice oa len za), .call 111 [.slice oa len za, .int .i64 k, .int .i64 j] (.is g2) (.tuple #[]) (.is g3), .mth (.is g2) "Swap" Z1 111 (.slice oa len za)]) := by intros; kernel_rfl
theorem dn_1_s(i len za:Nat)(oa:Option Addr)(k n k0 m j j2:Int)(g g1 g2 g3:Hp) :
  let Z1:Value:=.iface 95 (.pointer (some ⟨i,3,none⟩))
  pvCode Try.prog (pvCall Try.prog 0) 48 false (loopN Try.f80 0) [(7,.int .i64 k),(2,.int .i64 n),(0,Z1),(1,.int .i64 k0)] (.is g) [.num m,.num j,.bit false,.bit false,.num j2,.bit true,.mth 110 (.slice oa len za),.ret (.bool true) (.is g1),.mth 110 (.slice oa len za),.ret (.bool false) (.is g2)] =
  some (.exit 0, [(39, .bool true), (38, .bool false), (37, .int .i64 k), (36, .int .i64 j2), (35, Z1), (9, .int .i64 j2), (34, .int .i64 j2), (33, .bool true), (32, .bool true), (31, .int .i64 j), (30, .int .i64 j2), (29, Z1), (28, .bool true), (27, .bool true), (26, .int .i64 n), (25, .int .i64 j2), (10, .int .i64 j2), (24, .int .i64 j2), (23, .int .i64 j), (9, .int .i64 j), (22, .int .i64 j), (21, .bool false), (20, .bool false), (19, .int .i64 j), (18, .bool false), (17, .bool false), (16, .int .i64 n), (15, .int .i64 j), (8, .int .i64 j), (14, .int .i64 j), (13, .int .i64 m), (12, .int .i64 k), (7, .int .i64 k), (2, .int .i64 n), (0, Z1), (1, .int .i64 k0)], .is g2, [], [.arith .mul .i64 2 k m, .arith .add .i64 m 1 j, .cmp .geq j n false, .cmp .lss j 0 false, .arith .add .i64 j 1 j2, .cmp .lss j2 n true, .call 110 [.slice oa len za, .int .i64 j2, .int .i64 j] (.is g) (.bool true) (.is g1), .mth (.is g) "Less" Z1 110 (.slice oa len za), .call 110 [.slice oa len za, .int .i64 j2, .int .i64 k] (.is g1) (.bool false) (.is g2), .mth (.is g1) "Less" Z1 110 (.slice oa len za)]) := by intros; kernel_rfl
theorem dn_1_g(i len za:Nat)(oa:Option Addr)(k n k0 m j j2:Int)(g g1 g2 g3:Hp) :
  let Z1:Value:=.iface 95 (.pointer (some ⟨i,3,none⟩))
  pvCode Try.prog (pvCall Try.prog 0) 48 false (loopN Try.f80 0) [(7,.int .i64 k),(2,.int .i64 n),(0,Z1),(1,.int .i64 k0)] (.is g) [.num m,.num j,.bit false,.bit false,.num j2,.bit true,.mth 110 (.slice oa len za),.ret (.bool true) (.is g1),.mth 110 (.slice oa len za),.ret (.bool true) (.is g2),.mth 111 (.slice oa len za),.ret (.tuple #[]) (.is g3)] =
  some (.normal, [(7, .int .i64 j2), (44, .int .i64 j2), (43, .tuple #[]), (42, .int .i64 j2), (41, .int .i64 k), (40, Z1), (39, .bool false), (38, .bool true), (37, .int .i64 k), (36, .int .i64 j2), (35, Z1), (9, .int .i64 j2), (34, .int .i64 j2), (33, .bool true), (32, .bool true), (31, .int .i64 j), (30, .int .i64 j2), (29, Z1), (28, .bool true), (27, .bool true), (26, .int .i64 n), (25, .int .i64 j2), (10, .int .i64 j2), (24, .int .i64 j2), (23, .int .i64 j), (9, .int .i64 j), (22, .int .i64 j), (21, .bool false), (20, .bool false), (19, .int .i64 j), (18, .bool false), (17, .bool false), (16, .int .i64 n), (15, .int .i64 j), (8, .int .i64 j), (14, .int .i64 j), (13, .int .i64 m), (12, .int .i64 k), (7, .int .i64 k), (2, .int .i64 n), (0, Z1), (1, .int .i64 k0)], .is g3, [], [.arith .mul .i64 2 k m, .arith .add .i64 m 1 j, .cmp .geq j n false, .cmp .lss j 0 false, .arith .add .i64 j 1 j2, .cmp .lss j2 n true, .call 110 [.slice oa len za, .int .i64 j2, .int .i64 j] (.is g) (.bool true) (.is g1), .mth (.is g) "Less" Z1 110 (.slice oa len za), .call 110 [.slice oa len za, .int .i64 j2, .int .i64 k] (.is g1) (.bool true) (.is g2), .mth (.is g1) "Less" Z1 110 (.slice oa len za), .call 111 [.slice oa len za, .int .i64 k, .int .i64 j2] (.is g2) (.tuple #[]) (.is g3), .mth (.is g2) "Swap" Z1 111 (.slice oa len za)]) := by intros; kernel_rfl
theorem dn(i:Nat)(n q:Int)(z:Bool)(g g1:Hp) :
  let Z1:Value:=.iface 95 (.pointer (some ⟨i,3,none⟩))
  let Z2:Env:=[(7,.int .i64 q),(1,.int .i64 0)]
  pvFn Try.prog (pvCall Try.prog 0) Try.f80 [Z1,.int .i64 0,.int .i64 n] (.is g) [.loop (.exit 0) Z2 (.is g1),.bit z] =
  some (.bool z,.is g1,[],[.loop 48 false (loopN Try.f80 0) [(7,.int .i64 0),(11,.int .i64 0),(6,.bool false),(0,Z1),(1,.int .i64 0),(2,.int .i64 n)] (.is g) (.exit 0) Z2 (.is g1),.cmp .gtr q 0 z]):=by intros;kernel_rfl
theorem po(i d len q b p:Nat)(n1 a s:Int)(c:List Value)(g:Hp) :
  let Z1:Value:=.slice (some ⟨d,0,none⟩) len 2
  let Z2:List Value:=[.int .i64 a,.int .i64 s]
  let Z3:SH:=.push (.is g) (.cells [.int .i64 0,.int .i64 0] true)
  let Z4:SH:=.set Z3 b (.cells Z2 true)
  let Z5:SH:=.set Z4 i (.cells c true)
  pvFn Try.prog (pvCall Try.prog 0) Try.f112 [.pointer (some ⟨i,3,none⟩)] (.is g) [.val Z1,.val Z1,.num n1,.offs q,.cells Z2,.idx b,.cells Z2,.val Z1,.val Z1,.num n1,.cut 0 p,.cells c,.cells Z2] =
  some (.iface 93 (.agg #[.int .i64 a,.int .i64 s]),Z5,[],[.stat (drawN Try.f112 0),.ld1 (.is g) i 3 Z1,.ld1 (.is g) i 3 Z1,.arith .sub .i64 (Int.ofNat len) 1 n1,.off q 0 n1 len 2,.ldn (.is g) d q 2 Z2,.len (.is g) b,.st Z3 b 0 Z2 Z2,.stat (drawN Try.f112 1),.ld1 Z4 i 3 Z1,.ld1 Z4 i 3 Z1,.arith .sub .i64 (Int.ofNat len) 1 n1,.cut none (some (.int .i64 n1)) len 0 p,.st Z4 i 3 [.slice (some ⟨d,0,none⟩) p 2] c,.ldn Z5 b 0 2 Z2]):=by intros;kernel_rfl
theorem hp(i len za:Nat)(oa:Option Addr)(x:Value)(n n1:Int)(z:Bool)(g g1 g2 g3:Hp) :
  let Z1:Value:=.pointer (some ⟨i,3,none⟩)
  let Z2:Value:=.iface 95 Z1
  pvFn Try.prog (pvCall Try.prog 0) Try.f53 [Z2] (.is g) [.mth 109 (.slice oa len za),.ret (.int .i64 n) (.is g),.num n1,.mth 111 (.slice oa len za),.ret (.tuple #[]) (.is g1),.ret (.bool z) (.is g2),.mth 112 Z1,.ret x (.is g3)] =
  some (x, .is g3, [], [.call 109 [.slice oa len za] (.is g) (.int .i64 n) (.is g), .mth (.is g) "Len" Z2 109 (.slice oa len za), .arith .sub .i64 n 1 n1, .call 111 [.slice oa len za, .int .i64 0, .int .i64 n1] (.is g) (.tuple #[]) (.is g1), .mth (.is g) "Swap" Z2 111 (.slice oa len za), .call 80 [Z2, .int .i64 0, .int .i64 n1] (.is g1) (.bool z) (.is g2), .call 112 [Z1] (.is g2) x (.is g3), .mth (.is g2) "Pop" Z2 112 Z1]) := by intros; kernel_rfl
theorem ov_r(i:Nat)(E1:Env)(g g1:Hp) :
  let Z1:Value:=.pointer (some ⟨i,0,none⟩)
  pvFn Try.prog (pvCall Try.prog 0) Try.f52 [Z1] (.is g) [.loop .ret E1 (.is g1)] =
  some (.tuple #[],.is g1,[],[.loop 33 false (loopN Try.f52 0) [(0,Z1)] (.is g) .ret E1 (.is g1)]):=by intros;kernel_rfl
theorem ov_e(i:Nat)(E1:Env)(g g1:Hp) :
  let Z1:Value:=.pointer (some ⟨i,0,none⟩)
  pvFn Try.prog (pvCall Try.prog 0) Try.f52 [Z1] (.is g) [.loop (.exit 0) E1 (.is g1)] =
  some (.tuple #[],.is g1,[],[.loop 33 false (loopN Try.f52 0) [(0,Z1)] (.is g) (.exit 0) E1 (.is g1)]):=by intros;kernel_rfl
theorem ol_nil(i r d len b:Nat)(a s ow fk e:Int)(su ov:Bool)(ft:ByteArray)(oa:Option Addr)(ln za:Nat)(v:Value)(g g1 g2:Hp) :
  let Z1:Value:=.pointer (some ⟨i,0,none⟩)
  pvCode Try.prog (pvCall Try.prog 0) 33 false (loopN Try.f52 0) [(0,Z1)] (.is g) [.val (.slice none 0 0),.bit false] =
  some (.exit 0,[(9,.bool false),(8,.int .i64 0),(7,.slice none 0 0),(6,.pointer (some ⟨i,3,none⟩)),(5,Z1),(4,Z1),(0,Z1)],.is g,[],[.ld1 (.is g) i 3 (.slice none 0 0),.cmp .gtr 0 0 false]):=by intros;kernel_rfl
theorem ol_zero(i r d len b:Nat)(a s ow fk e:Int)(su ov:Bool)(ft:ByteArray)(oa:Option Addr)(ln za:Nat)(v:Value)(g g1 g2:Hp) :
  let Z1:Value:=.pointer (some ⟨i,0,none⟩)
  let Z2:Value:=.slice (some ⟨d,0,none⟩) len 2
  pvCode Try.prog (pvCall Try.prog 0) 33 false (loopN Try.f52 0) [(0,Z1)] (.is g) [.val Z2,.bit false] =
  some (.exit 0,[(9,.bool false),(8,.int .i64 (Int.ofNat len)),(7,Z2),(6,.pointer (some ⟨i,3,none⟩)),(5,Z1),(4,Z1),(0,Z1)],.is g,[],[.ld1 (.is g) i 3 Z2,.cmp .gtr (Int.ofNat len) 0 false]):=by intros;kernel_rfl
theorem ol_ret(i r d len b:Nat)(a s ow fk e:Int)(su ov:Bool)(ft:ByteArray)(oa:Option Addr)(ln za:Nat)(v:Value)(g g1 g2:Hp) :
  let Z1:Value:=.pointer (some ⟨i,0,none⟩)
  let Z2:Value:=.slice (some ⟨d,0,none⟩) len 2
  let Z3:Value:=.pointer (some ⟨r,0,none⟩)
  let Z4:Value:=.agg #[.int .i64 ow,.bool su,.bool false,.slice oa ln za,.int .i64 fk,.string ft]
  let Z5:List Value:=[.int .i64 ow,.bool su,.bool false,.slice oa ln za,.int .i64 fk,.string ft]
  let Z6:Value:=.tuple { toList:=[Z4,.int .i64 e] }
  let Z7:Value:=.pointer (some ⟨i,3,none⟩)
  let Z8:SH:=.set (.is g1) b (.cells Z5 true)
  let Z9:List Value:=[.int .i64 0,.bool false,.bool false,.slice none 0 0,.int .i64 0,.string { data:=#[] }]
  let Z10:SH:=.push (.is g) (.cells Z9 true)
  pvCode Try.prog (pvCall Try.prog 0) 33 false (loopN Try.f52 0) [(0,Z1)] (.is g) [.val Z2,.bit true,.val Z3,.val Z2,.offs 0,.val (.int .i64 s),.idx b,.ret (.tuple #[Z4,.int .i64 e]) (.is g1),.cells Z5,.val (.bool false)] =
  some (.ret,[(27,.bool true),(26,.bool false),(25,.pointer (some ⟨b,2,none⟩)),(3,.int .i64 e),(24,.int .i64 e),(23,Z4),(10,Z6),(22,Z6),(2,.pointer (some ⟨b,0,none⟩)),(21,.int .i64 s),(20,.pointer (some ⟨d,1,none⟩)),(19,.pointer (some ⟨d,0,none⟩)),(18,Z2),(17,Z7),(16,Z1),(15,Z1),(14,Z3),(13,Z1),(12,Z1),(11,Z1),(9,.bool true),(8,.int .i64 (Int.ofNat len)),(7,Z2),(6,Z7),(5,Z1),(4,Z1),(0,Z1)],Z8,[],[.ld1 (.is g) i 3 Z2,.cmp .gtr (Int.ofNat len) 0 true,.stat (drawOps (drawN Try.f52 0)),.kept (.is g) Z10 (.is g1) Z9,.ld1 (.is g) i 0 Z3,.ld1 (.is g) i 3 Z2,.off 0 0 0 len 2,.ld1 (.is g) d 1 (.int .i64 s),.len (.is g) b,.call 69 [Z3,.int .i64 s] Z10 Z6 (.is g1),.st (.is g1) b 0 Z5 Z5,.ld1 Z8 b 2 (.bool false)]):=by intros;kernel_rfl
theorem ol_go(i r d len b:Nat)(a s ow fk e:Int)(su ov:Bool)(ft:ByteArray)(oa:Option Addr)(ln za:Nat)(v:Value)(g g1 g2:Hp) :
  let Z1:Value:=.pointer (some ⟨i,0,none⟩)
  let Z2:Value:=.slice (some ⟨d,0,none⟩) len 2
  let Z3:Value:=.pointer (some ⟨r,0,none⟩)
  let Z4:Value:=.agg #[.int .i64 ow,.bool su,.bool true,.slice oa ln za,.int .i64 fk,.string ft]
  let Z5:List Value:=[.int .i64 ow,.bool su,.bool true,.slice oa ln za,.int .i64 fk,.string ft]
  let Z6:Value:=.pointer (some ⟨i,3,none⟩)
  let Z7:Value:=.iface 95 Z6
  let Z8:Value:=.tuple { toList:=[Z4,.int .i64 e] }
  let Z9:List Value:=[.int .i64 0,.bool false,.bool false,.slice none 0 0,.int .i64 0,.string { data:=#[] }]
  let Z10:SH:=.push (.is g) (.cells Z9 true)
  let Z11:SH:=.set (.is g1) b (.cells Z5 true)
  pvCode Try.prog (pvCall Try.prog 0) 33 false (loopN Try.f52 0) [(0,Z1)] (.is g) [.val Z2,.bit true,.val Z3,.val Z2,.offs 0,.val (.int .i64 s),.idx b,.ret (.tuple #[Z4,.int .i64 e]) (.is g1),.cells Z5,.val (.bool true),.ret v (.is g2)] =
  some (.normal,[(32,v),(31,Z7),(30,Z6),(29,Z1),(28,Z1),(27,.bool false),(26,.bool true),(25,.pointer (some ⟨b,2,none⟩)),(3,.int .i64 e),(24,.int .i64 e),(23,Z4),(10,Z8),(22,Z8),(2,.pointer (some ⟨b,0,none⟩)),(21,.int .i64 s),(20,.pointer (some ⟨d,1,none⟩)),(19,.pointer (some ⟨d,0,none⟩)),(18,Z2),(17,Z6),(16,Z1),(15,Z1),(14,Z3),(13,Z1),(12,Z1),(11,Z1),(9,.bool true),(8,.int .i64 (Int.ofNat len)),(7,Z2),(6,Z6),(5,Z1),(4,Z1),(0,Z1)],.is g2,[],[.ld1 (.is g) i 3 Z2,.cmp .gtr (Int.ofNat len) 0 true,.stat (drawOps (drawN Try.f52 0)),.kept (.is g) Z10 (.is g1) Z9,.ld1 (.is g) i 0 Z3,.ld1 (.is g) i 3 Z2,.off 0 0 0 len 2,.ld1 (.is g) d 1 (.int .i64 s),.len (.is g) b,.call 69 [Z3,.int .i64 s] Z10 Z8 (.is g1),.st (.is g1) b 0 Z5 Z5,.ld1 Z11 b 2 (.bool true),.call 53 [Z7] Z11 v (.is g2)]):=by intros;kernel_rfl
theorem th(b b2:Nat)(ft:ByteArray)(c:List Value)(g:Hp) :
  let Z1:List Value:=[.int .i64 1,.string ft]
  let Z2:SH:=.push (.is g) (.cells [.int .i64 0,.string { data:=#[] }] true)
  let Z3:SH:=.set Z2 b (.cells Z1 true)
  pvFn Try.prog (pvCall Try.prog 0) Try.f54 [.string ft] (.is g) [.idx b,.cells Z1,.cells Z1] =
  some (.agg #[.int .i64 1,.string ft],Z3,[],[.len (.is g) b,.st Z2 b 0 Z1 Z1,.ldn Z3 b 0 2 Z1]):=by intros;kernel_rfl
theorem ex(i:Nat)(now:Int)(w:Value)(g g1 g2:Hp) :
  let Z1:Value:=.pointer (some ⟨i,0,none⟩)
  pvFn Try.prog (pvCall Try.prog 0) Try.f29 [Z1,.int .i64 now] (.is g) [.ret (.tuple #[]) (.is g1),.loop (.exit 0) [(6,w)] (.is g2)] =
  some (.tuple #[w,.int .i64 0],.is g2,[],[.call 52 [Z1] (.is g) (.tuple #[]) (.is g1),.loop 57 false (loopN Try.f29 0) [(13,.tuple #[]),(12,Z1),(6,.slice none 0 0),(11,.bool false),(10,Z1),(5,.int .i64 0),(4,.slice none 0 0),(0,Z1),(1,.int .i64 now)] (.is g1) (.exit 0) [(6,w)] (.is g2)]):=by intros;kernel_rfl
theorem xl_nil(i d len b oo cnt m1 p1 m2 p2 k1 k2 d1 d2:Nat)(at1 now a s e:Int)(w:Value)(c1 c2 n1 n2:List Value)(g g1 g2 g3 g4 g5:Hp) :
  let Z1:Value:=.pointer (some ⟨i,0,none⟩)
  pvCode Try.prog (pvCall Try.prog 0) 57 false (loopN Try.f29 0) [(6,w),(0,Z1),(1,.int .i64 now)] (.is g) [.val (.slice none 0 0),.bit false] =
  some (.exit 0,[(30,.bool false),(29,.tuple #[]),(28,.tuple #[]),(27,.tuple #[]),(26,.tuple #[]),(25,.tuple #[]),(24,.tuple #[]),(23,.tuple #[]),(22,.tuple #[]),(21,.tuple #[]),(20,.bool false),(19,.bool false),(18,.int .i64 0),(17,.slice none 0 0),(16,.pointer (some ⟨i,3,none⟩)),(15,Z1),(14,Z1),(6,w),(0,Z1),(1,.int .i64 now)],.is g,[],[.ld1 (.is g) i 3 (.slice none 0 0),.cmp .gtr 0 0 false]):=by intros;kernel_rfl
theorem xl_zero(i d len b oo cnt m1 p1 m2 p2 k1 k2 d1 d2:Nat)(at1 now a s e:Int)(w:Value)(c1 c2 n1 n2:List Value)(g g1 g2 g3 g4 g5:Hp) :
  let Z1:Value:=.pointer (some ⟨i,0,none⟩)
  let Z2:Value:=.slice (some ⟨d,0,none⟩) len 2
  pvCode Try.prog (pvCall Try.prog 0) 57 false (loopN Try.f29 0) [(6,w),(0,Z1),(1,.int .i64 now)] (.is g) [.val Z2,.bit false] =
  some (.exit 0,[(30,.bool false),(29,.tuple #[]),(28,.tuple #[]),(27,.tuple #[]),(26,.tuple #[]),(25,.tuple #[]),(24,.tuple #[]),(23,.tuple #[]),(22,.tuple #[]),(21,.tuple #[]),(20,.bool false),(19,.bool false),(18,.int .i64 (Int.ofNat len)),(17,Z2),(16,.pointer (some ⟨i,3,none⟩)),(15,Z1),(14,Z1),(6,w),(0,Z1),(1,.int .i64 now)],.is g,[],[.ld1 (.is g) i 3 Z2,.cmp .gtr (Int.ofNat len) 0 false]):=by intros;kernel_rfl
theorem xl_late(i d len b oo cnt m1 p1 m2 p2 k1 k2 d1 d2:Nat)(at1 now a s e:Int)(w:Value)(c1 c2 n1 n2:List Value)(g g1 g2 g3 g4 g5:Hp) :
  let Z1:Value:=.pointer (some ⟨i,0,none⟩)
  let Z2:Value:=.slice (some ⟨d,0,none⟩) len 2
  let Z3:Value:=.pointer (some ⟨d,0,none⟩)
  let Z4:Value:=.pointer (some ⟨i,3,none⟩)
  pvCode Try.prog (pvCall Try.prog 0) 57 false (loopN Try.f29 0) [(6,w),(0,Z1),(1,.int .i64 now)] (.is g) [.val Z2,.bit true,.val Z2,.offs 0,.val (.int .i64 at1),.bit false] =
  some (.exit 0,[(30,.bool false),(29,.bool false),(28,.int .i64 now),(27,.int .i64 at1),(26,Z3),(25,Z3),(24,Z2),(23,Z4),(22,Z1),(21,Z1),(20,.bool true),(19,.bool true),(18,.int .i64 (Int.ofNat len)),(17,Z2),(16,Z4),(15,Z1),(14,Z1),(6,w),(0,Z1),(1,.int .i64 now)],.is g,[],[.ld1 (.is g) i 3 Z2,.cmp .gtr (Int.ofNat len) 0 true,.ld1 (.is g) i 3 Z2,.off 0 0 0 len 2,.ld1 (.is g) d 0 (.int .i64 at1),.cmp .leq at1 now false]):=by intros;kernel_rfl
theorem xl_000(i d len b oo cnt m1 p1 m2 p2 k1 k2 d1 d2:Nat)(at1 now a s e:Int)(w:Value)(c1 c2 n1 n2:List Value)(g g1 g2 g3 g4 g5:Hp) :
  let Z1:Value:=.pointer (some ⟨i,0,none⟩)
  let Z2:Value:=.slice (some ⟨d,0,none⟩) len 2
  let Z3:Value:=.agg #[.int .i64 a,.int .i64 s]
  let Z4:Value:=.iface 93 Z3
  let Z5:List Value:=[.int .i64 a,.int .i64 s]
  let Z6:Value:=.tuple #[.slice none 0 0,.int .i64 e]
  let Z7:Value:=.pointer (some ⟨b,1,none⟩)
  let Z8:Value:=.agg { toList:=[.int .i64 1,.string late] }
  let Z9:Value:=.pointer (some ⟨i,3,none⟩)
  let Z10:Value:=.iface 95 Z9
  let Z11:Value:=.pointer (some ⟨d,0,none⟩)
  let Z12:SH:=.push (.is g1) (.cells [.int .i64 0,.int .i64 0] true)
  let Z13:SH:=.set Z12 b (.cells Z5 true)
  pvCode Try.prog (pvCall Try.prog 0) 57 false (loopN Try.f29 0) [(6,.slice none 0 0),(0,Z1),(1,.int .i64 now)] (.is g) [.val Z2,.bit true,.val Z2,.offs 0,.val (.int .i64 at1),.bit true,.ret Z4 (.is g1),.idx b,.cells Z5,.val (.int .i64 s),.ret (.agg #[.int .i64 1,.string late]) (.is g2),.ret Z6 (.is g3),.app0,.val (.int .i64 s),.ret (.slice none 0 0) (.is g4),.app0,.ret (.tuple #[]) (.is g5)] =
  some (.normal,[(32,.tuple #[]),(31,Z1),(6,.slice none 0 0),(55,.slice none 0 0),(54,.slice none 0 0),(53,.int .i64 s),(52,Z7),(51,Z1),(50,.slice none 0 0),(6,.slice none 0 0),(49,.slice none 0 0),(48,.slice none 0 0),(47,.slice none 0 0),(9,.int .i64 e),(8,.slice none 0 0),(46,.int .i64 e),(45,.slice none 0 0),(39,Z6),(44,Z6),(43,Z8),(42,.int .i64 s),(41,Z7),(40,Z1),(7,.pointer (some ⟨b,0,none⟩)),(38,Z3),(37,Z4),(36,Z10),(35,Z9),(34,Z1),(33,Z1),(30,.bool true),(29,.bool true),(28,.int .i64 now),(27,.int .i64 at1),(26,Z11),(25,Z11),(24,Z2),(23,Z9),(22,Z1),(21,Z1),(20,.bool true),(19,.bool true),(18,.int .i64 (Int.ofNat len)),(17,Z2),(16,Z9),(15,Z1),(14,Z1),(6,.slice none 0 0),(0,Z1),(1,.int .i64 now)],.is g5,[],[.ld1 (.is g) i 3 Z2,.cmp .gtr (Int.ofNat len) 0 true,.ld1 (.is g) i 3 Z2,.off 0 0 0 len 2,.ld1 (.is g) d 0 (.int .i64 at1),.cmp .leq at1 now true,.call 53 [Z10] (.is g) Z4 (.is g1),.len (.is g1) b,.st Z12 b 0 Z5 Z5,.stat (drawN Try.f29 0),.again Z13 3 Z7 (.int .i64 s),.again Z13 3 Z7 (.int .i64 s),.again (.is g2) 3 Z7 (.int .i64 s),.ld1 Z13 b 1 (.int .i64 s),.call 54 [.string late] Z13 Z8 (.is g2),.call 40 [Z1,.int .i64 s,Z8] (.is g2) Z6 (.is g3),.ld1 (.is g3) b 1 (.int .i64 s),.call 55 [Z1,.int .i64 s] (.is g3) (.slice none 0 0) (.is g4),.call 52 [Z1] (.is g4) (.tuple #[]) (.is g5)]):=by intros;kernel_rfl
theorem xl_001(i d len b oo cnt m1 p1 m2 p2 k1 k2 d1 d2:Nat)(at1 now a s e:Int)(w:Value)(c1 c2 n1 n2:List Value)(g g1 g2 g3 g4 g5:Hp) :
  let Z1:Value:=.pointer (some ⟨i,0,none⟩)
  let Z2:Value:=.slice (some ⟨d,0,none⟩) len 2
  let Z3:Value:=.agg #[.int .i64 a,.int .i64 s]
  let Z4:Value:=.iface 93 Z3
  let Z5:List Value:=[.int .i64 a,.int .i64 s]
  let Z6:Value:=.tuple #[.slice none 0 0,.int .i64 e]
  let Z7:Value:=.slice (some ⟨m2,0,none⟩) p2 5
  let Z8:Value:=.slice (some ⟨d2,0,none⟩) p2 5
  let Z9:Value:=.pointer (some ⟨b,1,none⟩)
  let Z10:Value:=.agg { toList:=[.int .i64 1,.string late] }
  let Z11:Value:=.pointer (some ⟨i,3,none⟩)
  let Z12:Value:=.iface 95 Z11
  let Z13:Value:=.pointer (some ⟨d,0,none⟩)
  let Z14:SH:=.push (.is g1) (.cells [.int .i64 0,.int .i64 0] true)
  let Z15:SH:=.set Z14 b (.cells Z5 true)
  pvCode Try.prog (pvCall Try.prog 0) 57 false (loopN Try.f29 0) [(6,.slice none 0 0),(0,Z1),(1,.int .i64 now)] (.is g) [.val Z2,.bit true,.val Z2,.offs 0,.val (.int .i64 at1),.bit true,.ret Z4 (.is g1),.idx b,.cells Z5,.val (.int .i64 s),.ret (.agg #[.int .i64 1,.string late]) (.is g2),.ret Z6 (.is g3),.app0,.val (.int .i64 s),.ret Z7 (.is g4),.app [] n2 k2 d2,.ret (.tuple #[]) (.is g5)] =
  some (.normal,[(32,.tuple #[]),(31,Z1),(6,Z8),(55,Z8),(54,Z7),(53,.int .i64 s),(52,Z9),(51,Z1),(50,.slice none 0 0),(6,.slice none 0 0),(49,.slice none 0 0),(48,.slice none 0 0),(47,.slice none 0 0),(9,.int .i64 e),(8,.slice none 0 0),(46,.int .i64 e),(45,.slice none 0 0),(39,Z6),(44,Z6),(43,Z10),(42,.int .i64 s),(41,Z9),(40,Z1),(7,.pointer (some ⟨b,0,none⟩)),(38,Z3),(37,Z4),(36,Z12),(35,Z11),(34,Z1),(33,Z1),(30,.bool true),(29,.bool true),(28,.int .i64 now),(27,.int .i64 at1),(26,Z13),(25,Z13),(24,Z2),(23,Z11),(22,Z1),(21,Z1),(20,.bool true),(19,.bool true),(18,.int .i64 (Int.ofNat len)),(17,Z2),(16,Z11),(15,Z1),(14,Z1),(6,.slice none 0 0),(0,Z1),(1,.int .i64 now)],.is g5,[],[.ld1 (.is g) i 3 Z2,.cmp .gtr (Int.ofNat len) 0 true,.ld1 (.is g) i 3 Z2,.off 0 0 0 len 2,.ld1 (.is g) d 0 (.int .i64 at1),.cmp .leq at1 now true,.call 53 [Z12] (.is g) Z4 (.is g1),.len (.is g1) b,.st Z14 b 0 Z5 Z5,.stat (drawN Try.f29 0),.again Z15 3 Z9 (.int .i64 s),.again Z15 3 Z9 (.int .i64 s),.again (.is g2) 3 Z9 (.int .i64 s),.ld1 Z15 b 1 (.int .i64 s),.call 54 [.string late] Z15 Z10 (.is g2),.call 40 [Z1,.int .i64 s,Z10] (.is g2) Z6 (.is g3),.ld1 (.is g3) b 1 (.int .i64 s),.call 55 [Z1,.int .i64 s] (.is g3) Z7 (.is g4),.appNil (.is g4) m2 0 p2 k2 5 48 n2 d2,.call 52 [Z1] (.push (.is g4) (.cells n2 true)) (.tuple #[]) (.is g5)]):=by intros;kernel_rfl
theorem xl_010(i d len b oo cnt m1 p1 m2 p2 k1 k2 d1 d2:Nat)(at1 now a s e:Int)(w:Value)(c1 c2 n1 n2:List Value)(g g1 g2 g3 g4 g5:Hp) :
  let Z1:Value:=.pointer (some ⟨i,0,none⟩)
  let Z2:Value:=.slice (some ⟨d,0,none⟩) len 2
  let Z3:Value:=.agg #[.int .i64 a,.int .i64 s]
  let Z4:Value:=.iface 93 Z3
  let Z5:List Value:=[.int .i64 a,.int .i64 s]
  let Z6:Value:=.slice (some ⟨m1,0,none⟩) p1 5
  let Z7:Value:=.tuple #[Z6,.int .i64 e]
  let Z8:Value:=.slice (some ⟨d1,0,none⟩) p1 5
  let Z9:Value:=.pointer (some ⟨b,1,none⟩)
  let Z10:Value:=.agg { toList:=[.int .i64 1,.string late] }
  let Z11:Value:=.pointer (some ⟨i,3,none⟩)
  let Z12:Value:=.iface 95 Z11
  let Z13:Value:=.pointer (some ⟨d,0,none⟩)
  let Z14:SH:=.push (.is g1) (.cells [.int .i64 0,.int .i64 0] true)
  let Z15:SH:=.set Z14 b (.cells Z5 true)
  let Z16:SH:=.push (.is g3) (.cells n1 true)
  pvCode Try.prog (pvCall Try.prog 0) 57 false (loopN Try.f29 0) [(6,.slice none 0 0),(0,Z1),(1,.int .i64 now)] (.is g) [.val Z2,.bit true,.val Z2,.offs 0,.val (.int .i64 at1),.bit true,.ret Z4 (.is g1),.idx b,.cells Z5,.val (.int .i64 s),.ret (.agg #[.int .i64 1,.string late]) (.is g2),.ret Z7 (.is g3),.app [] n1 k1 d1,.val (.int .i64 s),.ret (.slice none 0 0) (.is g4),.app0,.ret (.tuple #[]) (.is g5)] =
  some (.normal,[(32,.tuple #[]),(31,Z1),(6,Z8),(55,Z8),(54,.slice none 0 0),(53,.int .i64 s),(52,Z9),(51,Z1),(50,Z8),(6,Z8),(49,Z8),(48,Z6),(47,.slice none 0 0),(9,.int .i64 e),(8,Z6),(46,.int .i64 e),(45,Z6),(39,Z7),(44,Z7),(43,Z10),(42,.int .i64 s),(41,Z9),(40,Z1),(7,.pointer (some ⟨b,0,none⟩)),(38,Z3),(37,Z4),(36,Z12),(35,Z11),(34,Z1),(33,Z1),(30,.bool true),(29,.bool true),(28,.int .i64 now),(27,.int .i64 at1),(26,Z13),(25,Z13),(24,Z2),(23,Z11),(22,Z1),(21,Z1),(20,.bool true),(19,.bool true),(18,.int .i64 (Int.ofNat len)),(17,Z2),(16,Z11),(15,Z1),(14,Z1),(6,.slice none 0 0),(0,Z1),(1,.int .i64 now)],.is g5,[],[.ld1 (.is g) i 3 Z2,.cmp .gtr (Int.ofNat len) 0 true,.ld1 (.is g) i 3 Z2,.off 0 0 0 len 2,.ld1 (.is g) d 0 (.int .i64 at1),.cmp .leq at1 now true,.call 53 [Z12] (.is g) Z4 (.is g1),.len (.is g1) b,.st Z14 b 0 Z5 Z5,.stat (drawN Try.f29 0),.again Z15 3 Z9 (.int .i64 s),.again Z15 3 Z9 (.int .i64 s),.again (.is g2) 3 Z9 (.int .i64 s),.ld1 Z15 b 1 (.int .i64 s),.call 54 [.string late] Z15 Z10 (.is g2),.call 40 [Z1,.int .i64 s,Z10] (.is g2) Z7 (.is g3),.appNil (.is g3) m1 0 p1 k1 5 48 n1 d1,.ld1 Z16 b 1 (.int .i64 s),.call 55 [Z1,.int .i64 s] Z16 (.slice none 0 0) (.is g4),.call 52 [Z1] (.is g4) (.tuple #[]) (.is g5)]):=by intros;kernel_rfl
theorem xl_011(i d len b oo cnt m1 p1 m2 p2 k1 k2 d1 d2:Nat)(at1 now a s e:Int)(w:Value)(c1 c2 n1 n2:List Value)(g g1 g2 g3 g4 g5:Hp) :
  let Z1:Value:=.pointer (some ⟨i,0,none⟩)
  let Z2:Value:=.slice (some ⟨d,0,none⟩) len 2
  let Z3:Value:=.agg #[.int .i64 a,.int .i64 s]
  let Z4:Value:=.iface 93 Z3
  let Z5:List Value:=[.int .i64 a,.int .i64 s]
  let Z6:Value:=.slice (some ⟨m1,0,none⟩) p1 5
  let Z7:Value:=.tuple #[Z6,.int .i64 e]
  let Z8:Value:=.slice (some ⟨m2,0,none⟩) p2 5
  let Z9:Value:=.slice (some ⟨d2,0,none⟩) (p1+p2) 5
  let Z10:Value:=.pointer (some ⟨b,1,none⟩)
  let Z11:Value:=.slice (some ⟨d1,0,none⟩) p1 5
  let Z12:Value:=.agg { toList:=[.int .i64 1,.string late] }
  let Z13:Value:=.pointer (some ⟨i,3,none⟩)
  let Z14:Value:=.iface 95 Z13
  let Z15:Value:=.pointer (some ⟨d,0,none⟩)
  let Z16:SH:=.push (.is g1) (.cells [.int .i64 0,.int .i64 0] true)
  let Z17:SH:=.set Z16 b (.cells Z5 true)
  let Z18:SH:=.push (.is g3) (.cells n1 true)
  pvCode Try.prog (pvCall Try.prog 0) 57 false (loopN Try.f29 0) [(6,.slice none 0 0),(0,Z1),(1,.int .i64 now)] (.is g) [.val Z2,.bit true,.val Z2,.offs 0,.val (.int .i64 at1),.bit true,.ret Z4 (.is g1),.idx b,.cells Z5,.val (.int .i64 s),.ret (.agg #[.int .i64 1,.string late]) (.is g2),.ret Z7 (.is g3),.app [] n1 k1 d1,.val (.int .i64 s),.ret Z8 (.is g4),.app c2 n2 k2 d2,.ret (.tuple #[]) (.is g5)] =
  some (.normal,[(32,.tuple #[]),(31,Z1),(6,Z9),(55,Z9),(54,Z8),(53,.int .i64 s),(52,Z10),(51,Z1),(50,Z11),(6,Z11),(49,Z11),(48,Z6),(47,.slice none 0 0),(9,.int .i64 e),(8,Z6),(46,.int .i64 e),(45,Z6),(39,Z7),(44,Z7),(43,Z12),(42,.int .i64 s),(41,Z10),(40,Z1),(7,.pointer (some ⟨b,0,none⟩)),(38,Z3),(37,Z4),(36,Z14),(35,Z13),(34,Z1),(33,Z1),(30,.bool true),(29,.bool true),(28,.int .i64 now),(27,.int .i64 at1),(26,Z15),(25,Z15),(24,Z2),(23,Z13),(22,Z1),(21,Z1),(20,.bool true),(19,.bool true),(18,.int .i64 (Int.ofNat len)),(17,Z2),(16,Z13),(15,Z1),(14,Z1),(6,.slice none 0 0),(0,Z1),(1,.int .i64 now)],.is g5,[],[.ld1 (.is g) i 3 Z2,.cmp .gtr (Int.ofNat len) 0 true,.ld1 (.is g) i 3 Z2,.off 0 0 0 len 2,.ld1 (.is g) d 0 (.int .i64 at1),.cmp .leq at1 now true,.call 53 [Z14] (.is g) Z4 (.is g1),.len (.is g1) b,.st Z16 b 0 Z5 Z5,.stat (drawN Try.f29 0),.again Z17 3 Z10 (.int .i64 s),.again Z17 3 Z10 (.int .i64 s),.again (.is g2) 3 Z10 (.int .i64 s),.ld1 Z17 b 1 (.int .i64 s),.call 54 [.string late] Z17 Z12 (.is g2),.call 40 [Z1,.int .i64 s,Z12] (.is g2) Z7 (.is g3),.appNil (.is g3) m1 0 p1 k1 5 48 n1 d1,.ld1 Z18 b 1 (.int .i64 s),.call 55 [Z1,.int .i64 s] Z18 Z8 (.is g4),.app (.is g4) d1 0 p1 m2 0 p2 k2 5 48 c2 n2 d2,.call 52 [Z1] (.push (.set (.is g4) d1 .dead) (.cells c2 true)) (.tuple #[]) (.is g5)]):=by intros;kernel_rfl
theorem xl_100(i d len b oo cnt m1 p1 m2 p2 k1 k2 d1 d2:Nat)(at1 now a s e:Int)(w:Value)(c1 c2 n1 n2:List Value)(g g1 g2 g3 g4 g5:Hp) :
  let Z1:Value:=.slice (some ⟨oo,0,none⟩) cnt 5
  let Z2:Value:=.pointer (some ⟨i,0,none⟩)
  let Z3:Value:=.slice (some ⟨d,0,none⟩) len 2
  let Z4:Value:=.agg #[.int .i64 a,.int .i64 s]
  let Z5:Value:=.iface 93 Z4
  let Z6:List Value:=[.int .i64 a,.int .i64 s]
  let Z7:Value:=.tuple #[.slice none 0 0,.int .i64 e]
  let Z8:Value:=.pointer (some ⟨b,1,none⟩)
  let Z9:Value:=.agg { toList:=[.int .i64 1,.string late] }
  let Z10:Value:=.pointer (some ⟨i,3,none⟩)
  let Z11:Value:=.iface 95 Z10
  let Z12:Value:=.pointer (some ⟨d,0,none⟩)
  let Z13:SH:=.push (.is g1) (.cells [.int .i64 0,.int .i64 0] true)
  let Z14:SH:=.set Z13 b (.cells Z6 true)
  pvCode Try.prog (pvCall Try.prog 0) 57 false (loopN Try.f29 0) [(6,Z1),(0,Z2),(1,.int .i64 now)] (.is g) [.val Z3,.bit true,.val Z3,.offs 0,.val (.int .i64 at1),.bit true,.ret Z5 (.is g1),.idx b,.cells Z6,.val (.int .i64 s),.ret (.agg #[.int .i64 1,.string late]) (.is g2),.ret Z7 (.is g3),.app0,.val (.int .i64 s),.ret (.slice none 0 0) (.is g4),.app0,.ret (.tuple #[]) (.is g5)] =
  some (.normal,[(32,.tuple #[]),(31,Z2),(6,Z1),(55,Z1),(54,.slice none 0 0),(53,.int .i64 s),(52,Z8),(51,Z2),(50,Z1),(6,Z1),(49,Z1),(48,.slice none 0 0),(47,Z1),(9,.int .i64 e),(8,.slice none 0 0),(46,.int .i64 e),(45,.slice none 0 0),(39,Z7),(44,Z7),(43,Z9),(42,.int .i64 s),(41,Z8),(40,Z2),(7,.pointer (some ⟨b,0,none⟩)),(38,Z4),(37,Z5),(36,Z11),(35,Z10),(34,Z2),(33,Z2),(30,.bool true),(29,.bool true),(28,.int .i64 now),(27,.int .i64 at1),(26,Z12),(25,Z12),(24,Z3),(23,Z10),(22,Z2),(21,Z2),(20,.bool true),(19,.bool true),(18,.int .i64 (Int.ofNat len)),(17,Z3),(16,Z10),(15,Z2),(14,Z2),(6,Z1),(0,Z2),(1,.int .i64 now)],.is g5,[],[.ld1 (.is g) i 3 Z3,.cmp .gtr (Int.ofNat len) 0 true,.ld1 (.is g) i 3 Z3,.off 0 0 0 len 2,.ld1 (.is g) d 0 (.int .i64 at1),.cmp .leq at1 now true,.call 53 [Z11] (.is g) Z5 (.is g1),.len (.is g1) b,.st Z13 b 0 Z6 Z6,.stat (drawN Try.f29 0),.again Z14 3 Z8 (.int .i64 s),.again Z14 3 Z8 (.int .i64 s),.again (.is g2) 3 Z8 (.int .i64 s),.ld1 Z14 b 1 (.int .i64 s),.call 54 [.string late] Z14 Z9 (.is g2),.call 40 [Z2,.int .i64 s,Z9] (.is g2) Z7 (.is g3),.ld1 (.is g3) b 1 (.int .i64 s),.call 55 [Z2,.int .i64 s] (.is g3) (.slice none 0 0) (.is g4),.call 52 [Z2] (.is g4) (.tuple #[]) (.is g5)]):=by intros;kernel_rfl
theorem xl_101(i d len b oo cnt m1 p1 m2 p2 k1 k2 d1 d2:Nat)(at1 now a s e:Int)(w:Value)(c1 c2 n1 n2:List Value)(g g1 g2 g3 g4 g5:Hp) :
  let Z1:Value:=.slice (some ⟨oo,0,none⟩) cnt 5
  let Z2:Value:=.pointer (some ⟨i,0,none⟩)
  let Z3:Value:=.slice (some ⟨d,0,none⟩) len 2
  let Z4:Value:=.agg #[.int .i64 a,.int .i64 s]
  let Z5:Value:=.iface 93 Z4
  let Z6:List Value:=[.int .i64 a,.int .i64 s]
  let Z7:Value:=.tuple #[.slice none 0 0,.int .i64 e]
  let Z8:Value:=.slice (some ⟨m2,0,none⟩) p2 5
  let Z9:Value:=.slice (some ⟨d2,0,none⟩) (cnt+p2) 5
  let Z10:Value:=.pointer (some ⟨b,1,none⟩)
  let Z11:Value:=.agg { toList:=[.int .i64 1,.string late] }
  let Z12:Value:=.pointer (some ⟨i,3,none⟩)
  let Z13:Value:=.iface 95 Z12
  let Z14:Value:=.pointer (some ⟨d,0,none⟩)
  let Z15:SH:=.push (.is g1) (.cells [.int .i64 0,.int .i64 0] true)
  let Z16:SH:=.set Z15 b (.cells Z6 true)
  pvCode Try.prog (pvCall Try.prog 0) 57 false (loopN Try.f29 0) [(6,Z1),(0,Z2),(1,.int .i64 now)] (.is g) [.val Z3,.bit true,.val Z3,.offs 0,.val (.int .i64 at1),.bit true,.ret Z5 (.is g1),.idx b,.cells Z6,.val (.int .i64 s),.ret (.agg #[.int .i64 1,.string late]) (.is g2),.ret Z7 (.is g3),.app0,.val (.int .i64 s),.ret Z8 (.is g4),.app c2 n2 k2 d2,.ret (.tuple #[]) (.is g5)] =
  some (.normal,[(32,.tuple #[]),(31,Z2),(6,Z9),(55,Z9),(54,Z8),(53,.int .i64 s),(52,Z10),(51,Z2),(50,Z1),(6,Z1),(49,Z1),(48,.slice none 0 0),(47,Z1),(9,.int .i64 e),(8,.slice none 0 0),(46,.int .i64 e),(45,.slice none 0 0),(39,Z7),(44,Z7),(43,Z11),(42,.int .i64 s),(41,Z10),(40,Z2),(7,.pointer (some ⟨b,0,none⟩)),(38,Z4),(37,Z5),(36,Z13),(35,Z12),(34,Z2),(33,Z2),(30,.bool true),(29,.bool true),(28,.int .i64 now),(27,.int .i64 at1),(26,Z14),(25,Z14),(24,Z3),(23,Z12),(22,Z2),(21,Z2),(20,.bool true),(19,.bool true),(18,.int .i64 (Int.ofNat len)),(17,Z3),(16,Z12),(15,Z2),(14,Z2),(6,Z1),(0,Z2),(1,.int .i64 now)],.is g5,[],[.ld1 (.is g) i 3 Z3,.cmp .gtr (Int.ofNat len) 0 true,.ld1 (.is g) i 3 Z3,.off 0 0 0 len 2,.ld1 (.is g) d 0 (.int .i64 at1),.cmp .leq at1 now true,.call 53 [Z13] (.is g) Z5 (.is g1),.len (.is g1) b,.st Z15 b 0 Z6 Z6,.stat (drawN Try.f29 0),.again Z16 3 Z10 (.int .i64 s),.again Z16 3 Z10 (.int .i64 s),.again (.is g2) 3 Z10 (.int .i64 s),.ld1 Z16 b 1 (.int .i64 s),.call 54 [.string late] Z16 Z11 (.is g2),.call 40 [Z2,.int .i64 s,Z11] (.is g2) Z7 (.is g3),.ld1 (.is g3) b 1 (.int .i64 s),.call 55 [Z2,.int .i64 s] (.is g3) Z8 (.is g4),.app (.is g4) oo 0 cnt m2 0 p2 k2 5 48 c2 n2 d2,.call 52 [Z2] (.push (.set (.is g4) oo .dead) (.cells c2 true)) (.tuple #[]) (.is g5)]):=by intros;kernel_rfl
theorem xl_110(i d len b oo cnt m1 p1 m2 p2 k1 k2 d1 d2:Nat)(at1 now a s e:Int)(w:Value)(c1 c2 n1 n2:List Value)(g g1 g2 g3 g4 g5:Hp) :
  let Z1:Value:=.slice (some ⟨oo,0,none⟩) cnt 5
  let Z2:Value:=.pointer (some ⟨i,0,none⟩)
  let Z3:Value:=.slice (some ⟨d,0,none⟩) len 2
  let Z4:Value:=.agg #[.int .i64 a,.int .i64 s]
  let Z5:Value:=.iface 93 Z4
  let Z6:List Value:=[.int .i64 a,.int .i64 s]
  let Z7:Value:=.slice (some ⟨m1,0,none⟩) p1 5
  let Z8:Value:=.tuple #[Z7,.int .i64 e]
  let Z9:Value:=.slice (some ⟨d1,0,none⟩) (cnt+p1) 5
  let Z10:Value:=.pointer (some ⟨b,1,none⟩)
  let Z11:Value:=.agg { toList:=[.int .i64 1,.string late] }
  let Z12:Value:=.pointer (some ⟨i,3,none⟩)
  let Z13:Value:=.iface 95 Z12
  let Z14:Value:=.pointer (some ⟨d,0,none⟩)
  let Z15:SH:=.push (.is g1) (.cells [.int .i64 0,.int .i64 0] true)
  let Z16:SH:=.set Z15 b (.cells Z6 true)
  let Z17:SH:=.push (.set (.is g3) oo .dead) (.cells c1 true)
  pvCode Try.prog (pvCall Try.prog 0) 57 false (loopN Try.f29 0) [(6,Z1),(0,Z2),(1,.int .i64 now)] (.is g) [.val Z3,.bit true,.val Z3,.offs 0,.val (.int .i64 at1),.bit true,.ret Z5 (.is g1),.idx b,.cells Z6,.val (.int .i64 s),.ret (.agg #[.int .i64 1,.string late]) (.is g2),.ret Z8 (.is g3),.app c1 n1 k1 d1,.val (.int .i64 s),.ret (.slice none 0 0) (.is g4),.app0,.ret (.tuple #[]) (.is g5)] =
  some (.normal,[(32,.tuple #[]),(31,Z2),(6,Z9),(55,Z9),(54,.slice none 0 0),(53,.int .i64 s),(52,Z10),(51,Z2),(50,Z9),(6,Z9),(49,Z9),(48,Z7),(47,Z1),(9,.int .i64 e),(8,Z7),(46,.int .i64 e),(45,Z7),(39,Z8),(44,Z8),(43,Z11),(42,.int .i64 s),(41,Z10),(40,Z2),(7,.pointer (some ⟨b,0,none⟩)),(38,Z4),(37,Z5),(36,Z13),(35,Z12),(34,Z2),(33,Z2),(30,.bool true),(29,.bool true),(28,.int .i64 now),(27,.int .i64 at1),(26,Z14),(25,Z14),(24,Z3),(23,Z12),(22,Z2),(21,Z2),(20,.bool true),(19,.bool true),(18,.int .i64 (Int.ofNat len)),(17,Z3),(16,Z12),(15,Z2),(14,Z2),(6,Z1),(0,Z2),(1,.int .i64 now)],.is g5,[],[.ld1 (.is g) i 3 Z3,.cmp .gtr (Int.ofNat len) 0 true,.ld1 (.is g) i 3 Z3,.off 0 0 0 len 2,.ld1 (.is g) d 0 (.int .i64 at1),.cmp .leq at1 now true,.call 53 [Z13] (.is g) Z5 (.is g1),.len (.is g1) b,.st Z15 b 0 Z6 Z6,.stat (drawN Try.f29 0),.again Z16 3 Z10 (.int .i64 s),.again Z16 3 Z10 (.int .i64 s),.again (.is g2) 3 Z10 (.int .i64 s),.ld1 Z16 b 1 (.int .i64 s),.call 54 [.string late] Z16 Z11 (.is g2),.call 40 [Z2,.int .i64 s,Z11] (.is g2) Z8 (.is g3),.app (.is g3) oo 0 cnt m1 0 p1 k1 5 48 c1 n1 d1,.ld1 Z17 b 1 (.int .i64 s),.call 55 [Z2,.int .i64 s] Z17 (.slice none 0 0) (.is g4),.call 52 [Z2] (.is g4) (.tuple #[]) (.is g5)]):=by intros;kernel_rfl
theorem xl_111(i d len b oo cnt m1 p1 m2 p2 k1 k2 d1 d2:Nat)(at1 now a s e:Int)(w:Value)(c1 c2 n1 n2:List Value)(g g1 g2 g3 g4 g5:Hp) :
  let Z1:Value:=.slice (some ⟨oo,0,none⟩) cnt 5
  let Z2:Value:=.pointer (some ⟨i,0,none⟩)
  let Z3:Value:=.slice (some ⟨d,0,none⟩) len 2
  let Z4:Value:=.agg #[.int .i64 a,.int .i64 s]
  let Z5:Value:=.iface 93 Z4
  let Z6:List Value:=[.int .i64 a,.int .i64 s]
  let Z7:Value:=.slice (some ⟨m1,0,none⟩) p1 5
  let Z8:Value:=.tuple #[Z7,.int .i64 e]
  let Z9:Value:=.slice (some ⟨m2,0,none⟩) p2 5
  let Z10:Value:=.slice (some ⟨d2,0,none⟩) (cnt+p1+p2) 5
  let Z11:Value:=.pointer (some ⟨b,1,none⟩)
  let Z12:Value:=.slice (some ⟨d1,0,none⟩) (cnt+p1) 5
  let Z13:Value:=.agg { toList:=[.int .i64 1,.string late] }
  let Z14:Value:=.pointer (some ⟨i,3,none⟩)
  let Z15:Value:=.iface 95 Z14
  let Z16:Value:=.pointer (some ⟨d,0,none⟩)
  let Z17:SH:=.push (.is g1) (.cells [.int .i64 0,.int .i64 0] true)
  let Z18:SH:=.set Z17 b (.cells Z6 true)
  let Z19:SH:=.push (.set (.is g3) oo .dead) (.cells c1 true)
  pvCode Try.prog (pvCall Try.prog 0) 57 false (loopN Try.f29 0) [(6,Z1),(0,Z2),(1,.int .i64 now)] (.is g) [.val Z3,.bit true,.val Z3,.offs 0,.val (.int .i64 at1),.bit true,.ret Z5 (.is g1),.idx b,.cells Z6,.val (.int .i64 s),.ret (.agg #[.int .i64 1,.string late]) (.is g2),.ret Z8 (.is g3),.app c1 n1 k1 d1,.val (.int .i64 s),.ret Z9 (.is g4),.app c2 n2 k2 d2,.ret (.tuple #[]) (.is g5)] =
  some (.normal,[(32,.tuple #[]),(31,Z2),(6,Z10),(55,Z10),(54,Z9),(53,.int .i64 s),(52,Z11),(51,Z2),(50,Z12),(6,Z12),(49,Z12),(48,Z7),(47,Z1),(9,.int .i64 e),(8,Z7),(46,.int .i64 e),(45,Z7),(39,Z8),(44,Z8),(43,Z13),(42,.int .i64 s),(41,Z11),(40,Z2),(7,.pointer (some ⟨b,0,none⟩)),(38,Z4),(37,Z5),(36,Z15),(35,Z14),(34,Z2),(33,Z2),(30,.bool true),(29,.bool true),(28,.int .i64 now),(27,.int .i64 at1),(26,Z16),(25,Z16),(24,Z3),(23,Z14),(22,Z2),(21,Z2),(20,.bool true),(19,.bool true),(18,.int .i64 (Int.ofNat len)),(17,Z3),(16,Z14),(15,Z2),(14,Z2),(6,Z1),(0,Z2),(1,.int .i64 now)],.is g5,[],[.ld1 (.is g) i 3 Z3,.cmp .gtr (Int.ofNat len) 0 true,.ld1 (.is g) i 3 Z3,.off 0 0 0 len 2,.ld1 (.is g) d 0 (.int .i64 at1),.cmp .leq at1 now true,.call 53 [Z15] (.is g) Z5 (.is g1),.len (.is g1) b,.st Z17 b 0 Z6 Z6,.stat (drawN Try.f29 0),.again Z18 3 Z11 (.int .i64 s),.again Z18 3 Z11 (.int .i64 s),.again (.is g2) 3 Z11 (.int .i64 s),.ld1 Z18 b 1 (.int .i64 s),.call 54 [.string late] Z18 Z13 (.is g2),.call 40 [Z2,.int .i64 s,Z13] (.is g2) Z8 (.is g3),.app (.is g3) oo 0 cnt m1 0 p1 k1 5 48 c1 n1 d1,.ld1 Z19 b 1 (.int .i64 s),.call 55 [Z2,.int .i64 s] Z19 Z9 (.is g4),.app (.is g4) d1 0 (cnt+p1) m2 0 p2 k2 5 48 c2 n2 d2,.call 52 [Z2] (.push (.set (.is g4) d1 .dead) (.cells c2 true)) (.tuple #[]) (.is g5)]):=by intros;kernel_rfl
end Go.Proofs.Ytlonjogfeidgfaa.c13p
namespace Go.Proofs.Ytlonjogfeidgfaa.c9p
open Go Go.Ev
set_option maxRecDepth 100000
set_option linter.unusedVariables false
theorem ss_0(i r b o m d p k' f:Nat)(n s fk e1 e2:Int)(en l:Bool)(ft:ByteArray)(oa:Option Addr)(ln za:Nat)(ev:Value)(c news:List Value)(g g1 g2 g3:Hp) :
  let Z1:Value:=.pointer (some ⟨i,0,none⟩)
  let Z2:Value:=.pointer (some ⟨r,0,none⟩)
  let Z3:Value:=.agg #[.int .i64 s,.bool en,.bool l,.slice oa ln za,.int .i64 fk,.string ft]
  let Z4:List Value:=[.int .i64 s,.bool en,.bool l,.slice oa ln za,.int .i64 fk,.string ft]
  let Z5:Value:=.tuple #[.slice none 0 0,.int .i64 e2]
  let Z6:List Value:=[Z2,.int .i64 n]
  let Z7:SH:=.push (.is g1) (.cells [.int .i64 0,.bool false,.bool false,.slice none 0 0,.int .i64 0,.string { data:=#[] }] true)
  let Z8:SH:=.set Z7 b (.cells Z4 true)
  let Z9:Value:=.pointer (some ⟨i,2,none⟩)
  let Z10:SH:=.push (.is g2) (.cells [.int .i64 s] true)
  pvFn Try.prog (pvCall Try.prog 0) Try.f55 [Z1,.int .i64 n] (.is g) [.val Z2,.ret (.tuple #[Z3,.int .i64 e1]) (.is g1),.idx b,.cells Z4,.val Z2,.ret Z5 (.is g2),.val (.map (some m)),.val (.int .i64 s),.idx o,.app0,.ret ev (.is g3)] =
  some (ev,.is g3,[],[.ld1 (.is g) i 0 Z2,.call 69 Z6 (.is g) (.tuple { toList:=[Z3,.int .i64 e1] }) (.is g1),.len (.is g1) b,.st Z7 b 0 Z4 Z4,.ld1 Z8 i 0 Z2,.call 47 Z6 Z8 Z5 (.is g2),.stat (drawN Try.f55 0),.again (.is g2) 84 Z9 (.map (some m)),.again Z10 84 Z9 (.map (some m)),.again Z10 84 Z9 (.map (some m)),.ld1 (.is g2) i 2 (.map (some m)),.ld1 (.is g2) b 0 (.int .i64 s),.len (.is g2) o,.call 56 [Z1,.map (some m),.int .i64 n,.slice (some ⟨o,0,none⟩) 1 1] Z10 ev (.is g3)]):=by intros;kernel_rfl
theorem ss_1(i r b o m d p k' f:Nat)(n s fk e1 e2:Int)(en l:Bool)(ft:ByteArray)(oa:Option Addr)(ln za:Nat)(ev:Value)(c news:List Value)(g g1 g2 g3:Hp) :
  let Z1:Value:=.pointer (some ⟨i,0,none⟩)
  let Z2:Value:=.pointer (some ⟨r,0,none⟩)
  let Z3:Value:=.agg #[.int .i64 s,.bool en,.bool l,.slice oa ln za,.int .i64 fk,.string ft]
  let Z4:List Value:=[.int .i64 s,.bool en,.bool l,.slice oa ln za,.int .i64 fk,.string ft]
  let Z5:Value:=.tuple #[.slice (some ⟨d,0,none⟩) p 1,.int .i64 e2]
  let Z6:List Value:=[Z2,.int .i64 n]
  let Z7:SH:=.push (.is g1) (.cells [.int .i64 0,.bool false,.bool false,.slice none 0 0,.int .i64 0,.string { data:=#[] }] true)
  let Z8:SH:=.set Z7 b (.cells Z4 true)
  let Z9:Value:=.pointer (some ⟨i,2,none⟩)
  let Z10:SH:=.push (.is g2) (.cells [.int .i64 s] true)
  let Z11:SH:=.push (.set Z10 o .dead) (.cells c true)
  pvFn Try.prog (pvCall Try.prog 0) Try.f55 [Z1,.int .i64 n] (.is g) [.val Z2,.ret (.tuple #[Z3,.int .i64 e1]) (.is g1),.idx b,.cells Z4,.val Z2,.ret Z5 (.is g2),.val (.map (some m)),.val (.int .i64 s),.idx o,.app c news k' f,.ret ev (.is g3)] =
  some (ev,.is g3,[],[.ld1 (.is g) i 0 Z2,.call 69 Z6 (.is g) (.tuple { toList:=[Z3,.int .i64 e1] }) (.is g1),.len (.is g1) b,.st Z7 b 0 Z4 Z4,.ld1 Z8 i 0 Z2,.call 47 Z6 Z8 Z5 (.is g2),.stat (drawN Try.f55 0),.again (.is g2) 84 Z9 (.map (some m)),.again Z10 84 Z9 (.map (some m)),.again Z11 84 Z9 (.map (some m)),.ld1 (.is g2) i 2 (.map (some m)),.ld1 (.is g2) b 0 (.int .i64 s),.len (.is g2) o,.app Z10 o 0 1 d 0 p k' 1 8 c news f,.call 56 [Z1,.map (some m),.int .i64 n,.slice (some ⟨f,0,none⟩) (1+p) 1] Z11 ev (.is g3)]):=by intros;kernel_rfl
theorem tu_nil(i:Nat)(e:Int)(E1:Env)(g:Hp) :
  let Z1:Value:=.pointer (some ⟨i,0,none⟩)
  let Z2:Env:=[(8,.slice none 0 0),(2,.int .i64 e)]
  pvFn Try.prog (pvCall Try.prog 0) Try.f64 [Z1,.slice none 0 0,.int .i64 e] (.is g) [.loop (.exit 0) Z2 (.is g)] =
  some (.tuple #[.slice none 0 0,.int .i64 e],.is g,[],[.loop 33 false (loopN Try.f64 0) [(13,.int .i64 0),(12,.int .i64 0),(11,.slice none 0 0),(8,.slice none 0 0),(7,.int .i64 0),(6,.slice none 0 0),(0,Z1),(1,.slice none 0 0),(2,.int .i64 e)] (.is g) (.exit 0) Z2 (.is g)]):=by intros;kernel_rfl
theorem tu_go(i oe p:Nat)(e:Int)(w:Value)(g g1:Hp) :
  let Z1:Value:=.pointer (some ⟨i,0,none⟩)
  let Z2:Value:=.slice (some ⟨oe,0,none⟩) p 5
  let Z3:Env:=[(8,w),(2,.int .i64 e)]
  pvFn Try.prog (pvCall Try.prog 0) Try.f64 [Z1,Z2,.int .i64 e] (.is g) [.loop (.exit 0) Z3 (.is g1)] =
  some (.tuple #[w,.int .i64 e],.is g1,[],[.loop 33 false (loopN Try.f64 0) [(13,.int .i64 0),(12,.int .i64 (Int.ofNat p)),(11,Z2),(8,.slice none 0 0),(7,.int .i64 0),(6,.slice none 0 0),(0,Z1),(1,Z2),(2,.int .i64 e)] (.is g) (.exit 0) Z3 (.is g1)]):=by intros;kernel_rfl
theorem tl_out(i:Nat)(j p e:Int)(w:Value)(g:Hp) :
  pvCode Try.prog (pvCall Try.prog 0) 33 false (loopN Try.f64 0) [(13,.int .i64 j),(12,.int .i64 p),(8,w),(0,.pointer (some ⟨i,0,none⟩)),(2,.int .i64 e)] (.is g) [.bit false] =
  some (.exit 0,[(14,.bool false),(13,.int .i64 j),(12,.int .i64 p),(8,w),(0,.pointer (some ⟨i,0,none⟩)),(2,.int .i64 e)],.is g,[],[.cmp .lss j p false]):=by intros;kernel_rfl
theorem tl_o0(i oe p q b b2 d cnt oo ee k' cn:Nat)(j j1 e k n m fk:Int)(ft:ByteArray)(c news:List Value)(g g1:Hp) :
  let Z1:List Value:=[.int .i64 k,.int .i64 n,.int .i64 m,.int .i64 fk,.string ft]
  let Z2:Value:=.slice (some ⟨d,0,none⟩) 1 5
  let Z3:Value:=.agg #[.int .i64 k,.int .i64 n,.int .i64 m,.int .i64 fk,.string ft]
  let Z4:Value:=.pointer (some ⟨b,0,none⟩)
  let Z5:SH:=.push (.is g) (.cells [.int .i64 0,.int .i64 0,.int .i64 0,.int .i64 0,.string { data:=#[] }] true)
  let Z6:AObj:=.cells Z1 true
  let Z7:SH:=.set Z5 b Z6
  let Z8:SH:=.push Z7 Z6
  pvCode Try.prog (pvCall Try.prog 0) 33 false (loopN Try.f64 0) [(13,.int .i64 j),(12,.int .i64 (Int.ofNat p)),(11,.slice (some ⟨oe,0,none⟩) p 5),(8,.slice none 0 0),(0,.pointer (some ⟨i,0,none⟩)),(2,.int .i64 e)] (.is g) [.bit true,.offs q,.cells Z1,.idx b,.cells Z1,.val (.int .i64 k),.bit false,.cells Z1,.idx b2,.app [] Z1 0 d,.num j1] =
  some (.normal,[(13,.int .i64 j1),(30,.int .i64 j1),(8,Z2),(29,Z2),(28,.slice (some ⟨b2,0,none⟩) 1 5),(27,Z3),(26,.slice none 0 0),(19,.bool false),(18,.int .i64 k),(17,Z4),(10,Z4),(16,Z3),(15,.pointer (some ⟨oe,q,none⟩)),(14,.bool true),(13,.int .i64 j),(12,.int .i64 (Int.ofNat p)),(11,.slice (some ⟨oe,0,none⟩) p 5),(8,.slice none 0 0),(0,.pointer (some ⟨i,0,none⟩)),(2,.int .i64 e)],.push Z8 Z6,[],[.cmp .lss j (Int.ofNat p) true,.off q 0 j p 5,.ldn (.is g) oe q 5 Z1,.len (.is g) b,.st Z5 b 0 Z1 Z1,.ld1 Z7 b 0 (.int .i64 k),.cmp .eql k 1 false,.ldn Z7 b 0 5 Z1,.len Z7 b2,.appNil Z8 b2 0 1 0 5 48 Z1 d,.arith .add .i64 j 1 j1]):=by intros;kernel_rfl
theorem tl_o1(i oe p q b b2 d cnt oo ee k' cn:Nat)(j j1 e k n m fk:Int)(ft:ByteArray)(c news:List Value)(g g1:Hp) :
  let Z1:Value:=.slice (some ⟨oo,0,none⟩) cnt 5
  let Z2:List Value:=[.int .i64 k,.int .i64 n,.int .i64 m,.int .i64 fk,.string ft]
  let Z3:Value:=.slice (some ⟨d,0,none⟩) (Nat.succ cnt) 5
  let Z4:Value:=.agg #[.int .i64 k,.int .i64 n,.int .i64 m,.int .i64 fk,.string ft]
  let Z5:Value:=.pointer (some ⟨b,0,none⟩)
  let Z6:SH:=.push (.is g) (.cells [.int .i64 0,.int .i64 0,.int .i64 0,.int .i64 0,.string { data:=#[] }] true)
  let Z7:AObj:=.cells Z2 true
  let Z8:SH:=.set Z6 b Z7
  let Z9:SH:=.push Z8 Z7
  pvCode Try.prog (pvCall Try.prog 0) 33 false (loopN Try.f64 0) [(13,.int .i64 j),(12,.int .i64 (Int.ofNat p)),(11,.slice (some ⟨oe,0,none⟩) p 5),(8,Z1),(0,.pointer (some ⟨i,0,none⟩)),(2,.int .i64 e)] (.is g) [.bit true,.offs q,.cells Z2,.idx b,.cells Z2,.val (.int .i64 k),.bit false,.cells Z2,.idx b2,.app c Z2 0 d,.num j1] =
  some (.normal,[(13,.int .i64 j1),(30,.int .i64 j1),(8,Z3),(29,Z3),(28,.slice (some ⟨b2,0,none⟩) 1 5),(27,Z4),(26,Z1),(19,.bool false),(18,.int .i64 k),(17,Z5),(10,Z5),(16,Z4),(15,.pointer (some ⟨oe,q,none⟩)),(14,.bool true),(13,.int .i64 j),(12,.int .i64 (Int.ofNat p)),(11,.slice (some ⟨oe,0,none⟩) p 5),(8,Z1),(0,.pointer (some ⟨i,0,none⟩)),(2,.int .i64 e)],.push (.set Z9 oo .dead) (.cells c true),[],[.cmp .lss j (Int.ofNat p) true,.off q 0 j p 5,.ldn (.is g) oe q 5 Z2,.len (.is g) b,.st Z6 b 0 Z2 Z2,.ld1 Z8 b 0 (.int .i64 k),.cmp .eql k 1 false,.ldn Z8 b 0 5 Z2,.len Z8 b2,.app Z9 oo 0 cnt b2 0 1 0 5 48 c Z2 d,.arith .add .i64 j 1 j1]):=by intros;kernel_rfl
theorem tl_s00(i oe p q b b2 d cnt oo ee k' cn:Nat)(j j1 e k n m fk:Int)(ft:ByteArray)(c news:List Value)(g g1:Hp) :
  let Z1:Value:=.pointer (some ⟨i,0,none⟩)
  let Z2:List Value:=[.int .i64 k,.int .i64 n,.int .i64 m,.int .i64 fk,.string ft]
  let Z3:Value:=.pointer (some ⟨b,0,none⟩)
  let Z4:SH:=.push (.is g) (.cells [.int .i64 0,.int .i64 0,.int .i64 0,.int .i64 0,.string { data:=#[] }] true)
  let Z5:SH:=.set Z4 b (.cells Z2 true)
  pvCode Try.prog (pvCall Try.prog 0) 33 false (loopN Try.f64 0) [(13,.int .i64 j),(12,.int .i64 (Int.ofNat p)),(11,.slice (some ⟨oe,0,none⟩) p 5),(8,.slice none 0 0),(0,Z1),(2,.int .i64 e)] (.is g) [.bit true,.offs q,.cells Z2,.idx b,.cells Z2,.val (.int .i64 k),.bit true,.val (.int .i64 n),.ret (.slice none 0 0) (.is g1),.app0,.num j1] =
  some (.normal,[(13,.int .i64 j1),(30,.int .i64 j1),(8,.slice none 0 0),(25,.slice none 0 0),(24,.slice none 0 0),(23,.int .i64 n),(22,.pointer (some ⟨b,1,none⟩)),(21,Z1),(20,.slice none 0 0),(19,.bool true),(18,.int .i64 k),(17,Z3),(10,Z3),(16,.agg #[.int .i64 k,.int .i64 n,.int .i64 m,.int .i64 fk,.string ft]),(15,.pointer (some ⟨oe,q,none⟩)),(14,.bool true),(13,.int .i64 j),(12,.int .i64 (Int.ofNat p)),(11,.slice (some ⟨oe,0,none⟩) p 5),(8,.slice none 0 0),(0,Z1),(2,.int .i64 e)],.is g1,[],[.cmp .lss j (Int.ofNat p) true,.off q 0 j p 5,.ldn (.is g) oe q 5 Z2,.len (.is g) b,.st Z4 b 0 Z2 Z2,.ld1 Z5 b 0 (.int .i64 k),.cmp .eql k 1 true,.ld1 Z5 b 1 (.int .i64 n),.call 55 [Z1,.int .i64 n] Z5 (.slice none 0 0) (.is g1),.arith .add .i64 j 1 j1]):=by intros;kernel_rfl
theorem tl_s10(i oe p q b b2 d cnt oo ee k' cn:Nat)(j j1 e k n m fk:Int)(ft:ByteArray)(c news:List Value)(g g1:Hp) :
  let Z1:Value:=.slice (some ⟨oo,0,none⟩) cnt 5
  let Z2:Value:=.pointer (some ⟨i,0,none⟩)
  let Z3:List Value:=[.int .i64 k,.int .i64 n,.int .i64 m,.int .i64 fk,.string ft]
  let Z4:Value:=.pointer (some ⟨b,0,none⟩)
  let Z5:SH:=.push (.is g) (.cells [.int .i64 0,.int .i64 0,.int .i64 0,.int .i64 0,.string { data:=#[] }] true)
  let Z6:SH:=.set Z5 b (.cells Z3 true)
  pvCode Try.prog (pvCall Try.prog 0) 33 false (loopN Try.f64 0) [(13,.int .i64 j),(12,.int .i64 (Int.ofNat p)),(11,.slice (some ⟨oe,0,none⟩) p 5),(8,Z1),(0,Z2),(2,.int .i64 e)] (.is g) [.bit true,.offs q,.cells Z3,.idx b,.cells Z3,.val (.int .i64 k),.bit true,.val (.int .i64 n),.ret (.slice none 0 0) (.is g1),.app0,.num j1] =
  some (.normal,[(13,.int .i64 j1),(30,.int .i64 j1),(8,Z1),(25,Z1),(24,.slice none 0 0),(23,.int .i64 n),(22,.pointer (some ⟨b,1,none⟩)),(21,Z2),(20,Z1),(19,.bool true),(18,.int .i64 k),(17,Z4),(10,Z4),(16,.agg #[.int .i64 k,.int .i64 n,.int .i64 m,.int .i64 fk,.string ft]),(15,.pointer (some ⟨oe,q,none⟩)),(14,.bool true),(13,.int .i64 j),(12,.int .i64 (Int.ofNat p)),(11,.slice (some ⟨oe,0,none⟩) p 5),(8,Z1),(0,Z2),(2,.int .i64 e)],.is g1,[],[.cmp .lss j (Int.ofNat p) true,.off q 0 j p 5,.ldn (.is g) oe q 5 Z3,.len (.is g) b,.st Z5 b 0 Z3 Z3,.ld1 Z6 b 0 (.int .i64 k),.cmp .eql k 1 true,.ld1 Z6 b 1 (.int .i64 n),.call 55 [Z2,.int .i64 n] Z6 (.slice none 0 0) (.is g1),.arith .add .i64 j 1 j1]):=by intros;kernel_rfl
theorem tl_s01(i oe p q b b2 d cnt oo ee k' cn:Nat)(j j1 e k n m fk:Int)(ft:ByteArray)(c news:List Value)(g g1:Hp) :
  let Z1:Value:=.pointer (some ⟨i,0,none⟩)
  let Z2:List Value:=[.int .i64 k,.int .i64 n,.int .i64 m,.int .i64 fk,.string ft]
  let Z3:Value:=.slice (some ⟨ee,0,none⟩) cn 5
  let Z4:Value:=.slice (some ⟨d,0,none⟩) cn 5
  let Z5:Value:=.pointer (some ⟨b,0,none⟩)
  let Z6:SH:=.push (.is g) (.cells [.int .i64 0,.int .i64 0,.int .i64 0,.int .i64 0,.string { data:=#[] }] true)
  let Z7:SH:=.set Z6 b (.cells Z2 true)
  pvCode Try.prog (pvCall Try.prog 0) 33 false (loopN Try.f64 0) [(13,.int .i64 j),(12,.int .i64 (Int.ofNat p)),(11,.slice (some ⟨oe,0,none⟩) p 5),(8,.slice none 0 0),(0,Z1),(2,.int .i64 e)] (.is g) [.bit true,.offs q,.cells Z2,.idx b,.cells Z2,.val (.int .i64 k),.bit true,.val (.int .i64 n),.ret Z3 (.is g1),.app [] news k' d,.num j1] =
  some (.normal,[(13,.int .i64 j1),(30,.int .i64 j1),(8,Z4),(25,Z4),(24,Z3),(23,.int .i64 n),(22,.pointer (some ⟨b,1,none⟩)),(21,Z1),(20,.slice none 0 0),(19,.bool true),(18,.int .i64 k),(17,Z5),(10,Z5),(16,.agg #[.int .i64 k,.int .i64 n,.int .i64 m,.int .i64 fk,.string ft]),(15,.pointer (some ⟨oe,q,none⟩)),(14,.bool true),(13,.int .i64 j),(12,.int .i64 (Int.ofNat p)),(11,.slice (some ⟨oe,0,none⟩) p 5),(8,.slice none 0 0),(0,Z1),(2,.int .i64 e)],.push (.is g1) (.cells news true),[],[.cmp .lss j (Int.ofNat p) true,.off q 0 j p 5,.ldn (.is g) oe q 5 Z2,.len (.is g) b,.st Z6 b 0 Z2 Z2,.ld1 Z7 b 0 (.int .i64 k),.cmp .eql k 1 true,.ld1 Z7 b 1 (.int .i64 n),.call 55 [Z1,.int .i64 n] Z7 Z3 (.is g1),.appNil (.is g1) ee 0 cn k' 5 48 news d,.arith .add .i64 j 1 j1]):=by intros;kernel_rfl
theorem tl_s11(i oe p q b b2 d cnt oo ee k' cn:Nat)(j j1 e k n m fk:Int)(ft:ByteArray)(c news:List Value)(g g1:Hp) :
  let Z1:Value:=.slice (some ⟨oo,0,none⟩) cnt 5
  let Z2:Value:=.pointer (some ⟨i,0,none⟩)
  let Z3:List Value:=[.int .i64 k,.int .i64 n,.int .i64 m,.int .i64 fk,.string ft]
  let Z4:Value:=.slice (some ⟨ee,0,none⟩) cn 5
  let Z5:Value:=.slice (some ⟨d,0,none⟩) (cnt+cn) 5
  let Z6:Value:=.pointer (some ⟨b,0,none⟩)
  let Z7:SH:=.push (.is g) (.cells [.int .i64 0,.int .i64 0,.int .i64 0,.int .i64 0,.string { data:=#[] }] true)
  let Z8:SH:=.set Z7 b (.cells Z3 true)
  pvCode Try.prog (pvCall Try.prog 0) 33 false (loopN Try.f64 0) [(13,.int .i64 j),(12,.int .i64 (Int.ofNat p)),(11,.slice (some ⟨oe,0,none⟩) p 5),(8,Z1),(0,Z2),(2,.int .i64 e)] (.is g) [.bit true,.offs q,.cells Z3,.idx b,.cells Z3,.val (.int .i64 k),.bit true,.val (.int .i64 n),.ret Z4 (.is g1),.app c news k' d,.num j1] =
  some (.normal,[(13,.int .i64 j1),(30,.int .i64 j1),(8,Z5),(25,Z5),(24,Z4),(23,.int .i64 n),(22,.pointer (some ⟨b,1,none⟩)),(21,Z2),(20,Z1),(19,.bool true),(18,.int .i64 k),(17,Z6),(10,Z6),(16,.agg #[.int .i64 k,.int .i64 n,.int .i64 m,.int .i64 fk,.string ft]),(15,.pointer (some ⟨oe,q,none⟩)),(14,.bool true),(13,.int .i64 j),(12,.int .i64 (Int.ofNat p)),(11,.slice (some ⟨oe,0,none⟩) p 5),(8,Z1),(0,Z2),(2,.int .i64 e)],.push (.set (.is g1) oo .dead) (.cells c true),[],[.cmp .lss j (Int.ofNat p) true,.off q 0 j p 5,.ldn (.is g) oe q 5 Z3,.len (.is g) b,.st Z7 b 0 Z3 Z3,.ld1 Z8 b 0 (.int .i64 k),.cmp .eql k 1 true,.ld1 Z8 b 1 (.int .i64 n),.call 55 [Z2,.int .i64 n] Z8 Z4 (.is g1),.app (.is g1) oo 0 cnt ee 0 cn k' 5 48 c news d,.arith .add .i64 j 1 j1]):=by intros;kernel_rfl
theorem lv(i r b:Nat)(n fk e e2:Int)(ft:ByteArray)(v w:Value)(g g1 g2 g3:Hp) :
  let Z1:Value:=.pointer (some ⟨i,0,none⟩)
  let Z2:Value:=.agg #[.int .i64 fk,.string ft]
  let Z3:Value:=.pointer (some ⟨r,0,none⟩)
  let Z4:List Value:=[.int .i64 fk,.string ft]
  let Z5:Value:=.tuple #[v,.int .i64 e]
  let Z6:Value:=.tuple #[w,.int .i64 e2]
  let Z7:Value:=.pointer (some ⟨b,0,none⟩)
  let Z8:SH:=.push (.is g) (.cells Z4 true)
  pvFn Try.prog (pvCall Try.prog 0) Try.f39 [Z1,.int .i64 n,Z2] (.is g) [.idx b,.ret Z3 (.is g1),.cells Z4,.ret Z5 (.is g2),.ret Z6 (.is g3)] =
  some (Z6,.is g3,[],[.len (.is g) b,.stat (drawN Try.f39 0),.again (.is g1) 29 Z7 Z2,.again Z8 29 Z7 Z2,.again (.is g1) 29 Z7 Z2,.call 45 [Z1] Z8 Z3 (.is g1),.ldn (.is g1) b 0 2 Z4,.call 66 [Z3,.int .i64 n,Z2] (.is g1) Z5 (.is g2),.call 64 [Z1,v,.int .i64 e] (.is g2) Z6 (.is g3)]):=by intros;kernel_rfl
theorem en(i r b:Nat)(n fk e e2:Int)(ft:ByteArray)(v w:Value)(g g1 g2 g3:Hp) :
  let Z1:Value:=.pointer (some ⟨i,0,none⟩)
  let Z2:Value:=.agg #[.int .i64 fk,.string ft]
  let Z3:Value:=.pointer (some ⟨r,0,none⟩)
  let Z4:List Value:=[.int .i64 fk,.string ft]
  let Z5:Value:=.tuple #[v,.int .i64 e]
  let Z6:Value:=.tuple #[w,.int .i64 e2]
  let Z7:Value:=.pointer (some ⟨b,0,none⟩)
  let Z8:SH:=.push (.is g) (.cells Z4 true)
  pvFn Try.prog (pvCall Try.prog 0) Try.f38 [Z1,.int .i64 n,Z2] (.is g) [.idx b,.ret Z3 (.is g1),.cells Z4,.ret Z5 (.is g2),.ret Z6 (.is g3)] =
  some (Z6,.is g3,[],[.len (.is g) b,.stat (drawN Try.f38 0),.again (.is g1) 29 Z7 Z2,.again Z8 29 Z7 Z2,.again (.is g1) 29 Z7 Z2,.call 45 [Z1] Z8 Z3 (.is g1),.ldn (.is g1) b 0 2 Z4,.call 65 [Z3,.int .i64 n,Z2] (.is g1) Z5 (.is g2),.call 64 [Z1,v,.int .i64 e] (.is g2) Z6 (.is g3)]):=by intros;kernel_rfl
theorem fa(i r b:Nat)(n fk e e2:Int)(ft:ByteArray)(v w:Value)(g g1 g2 g3:Hp) :
  let Z1:Value:=.pointer (some ⟨i,0,none⟩)
  let Z2:Value:=.agg #[.int .i64 fk,.string ft]
  let Z3:Value:=.pointer (some ⟨r,0,none⟩)
  let Z4:List Value:=[.int .i64 fk,.string ft]
  let Z5:Value:=.tuple #[v,.int .i64 e]
  let Z6:Value:=.tuple #[w,.int .i64 e2]
  let Z7:Value:=.pointer (some ⟨b,0,none⟩)
  let Z8:SH:=.push (.is g) (.cells Z4 true)
  pvFn Try.prog (pvCall Try.prog 0) Try.f40 [Z1,.int .i64 n,Z2] (.is g) [.idx b,.ret Z3 (.is g1),.cells Z4,.ret Z5 (.is g2),.ret Z6 (.is g3)] =
  some (Z6,.is g3,[],[.len (.is g) b,.stat (drawN Try.f40 0),.again (.is g1) 29 Z7 Z2,.again Z8 29 Z7 Z2,.again (.is g1) 29 Z7 Z2,.call 45 [Z1] Z8 Z3 (.is g1),.ldn (.is g1) b 0 2 Z4,.call 67 [Z3,.int .i64 n,Z2] (.is g1) Z5 (.is g2),.call 64 [Z1,v,.int .i64 e] (.is g2) Z6 (.is g3)]):=by intros;kernel_rfl
end Go.Proofs.Ytlonjogfeidgfaa.c9p
namespace Go.Proofs.Ytlonjogfeidgfaa.c8p
open Go Go.Ev
set_option maxRecDepth 100000
set_option linter.unusedVariables false
theorem st_err(i r:Nat)(n e:Int)(v:Value)(g g1:Hp) :
  let Z1:Value:=.pointer (some ⟨i,0,none⟩)
  let Z2:Value:=.pointer (some ⟨r,0,none⟩)
  let Z3:Value:=.tuple #[v,.int .i64 e]
  pvFn Try.prog (pvCall Try.prog 0) Try.f31 [Z1,.int .i64 n] (.is g) [.ret Z2 (.is g),.ret Z3 (.is g1),.bit true] =
  some (.tuple #[.slice none 0 0,.int .i64 e],.is g1,[],[.call 45 [Z1] (.is g) Z2 (.is g),.call 48 [Z2,.int .i64 n] (.is g) Z3 (.is g1),.cmp .neq e 0 true]):=by intros;kernel_rfl
theorem st_nil(i r b o p m oo:Nat)(n s fk e1:Int)(en l:Bool)(ft:ByteArray)(v w ev:Value)(E1:Env)(g g1 g2 g3 g4:Hp) :
  let Z1:Value:=.pointer (some ⟨i,0,none⟩)
  let Z2:Value:=.pointer (some ⟨r,0,none⟩)
  let Z3:Value:=.tuple #[v,.int .i64 0]
  let Z4:Value:=.agg #[.int .i64 s,.bool en,.bool l,.int .i64 fk,.string ft,.slice none 0 0]
  let Z5:List Value:=[.int .i64 s,.bool en,.bool l,.int .i64 fk,.string ft,.slice none 0 0]
  let Z6:Env:=[(10,w),(0,Z1),(1,.int .i64 n)]
  let Z7:List Value:=[Z2,.int .i64 n]
  let Z8:Value:=.tuple { toList:=[Z4,.int .i64 e1] }
  let Z9:SH:=.push (.is g2) (.cells [.int .i64 0,.bool false,.bool false,.int .i64 0,.string { data:=#[] },.slice none 0 0] true)
  let Z10:SH:=.set Z9 b (.cells Z5 true)
  let Z11:SH:=.push Z10 (.cells [.int .i64 n] true)
  let Z12:Value:=.slice (some ⟨o,0,none⟩) 1 1
  pvFn Try.prog (pvCall Try.prog 0) Try.f31 [Z1,.int .i64 n] (.is g) [.ret Z2 (.is g),.ret Z3 (.is g1),.bit false,.val Z2,.ret (.tuple #[Z4,.int .i64 e1]) (.is g2),.idx b,.cells Z5,.idx o,.val (.slice none 0 0),.loop (.exit 0) Z6 (.is g3),.val (.map (some m)),.ret ev (.is g4)] =
  some (.tuple #[ev,.int .i64 0],.is g4,[],[.call 45 [Z1] (.is g) Z2 (.is g),.call 48 Z7 (.is g) Z3 (.is g1),.cmp .neq 0 0 false,.ld1 (.is g1) i 0 Z2,.call 46 Z7 (.is g1) Z8 (.is g2),.len (.is g2) b,.st Z9 b 0 Z5 Z5,.len Z10 o,.ld1 Z11 b 5 (.slice none 0 0),.loop 68 false (loopN Try.f31 0) [(39,.int .i64 0),(38,.int .i64 0),(37,.slice none 0 0),(36,.pointer (some ⟨b,5,none⟩)),(10,Z12),(35,Z12),(34,.int .i64 n),(9,.int .i64 e1),(8,.pointer (some ⟨b,0,none⟩)),(33,.int .i64 e1),(32,Z4),(25,Z8),(31,Z8),(30,.int .i64 n),(29,Z2),(28,Z1),(27,Z1),(26,Z1),(23,.bool false),(22,.int .i64 0),(7,.int .i64 0),(6,v),(21,.int .i64 0),(20,v),(15,Z3),(19,Z3),(18,.int .i64 n),(17,Z2),(16,Z1),(5,.int .i64 0),(4,.slice none 0 0),(0,Z1),(1,.int .i64 n)] Z11 (.exit 0) Z6 (.is g3),.ld1 (.is g3) i 1 (.map (some m)),.call 56 [Z1,.map (some m),.int .i64 n,w] (.is g3) ev (.is g4)]):=by intros;kernel_rfl
theorem st_go(i r b o p m oo:Nat)(n s fk e1:Int)(en l:Bool)(ft:ByteArray)(v w ev:Value)(E1:Env)(g g1 g2 g3 g4:Hp) :
  let Z1:Value:=.pointer (some ⟨i,0,none⟩)
  let Z2:Value:=.pointer (some ⟨r,0,none⟩)
  let Z3:Value:=.tuple #[v,.int .i64 0]
  let Z4:Value:=.slice (some ⟨oo,0,none⟩) p 2
  let Z5:Value:=.agg #[.int .i64 s,.bool en,.bool l,.int .i64 fk,.string ft,Z4]
  let Z6:List Value:=[.int .i64 s,.bool en,.bool l,.int .i64 fk,.string ft,Z4]
  let Z7:Env:=[(10,w),(0,Z1),(1,.int .i64 n)]
  let Z8:List Value:=[Z2,.int .i64 n]
  let Z9:Value:=.tuple { toList:=[Z5,.int .i64 e1] }
  let Z10:SH:=.push (.is g2) (.cells [.int .i64 0,.bool false,.bool false,.int .i64 0,.string { data:=#[] },.slice none 0 0] true)
  let Z11:SH:=.set Z10 b (.cells Z6 true)
  let Z12:SH:=.push Z11 (.cells [.int .i64 n] true)
  let Z13:Value:=.slice (some ⟨o,0,none⟩) 1 1
  pvFn Try.prog (pvCall Try.prog 0) Try.f31 [Z1,.int .i64 n] (.is g) [.ret Z2 (.is g),.ret Z3 (.is g1),.bit false,.val Z2,.ret (.tuple #[Z5,.int .i64 e1]) (.is g2),.idx b,.cells Z6,.idx o,.val Z4,.loop (.exit 0) Z7 (.is g3),.val (.map (some m)),.ret ev (.is g4)] =
  some (.tuple #[ev,.int .i64 0],.is g4,[],[.call 45 [Z1] (.is g) Z2 (.is g),.call 48 Z8 (.is g) Z3 (.is g1),.cmp .neq 0 0 false,.ld1 (.is g1) i 0 Z2,.call 46 Z8 (.is g1) Z9 (.is g2),.len (.is g2) b,.st Z10 b 0 Z6 Z6,.len Z11 o,.ld1 Z12 b 5 Z4,.loop 68 false (loopN Try.f31 0) [(39,.int .i64 0),(38,.int .i64 (Int.ofNat p)),(37,Z4),(36,.pointer (some ⟨b,5,none⟩)),(10,Z13),(35,Z13),(34,.int .i64 n),(9,.int .i64 e1),(8,.pointer (some ⟨b,0,none⟩)),(33,.int .i64 e1),(32,Z5),(25,Z9),(31,Z9),(30,.int .i64 n),(29,Z2),(28,Z1),(27,Z1),(26,Z1),(23,.bool false),(22,.int .i64 0),(7,.int .i64 0),(6,v),(21,.int .i64 0),(20,v),(15,Z3),(19,Z3),(18,.int .i64 n),(17,Z2),(16,Z1),(5,.int .i64 0),(4,.slice none 0 0),(0,Z1),(1,.int .i64 n)] Z12 (.exit 0) Z7 (.is g3),.ld1 (.is g3) i 1 (.map (some m)),.call 56 [Z1,.map (some m),.int .i64 n,w] (.is g3) ev (.is g4)]):=by intros;kernel_rfl
theorem rl_out(i:Nat)(j p nn:Int)(w:Value)(g:Hp) :
  pvCode Try.prog (pvCall Try.prog 0) 68 false (loopN Try.f31 0) [(39,.int .i64 j),(38,.int .i64 p),(10,w),(0,.pointer (some ⟨i,0,none⟩)),(1,.int .i64 nn)] (.is g) [.bit false] =
  some (.exit 0,[(40,.bool false),(39,.int .i64 j),(38,.int .i64 p),(10,w),(0,.pointer (some ⟨i,0,none⟩)),(1,.int .i64 nn)],.is g,[],[.cmp .lss j p false]):=by intros;kernel_rfl
theorem rl_no(i r oo p q b o d ln k' f:Nat)(j j1 k n nn er:Int)(w:Value)(c news:List Value)(g g1:Hp) :
  let Z1:List Value:=[.int .i64 k,.int .i64 n]
  let Z2:Value:=.pointer (some ⟨b,0,none⟩)
  let Z3:SH:=.push (.is g) (.cells [.int .i64 0,.int .i64 0] true)
  let Z4:SH:=.set Z3 b (.cells Z1 true)
  pvCode Try.prog (pvCall Try.prog 0) 68 false (loopN Try.f31 0) [(39,.int .i64 j),(38,.int .i64 (Int.ofNat p)),(37,.slice (some ⟨oo,0,none⟩) p 2),(10,w),(0,.pointer (some ⟨i,0,none⟩)),(1,.int .i64 nn)] (.is g) [.bit true,.offs q,.cells Z1,.idx b,.cells Z1,.val (.int .i64 k),.bit false,.num j1] =
  some (.normal,[(39,.int .i64 j1),(59,.int .i64 j1),(45,.bool false),(44,.int .i64 k),(43,Z2),(12,Z2),(42,.agg #[.int .i64 k,.int .i64 n]),(41,.pointer (some ⟨oo,q,none⟩)),(40,.bool true),(39,.int .i64 j),(38,.int .i64 (Int.ofNat p)),(37,.slice (some ⟨oo,0,none⟩) p 2),(10,w),(0,.pointer (some ⟨i,0,none⟩)),(1,.int .i64 nn)],Z4,[],[.cmp .lss j (Int.ofNat p) true,.off q 0 j p 2,.ldn (.is g) oo q 2 Z1,.len (.is g) b,.st Z3 b 0 Z1 Z1,.ld1 Z4 b 0 (.int .i64 k),.cmp .eql k 2 false,.arith .add .i64 j 1 j1]):=by intros;kernel_rfl
theorem rl_sc0(i r oo p q b o d ln k' f:Nat)(j j1 k n nn er:Int)(w:Value)(c news:List Value)(g g1:Hp) :
  let Z1:Value:=.slice (some ⟨o,0,none⟩) 1 1
  let Z2:Value:=.pointer (some ⟨i,0,none⟩)
  let Z3:List Value:=[.int .i64 k,.int .i64 n]
  let Z4:Value:=.pointer (some ⟨r,0,none⟩)
  let Z5:Value:=.tuple #[.slice none 0 0,.int .i64 er]
  let Z6:Value:=.pointer (some ⟨b,0,none⟩)
  let Z7:SH:=.push (.is g) (.cells [.int .i64 0,.int .i64 0] true)
  let Z8:SH:=.set Z7 b (.cells Z3 true)
  pvCode Try.prog (pvCall Try.prog 0) 68 false (loopN Try.f31 0) [(39,.int .i64 j),(38,.int .i64 (Int.ofNat p)),(37,.slice (some ⟨oo,0,none⟩) p 2),(10,Z1),(0,Z2),(1,.int .i64 nn)] (.is g) [.bit true,.offs q,.cells Z3,.idx b,.cells Z3,.val (.int .i64 k),.bit true,.val Z4,.val (.int .i64 n),.ret Z5 (.is g1),.app0] =
  some (.exit 0,[(10,Z1),(58,Z1),(57,.slice none 0 0),(56,Z1),(14,.int .i64 er),(13,.slice none 0 0),(55,.int .i64 er),(54,.slice none 0 0),(46,Z5),(53,Z5),(52,.int .i64 n),(51,.pointer (some ⟨b,1,none⟩)),(50,Z4),(49,Z2),(48,Z2),(47,Z2),(45,.bool true),(44,.int .i64 k),(43,Z6),(12,Z6),(42,.agg #[.int .i64 k,.int .i64 n]),(41,.pointer (some ⟨oo,q,none⟩)),(40,.bool true),(39,.int .i64 j),(38,.int .i64 (Int.ofNat p)),(37,.slice (some ⟨oo,0,none⟩) p 2),(10,Z1),(0,Z2),(1,.int .i64 nn)],.is g1,[],[.cmp .lss j (Int.ofNat p) true,.off q 0 j p 2,.ldn (.is g) oo q 2 Z3,.len (.is g) b,.st Z7 b 0 Z3 Z3,.ld1 Z8 b 0 (.int .i64 k),.cmp .eql k 2 true,.stat (drawN Try.f31 0),.ld1 Z8 i 0 Z4,.ld1 Z8 b 1 (.int .i64 n),.call 47 [Z4,.int .i64 n] Z8 Z5 (.is g1)]):=by intros;kernel_rfl
theorem rl_sc(i r oo p q b o d ln k' f:Nat)(j j1 k n nn er:Int)(w:Value)(c news:List Value)(g g1:Hp) :
  let Z1:Value:=.slice (some ⟨o,0,none⟩) 1 1
  let Z2:Value:=.pointer (some ⟨i,0,none⟩)
  let Z3:List Value:=[.int .i64 k,.int .i64 n]
  let Z4:Value:=.pointer (some ⟨r,0,none⟩)
  let Z5:Value:=.slice (some ⟨d,0,none⟩) ln 1
  let Z6:Value:=.tuple #[Z5,.int .i64 er]
  let Z7:Value:=.slice (some ⟨f,0,none⟩) (1+ln) 1
  let Z8:Value:=.pointer (some ⟨b,0,none⟩)
  let Z9:SH:=.push (.is g) (.cells [.int .i64 0,.int .i64 0] true)
  let Z10:SH:=.set Z9 b (.cells Z3 true)
  pvCode Try.prog (pvCall Try.prog 0) 68 false (loopN Try.f31 0) [(39,.int .i64 j),(38,.int .i64 (Int.ofNat p)),(37,.slice (some ⟨oo,0,none⟩) p 2),(10,Z1),(0,Z2),(1,.int .i64 nn)] (.is g) [.bit true,.offs q,.cells Z3,.idx b,.cells Z3,.val (.int .i64 k),.bit true,.val Z4,.val (.int .i64 n),.ret Z6 (.is g1),.app c news k' f] =
  some (.exit 0,[(10,Z7),(58,Z7),(57,Z5),(56,Z1),(14,.int .i64 er),(13,Z5),(55,.int .i64 er),(54,Z5),(46,Z6),(53,Z6),(52,.int .i64 n),(51,.pointer (some ⟨b,1,none⟩)),(50,Z4),(49,Z2),(48,Z2),(47,Z2),(45,.bool true),(44,.int .i64 k),(43,Z8),(12,Z8),(42,.agg #[.int .i64 k,.int .i64 n]),(41,.pointer (some ⟨oo,q,none⟩)),(40,.bool true),(39,.int .i64 j),(38,.int .i64 (Int.ofNat p)),(37,.slice (some ⟨oo,0,none⟩) p 2),(10,Z1),(0,Z2),(1,.int .i64 nn)],.push (.set (.is g1) o .dead) (.cells c true),[],[.cmp .lss j (Int.ofNat p) true,.off q 0 j p 2,.ldn (.is g) oo q 2 Z3,.len (.is g) b,.st Z9 b 0 Z3 Z3,.ld1 Z10 b 0 (.int .i64 k),.cmp .eql k 2 true,.stat (drawN Try.f31 0),.ld1 Z10 i 0 Z4,.ld1 Z10 b 1 (.int .i64 n),.call 47 [Z4,.int .i64 n] Z10 Z6 (.is g1),.app (.is g1) o 0 1 d 0 ln k' 1 8 c news f]):=by intros;kernel_rfl
end Go.Proofs.Ytlonjogfeidgfaa.c8p
namespace Go.Proofs.Ytlonjogfeidgfaa.c5p
open Go Go.Ev
set_option maxRecDepth 100000
set_option linter.unusedVariables false
theorem op_err(i r:Nat)(n u s e:Int)(su:Bool)(g g1 g2:Hp) :
  let Z1:Value:=.pointer (some ⟨i,0,none⟩)
  let Z2:Value:=.pointer (some ⟨r,0,none⟩)
  let Z3:Value:=.tuple #[.int .i64 s,.int .i64 e]
  pvFn Try.prog (pvCall Try.prog 0) Try.f36 [Z1,.int .i64 n,.bool su,.int .i64 u] (.is g) [.ret Z2 (.is g),.ret Z3 (.is g1),.bit false] =
  some (Z3,.is g1,[],[.call 45 [Z1] (.is g) Z2 (.is g),.call 61 [Z2,.int .i64 n,.bool su] (.is g) Z3 (.is g1),.cmp .eql e 0 false]):=by intros;kernel_rfl
theorem op_neg(i r:Nat)(n u s e:Int)(su:Bool)(g g1 g2:Hp) :
  let Z1:Value:=.pointer (some ⟨i,0,none⟩)
  let Z2:Value:=.pointer (some ⟨r,0,none⟩)
  let Z3:Value:=.tuple #[.int .i64 s,.int .i64 e]
  pvFn Try.prog (pvCall Try.prog 0) Try.f36 [Z1,.int .i64 n,.bool su,.int .i64 u] (.is g) [.ret Z2 (.is g),.ret Z3 (.is g1),.bit true,.bit false] =
  some (Z3,.is g1,[],[.call 45 [Z1] (.is g) Z2 (.is g),.call 61 [Z2,.int .i64 n,.bool su] (.is g) Z3 (.is g1),.cmp .eql e 0 true,.cmp .geq u 0 false]):=by intros;kernel_rfl
theorem op_big(i r:Nat)(n u s e:Int)(su:Bool)(g g1 g2:Hp) :
  let Z1:Value:=.pointer (some ⟨i,0,none⟩)
  let Z2:Value:=.pointer (some ⟨r,0,none⟩)
  let Z3:Value:=.tuple #[.int .i64 s,.int .i64 e]
  pvFn Try.prog (pvCall Try.prog 0) Try.f36 [Z1,.int .i64 n,.bool su,.int .i64 u] (.is g) [.ret Z2 (.is g),.ret Z3 (.is g1),.bit true,.bit true,.bit false] =
  some (Z3,.is g1,[],[.call 45 [Z1] (.is g) Z2 (.is g),.call 61 [Z2,.int .i64 n,.bool su] (.is g) Z3 (.is g1),.cmp .eql e 0 true,.cmp .geq u 0 true,.cmp .leq u 1000000000000 false]):=by intros;kernel_rfl
theorem op_go(i r:Nat)(n u s e:Int)(su:Bool)(g g1 g2:Hp) :
  let Z1:Value:=.pointer (some ⟨i,0,none⟩)
  let Z2:Value:=.pointer (some ⟨r,0,none⟩)
  let Z3:Value:=.tuple #[.int .i64 s,.int .i64 e]
  pvFn Try.prog (pvCall Try.prog 0) Try.f36 [Z1,.int .i64 n,.bool su,.int .i64 u] (.is g) [.ret Z2 (.is g),.ret Z3 (.is g1),.bit true,.bit true,.bit true,.ret (.tuple #[]) (.is g2)] =
  some (Z3,.is g2,[],[.call 45 [Z1] (.is g) Z2 (.is g),.call 61 [Z2,.int .i64 n,.bool su] (.is g) Z3 (.is g1),.cmp .eql e 0 true,.cmp .geq u 0 true,.cmp .leq u 1000000000000 true,.call 62 [.iface 95 (.pointer (some ⟨i,3,none⟩)),.iface 93 (.agg #[.int .i64 u,.int .i64 s])] (.is g1) (.tuple #[]) (.is g2)]):=by intros;kernel_rfl
theorem if_hit(i o len:Nat)(k:Int)(g g1:Hp) :
  let Z1:Value:=.slice (some ⟨o,0,none⟩) len 1
  pvFn Try.prog (pvCall Try.prog 0) Try.f91 [Z1,.func (.func 22) #[.pointer (some ⟨i,0,none⟩)] #[]] (.is g) [.loop .ret [(4,.int .i64 k)] (.is g1)] =
  some (.int .i64 k,.is g1,[],[.loop 19 false (loopN Try.f91 0) [(8,.int .i64 0),(7,.int .i64 (Int.ofNat len)),(6,Z1),(4,.int .i64 0),(0,Z1),(1,.func (Fn.func 22) #[.pointer (some ⟨i,0,none⟩)] #[])] (.is g) .ret [(4,.int .i64 k)] (.is g1)]):=by intros;kernel_rfl
theorem if_no(i o len:Nat)(E1:Env)(g g1:Hp) :
  let Z1:Value:=.slice (some ⟨o,0,none⟩) len 1
  pvFn Try.prog (pvCall Try.prog 0) Try.f91 [Z1,.func (.func 22) #[.pointer (some ⟨i,0,none⟩)] #[]] (.is g) [.loop (.exit 0) E1 (.is g1)] =
  some (.int .i64 (Int.negSucc 0),.is g1,[],[.loop 19 false (loopN Try.f91 0) [(8,.int .i64 0),(7,.int .i64 (Int.ofNat len)),(6,Z1),(4,.int .i64 0),(0,Z1),(1,.func (Fn.func 22) #[.pointer (some ⟨i,0,none⟩)] #[])] (.is g) (.exit 0) E1 (.is g1)]):=by intros;kernel_rfl
theorem il_out(j p:Int)(g:Hp) :
  pvCode Try.prog (pvCall Try.prog 0) 19 false (loopN Try.f91 0) [(8,.int .i64 j),(7,.int .i64 p)] (.is g) [.bit false] =
  some (.exit 0,[(9,.bool false),(8,.int .i64 j),(7,.int .i64 p)],.is g,[],[.cmp .lss j p false]):=by intros;kernel_rfl
theorem il_hit(i o len q:Nat)(j j1 x:Int)(g g1:Hp) :
  let Z1:Value:=.slice (some ⟨o,0,none⟩) len 1
  let Z2:Value:=.pointer (some ⟨i,0,none⟩)
  let Z3:Value:=.func (Fn.func 22) #[Z2] #[]
  pvCode Try.prog (pvCall Try.prog 0) 19 false (loopN Try.f91 0) [(8,.int .i64 j),(7,.int .i64 (Int.ofNat len)),(0,Z1),(1,.func (.func 22) #[Z2] #[])] (.is g) [.bit true,.offs q,.val (.int .i64 x),.ret (.bool true) (.is g1)] =
  some (.ret,[(4,.int .i64 j),(17,.int .i64 j),(16,.bool true),(15,.int .i64 x),(14,.pointer (some ⟨o,q,none⟩)),(13,.int .i64 j),(12,Z1),(11,Z3),(5,.int .i64 j),(10,.int .i64 j),(9,.bool true),(8,.int .i64 j),(7,.int .i64 (Int.ofNat len)),(0,Z1),(1,Z3)],.is g1,[],[.cmp .lss j (Int.ofNat len) true,.off q 0 j len 1,.ld1 (.is g) o q (.int .i64 x),.call 22 [Z2,.int .i64 x] (.is g) (.bool true) (.is g1)]):=by intros;kernel_rfl
theorem il_go(i o len q:Nat)(j j1 x:Int)(g g1:Hp) :
  let Z1:Value:=.slice (some ⟨o,0,none⟩) len 1
  let Z2:Value:=.pointer (some ⟨i,0,none⟩)
  let Z3:Value:=.func (Fn.func 22) #[Z2] #[]
  pvCode Try.prog (pvCall Try.prog 0) 19 false (loopN Try.f91 0) [(8,.int .i64 j),(7,.int .i64 (Int.ofNat len)),(0,Z1),(1,.func (.func 22) #[Z2] #[])] (.is g) [.bit true,.offs q,.val (.int .i64 x),.ret (.bool false) (.is g1),.num j1] =
  some (.normal,[(8,.int .i64 j1),(18,.int .i64 j1),(16,.bool false),(15,.int .i64 x),(14,.pointer (some ⟨o,q,none⟩)),(13,.int .i64 j),(12,Z1),(11,Z3),(5,.int .i64 j),(10,.int .i64 j),(9,.bool true),(8,.int .i64 j),(7,.int .i64 (Int.ofNat len)),(0,Z1),(1,Z3)],.is g1,[],[.cmp .lss j (Int.ofNat len) true,.off q 0 j len 1,.ld1 (.is g) o q (.int .i64 x),.call 22 [Z2,.int .i64 x] (.is g) (.bool false) (.is g1),.arith .add .i64 j 1 j1]):=by intros;kernel_rfl
theorem df_no(i o len:Nat)(k:Int)(g g1:Hp) :
  let Z1:Value:=.slice (some ⟨o,0,none⟩) len 1
  pvFn Try.prog (pvCall Try.prog 0) Try.f81 [Z1,.func (.func 22) #[.pointer (some ⟨i,0,none⟩)] #[]] (.is g) [.ret (.int .i64 k) (.is g1),.bit true] =
  some (Z1,.is g1,[],[.call 91 [Z1,.func (Fn.func 22) #[.pointer (some ⟨i,0,none⟩)] #[]] (.is g) (.int .i64 k) (.is g1),.cmp .eql k (Int.negSucc 0) true]):=by intros;kernel_rfl
theorem df(i o len:Nat)(k j1:Int)(p:Nat)(c:List Value)(g g1 g2:Hp) :
  let Z1:Value:=.slice (some ⟨o,0,none⟩) len 1
  let Z2:Env:=[(5,.int .i64 (Int.ofNat p)),(0,Z1)]
  let Z3:Value:=.func (Fn.func 22) #[.pointer (some ⟨i,0,none⟩)] #[]
  pvFn Try.prog (pvCall Try.prog 0) Try.f81 [Z1,.func (.func 22) #[.pointer (some ⟨i,0,none⟩)] #[]] (.is g) [.ret (.int .i64 k) (.is g1),.bit false,.num j1,.loop (.exit 0) Z2 (.is g2),.cut p len,.clr o c,.cut 0 p] =
  some (.slice (some ⟨o,0,none⟩) p 1,.set (.is g2) o (.cells c true),[],[.call 91 [Z1,Z3] (.is g) (.int .i64 k) (.is g1),.cmp .eql k (Int.negSucc 0) false,.arith .add .i64 k 1 j1,.loop 42 false (loopN Try.f81 0) [(6,.int .i64 j1),(15,.int .i64 j1),(14,.int .i64 k),(12,.bool false),(11,.int .i64 k),(5,.int .i64 k),(10,.int .i64 k),(9,Z3),(8,Z1),(4,.slice none 0 0),(0,Z1),(1,Z3)] (.is g1) (.exit 0) Z2 (.is g2),.cut (some (.int .i64 (Int.ofNat p))) none len p len,.clr (.is g2) 32 (.slice (some { block:=o,off:=0+p*1 }) (len-p) 1) o c,.cut none (some (.int .i64 (Int.ofNat p))) len 0 p]):=by intros;kernel_rfl
theorem dl_out(i o len j w q q2:Nat)(j1 w1 x:Int)(c:List Value)(g g1:Hp) :
  let Z1:Value:=.slice (some ⟨o,0,none⟩) len 1
  pvCode Try.prog (pvCall Try.prog 0) 42 false (loopN Try.f81 0) [(6,.int .i64 (Int.ofNat j)),(5,.int .i64 (Int.ofNat w)),(0,Z1),(1,.func (.func 22) #[.pointer (some ⟨i,0,none⟩)] #[])] (.is g) [.bit false] =
  some (.exit 0,[(19,.bool false),(18,.int .i64 (Int.ofNat len)),(17,Z1),(16,.int .i64 (Int.ofNat j)),(6,.int .i64 (Int.ofNat j)),(5,.int .i64 (Int.ofNat w)),(0,Z1),(1,.func (Fn.func 22) #[.pointer (some ⟨i,0,none⟩)] #[])],.is g,[],[.cmp .lss (Int.ofNat j) (Int.ofNat len) false]):=by intros;kernel_rfl
theorem dl_del(i o len j w q q2:Nat)(j1 w1 x:Int)(c:List Value)(g g1:Hp) :
  let Z1:Value:=.slice (some ⟨o,0,none⟩) len 1
  let Z2:Value:=.pointer (some ⟨i,0,none⟩)
  let Z3:Value:=.func (Fn.func 22) #[Z2] #[]
  pvCode Try.prog (pvCall Try.prog 0) 42 false (loopN Try.f81 0) [(6,.int .i64 (Int.ofNat j)),(5,.int .i64 (Int.ofNat w)),(0,Z1),(1,.func (.func 22) #[Z2] #[])] (.is g) [.bit true,.offs q,.val (.int .i64 x),.ret (.bool true) (.is g1),.num j1] =
  some (.normal,[(6,.int .i64 j1),(21,.int .i64 j1),(20,.int .i64 (Int.ofNat j)),(29,.bool false),(28,.bool true),(27,.int .i64 x),(26,Z3),(7,.int .i64 x),(25,.int .i64 x),(24,.pointer (some ⟨o,q,none⟩)),(23,.int .i64 (Int.ofNat j)),(22,Z1),(19,.bool true),(18,.int .i64 (Int.ofNat len)),(17,Z1),(16,.int .i64 (Int.ofNat j)),(6,.int .i64 (Int.ofNat j)),(5,.int .i64 (Int.ofNat w)),(0,Z1),(1,Z3)],.is g1,[],[.cmp .lss (Int.ofNat j) (Int.ofNat len) true,.off q 0 (Int.ofNat j) len 1,.ld1 (.is g) o q (.int .i64 x),.call 22 [Z2,.int .i64 x] (.is g) (.bool true) (.is g1),.arith .add .i64 (Int.ofNat j) 1 j1]):=by intros;kernel_rfl
theorem dl_keep(i o len j w q q2:Nat)(j1 w1 x:Int)(c:List Value)(g g1:Hp) :
  let Z1:Value:=.slice (some ⟨o,0,none⟩) len 1
  let Z2:Value:=.pointer (some ⟨i,0,none⟩)
  let Z3:Value:=.func (Fn.func 22) #[Z2] #[]
  pvCode Try.prog (pvCall Try.prog 0) 42 false (loopN Try.f81 0) [(6,.int .i64 (Int.ofNat j)),(5,.int .i64 (Int.ofNat w)),(0,Z1),(1,.func (.func 22) #[Z2] #[])] (.is g) [.bit true,.offs q,.val (.int .i64 x),.ret (.bool false) (.is g1),.offs q2,.cells c,.num w1,.num j1] =
  some (.normal,[(6,.int .i64 j1),(21,.int .i64 j1),(20,.int .i64 (Int.ofNat j)),(5,.int .i64 w1),(35,.int .i64 w1),(34,.int .i64 (Int.ofNat w)),(33,.pointer (some ⟨o,q2,none⟩)),(32,.int .i64 x),(31,.int .i64 (Int.ofNat w)),(30,Z1),(29,.bool true),(28,.bool false),(27,.int .i64 x),(26,Z3),(7,.int .i64 x),(25,.int .i64 x),(24,.pointer (some ⟨o,q,none⟩)),(23,.int .i64 (Int.ofNat j)),(22,Z1),(19,.bool true),(18,.int .i64 (Int.ofNat len)),(17,Z1),(16,.int .i64 (Int.ofNat j)),(6,.int .i64 (Int.ofNat j)),(5,.int .i64 (Int.ofNat w)),(0,Z1),(1,Z3)],.set (.is g1) o (.cells c true),[],[.cmp .lss (Int.ofNat j) (Int.ofNat len) true,.off q 0 (Int.ofNat j) len 1,.ld1 (.is g) o q (.int .i64 x),.call 22 [Z2,.int .i64 x] (.is g) (.bool false) (.is g1),.off q2 0 (Int.ofNat w) len 1,.st (.is g1) o q2 [.int .i64 x] c,.arith .add .i64 (Int.ofNat w) 1 w1,.arith .add .i64 (Int.ofNat j) 1 j1]):=by intros;kernel_rfl
theorem sk_had(i m o len:Nat)(n:Int)(g:Hp) :
  pvFn Try.prog (pvCall Try.prog 0) Try.f56 [.pointer (some ⟨i,0,none⟩),.map (some m),.int .i64 n,.slice (some ⟨o,0,none⟩) len 1] (.is g) [.val (.bool true)] =
  some (.slice none 0 0,.is g,[],[.lk (.is g) 84 (.map (some m)) (.int .i64 n) false (.bool true)]):=by intros;kernel_rfl
theorem sk(i m o len p:Nat)(n:Int)(es:List (Value×Value))(v:Value)(E1:Env)(g g1 g2:Hp) :
  let Z1:Value:=.pointer (some ⟨i,0,none⟩)
  let Z2:Value:=.slice (some ⟨o,0,none⟩) len 1
  let Z3:Value:=.slice (some ⟨o,0,none⟩) p 1
  let Z4:Value:=.func (Fn.func 22) #[Z1] #[]
  pvFn Try.prog (pvCall Try.prog 0) Try.f56 [Z1,.map (some m),.int .i64 n,Z2] (.is g) [.val (.bool false),.ret Z3 (.is g1),.mup m es,.loop (.exit 0) [(9,v)] (.is g2)] =
  some (v,.is g2,[],[.lk (.is g) 84 (.map (some m)) (.int .i64 n) false (.bool false),.call 81 [Z2,Z4] (.is g) Z3 (.is g1),.mup (.is g1) 84 (.map (some m)) (.int .i64 n) (.bool true) m es,.loop 37 false (loopN Try.f56 0) [(23,.int .i64 0),(22,.int .i64 (Int.ofNat p)),(21,Z3),(9,.slice none 0 0),(20,.int .i64 n),(19,.map (some m)),(3,Z3),(18,Z3),(17,Z4),(16,Z1),(15,Z2),(14,.bool false),(13,.int .i64 n),(12,.map (some m)),(8,.slice none 0 0),(0,Z1),(1,.map (some m)),(2,.int .i64 n),(3,Z2)] (.set (.is g1) m (.mp es)) (.exit 0) [(9,v)] (.is g2)]):=by intros;kernel_rfl
theorem sl_out(j p:Int)(v:Value)(g:Hp) :
  pvCode Try.prog (pvCall Try.prog 0) 37 false (loopN Try.f56 0) [(23,.int .i64 j),(22,.int .i64 p),(9,v)] (.is g) [.bit false] =
  some (.exit 0,[(24,.bool false),(23,.int .i64 j),(22,.int .i64 p),(9,v)],.is g,[],[.cmp .lss j p false]):=by intros;kernel_rfl
theorem sl_no(i o p q b d cnt:Nat)(j j1 x:Int)(oa:Option Addr)(za:Nat)(c news:List Value)(g g1:Hp) :
  let Z1:Value:=.pointer (some ⟨i,0,none⟩)
  pvCode Try.prog (pvCall Try.prog 0) 37 false (loopN Try.f56 0) [(23,.int .i64 j),(22,.int .i64 (Int.ofNat p)),(21,.slice (some ⟨o,0,none⟩) p 1),(9,.slice oa cnt za),(0,Z1)] (.is g) [.bit true,.offs q,.val (.int .i64 x),.ret (.bool false) (.is g1),.num j1] =
  some (.normal,[(23,.int .i64 j1),(35,.int .i64 j1),(29,.bool false),(28,.int .i64 x),(27,Z1),(11,.int .i64 x),(26,.int .i64 x),(25,.pointer (some ⟨o,q,none⟩)),(24,.bool true),(23,.int .i64 j),(22,.int .i64 (Int.ofNat p)),(21,.slice (some ⟨o,0,none⟩) p 1),(9,.slice oa cnt za),(0,Z1)],.is g1,[],[.cmp .lss j (Int.ofNat p) true,.off q 0 j p 1,.ld1 (.is g) o q (.int .i64 x),.call 22 [Z1,.int .i64 x] (.is g) (.bool false) (.is g1),.arith .add .i64 j 1 j1]):=by intros;kernel_rfl
theorem sl_n(i o p q b d cnt:Nat)(j j1 x:Int)(oa:Option Addr)(za:Nat)(c news:List Value)(g g1:Hp) :
  let Z1:Value:=.pointer (some ⟨i,0,none⟩)
  let Z2:Value:=.slice (some ⟨d,0,none⟩) 1 5
  let Z3:List Value:=[.int .i64 2,.int .i64 x,.int .i64 0,.int .i64 0,.string { data:=#[] }]
  let Z4:AObj:=.cells Z3 true
  let Z5:SH:=.push (.is g1) Z4
  pvCode Try.prog (pvCall Try.prog 0) 37 false (loopN Try.f56 0) [(23,.int .i64 j),(22,.int .i64 (Int.ofNat p)),(21,.slice (some ⟨o,0,none⟩) p 1),(9,.slice none 0 0),(0,Z1)] (.is g) [.bit true,.offs q,.val (.int .i64 x),.ret (.bool true) (.is g1),.idx b,.app [] [.int .i64 2,.int .i64 x,.int .i64 0,.int .i64 0,.string ⟨#[]⟩] 0 d,.num j1] =
  some (.normal,[(23,.int .i64 j1),(35,.int .i64 j1),(9,Z2),(34,Z2),(33,.slice (some ⟨b,0,none⟩) 1 5),(32,.agg { toList:=Z3 }),(31,.int .i64 x),(30,.slice none 0 0),(29,.bool true),(28,.int .i64 x),(27,Z1),(11,.int .i64 x),(26,.int .i64 x),(25,.pointer (some ⟨o,q,none⟩)),(24,.bool true),(23,.int .i64 j),(22,.int .i64 (Int.ofNat p)),(21,.slice (some ⟨o,0,none⟩) p 1),(9,.slice none 0 0),(0,Z1)],.push Z5 Z4,[],[.cmp .lss j (Int.ofNat p) true,.off q 0 j p 1,.ld1 (.is g) o q (.int .i64 x),.call 22 [Z1,.int .i64 x] (.is g) (.bool true) (.is g1),.len (.is g1) b,.appNil Z5 b 0 1 0 5 48 Z3 d,.arith .add .i64 j 1 j1]):=by intros;kernel_rfl
theorem sl_s(i o p q b d cnt e:Nat)(j j1 x:Int)(c:List Value)(g g1:Hp) :
  let Z1:Value:=.slice (some ⟨e,0,none⟩) cnt 5
  let Z2:Value:=.pointer (some ⟨i,0,none⟩)
  let Z3:Value:=.slice (some ⟨d,0,none⟩) (Nat.succ cnt) 5
  let Z4:List Value:=[.int .i64 2,.int .i64 x,.int .i64 0,.int .i64 0,.string { data:=#[] }]
  let Z5:SH:=.push (.is g1) (.cells Z4 true)
  pvCode Try.prog (pvCall Try.prog 0) 37 false (loopN Try.f56 0) [(23,.int .i64 j),(22,.int .i64 (Int.ofNat p)),(21,.slice (some ⟨o,0,none⟩) p 1),(9,Z1),(0,Z2)] (.is g) [.bit true,.offs q,.val (.int .i64 x),.ret (.bool true) (.is g1),.idx b,.app c [.int .i64 2,.int .i64 x,.int .i64 0,.int .i64 0,.string ⟨#[]⟩] 0 d,.num j1] =
  some (.normal,[(23,.int .i64 j1),(35,.int .i64 j1),(9,Z3),(34,Z3),(33,.slice (some ⟨b,0,none⟩) 1 5),(32,.agg { toList:=Z4 }),(31,.int .i64 x),(30,Z1),(29,.bool true),(28,.int .i64 x),(27,Z2),(11,.int .i64 x),(26,.int .i64 x),(25,.pointer (some ⟨o,q,none⟩)),(24,.bool true),(23,.int .i64 j),(22,.int .i64 (Int.ofNat p)),(21,.slice (some ⟨o,0,none⟩) p 1),(9,Z1),(0,Z2)],.push (.set Z5 e .dead) (.cells c true),[],[.cmp .lss j (Int.ofNat p) true,.off q 0 j p 1,.ld1 (.is g) o q (.int .i64 x),.call 22 [Z2,.int .i64 x] (.is g) (.bool true) (.is g1),.len (.is g1) b,.app Z5 e 0 cnt b 0 1 0 5 48 c Z4 d,.arith .add .i64 j 1 j1]):=by intros;kernel_rfl
end Go.Proofs.Ytlonjogfeidgfaa.c5p
namespace Go.Proofs.Ytlonjogfeidgfaa.c3p
open Go Go.Ev
set_option maxRecDepth 100000
set_option linter.unusedVariables false
theorem ln(oa:Option Addr)(len z:Nat)(g:Hp) :
  pvFn Try.prog (pvCall Try.prog 0) Try.f109 [.slice oa len z] (.is g) [] =
  some (.int .i64 (Int.ofNat len),.is g,[],[]):=by intros;kernel_rfl
theorem le_ne(d len q1 q2:Nat)(i j a b s r:Int)(z:Bool)(g:Hp) :
  pvFn Try.prog (pvCall Try.prog 0) Try.f110 [.slice (some ⟨d,0,none⟩) len 2,.int .i64 i,.int .i64 j] (.is g) [.offs q1,.val (.int .i64 a),.offs q2,.val (.int .i64 b),.bit true,.offs q1,.val (.int .i64 a),.offs q2,.val (.int .i64 b),.bit z] =
  some (.bool z,.is g,[],[.stat (drawN Try.f110 0),.off q1 0 i len 2,.ld1 (.is g) d q1 (.int .i64 a),.off q2 0 j len 2,.ld1 (.is g) d q2 (.int .i64 b),.cmp .neq a b true,.stat (drawN Try.f110 1),.off q1 0 i len 2,.ld1 (.is g) d q1 (.int .i64 a),.off q2 0 j len 2,.ld1 (.is g) d q2 (.int .i64 b),.cmp .lss a b z]):=by intros;kernel_rfl
theorem le_eq(d len q1 q2:Nat)(i j a b s r:Int)(z:Bool)(g:Hp) :
  pvFn Try.prog (pvCall Try.prog 0) Try.f110 [.slice (some ⟨d,0,none⟩) len 2,.int .i64 i,.int .i64 j] (.is g) [.offs q1,.val (.int .i64 a),.offs q2,.val (.int .i64 b),.bit false,.offs q1,.val (.int .i64 s),.offs q2,.val (.int .i64 r),.bit z] =
  some (.bool z,.is g,[],[.stat (drawN Try.f110 0),.off q1 0 i len 2,.ld1 (.is g) d q1 (.int .i64 a),.off q2 0 j len 2,.ld1 (.is g) d q2 (.int .i64 b),.cmp .neq a b false,.stat (drawN Try.f110 2),.off q1 0 i len 2,.ld1 (.is g) d (Nat.succ q1) (.int .i64 s),.off q2 0 j len 2,.ld1 (.is g) d (Nat.succ q2) (.int .i64 r),.cmp .lss s r z]):=by intros;kernel_rfl
theorem sw(d len q1 q2:Nat)(i j a b s r:Int)(c1 c2:List Value)(g:Hp) :
  let Z1:List Value:=[.int .i64 b,.int .i64 r]
  let Z2:List Value:=[.int .i64 a,.int .i64 s]
  let Z3:SH:=.set (.is g) d (.cells c1 true)
  pvFn Try.prog (pvCall Try.prog 0) Try.f111 [.slice (some ⟨d,0,none⟩) len 2,.int .i64 i,.int .i64 j] (.is g) [.offs q2,.cells Z1,.offs q1,.cells Z2,.offs q1,.cells c1,.offs q2,.cells c2] =
  some (.tuple #[],.set Z3 d (.cells c2 true),[],[.stat (drawN Try.f111 0),.off q2 0 j len 2,.ldn (.is g) d q2 2 Z1,.off q1 0 i len 2,.ldn (.is g) d q1 2 Z2,.off q1 0 i len 2,.st (.is g) d q1 Z1 c1,.off q2 0 j len 2,.st Z3 d q2 Z2 c2]):=by intros;kernel_rfl
theorem pu_nil(i b p:Nat)(a s:Int)(c:List Value)(g:Hp) :
  let Z1:List Value:=[.int .i64 a,.int .i64 s]
  let Z2:AObj:=.cells Z1 true
  let Z3:SH:=.push (.is g) Z2
  let Z4:SH:=.push Z3 Z2
  pvFn Try.prog (pvCall Try.prog 0) Try.f113 [.pointer (some ⟨i,3,none⟩),.iface 93 (.agg #[.int .i64 a,.int .i64 s])] (.is g) [.val (.slice none 0 0),.idx b,.app [] Z1 0 p,.cells c] =
  some (.tuple #[],.set Z4 i (.cells c true),[],[.stat (drawN Try.f113 0),.ld1 (.is g) i 3 (.slice none 0 0),.len (.is g) b,.appNil Z3 b 0 1 0 2 16 Z1 p,.st Z4 i 3 [.slice (some ⟨p,0,none⟩) 1 2] c]):=by intros;kernel_rfl
theorem pu_go(i d len b p:Nat)(a s:Int)(c c2:List Value)(g:Hp) :
  let Z1:Value:=.slice (some ⟨d,0,none⟩) len 2
  let Z2:List Value:=[.int .i64 a,.int .i64 s]
  let Z3:SH:=.push (.is g) (.cells Z2 true)
  let Z4:SH:=.push (.set Z3 d .dead) (.cells c2 true)
  pvFn Try.prog (pvCall Try.prog 0) Try.f113 [.pointer (some ⟨i,3,none⟩),.iface 93 (.agg #[.int .i64 a,.int .i64 s])] (.is g) [.val Z1,.idx b,.app c2 Z2 0 p,.cells c] =
  some (.tuple #[],.set Z4 i (.cells c true),[],[.stat (drawN Try.f113 0),.ld1 (.is g) i 3 Z1,.len (.is g) b,.app Z3 d 0 len b 0 1 0 2 16 c2 Z2 p,.st Z4 i 3 [.slice (some ⟨p,0,none⟩) (Nat.succ len) 2] c]):=by intros;kernel_rfl
theorem up_end(i d len:Nat)(j k j1:Int)(v:Value)(oa:Option Addr)(ln za:Nat)(g g1 g2:Hp) :
  pvCode Try.prog (pvCall Try.prog 0) 23 false (loopN Try.f84 0) [(1,.int .i64 j),(0,.iface 95 (.pointer (some ⟨i,3,none⟩)))] (.is g) [.num j1,.num k,.bit true] =
  some (.exit 0,[(17,.bool true),(16,.tuple #[]),(15,.tuple #[]),(14,.tuple #[]),(13,.tuple #[]),(12,.tuple #[]),(11,.bool true),(10,.bool true),(9,.int .i64 j),(8,.int .i64 k),(4,.int .i64 k),(7,.int .i64 k),(6,.int .i64 j1),(5,.int .i64 j),(1,.int .i64 j),(0,.iface 95 (.pointer (some ⟨i,3,none⟩)))],.is g,[],[.arith .sub .i64 j 1 j1,.arith .quo .i64 j1 2 k,.cmp .eql k j true]):=by intros;kernel_rfl
theorem up_stop(i d len:Nat)(j k j1:Int)(v:Value)(oa:Option Addr)(ln za:Nat)(g g1 g2:Hp) :
  let Z1:Value:=.iface 95 (.pointer (some ⟨i,3,none⟩))
  pvCode Try.prog (pvCall Try.prog 0) 23 false (loopN Try.f84 0) [(1,.int .i64 j),(0,Z1)] (.is g) [.num j1,.num k,.bit false,.mth 110 (.slice oa ln za),.ret (.bool false) (.is g1)] =
  some (.exit 0, [(17, .bool true), (16, .bool true), (15, .bool false), (14, .int .i64 k), (13, .int .i64 j), (12, Z1), (11, .bool false), (10, .bool false), (9, .int .i64 j), (8, .int .i64 k), (4, .int .i64 k), (7, .int .i64 k), (6, .int .i64 j1), (5, .int .i64 j), (1, .int .i64 j), (0, Z1)], .is g1, [], [.arith .sub .i64 j 1 j1, .arith .quo .i64 j1 2 k, .cmp .eql k j false, .call 110 [.slice oa ln za, .int .i64 j, .int .i64 k] (.is g) (.bool false) (.is g1), .mth (.is g) "Less" Z1 110 (.slice oa ln za)]) := by intros; kernel_rfl
theorem up_go(i d len:Nat)(j k j1:Int)(v:Value)(oa:Option Addr)(ln za:Nat)(g g1 g2:Hp) :
  let Z1:Value:=.iface 95 (.pointer (some ⟨i,3,none⟩))
  pvCode Try.prog (pvCall Try.prog 0) 23 false (loopN Try.f84 0) [(1,.int .i64 j),(0,Z1)] (.is g) [.num j1,.num k,.bit false,.mth 110 (.slice oa ln za),.ret (.bool true) (.is g1),.mth 111 (.slice oa ln za),.ret (.tuple #[]) (.is g2)] =
  some (.normal, [(1, .int .i64 k), (22, .int .i64 k), (21, .tuple #[]), (20, .int .i64 j), (19, .int .i64 k), (18, Z1), (17, .bool false), (16, .bool false), (15, .bool true), (14, .int .i64 k), (13, .int .i64 j), (12, Z1), (11, .bool false), (10, .bool false), (9, .int .i64 j), (8, .int .i64 k), (4, .int .i64 k), (7, .int .i64 k), (6, .int .i64 j1), (5, .int .i64 j), (1, .int .i64 j), (0, Z1)], .is g2, [], [.arith .sub .i64 j 1 j1, .arith .quo .i64 j1 2 k, .cmp .eql k j false, .call 110 [.slice oa ln za, .int .i64 j, .int .i64 k] (.is g) (.bool true) (.is g1), .mth (.is g) "Less" Z1 110 (.slice oa ln za), .call 111 [.slice oa ln za, .int .i64 k, .int .i64 j] (.is g1) (.tuple #[]) (.is g2), .mth (.is g1) "Swap" Z1 111 (.slice oa ln za)]) := by intros; kernel_rfl
theorem up(i:Nat)(j:Int)(E1:Env)(g g1:Hp) :
  let Z1:Value:=.iface 95 (.pointer (some ⟨i,3,none⟩))
  pvFn Try.prog (pvCall Try.prog 0) Try.f84 [Z1,.int .i64 j] (.is g) [.loop (.exit 0) E1 (.is g1)] =
  some (.tuple #[],.is g1,[],[.loop 23 false (loopN Try.f84 0) [(0,Z1),(1,.int .i64 j)] (.is g) (.exit 0) E1 (.is g1)]):=by intros;kernel_rfl
theorem hp(i ln za:Nat)(oa:Option Addr)(x:Value)(n n1:Int)(g g1 g2:Hp) :
  let Z1:Value:=.pointer (some ⟨i,3,none⟩)
  let Z2:Value:=.iface 95 Z1
  pvFn Try.prog (pvCall Try.prog 0) Try.f62 [Z2,x] (.is g) [.mth 113 Z1,.ret (.tuple #[]) (.is g1),.mth 109 (.slice oa ln za),.ret (.int .i64 n) (.is g1),.num n1,.ret (.tuple #[]) (.is g2)] =
  some (.tuple #[], .is g2, [], [.call 113 [Z1, x] (.is g) (.tuple #[]) (.is g1), .mth (.is g) "Push" Z2 113 Z1, .call 109 [.slice oa ln za] (.is g1) (.int .i64 n) (.is g1), .mth (.is g1) "Len" Z2 109 (.slice oa ln za), .arith .sub .i64 n 1 n1, .call 84 [Z2, .int .i64 n1] (.is g1) (.tuple #[]) (.is g2)]) := by intros; kernel_rfl
end Go.Proofs.Ytlonjogfeidgfaa.c3p
namespace Go.Proofs.Ytlonjogfeidgfaa.c1p
open Go Go.Ev
set_option maxRecDepth 100000
set_option linter.unusedVariables false
theorem tr(i r:Nat)(g:Hp) :
  let Z1:Value:=.pointer (some ⟨r,0,none⟩)
  pvFn Try.prog (pvCall Try.prog 0) Try.f45 [.pointer (some ⟨i,0,none⟩)] (.is g) [.val Z1] =
  some (Z1,.is g,[],[.ld1 (.is g) i 0 Z1]):=by intros;kernel_rfl
theorem ro(i r:Nat)(x y:Value)(g g1:Hp) :
  let Z1:List Value:=[.pointer (some ⟨i,0,none⟩)]
  let Z2:Value:=.pointer (some ⟨r,0,none⟩)
  pvFn Try.prog (pvCall Try.prog 0) Try.f41 Z1 (.is g) [.ret Z2 (.is g),.ret (.tuple #[x,y]) (.is g1)] =
  some (.tuple #[x,y],.is g1,[],[.call 45 Z1 (.is g) Z2 (.is g),.call 68 [Z2] (.is g) (.tuple #[x,y]) (.is g1)]):=by intros;kernel_rfl
theorem sh(i r:Nat)(n:Int)(x:Value)(g g1:Hp) :
  let Z1:Value:=.pointer (some ⟨i,0,none⟩)
  let Z2:Value:=.pointer (some ⟨r,0,none⟩)
  pvFn Try.prog (pvCall Try.prog 0) Try.f26 [Z1,.int .i64 n] (.is g) [.ret Z2 (.is g),.ret x (.is g1)] =
  some (x,.is g1,[],[.call 45 [Z1] (.is g) Z2 (.is g),.call 50 [Z2,.int .i64 n] (.is g) x (.is g1)]):=by intros;kernel_rfl
theorem un(i r:Nat)(n:Int)(x:Value)(g g1:Hp) :
  let Z1:Value:=.pointer (some ⟨i,0,none⟩)
  let Z2:Value:=.pointer (some ⟨r,0,none⟩)
  pvFn Try.prog (pvCall Try.prog 0) Try.f27 [Z1,.int .i64 n] (.is g) [.ret Z2 (.is g),.ret x (.is g1)] =
  some (x,.is g1,[],[.call 45 [Z1] (.is g) Z2 (.is g),.call 51 [Z2,.int .i64 n] (.is g) x (.is g1)]):=by intros;kernel_rfl
theorem sp(i r:Nat)(n:Int)(x y:Value)(g g1:Hp) :
  let Z1:Value:=.pointer (some ⟨i,0,none⟩)
  let Z2:Value:=.pointer (some ⟨r,0,none⟩)
  pvFn Try.prog (pvCall Try.prog 0) Try.f37 [Z1,.int .i64 n] (.is g) [.ret Z2 (.is g),.ret (.tuple #[x,y]) (.is g1)] =
  some (.tuple #[x,y],.is g1,[],[.call 45 [Z1] (.is g) Z2 (.is g),.call 63 [Z2,.int .i64 n] (.is g) (.tuple #[x,y]) (.is g1)]):=by intros;kernel_rfl
theorem ne_low(n e:Int)(g g1:Hp) :
  let Z1:Value:=.tuple #[.pointer none,.int .i64 e]
  pvFn Try.prog (pvCall Try.prog 0) Try.f10 [.int .i64 n] (.is g) [.ret Z1 (.is g1),.bit true] =
  some (Z1,.is g1,[],[.call 43 [.int .i64 n] (.is g) Z1 (.is g1),.cmp .neq e 0 true]):=by intros;kernel_rfl
theorem ne_ok(n:Int)(r m m2 q:Nat)(g g1:Hp) :
  let Z1:Value:=.pointer (some ⟨r,0,none⟩)
  let Z2:Value:=.tuple #[Z1,.int .i64 0]
  let Z3:SH:=.push (.is g1) (.mp [])
  let Z4:SH:=.push Z3 (.mp [])
  pvFn Try.prog (pvCall Try.prog 0) Try.f10 [.int .i64 n] (.is g) [.ret Z2 (.is g1),.bit false,.idx m,.idx m2,.idx q] =
  some (.tuple #[.pointer (some ⟨q,0,none⟩),.int .i64 0],.push Z4 (.cells [Z1,.map (some m),.map (some m2),.slice none 0 0] true),[],[.call 43 [.int .i64 n] (.is g) Z2 (.is g1),.cmp .neq 0 0 false,.len (.is g1) m,.len Z3 m2,.len Z4 q]):=by intros;kernel_rfl
theorem pe_nil(i r:Nat)(n e:Int)(E1:Env)(g g1:Hp) :
  let Z1:Value:=.pointer (some ⟨i,0,none⟩)
  let Z2:Value:=.pointer (some ⟨r,0,none⟩)
  let Z3:Value:=.tuple #[.slice none 0 0,.int .i64 e]
  pvFn Try.prog (pvCall Try.prog 0) Try.f22 [Z1,.int .i64 n] (.is g) [.ret Z2 (.is g),.ret Z3 (.is g1),.loop (.exit 0) E1 (.is g1)] =
  some (.bool false,.is g1,[],[.call 45 [Z1] (.is g) Z2 (.is g),.call 48 [Z2,.int .i64 n] (.is g) Z3 (.is g1),.loop 52 false (loopN Try.f22 0) [(18,.int .i64 0),(17,.int .i64 0),(16,.slice none 0 0),(6,.int .i64 e),(5,.slice none 0 0),(15,.int .i64 e),(14,.slice none 0 0),(9,Z3),(13,Z3),(12,.int .i64 n),(11,Z2),(10,Z1),(4,.bool false),(0,Z1),(1,.int .i64 n)] (.is g1) (.exit 0) E1 (.is g1)]):=by intros;kernel_rfl
theorem pe_go(i r o len:Nat)(n e:Int)(z:Bool)(g g1 g2:Hp) :
  let Z1:Value:=.pointer (some ⟨i,0,none⟩)
  let Z2:Value:=.pointer (some ⟨r,0,none⟩)
  let Z3:Value:=.slice (some ⟨o,0,none⟩) len 2
  let Z4:Value:=.tuple #[Z3,.int .i64 e]
  pvFn Try.prog (pvCall Try.prog 0) Try.f22 [Z1,.int .i64 n] (.is g) [.ret Z2 (.is g),.ret Z4 (.is g1),.loop .ret [(4,.bool z)] (.is g2)] =
  some (.bool z,.is g2,[],[.call 45 [Z1] (.is g) Z2 (.is g),.call 48 [Z2,.int .i64 n] (.is g) Z4 (.is g1),.loop 52 false (loopN Try.f22 0) [(18,.int .i64 0),(17,.int .i64 (Int.ofNat len)),(16,Z3),(6,.int .i64 e),(5,Z3),(15,.int .i64 e),(14,Z3),(9,Z4),(13,Z4),(12,.int .i64 n),(11,Z2),(10,Z1),(4,.bool false),(0,Z1),(1,.int .i64 n)] (.is g1) .ret [(4,.bool z)] (.is g2)]):=by intros;kernel_rfl
theorem pe_end(i r o len:Nat)(n e:Int)(E1:Env)(g g1 g2:Hp) :
  let Z1:Value:=.pointer (some ⟨i,0,none⟩)
  let Z2:Value:=.pointer (some ⟨r,0,none⟩)
  let Z3:Value:=.slice (some ⟨o,0,none⟩) len 2
  let Z4:Value:=.tuple #[Z3,.int .i64 e]
  pvFn Try.prog (pvCall Try.prog 0) Try.f22 [Z1,.int .i64 n] (.is g) [.ret Z2 (.is g),.ret Z4 (.is g1),.loop (.exit 0) E1 (.is g2)] =
  some (.bool false,.is g2,[],[.call 45 [Z1] (.is g) Z2 (.is g),.call 48 [Z2,.int .i64 n] (.is g) Z4 (.is g1),.loop 52 false (loopN Try.f22 0) [(18,.int .i64 0),(17,.int .i64 (Int.ofNat len)),(16,Z3),(6,.int .i64 e),(5,Z3),(15,.int .i64 e),(14,Z3),(9,Z4),(13,Z4),(12,.int .i64 n),(11,Z2),(10,Z1),(4,.bool false),(0,Z1),(1,.int .i64 n)] (.is g1) (.exit 0) E1 (.is g2)]):=by intros;kernel_rfl
theorem pl_out(j p:Int)(g:Hp) :
  pvCode Try.prog (pvCall Try.prog 0) 52 false (loopN Try.f22 0) [(18,.int .i64 j),(17,.int .i64 p)] (.is g) [.bit false] =
  some (.exit 0,[(19,.bool false),(18,.int .i64 j),(17,.int .i64 p)],.is g,[],[.cmp .lss j p false]):=by intros;kernel_rfl
theorem pl_sh(i o len j q b:Nat)(m1 m2:Nat)(x y j1:Int)(z z2:Bool)(g:Hp) :
  let Z1:List Value:=[.int .i64 x,.int .i64 y]
  let Z2:Value:=.pointer (some ⟨b,0,none⟩)
  let Z3:SH:=.push (.is g) (.cells [.int .i64 0,.int .i64 0] true)
  let Z4:SH:=.set Z3 b (.cells Z1 true)
  pvCode Try.prog (pvCall Try.prog 0) 52 false (loopN Try.f22 0) [(18,.int .i64 (Int.ofNat j)),(17,.int .i64 (Int.ofNat len)),(16,.slice (some ⟨o,0,none⟩) len 2),(0,.pointer (some ⟨i,0,none⟩))] (.is g) [.bit true,.offs q,.cells Z1,.idx b,.cells Z1,.val (.int .i64 x),.bit true] =
  some (.ret,[(4,.bool false),(22,.bool true),(25,.bool true),(24,.int .i64 x),(23,Z2),(8,Z2),(21,.agg #[.int .i64 x,.int .i64 y]),(20,.pointer (some ⟨o,q,none⟩)),(19,.bool true),(18,.int .i64 (Int.ofNat j)),(17,.int .i64 (Int.ofNat len)),(16,.slice (some ⟨o,0,none⟩) len 2),(0,.pointer (some ⟨i,0,none⟩))],Z4,[],[.cmp .lss (Int.ofNat j) (Int.ofNat len) true,.off q 0 (Int.ofNat j) len 2,.ldn (.is g) o q 2 Z1,.len (.is g) b,.st Z3 b 0 Z1 Z1,.ld1 Z4 b 0 (.int .i64 x),.cmp .eql x 3 true]):=by intros;kernel_rfl
theorem pl_t1(i o len j q b:Nat)(m1 m2:Nat)(x y j1:Int)(z z2:Bool)(g:Hp) :
  let Z1:Value:=.pointer (some ⟨i,0,none⟩)
  let Z2:List Value:=[.int .i64 x,.int .i64 y]
  let Z3:Value:=.pointer (some ⟨b,0,none⟩)
  let Z4:SH:=.push (.is g) (.cells [.int .i64 0,.int .i64 0] true)
  let Z5:SH:=.set Z4 b (.cells Z2 true)
  pvCode Try.prog (pvCall Try.prog 0) 52 false (loopN Try.f22 0) [(18,.int .i64 (Int.ofNat j)),(17,.int .i64 (Int.ofNat len)),(16,.slice (some ⟨o,0,none⟩) len 2),(0,Z1)] (.is g) [.bit true,.offs q,.cells Z2,.idx b,.cells Z2,.val (.int .i64 x),.bit false,.val (.int .i64 x),.bit true,.val (.map (some m1)),.val (.int .i64 y),.val (.bool true)] =
  some (.ret,[(4,.bool true),(26,.bool true),(38,.bool true),(37,.bool true),(36,.int .i64 y),(35,.pointer (some ⟨b,1,none⟩)),(34,.map (some m1)),(33,.pointer (some ⟨i,1,none⟩)),(32,Z1),(31,Z1),(30,.bool true),(29,.bool true),(28,.int .i64 x),(27,Z3),(22,.bool false),(25,.bool false),(24,.int .i64 x),(23,Z3),(8,Z3),(21,.agg #[.int .i64 x,.int .i64 y]),(20,.pointer (some ⟨o,q,none⟩)),(19,.bool true),(18,.int .i64 (Int.ofNat j)),(17,.int .i64 (Int.ofNat len)),(16,.slice (some ⟨o,0,none⟩) len 2),(0,Z1)],Z5,[],[.cmp .lss (Int.ofNat j) (Int.ofNat len) true,.off q 0 (Int.ofNat j) len 2,.ldn (.is g) o q 2 Z2,.len (.is g) b,.st Z4 b 0 Z2 Z2,.ld1 Z5 b 0 (.int .i64 x),.cmp .eql x 3 false,.stat (drawN Try.f22 0),.ld1 Z5 b 0 (.int .i64 x),.cmp .eql x 1 true,.ld1 Z5 i 1 (.map (some m1)),.ld1 Z5 b 1 (.int .i64 y),.lk Z5 84 (.map (some m1)) (.int .i64 y) false (.bool true)]):=by intros;kernel_rfl
theorem pl_t0(i o len j q b:Nat)(m1 m2:Nat)(x y j1:Int)(z z2:Bool)(g:Hp) :
  let Z1:Value:=.pointer (some ⟨i,0,none⟩)
  let Z2:List Value:=[.int .i64 x,.int .i64 y]
  let Z3:Value:=.pointer (some ⟨b,0,none⟩)
  let Z4:SH:=.push (.is g) (.cells [.int .i64 0,.int .i64 0] true)
  let Z5:SH:=.set Z4 b (.cells Z2 true)
  pvCode Try.prog (pvCall Try.prog 0) 52 false (loopN Try.f22 0) [(18,.int .i64 (Int.ofNat j)),(17,.int .i64 (Int.ofNat len)),(16,.slice (some ⟨o,0,none⟩) len 2),(0,Z1)] (.is g) [.bit true,.offs q,.cells Z2,.idx b,.cells Z2,.val (.int .i64 x),.bit false,.val (.int .i64 x),.bit true,.val (.map (some m1)),.val (.int .i64 y),.val (.bool false),.val (.int .i64 x),.bit false,.num j1] =
  some (.normal,[(18,.int .i64 j1),(51,.int .i64 j1),(26,.bool false),(50,.bool false),(49,.tuple #[]),(48,.tuple #[]),(47,.tuple #[]),(46,.tuple #[]),(45,.tuple #[]),(44,.tuple #[]),(43,.tuple #[]),(42,.bool false),(41,.bool false),(40,.int .i64 x),(39,Z3),(26,.bool false),(38,.bool false),(37,.bool false),(36,.int .i64 y),(35,.pointer (some ⟨b,1,none⟩)),(34,.map (some m1)),(33,.pointer (some ⟨i,1,none⟩)),(32,Z1),(31,Z1),(30,.bool true),(29,.bool true),(28,.int .i64 x),(27,Z3),(22,.bool false),(25,.bool false),(24,.int .i64 x),(23,Z3),(8,Z3),(21,.agg #[.int .i64 x,.int .i64 y]),(20,.pointer (some ⟨o,q,none⟩)),(19,.bool true),(18,.int .i64 (Int.ofNat j)),(17,.int .i64 (Int.ofNat len)),(16,.slice (some ⟨o,0,none⟩) len 2),(0,Z1)],Z5,[],[.cmp .lss (Int.ofNat j) (Int.ofNat len) true,.off q 0 (Int.ofNat j) len 2,.ldn (.is g) o q 2 Z2,.len (.is g) b,.st Z4 b 0 Z2 Z2,.ld1 Z5 b 0 (.int .i64 x),.cmp .eql x 3 false,.stat (drawN Try.f22 0),.ld1 Z5 b 0 (.int .i64 x),.cmp .eql x 1 true,.ld1 Z5 i 1 (.map (some m1)),.ld1 Z5 b 1 (.int .i64 y),.lk Z5 84 (.map (some m1)) (.int .i64 y) false (.bool false),.stat (drawN Try.f22 1),.ld1 Z5 b 0 (.int .i64 x),.cmp .eql x 2 false,.arith .add .i64 (Int.ofNat j) 1 j1]):=by intros;kernel_rfl
theorem pl_s1(i o len j q b:Nat)(m1 m2:Nat)(x y j1:Int)(z z2:Bool)(g:Hp) :
  let Z1:Value:=.pointer (some ⟨i,0,none⟩)
  let Z2:List Value:=[.int .i64 x,.int .i64 y]
  let Z3:Value:=.pointer (some ⟨b,0,none⟩)
  let Z4:SH:=.push (.is g) (.cells [.int .i64 0,.int .i64 0] true)
  let Z5:SH:=.set Z4 b (.cells Z2 true)
  pvCode Try.prog (pvCall Try.prog 0) 52 false (loopN Try.f22 0) [(18,.int .i64 (Int.ofNat j)),(17,.int .i64 (Int.ofNat len)),(16,.slice (some ⟨o,0,none⟩) len 2),(0,Z1)] (.is g) [.bit true,.offs q,.cells Z2,.idx b,.cells Z2,.val (.int .i64 x),.bit false,.val (.int .i64 x),.bit false,.val (.int .i64 x),.bit true,.val (.map (some m2)),.val (.int .i64 y),.val (.bool true)] =
  some (.ret,[(4,.bool true),(26,.bool true),(50,.bool true),(49,.bool true),(48,.int .i64 y),(47,.pointer (some ⟨b,1,none⟩)),(46,.map (some m2)),(45,.pointer (some ⟨i,2,none⟩)),(44,Z1),(43,Z1),(42,.bool true),(41,.bool true),(40,.int .i64 x),(39,Z3),(26,.bool false),(38,.bool false),(37,.tuple #[]),(36,.tuple #[]),(35,.tuple #[]),(34,.tuple #[]),(33,.tuple #[]),(32,.tuple #[]),(31,.tuple #[]),(30,.bool false),(29,.bool false),(28,.int .i64 x),(27,Z3),(22,.bool false),(25,.bool false),(24,.int .i64 x),(23,Z3),(8,Z3),(21,.agg #[.int .i64 x,.int .i64 y]),(20,.pointer (some ⟨o,q,none⟩)),(19,.bool true),(18,.int .i64 (Int.ofNat j)),(17,.int .i64 (Int.ofNat len)),(16,.slice (some ⟨o,0,none⟩) len 2),(0,Z1)],Z5,[],[.cmp .lss (Int.ofNat j) (Int.ofNat len) true,.off q 0 (Int.ofNat j) len 2,.ldn (.is g) o q 2 Z2,.len (.is g) b,.st Z4 b 0 Z2 Z2,.ld1 Z5 b 0 (.int .i64 x),.cmp .eql x 3 false,.stat (drawN Try.f22 0),.ld1 Z5 b 0 (.int .i64 x),.cmp .eql x 1 false,.stat (drawN Try.f22 1),.ld1 Z5 b 0 (.int .i64 x),.cmp .eql x 2 true,.ld1 Z5 i 2 (.map (some m2)),.ld1 Z5 b 1 (.int .i64 y),.lk Z5 84 (.map (some m2)) (.int .i64 y) false (.bool true)]):=by intros;kernel_rfl
theorem pl_s0(i o len j q b:Nat)(m1 m2:Nat)(x y j1:Int)(z z2:Bool)(g:Hp) :
  let Z1:Value:=.pointer (some ⟨i,0,none⟩)
  let Z2:List Value:=[.int .i64 x,.int .i64 y]
  let Z3:Value:=.pointer (some ⟨b,0,none⟩)
  let Z4:SH:=.push (.is g) (.cells [.int .i64 0,.int .i64 0] true)
  let Z5:SH:=.set Z4 b (.cells Z2 true)
  pvCode Try.prog (pvCall Try.prog 0) 52 false (loopN Try.f22 0) [(18,.int .i64 (Int.ofNat j)),(17,.int .i64 (Int.ofNat len)),(16,.slice (some ⟨o,0,none⟩) len 2),(0,Z1)] (.is g) [.bit true,.offs q,.cells Z2,.idx b,.cells Z2,.val (.int .i64 x),.bit false,.val (.int .i64 x),.bit false,.val (.int .i64 x),.bit true,.val (.map (some m2)),.val (.int .i64 y),.val (.bool false),.num j1] =
  some (.normal,[(18,.int .i64 j1),(51,.int .i64 j1),(26,.bool false),(50,.bool false),(49,.bool false),(48,.int .i64 y),(47,.pointer (some ⟨b,1,none⟩)),(46,.map (some m2)),(45,.pointer (some ⟨i,2,none⟩)),(44,Z1),(43,Z1),(42,.bool true),(41,.bool true),(40,.int .i64 x),(39,Z3),(26,.bool false),(38,.bool false),(37,.tuple #[]),(36,.tuple #[]),(35,.tuple #[]),(34,.tuple #[]),(33,.tuple #[]),(32,.tuple #[]),(31,.tuple #[]),(30,.bool false),(29,.bool false),(28,.int .i64 x),(27,Z3),(22,.bool false),(25,.bool false),(24,.int .i64 x),(23,Z3),(8,Z3),(21,.agg #[.int .i64 x,.int .i64 y]),(20,.pointer (some ⟨o,q,none⟩)),(19,.bool true),(18,.int .i64 (Int.ofNat j)),(17,.int .i64 (Int.ofNat len)),(16,.slice (some ⟨o,0,none⟩) len 2),(0,Z1)],Z5,[],[.cmp .lss (Int.ofNat j) (Int.ofNat len) true,.off q 0 (Int.ofNat j) len 2,.ldn (.is g) o q 2 Z2,.len (.is g) b,.st Z4 b 0 Z2 Z2,.ld1 Z5 b 0 (.int .i64 x),.cmp .eql x 3 false,.stat (drawN Try.f22 0),.ld1 Z5 b 0 (.int .i64 x),.cmp .eql x 1 false,.stat (drawN Try.f22 1),.ld1 Z5 b 0 (.int .i64 x),.cmp .eql x 2 true,.ld1 Z5 i 2 (.map (some m2)),.ld1 Z5 b 1 (.int .i64 y),.lk Z5 84 (.map (some m2)) (.int .i64 y) false (.bool false),.arith .add .i64 (Int.ofNat j) 1 j1]):=by intros;kernel_rfl
theorem pl_no(i o len j q b:Nat)(m1 m2:Nat)(x y j1:Int)(z z2:Bool)(g:Hp) :
  let Z1:List Value:=[.int .i64 x,.int .i64 y]
  let Z2:Value:=.pointer (some ⟨b,0,none⟩)
  let Z3:SH:=.push (.is g) (.cells [.int .i64 0,.int .i64 0] true)
  let Z4:SH:=.set Z3 b (.cells Z1 true)
  pvCode Try.prog (pvCall Try.prog 0) 52 false (loopN Try.f22 0) [(18,.int .i64 (Int.ofNat j)),(17,.int .i64 (Int.ofNat len)),(16,.slice (some ⟨o,0,none⟩) len 2),(0,.pointer (some ⟨i,0,none⟩))] (.is g) [.bit true,.offs q,.cells Z1,.idx b,.cells Z1,.val (.int .i64 x),.bit false,.val (.int .i64 x),.bit false,.val (.int .i64 x),.bit false,.num j1] =
  some (.normal,[(18,.int .i64 j1),(51,.int .i64 j1),(26,.bool false),(50,.bool false),(49,.tuple #[]),(48,.tuple #[]),(47,.tuple #[]),(46,.tuple #[]),(45,.tuple #[]),(44,.tuple #[]),(43,.tuple #[]),(42,.bool false),(41,.bool false),(40,.int .i64 x),(39,Z2),(26,.bool false),(38,.bool false),(37,.tuple #[]),(36,.tuple #[]),(35,.tuple #[]),(34,.tuple #[]),(33,.tuple #[]),(32,.tuple #[]),(31,.tuple #[]),(30,.bool false),(29,.bool false),(28,.int .i64 x),(27,Z2),(22,.bool false),(25,.bool false),(24,.int .i64 x),(23,Z2),(8,Z2),(21,.agg #[.int .i64 x,.int .i64 y]),(20,.pointer (some ⟨o,q,none⟩)),(19,.bool true),(18,.int .i64 (Int.ofNat j)),(17,.int .i64 (Int.ofNat len)),(16,.slice (some ⟨o,0,none⟩) len 2),(0,.pointer (some ⟨i,0,none⟩))],Z4,[],[.cmp .lss (Int.ofNat j) (Int.ofNat len) true,.off q 0 (Int.ofNat j) len 2,.ldn (.is g) o q 2 Z1,.len (.is g) b,.st Z3 b 0 Z1 Z1,.ld1 Z4 b 0 (.int .i64 x),.cmp .eql x 3 false,.stat (drawN Try.f22 0),.ld1 Z4 b 0 (.int .i64 x),.cmp .eql x 1 false,.stat (drawN Try.f22 1),.ld1 Z4 b 0 (.int .i64 x),.cmp .eql x 2 false,.arith .add .i64 (Int.ofNat j) 1 j1]):=by intros;kernel_rfl
end Go.Proofs.Ytlonjogfeidgfaa.c1p
namespace Go.Proofs.Ytlonjogfeidgfaa.r27p
open Go Go.Ev
set_option maxRecDepth 100000
set_option linter.unusedVariables false
theorem cl_nil(o n a d:Nat)(cs:List Value)(g:Hp) :
  pvFn Try.prog (pvCall Try.prog 0) Try.f82 [.slice none 0 0] (.is g) [] =
  some (.slice none 0 0,.is g,[],[]):=by intros;kernel_rfl
theorem cl_0(o n a d:Nat)(cs:List Value)(g:Hp) :
  let Z1:SH:=.push (.is g) (.cells [] true)
  pvFn Try.prog (pvCall Try.prog 0) Try.f82 [.slice (some ⟨o,0,none⟩) 0 1] (.is g) [.idx a,.app0] =
  some (.slice (some ⟨a,0,none⟩) 0 1,Z1,[],[.len (.is g) a,.app0 Z1 o 0 0]):=by intros;kernel_rfl
theorem cl_1(o n a d:Nat)(cs:List Value)(g:Hp) :
  let Z1:SH:=.push (.is g) (.cells [] true)
  pvFn Try.prog (pvCall Try.prog 0) Try.f82 [.slice (some ⟨o,0,none⟩) (n+1) 1] (.is g) [.idx a,.app cs cs n d] =
  some (.slice (some ⟨d,0,none⟩) (0+(n+1)) 1,.push (.set Z1 a .dead) (.cells cs true),[],[.len (.is g) a,.app Z1 a 0 0 o 0 (Nat.succ n) n 1 8 cs cs d]):=by intros;kernel_rfl
theorem cp(r b k:Nat)(oa ob oc:Option Addr)(la lb lc za zb zc:Nat)(g g1 g2 g3:Hp) :
  let Z1:Value:=.pointer (some ⟨r,0,none⟩)
  let Z2:Value:=.pointer (some ⟨b,0,none⟩)
  let Z3:Env:=[(3,Z2),(0,Z1)]
  let Z4:SH:=.push (.is g) (.cells [.slice none 0 0,.slice none 0 0] true)
  pvFn Try.prog (pvCall Try.prog 0) Try.f57 [Z1] (.is g) [.idx b,.val (.slice oa la za),.loop (.exit 0) Z3 (.is g1),.val (.slice ob lb zb),.loop (.exit 2) Z3 (.is g2),.val (.slice oc lc zc),.loop (.exit 6) Z3 (.is g3)] =
  some (Z2,.is g3,[],[.len (.is g) b,.ld1 Z4 r 0 (.slice oa la za),.loop 177 false (loopN Try.f57 0) [(25,.int .i64 0),(24,.int .i64 (Int.ofNat la)),(23,.slice oa la za),(22,Z1),(21,Z1),(20,Z1),(3,Z2),(19,Z2),(18,.agg #[.slice none 0 0,.slice none 0 0]),(17,.bool false),(16,Z1),(2,.pointer none),(0,Z1)] Z4 (.exit 0) Z3 (.is g1),.ld1 (.is g1) r 1 (.slice ob lb zb),.loop 177 false (loopN Try.f57 1) [(47,.int .i64 0),(46,.int .i64 (Int.ofNat lb)),(45,.slice ob lb zb),(44,.pointer (some ⟨r,1,none⟩)),(43,Z1),(42,Z1),(3,Z2),(0,Z1)] (.is g1) (.exit 2) Z3 (.is g2),.ld1 (.is g2) b 0 (.slice oc lc zc),.loop 177 false (loopN Try.f57 3) [(111,.int .i64 0),(110,.int .i64 (Int.ofNat lc)),(109,.slice oc lc zc),(108,Z2),(107,Z2),(106,Z2),(3,Z2),(0,Z1)] (.is g2) (.exit 6) Z3 (.is g3)]):=by intros;kernel_rfl
theorem c0_out(pin op:Option Addr)(lp zp:Nat)(n0:Int)(lv en:Bool)(fk:Int)(ft:ByteArray)(r b o q x d e z w:Nat)(oa:Option Addr)(la za n:Nat)(i i1:Int)(c7 news cs c2:List Value)(g:Hp) :
  pvCode Try.prog (pvCall Try.prog 0) 177 false (loopN Try.f57 0) [(25,.int .i64 i),(24,.int .i64 (Int.ofNat la)),(23,.slice oa la za),(3,.pointer (some ⟨b,0,none⟩)),(0,.pointer (some ⟨r,0,none⟩))] (.is g) [.bit false] =
  some (.exit 0,[(26,.bool false),(25,.int .i64 i),(24,.int .i64 (Int.ofNat la)),(23,.slice oa la za),(3,.pointer (some ⟨b,0,none⟩)),(0,.pointer (some ⟨r,0,none⟩))],.is g,[],[.cmp .lss i (Int.ofNat la) false]):=by intros;kernel_rfl
theorem c0_gon(pin op:Option Addr)(lp zp:Nat)(n0:Int)(lv en:Bool)(fk:Int)(ft:ByteArray)(r b o q x d e z w:Nat)(oa:Option Addr)(la za n:Nat)(i i1:Int)(c7 news cs c2:List Value)(g:Hp) :
  let Z1:Value:=.pointer (some ⟨b,0,none⟩)
  let Z2:Value:=.pointer (some ⟨x,0,none⟩)
  let Z3:List Value:=[.int .i64 n0,.pointer pin,.slice op lp zp,.bool lv,.bool en,.int .i64 fk,.string ft]
  let Z4:Value:=.slice (some ⟨z,0,none⟩) 1 1
  let Z5:Value:=.pointer (some ⟨d,0,none⟩)
  let Z6:SH:=.push (.is g) (.cells [.int .i64 0,.pointer none,.slice none 0 0,.bool false,.bool false,.int .i64 0,.string { data:=#[] }] true)
  let Z7:SH:=.set Z6 d (.cells c7 true)
  let Z8:SH:=.push Z7 (.cells [Z5] true)
  let Z9:SH:=.push Z8 (.cells news true)
  pvCode Try.prog (pvCall Try.prog 0) 177 false (loopN Try.f57 0) [(25,.int .i64 i),(24,.int .i64 (Int.ofNat la)),(23,.slice (some ⟨o,0,none⟩) la za),(3,Z1),(0,.pointer (some ⟨r,0,none⟩))] (.is g) [.bit true,.offs q,.val Z2,.cells Z3,.idx d,.cells c7,.val (.slice none 0 0),.idx e,.app [] news 0 z,.cells c2,.num i1] =
  some (.normal,[(25,.int .i64 i1),(41,.int .i64 i1),(40,Z1),(39,Z1),(38,Z4),(37,.slice (some ⟨e,0,none⟩) 1 1),(36,.slice none 0 0),(35,Z1),(34,Z1),(33,Z1),(32,Z1),(6,Z5),(31,.agg #[.int .i64 n0,.pointer pin,.slice op lp zp,.bool lv,.bool en,.int .i64 fk,.string ft]),(30,Z2),(29,Z2),(5,Z2),(28,Z2),(27,.pointer (some ⟨o,q,none⟩)),(26,.bool true),(25,.int .i64 i),(24,.int .i64 (Int.ofNat la)),(23,.slice (some ⟨o,0,none⟩) la za),(3,Z1),(0,.pointer (some ⟨r,0,none⟩))],.set Z9 b (.cells c2 true),[],[.cmp .lss i (Int.ofNat la) true,.off q 0 i la 1,.ld1 (.is g) o q Z2,.ldn (.is g) x 0 7 Z3,.len (.is g) d,.st Z6 d 0 Z3 c7,.ld1 Z7 b 0 (.slice none 0 0),.len Z7 e,.appNil Z8 e 0 1 0 1 8 news z,.st Z9 b 0 [Z4] c2,.arith .add .i64 i 1 i1]):=by intros;kernel_rfl
theorem c0_gos(pin op:Option Addr)(lp zp:Nat)(n0:Int)(lv en:Bool)(fk:Int)(ft:ByteArray)(r b o q x d e z w:Nat)(oa:Option Addr)(la za n:Nat)(i i1:Int)(c7 news cs c2:List Value)(g:Hp) :
  let Z1:Value:=.pointer (some ⟨b,0,none⟩)
  let Z2:Value:=.pointer (some ⟨x,0,none⟩)
  let Z3:List Value:=[.int .i64 n0,.pointer pin,.slice op lp zp,.bool lv,.bool en,.int .i64 fk,.string ft]
  let Z4:Value:=.slice (some ⟨w,0,none⟩) n 1
  let Z5:Value:=.slice (some ⟨z,0,none⟩) (Nat.succ n) 1
  let Z6:Value:=.pointer (some ⟨d,0,none⟩)
  let Z7:SH:=.push (.is g) (.cells [.int .i64 0,.pointer none,.slice none 0 0,.bool false,.bool false,.int .i64 0,.string { data:=#[] }] true)
  let Z8:SH:=.set Z7 d (.cells c7 true)
  let Z9:SH:=.push Z8 (.cells [Z6] true)
  let Z10:SH:=.push (.set Z9 w .dead) (.cells cs true)
  pvCode Try.prog (pvCall Try.prog 0) 177 false (loopN Try.f57 0) [(25,.int .i64 i),(24,.int .i64 (Int.ofNat la)),(23,.slice (some ⟨o,0,none⟩) la za),(3,Z1),(0,.pointer (some ⟨r,0,none⟩))] (.is g) [.bit true,.offs q,.val Z2,.cells Z3,.idx d,.cells c7,.val Z4,.idx e,.app cs news 0 z,.cells c2,.num i1] =
  some (.normal,[(25,.int .i64 i1),(41,.int .i64 i1),(40,Z1),(39,Z1),(38,Z5),(37,.slice (some ⟨e,0,none⟩) 1 1),(36,Z4),(35,Z1),(34,Z1),(33,Z1),(32,Z1),(6,Z6),(31,.agg #[.int .i64 n0,.pointer pin,.slice op lp zp,.bool lv,.bool en,.int .i64 fk,.string ft]),(30,Z2),(29,Z2),(5,Z2),(28,Z2),(27,.pointer (some ⟨o,q,none⟩)),(26,.bool true),(25,.int .i64 i),(24,.int .i64 (Int.ofNat la)),(23,.slice (some ⟨o,0,none⟩) la za),(3,Z1),(0,.pointer (some ⟨r,0,none⟩))],.set Z10 b (.cells c2 true),[],[.cmp .lss i (Int.ofNat la) true,.off q 0 i la 1,.ld1 (.is g) o q Z2,.ldn (.is g) x 0 7 Z3,.len (.is g) d,.st Z7 d 0 Z3 c7,.ld1 Z8 b 0 Z4,.len Z8 e,.app Z9 w 0 n e 0 1 0 1 8 cs news z,.st Z10 b 0 [Z5] c2,.arith .add .i64 i 1 i1]):=by intros;kernel_rfl
theorem c1_out(pin op:Option Addr)(lp zp:Nat)(n0:Int)(lv en:Bool)(fk:Int)(ft:ByteArray)(r b o q x d e z w y y2 q2 o2 l2:Nat)(oa ob:Option Addr)(la za lb zb n:Nat)(i i1 n1 n2 n3:Int)(c8 c81 c82 news cs c2:List Value)(g g1:Hp) :
  pvCode Try.prog (pvCall Try.prog 0) 177 false (loopN Try.f57 1) [(47,.int .i64 i),(46,.int .i64 (Int.ofNat la)),(45,.slice oa la za),(3,.pointer (some ⟨b,0,none⟩)),(0,.pointer (some ⟨r,0,none⟩))] (.is g) [.bit false] =
  some (.exit 2,[(48,.bool false),(47,.int .i64 i),(46,.int .i64 (Int.ofNat la)),(45,.slice oa la za),(3,.pointer (some ⟨b,0,none⟩)),(0,.pointer (some ⟨r,0,none⟩))],.is g,[],[.cmp .lss i (Int.ofNat la) false]):=by intros;kernel_rfl
theorem c1_gon(pin op:Option Addr)(lp zp:Nat)(n0:Int)(lv en:Bool)(fk:Int)(ft:ByteArray)(r b o q x d e z w y y2 q2 o2 l2:Nat)(oa ob:Option Addr)(la za lb zb n:Nat)(i i1 n1 n2 n3:Int)(c8 c81 c82 news cs c2:List Value)(g g1:Hp) :
  let Z1:Value:=.pointer (some ⟨b,0,none⟩)
  let Z2:Value:=.pointer (some ⟨x,0,none⟩)
  let Z3:List Value:=[.int .i64 n0,.pointer pin,.bool lv,.bool en,.slice op lp zp,.int .i64 n1,.int .i64 fk,.string ft]
  let Z4:Value:=.slice (some ⟨o2,0,none⟩) l2 1
  let Z5:Value:=.pointer (some ⟨y,0,none⟩)
  let Z6:Value:=.pointer (some ⟨y2,0,none⟩)
  let Z7:Value:=.pointer (some ⟨d,0,none⟩)
  let Z8:Env:=[(9,Z7),(47,.int .i64 i),(46,.int .i64 (Int.ofNat la)),(45,.slice (some ⟨o,0,none⟩) la za),(3,Z1),(0,.pointer (some ⟨r,0,none⟩))]
  let Z9:Value:=.pointer (some ⟨b,1,none⟩)
  let Z10:Value:=.slice (some ⟨z,0,none⟩) 1 1
  let Z11:SH:=.push (.is g1) (.cells [Z7] true)
  let Z12:SH:=.push Z11 (.cells news true)
  let Z13:SH:=.push (.is g) (.cells [.int .i64 0,.pointer none,.bool false,.bool false,.slice none 0 0,.int .i64 0,.int .i64 0,.string { data:=#[] }] true)
  let Z14:SH:=.set Z13 d (.cells c8 true)
  let Z15:SH:=.set Z14 d (.cells c81 true)
  let Z16:SH:=.set Z15 d (.cells c82 true)
  pvCode Try.prog (pvCall Try.prog 0) 177 false (loopN Try.f57 1) [(47,.int .i64 i),(46,.int .i64 (Int.ofNat la)),(45,.slice (some ⟨o,0,none⟩) la za),(3,Z1),(0,.pointer (some ⟨r,0,none⟩))] (.is g) [.bit true,.offs q,.val Z2,.cells Z3,.idx d,.cells c8,.val Z4,.val Z5,.val (.int .i64 n2),.num n3,.offs q2,.val Z6,.cells c81,.cells c82,.val (.slice ob lb zb),.loop (.exit 4) Z8 (.is g1),.val (.slice none 0 0),.idx e,.app [] news 0 z,.cells c2,.num i1] =
  some (.normal,[(47,.int .i64 i1),(105,.int .i64 i1),(104,Z9),(103,Z1),(102,Z10),(101,.slice (some ⟨e,0,none⟩) 1 1),(100,.slice none 0 0),(99,Z9),(98,Z1),(97,Z1),(96,Z1),(9,Z7),(47,.int .i64 i),(46,.int .i64 (Int.ofNat la)),(45,.slice (some ⟨o,0,none⟩) la za),(3,Z1),(0,.pointer (some ⟨r,0,none⟩))],.set Z12 b (.cells c2 true),[],[.cmp .lss i (Int.ofNat la) true,.off q 0 i la 1,.ld1 (.is g) o q Z2,.ldn (.is g) x 0 8 Z3,.len (.is g) d,.st Z13 d 0 Z3 c8,.stat (drawN Try.f57 0),.ld1 Z14 b 0 Z4,.ld1 Z14 x 1 Z5,.ld1 Z14 y 0 (.int .i64 n2),.arith .sub .i64 n2 1 n3,.off q2 0 n3 l2 1,.ld1 Z14 o2 q2 Z6,.st Z14 d 1 [Z6] c81,.st Z15 d 4 [.slice none 0 0] c82,.ld1 Z16 x 4 (.slice ob lb zb),.loop 177 false (loopN Try.f57 2) [(75,.int .i64 0),(74,.int .i64 (Int.ofNat lb)),(73,.slice ob lb zb),(72,.pointer (some ⟨x,4,none⟩)),(71,Z2),(70,Z2),(69,.pointer (some ⟨d,4,none⟩)),(68,.pointer (some ⟨d,1,none⟩)),(67,Z6),(66,.pointer (some ⟨o2,q2,none⟩)),(65,.int .i64 n3),(64,.int .i64 n2),(63,Z5),(62,Z5),(61,Z5),(60,.pointer (some ⟨x,1,none⟩)),(59,Z2),(58,Z2),(57,Z4),(56,Z1),(55,Z1),(54,Z1),(9,Z7),(53,.agg #[.int .i64 n0,.pointer pin,.bool lv,.bool en,.slice op lp zp,.int .i64 n1,.int .i64 fk,.string ft]),(52,Z2),(51,Z2),(8,Z2),(50,Z2),(49,.pointer (some ⟨o,q,none⟩)),(48,.bool true),(47,.int .i64 i),(46,.int .i64 (Int.ofNat la)),(45,.slice (some ⟨o,0,none⟩) la za),(3,Z1),(0,.pointer (some ⟨r,0,none⟩))] Z16 (.exit 4) Z8 (.is g1),.ld1 (.is g1) b 1 (.slice none 0 0),.len (.is g1) e,.appNil Z11 e 0 1 0 1 8 news z,.st Z12 b 1 [Z10] c2,.arith .add .i64 i 1 i1]):=by intros;kernel_rfl
theorem c1_gos(pin op:Option Addr)(lp zp:Nat)(n0:Int)(lv en:Bool)(fk:Int)(ft:ByteArray)(r b o q x d e z w y y2 q2 o2 l2:Nat)(oa ob:Option Addr)(la za lb zb n:Nat)(i i1 n1 n2 n3:Int)(c8 c81 c82 news cs c2:List Value)(g g1:Hp) :
  let Z1:Value:=.pointer (some ⟨b,0,none⟩)
  let Z2:Value:=.pointer (some ⟨x,0,none⟩)
  let Z3:List Value:=[.int .i64 n0,.pointer pin,.bool lv,.bool en,.slice op lp zp,.int .i64 n1,.int .i64 fk,.string ft]
  let Z4:Value:=.slice (some ⟨o2,0,none⟩) l2 1
  let Z5:Value:=.pointer (some ⟨y,0,none⟩)
  let Z6:Value:=.pointer (some ⟨y2,0,none⟩)
  let Z7:Value:=.pointer (some ⟨d,0,none⟩)
  let Z8:Env:=[(9,Z7),(47,.int .i64 i),(46,.int .i64 (Int.ofNat la)),(45,.slice (some ⟨o,0,none⟩) la za),(3,Z1),(0,.pointer (some ⟨r,0,none⟩))]
  let Z9:Value:=.slice (some ⟨w,0,none⟩) n 1
  let Z10:Value:=.pointer (some ⟨b,1,none⟩)
  let Z11:Value:=.slice (some ⟨z,0,none⟩) (Nat.succ n) 1
  let Z12:SH:=.push (.is g1) (.cells [Z7] true)
  let Z13:SH:=.push (.set Z12 w .dead) (.cells cs true)
  let Z14:SH:=.push (.is g) (.cells [.int .i64 0,.pointer none,.bool false,.bool false,.slice none 0 0,.int .i64 0,.int .i64 0,.string { data:=#[] }] true)
  let Z15:SH:=.set Z14 d (.cells c8 true)
  let Z16:SH:=.set Z15 d (.cells c81 true)
  let Z17:SH:=.set Z16 d (.cells c82 true)
  pvCode Try.prog (pvCall Try.prog 0) 177 false (loopN Try.f57 1) [(47,.int .i64 i),(46,.int .i64 (Int.ofNat la)),(45,.slice (some ⟨o,0,none⟩) la za),(3,Z1),(0,.pointer (some ⟨r,0,none⟩))] (.is g) [.bit true,.offs q,.val Z2,.cells Z3,.idx d,.cells c8,.val Z4,.val Z5,.val (.int .i64 n2),.num n3,.offs q2,.val Z6,.cells c81,.cells c82,.val (.slice ob lb zb),.loop (.exit 4) Z8 (.is g1),.val Z9,.idx e,.app cs news 0 z,.cells c2,.num i1] =
  some (.normal,[(47,.int .i64 i1),(105,.int .i64 i1),(104,Z10),(103,Z1),(102,Z11),(101,.slice (some ⟨e,0,none⟩) 1 1),(100,Z9),(99,Z10),(98,Z1),(97,Z1),(96,Z1),(9,Z7),(47,.int .i64 i),(46,.int .i64 (Int.ofNat la)),(45,.slice (some ⟨o,0,none⟩) la za),(3,Z1),(0,.pointer (some ⟨r,0,none⟩))],.set Z13 b (.cells c2 true),[],[.cmp .lss i (Int.ofNat la) true,.off q 0 i la 1,.ld1 (.is g) o q Z2,.ldn (.is g) x 0 8 Z3,.len (.is g) d,.st Z14 d 0 Z3 c8,.stat (drawN Try.f57 0),.ld1 Z15 b 0 Z4,.ld1 Z15 x 1 Z5,.ld1 Z15 y 0 (.int .i64 n2),.arith .sub .i64 n2 1 n3,.off q2 0 n3 l2 1,.ld1 Z15 o2 q2 Z6,.st Z15 d 1 [Z6] c81,.st Z16 d 4 [.slice none 0 0] c82,.ld1 Z17 x 4 (.slice ob lb zb),.loop 177 false (loopN Try.f57 2) [(75,.int .i64 0),(74,.int .i64 (Int.ofNat lb)),(73,.slice ob lb zb),(72,.pointer (some ⟨x,4,none⟩)),(71,Z2),(70,Z2),(69,.pointer (some ⟨d,4,none⟩)),(68,.pointer (some ⟨d,1,none⟩)),(67,Z6),(66,.pointer (some ⟨o2,q2,none⟩)),(65,.int .i64 n3),(64,.int .i64 n2),(63,Z5),(62,Z5),(61,Z5),(60,.pointer (some ⟨x,1,none⟩)),(59,Z2),(58,Z2),(57,Z4),(56,Z1),(55,Z1),(54,Z1),(9,Z7),(53,.agg #[.int .i64 n0,.pointer pin,.bool lv,.bool en,.slice op lp zp,.int .i64 n1,.int .i64 fk,.string ft]),(52,Z2),(51,Z2),(8,Z2),(50,Z2),(49,.pointer (some ⟨o,q,none⟩)),(48,.bool true),(47,.int .i64 i),(46,.int .i64 (Int.ofNat la)),(45,.slice (some ⟨o,0,none⟩) la za),(3,Z1),(0,.pointer (some ⟨r,0,none⟩))] Z17 (.exit 4) Z8 (.is g1),.ld1 (.is g1) b 1 Z9,.len (.is g1) e,.app Z12 w 0 n e 0 1 0 1 8 cs news z,.st Z13 b 1 [Z11] c2,.arith .add .i64 i 1 i1]):=by intros;kernel_rfl
theorem c2_out(r b o q d e z w y y2 q2 o2 l2:Nat)(oa:Option Addr)(la za n:Nat)(i i1 n0 n1:Int)(u47 u46 u45:Value)(news cs c2:List Value)(g:Hp) :
  pvCode Try.prog (pvCall Try.prog 0) 177 false (loopN Try.f57 2) [(75,.int .i64 i),(74,.int .i64 (Int.ofNat la)),(73,.slice oa la za),(9,.pointer (some ⟨d,0,none⟩)),(47,u47),(46,u46),(45,u45),(3,.pointer (some ⟨b,0,none⟩)),(0,.pointer (some ⟨r,0,none⟩))] (.is g) [.bit false] =
  some (.exit 4,[(76,.bool false),(75,.int .i64 i),(74,.int .i64 (Int.ofNat la)),(73,.slice oa la za),(9,.pointer (some ⟨d,0,none⟩)),(47,u47),(46,u46),(45,u45),(3,.pointer (some ⟨b,0,none⟩)),(0,.pointer (some ⟨r,0,none⟩))],.is g,[],[.cmp .lss i (Int.ofNat la) false]):=by intros;kernel_rfl
theorem c2_gon(r b o q d e z w y y2 q2 o2 l2:Nat)(oa:Option Addr)(la za n:Nat)(i i1 n0 n1:Int)(u47 u46 u45:Value)(news cs c2:List Value)(g:Hp) :
  let Z1:Value:=.pointer (some ⟨b,0,none⟩)
  let Z2:Value:=.pointer (some ⟨y,0,none⟩)
  let Z3:Value:=.slice (some ⟨o2,0,none⟩) l2 1
  let Z4:Value:=.pointer (some ⟨y2,0,none⟩)
  let Z5:Value:=.pointer (some ⟨d,4,none⟩)
  let Z6:Value:=.slice (some ⟨z,0,none⟩) 1 1
  let Z7:SH:=.push (.is g) (.cells [Z4] true)
  let Z8:SH:=.push Z7 (.cells news true)
  pvCode Try.prog (pvCall Try.prog 0) 177 false (loopN Try.f57 2) [(75,.int .i64 i),(74,.int .i64 (Int.ofNat la)),(73,.slice (some ⟨o,0,none⟩) la za),(9,.pointer (some ⟨d,0,none⟩)),(47,u47),(46,u46),(45,u45),(3,Z1),(0,.pointer (some ⟨r,0,none⟩))] (.is g) [.bit true,.offs q,.val Z2,.val (.slice none 0 0),.val Z3,.val (.int .i64 n0),.num n1,.offs q2,.val Z4,.idx e,.app [] news 0 z,.cells c2,.num i1] =
  some (.normal,[(75,.int .i64 i1),(95,.int .i64 i1),(94,Z5),(93,Z6),(92,.slice (some ⟨e,0,none⟩) 1 1),(91,Z4),(90,.pointer (some ⟨o2,q2,none⟩)),(89,.int .i64 n1),(88,.int .i64 n0),(87,Z2),(86,Z2),(85,Z2),(84,Z3),(83,Z1),(82,Z1),(81,Z1),(80,.slice none 0 0),(79,Z5),(11,Z2),(78,Z2),(77,.pointer (some ⟨o,q,none⟩)),(76,.bool true),(75,.int .i64 i),(74,.int .i64 (Int.ofNat la)),(73,.slice (some ⟨o,0,none⟩) la za),(9,.pointer (some ⟨d,0,none⟩)),(47,u47),(46,u46),(45,u45),(3,Z1),(0,.pointer (some ⟨r,0,none⟩))],.set Z8 d (.cells c2 true),[],[.cmp .lss i (Int.ofNat la) true,.off q 0 i la 1,.ld1 (.is g) o q Z2,.stat (drawN Try.f57 1),.ld1 (.is g) d 4 (.slice none 0 0),.ld1 (.is g) b 0 Z3,.ld1 (.is g) y 0 (.int .i64 n0),.arith .sub .i64 n0 1 n1,.off q2 0 n1 l2 1,.ld1 (.is g) o2 q2 Z4,.len (.is g) e,.appNil Z7 e 0 1 0 1 8 news z,.st Z8 d 4 [Z6] c2,.arith .add .i64 i 1 i1]):=by intros;kernel_rfl
theorem c2_gos(r b o q d e z w y y2 q2 o2 l2:Nat)(oa:Option Addr)(la za n:Nat)(i i1 n0 n1:Int)(u47 u46 u45:Value)(news cs c2:List Value)(g:Hp) :
  let Z1:Value:=.pointer (some ⟨b,0,none⟩)
  let Z2:Value:=.pointer (some ⟨y,0,none⟩)
  let Z3:Value:=.slice (some ⟨w,0,none⟩) n 1
  let Z4:Value:=.slice (some ⟨o2,0,none⟩) l2 1
  let Z5:Value:=.pointer (some ⟨y2,0,none⟩)
  let Z6:Value:=.pointer (some ⟨d,4,none⟩)
  let Z7:Value:=.slice (some ⟨z,0,none⟩) (Nat.succ n) 1
  let Z8:SH:=.push (.is g) (.cells [Z5] true)
  let Z9:SH:=.push (.set Z8 w .dead) (.cells cs true)
  pvCode Try.prog (pvCall Try.prog 0) 177 false (loopN Try.f57 2) [(75,.int .i64 i),(74,.int .i64 (Int.ofNat la)),(73,.slice (some ⟨o,0,none⟩) la za),(9,.pointer (some ⟨d,0,none⟩)),(47,u47),(46,u46),(45,u45),(3,Z1),(0,.pointer (some ⟨r,0,none⟩))] (.is g) [.bit true,.offs q,.val Z2,.val Z3,.val Z4,.val (.int .i64 n0),.num n1,.offs q2,.val Z5,.idx e,.app cs news 0 z,.cells c2,.num i1] =
  some (.normal,[(75,.int .i64 i1),(95,.int .i64 i1),(94,Z6),(93,Z7),(92,.slice (some ⟨e,0,none⟩) 1 1),(91,Z5),(90,.pointer (some ⟨o2,q2,none⟩)),(89,.int .i64 n1),(88,.int .i64 n0),(87,Z2),(86,Z2),(85,Z2),(84,Z4),(83,Z1),(82,Z1),(81,Z1),(80,Z3),(79,Z6),(11,Z2),(78,Z2),(77,.pointer (some ⟨o,q,none⟩)),(76,.bool true),(75,.int .i64 i),(74,.int .i64 (Int.ofNat la)),(73,.slice (some ⟨o,0,none⟩) la za),(9,.pointer (some ⟨d,0,none⟩)),(47,u47),(46,u46),(45,u45),(3,Z1),(0,.pointer (some ⟨r,0,none⟩))],.set Z9 d (.cells c2 true),[],[.cmp .lss i (Int.ofNat la) true,.off q 0 i la 1,.ld1 (.is g) o q Z2,.stat (drawN Try.f57 1),.ld1 (.is g) d 4 Z3,.ld1 (.is g) b 0 Z4,.ld1 (.is g) y 0 (.int .i64 n0),.arith .sub .i64 n0 1 n1,.off q2 0 n1 l2 1,.ld1 (.is g) o2 q2 Z5,.len (.is g) e,.app Z8 w 0 n e 0 1 0 1 8 cs news z,.st Z9 d 4 [Z7] c2,.arith .add .i64 i 1 i1]):=by intros;kernel_rfl
theorem c3_out(r b o q x y y2 q2 o2 l2:Nat)(oa ob oc od:Option Addr)(la za lb zb lc zc ld zd:Nat)(i i1 n0 n1:Int)(c1 c2:List Value)(v:Value)(g g1 g2:Hp) :
  pvCode Try.prog (pvCall Try.prog 0) 177 false (loopN Try.f57 3) [(111,.int .i64 i),(110,.int .i64 (Int.ofNat la)),(109,.slice oa la za),(3,.pointer (some ⟨b,0,none⟩)),(0,.pointer (some ⟨r,0,none⟩))] (.is g) [.bit false] =
  some (.exit 6,[(112,.bool false),(111,.int .i64 i),(110,.int .i64 (Int.ofNat la)),(109,.slice oa la za),(3,.pointer (some ⟨b,0,none⟩)),(0,.pointer (some ⟨r,0,none⟩))],.is g,[],[.cmp .lss i (Int.ofNat la) false]):=by intros;kernel_rfl
theorem c3_nil(r b o q x y y2 q2 o2 l2:Nat)(oa ob oc od:Option Addr)(la za lb zb lc zc ld zd:Nat)(i i1 n0 n1:Int)(c1 c2:List Value)(v:Value)(g g1 g2:Hp) :
  let Z1:Value:=.pointer (some ⟨x,0,none⟩)
  let Z2:Env:=[(13,Z1),(111,.int .i64 i),(110,.int .i64 (Int.ofNat la)),(109,.slice (some ⟨o,0,none⟩) la za),(3,.pointer (some ⟨b,0,none⟩)),(0,.pointer (some ⟨r,0,none⟩))]
  let Z3:SH:=.set (.is g1) x (.cells c2 true)
  let Z4:Value:=.pointer (some ⟨x,2,none⟩)
  pvCode Try.prog (pvCall Try.prog 0) 177 false (loopN Try.f57 3) [(111,.int .i64 i),(110,.int .i64 (Int.ofNat la)),(109,.slice (some ⟨o,0,none⟩) la za),(3,.pointer (some ⟨b,0,none⟩)),(0,.pointer (some ⟨r,0,none⟩))] (.is g) [.bit true,.offs q,.val Z1,.val (.pointer none),.val (.slice ob lb zb),.ret (.slice oc lc zc) (.is g1),.cells c2,.val (.slice od ld zd),.loop (.exit 8) Z2 (.is g2),.num i1] =
  some (.normal,[(111,.int .i64 i1),(175,.int .i64 i1),(13,Z1),(111,.int .i64 i),(110,.int .i64 (Int.ofNat la)),(109,.slice (some ⟨o,0,none⟩) la za),(3,.pointer (some ⟨b,0,none⟩)),(0,.pointer (some ⟨r,0,none⟩))],.is g2,[],[.cmp .lss i (Int.ofNat la) true,.off q 0 i la 1,.ld1 (.is g) o q Z1,.ld1 (.is g) x 1 (.pointer none),.ld1 (.is g) x 2 (.slice ob lb zb),.call 82 [.slice ob lb zb] (.is g) (.slice oc lc zc) (.is g1),.st (.is g1) x 2 [.slice oc lc zc] c2,.ld1 Z3 x 2 (.slice od ld zd),.loop 177 false (loopN Try.f57 4) [(150,.int .i64 0),(149,.int .i64 (Int.ofNat ld)),(148,.slice od ld zd),(147,Z4),(146,Z1),(145,Z1),(144,Z4),(143,Z1),(142,.slice oc lc zc),(141,.slice ob lb zb),(140,Z4),(139,Z1),(138,Z1),(137,Z1),(119,.bool false),(118,.pointer none),(117,.pointer (some ⟨x,1,none⟩)),(116,Z1),(115,Z1),(13,Z1),(114,Z1),(113,.pointer (some ⟨o,q,none⟩)),(112,.bool true),(111,.int .i64 i),(110,.int .i64 (Int.ofNat la)),(109,.slice (some ⟨o,0,none⟩) la za),(3,.pointer (some ⟨b,0,none⟩)),(0,.pointer (some ⟨r,0,none⟩))] Z3 (.exit 8) Z2 (.is g2),.arith .add .i64 i 1 i1]):=by intros;kernel_rfl
theorem c3_in(r b o q x y y2 q2 o2 l2:Nat)(oa ob oc od:Option Addr)(la za lb zb lc zc ld zd:Nat)(i i1 n0 n1:Int)(c1 c2:List Value)(v:Value)(g g1 g2:Hp) :
  let Z1:Value:=.pointer (some ⟨b,0,none⟩)
  let Z2:Value:=.pointer (some ⟨x,0,none⟩)
  let Z3:Value:=.pointer (some ⟨y,0,none⟩)
  let Z4:Value:=.slice (some ⟨o2,0,none⟩) l2 1
  let Z5:Value:=.pointer (some ⟨y2,0,none⟩)
  let Z6:Env:=[(13,Z2),(111,.int .i64 i),(110,.int .i64 (Int.ofNat la)),(109,.slice (some ⟨o,0,none⟩) la za),(3,Z1),(0,.pointer (some ⟨r,0,none⟩))]
  let Z7:SH:=.set (.is g) x (.cells c1 true)
  let Z8:SH:=.set (.is g1) x (.cells c2 true)
  let Z9:Value:=.pointer (some ⟨x,2,none⟩)
  let Z10:Value:=.pointer (some ⟨x,1,none⟩)
  pvCode Try.prog (pvCall Try.prog 0) 177 false (loopN Try.f57 3) [(111,.int .i64 i),(110,.int .i64 (Int.ofNat la)),(109,.slice (some ⟨o,0,none⟩) la za),(3,Z1),(0,.pointer (some ⟨r,0,none⟩))] (.is g) [.bit true,.offs q,.val Z2,.val Z3,.val Z4,.val Z3,.val (.int .i64 n0),.num n1,.offs q2,.val Z5,.cells c1,.val (.slice ob lb zb),.ret (.slice oc lc zc) (.is g1),.cells c2,.val (.slice od ld zd),.loop (.exit 8) Z6 (.is g2),.num i1] =
  some (.normal,[(111,.int .i64 i1),(175,.int .i64 i1),(13,Z2),(111,.int .i64 i),(110,.int .i64 (Int.ofNat la)),(109,.slice (some ⟨o,0,none⟩) la za),(3,Z1),(0,.pointer (some ⟨r,0,none⟩))],.is g2,[],[.cmp .lss i (Int.ofNat la) true,.off q 0 i la 1,.ld1 (.is g) o q Z2,.ld1 (.is g) x 1 Z3,.stat (drawN Try.f57 2),.ld1 (.is g) b 1 Z4,.ld1 (.is g) x 1 Z3,.ld1 (.is g) y 0 (.int .i64 n0),.arith .sub .i64 n0 1 n1,.off q2 0 n1 l2 1,.ld1 (.is g) o2 q2 Z5,.st (.is g) x 1 [Z5] c1,.ld1 Z7 x 2 (.slice ob lb zb),.call 82 [.slice ob lb zb] Z7 (.slice oc lc zc) (.is g1),.st (.is g1) x 2 [.slice oc lc zc] c2,.ld1 Z8 x 2 (.slice od ld zd),.loop 177 false (loopN Try.f57 4) [(150,.int .i64 0),(149,.int .i64 (Int.ofNat ld)),(148,.slice od ld zd),(147,Z9),(146,Z2),(145,Z2),(144,Z9),(143,Z2),(142,.slice oc lc zc),(141,.slice ob lb zb),(140,Z9),(139,Z2),(138,Z2),(137,Z2),(136,Z10),(135,Z2),(134,Z5),(133,.pointer (some ⟨o2,q2,none⟩)),(132,.int .i64 n1),(131,.int .i64 n0),(130,Z3),(129,Z3),(128,Z3),(127,Z10),(126,Z2),(125,Z2),(124,Z4),(123,.pointer (some ⟨b,1,none⟩)),(122,Z1),(121,Z1),(120,Z2),(119,.bool true),(118,Z3),(117,Z10),(116,Z2),(115,Z2),(13,Z2),(114,Z2),(113,.pointer (some ⟨o,q,none⟩)),(112,.bool true),(111,.int .i64 i),(110,.int .i64 (Int.ofNat la)),(109,.slice (some ⟨o,0,none⟩) la za),(3,Z1),(0,.pointer (some ⟨r,0,none⟩))] Z8 (.exit 8) Z6 (.is g2),.arith .add .i64 i 1 i1]):=by intros;kernel_rfl
theorem c4_out(r b o q x y y2 q2 o2 l2 o3 q3:Nat)(oa:Option Addr)(la za:Nat)(i i1 n0 n1:Int)(u11 u10 u09:Value)(c1:List Value)(g:Hp) :
  pvCode Try.prog (pvCall Try.prog 0) 177 false (loopN Try.f57 4) [(150,.int .i64 i),(149,.int .i64 (Int.ofNat la)),(148,.slice oa la za),(13,.pointer (some ⟨x,0,none⟩)),(111,u11),(110,u10),(109,u09),(3,.pointer (some ⟨b,0,none⟩)),(0,.pointer (some ⟨r,0,none⟩))] (.is g) [.bit false] =
  some (.exit 8,[(151,.bool false),(150,.int .i64 i),(149,.int .i64 (Int.ofNat la)),(148,.slice oa la za),(13,.pointer (some ⟨x,0,none⟩)),(111,u11),(110,u10),(109,u09),(3,.pointer (some ⟨b,0,none⟩)),(0,.pointer (some ⟨r,0,none⟩))],.is g,[],[.cmp .lss i (Int.ofNat la) false]):=by intros;kernel_rfl
theorem c4_nil(r b o q x y y2 q2 o2 l2 o3 q3:Nat)(oa:Option Addr)(la za:Nat)(i i1 n0 n1:Int)(u11 u10 u09:Value)(c1:List Value)(g:Hp) :
  pvCode Try.prog (pvCall Try.prog 0) 177 false (loopN Try.f57 4) [(150,.int .i64 i),(149,.int .i64 (Int.ofNat la)),(148,.slice (some ⟨o,0,none⟩) la 1),(13,.pointer (some ⟨x,0,none⟩)),(111,u11),(110,u10),(109,u09),(3,.pointer (some ⟨b,0,none⟩)),(0,.pointer (some ⟨r,0,none⟩))] (.is g) [.bit true,.offs q,.val (.pointer none),.num i1] =
  some (.normal,[(150,.int .i64 i1),(174,.int .i64 i1),(156,.bool false),(155,.pointer none),(15,.pointer none),(14,.int .i64 i),(154,.pointer none),(153,.pointer (some ⟨o,q,none⟩)),(152,.int .i64 i),(151,.bool true),(150,.int .i64 i),(149,.int .i64 (Int.ofNat la)),(148,.slice (some ⟨o,0,none⟩) la 1),(13,.pointer (some ⟨x,0,none⟩)),(111,u11),(110,u10),(109,u09),(3,.pointer (some ⟨b,0,none⟩)),(0,.pointer (some ⟨r,0,none⟩))],.is g,[],[.cmp .lss i (Int.ofNat la) true,.off q 0 i la 1,.ld1 (.is g) o q (.pointer none),.arith .add .i64 i 1 i1]):=by intros;kernel_rfl
theorem c4_go(r b o q x y y2 q2 o2 l2 o3 q3:Nat)(oa:Option Addr)(la za:Nat)(i i1 n0 n1:Int)(u11 u10 u09:Value)(c1:List Value)(g:Hp) :
  let Z1:Value:=.pointer (some ⟨x,0,none⟩)
  let Z2:Value:=.pointer (some ⟨b,0,none⟩)
  let Z3:Value:=.pointer (some ⟨y,0,none⟩)
  let Z4:Value:=.slice (some ⟨o3,0,none⟩) la 1
  let Z5:Value:=.slice (some ⟨o2,0,none⟩) l2 1
  let Z6:Value:=.pointer (some ⟨y2,0,none⟩)
  pvCode Try.prog (pvCall Try.prog 0) 177 false (loopN Try.f57 4) [(150,.int .i64 i),(149,.int .i64 (Int.ofNat la)),(148,.slice (some ⟨o,0,none⟩) la 1),(13,Z1),(111,u11),(110,u10),(109,u09),(3,Z2),(0,.pointer (some ⟨r,0,none⟩))] (.is g) [.bit true,.offs q,.val Z3,.val Z4,.val Z5,.val (.int .i64 n0),.num n1,.offs q2,.val Z6,.offs q3,.cells c1,.num i1] =
  some (.normal,[(150,.int .i64 i1),(174,.int .i64 i1),(173,.pointer (some ⟨o3,q3,none⟩)),(172,Z6),(171,.pointer (some ⟨o2,q2,none⟩)),(170,.int .i64 n1),(169,.int .i64 n0),(168,Z3),(167,Z3),(166,Z3),(165,Z5),(164,.pointer (some ⟨b,1,none⟩)),(163,Z2),(162,Z2),(161,.int .i64 i),(160,Z4),(159,.pointer (some ⟨x,2,none⟩)),(158,Z1),(157,Z1),(156,.bool true),(155,Z3),(15,Z3),(14,.int .i64 i),(154,Z3),(153,.pointer (some ⟨o,q,none⟩)),(152,.int .i64 i),(151,.bool true),(150,.int .i64 i),(149,.int .i64 (Int.ofNat la)),(148,.slice (some ⟨o,0,none⟩) la 1),(13,Z1),(111,u11),(110,u10),(109,u09),(3,Z2),(0,.pointer (some ⟨r,0,none⟩))],.set (.is g) o3 (.cells c1 true),[],[.cmp .lss i (Int.ofNat la) true,.off q 0 i la 1,.ld1 (.is g) o q Z3,.stat (drawN Try.f57 3),.ld1 (.is g) x 2 Z4,.ld1 (.is g) b 1 Z5,.ld1 (.is g) y 0 (.int .i64 n0),.arith .sub .i64 n0 1 n1,.off q2 0 n1 l2 1,.ld1 (.is g) o2 q2 Z6,.off q3 0 i la 1,.st (.is g) o3 q3 [Z6] c1,.arith .add .i64 i 1 i1]):=by intros;kernel_rfl
end Go.Proofs.Ytlonjogfeidgfaa.r27p
namespace Go.Proofs.Ytlonjogfeidgfaa.r13p
open Go Go.Ev
set_option maxRecDepth 100000
set_option linter.unusedVariables false
theorem ta_low(r b4 b7 to len q k s oo ol:Nat)(n n1 sn fk:Int)(en lv:Bool)(ft:ByteArray)(c7 c8 c9 out:List Value)(oa:Option Addr)(la za:Nat)(g g2:Hp) :
  let Z1:List Value:=[.int .i64 0,.bool false,.bool false,.int .i64 0,.string { data:=#[] },.slice none 0 0]
  let Z2:AObj:=.cells Z1 true
  let Z3:SH:=.push (.is g) Z2
  let Z4:SH:=.set Z3 b4 Z2
  pvFn Try.prog (pvCall Try.prog 0) Try.f46 [.pointer (some ⟨r,0,none⟩),.int .i64 n] (.is g) [.idx b4,.bit true,.cells [.int .i64 0,.bool false,.bool false,.int .i64 0,.string ⟨#[]⟩,.slice none 0 0],.cells [.int .i64 0,.bool false,.bool false,.int .i64 0,.string ⟨#[]⟩,.slice none 0 0]] =
  some (.tuple { toList:=[.agg { toList:=Z1 },.int .i64 6] },Z4,[],[.len (.is g) b4,.cmp .lss n 1 true,.st Z3 b4 0 Z1 Z1,.ldn Z4 b4 0 6 Z1]):=by intros;kernel_rfl
theorem ta_highn(r b4 b7 to len q k s oo ol:Nat)(n n1 sn fk:Int)(en lv:Bool)(ft:ByteArray)(c7 c8 c9 out:List Value)(oa:Option Addr)(la za:Nat)(g g2:Hp) :
  let Z1:List Value:=[.int .i64 0,.bool false,.bool false,.int .i64 0,.string { data:=#[] },.slice none 0 0]
  let Z2:AObj:=.cells Z1 true
  let Z3:SH:=.push (.is g) Z2
  let Z4:SH:=.set Z3 b4 Z2
  pvFn Try.prog (pvCall Try.prog 0) Try.f46 [.pointer (some ⟨r,0,none⟩),.int .i64 n] (.is g) [.idx b4,.bit false,.val (.slice none 0 0),.bit true,.cells [.int .i64 0,.bool false,.bool false,.int .i64 0,.string ⟨#[]⟩,.slice none 0 0],.cells [.int .i64 0,.bool false,.bool false,.int .i64 0,.string ⟨#[]⟩,.slice none 0 0]] =
  some (.tuple { toList:=[.agg { toList:=Z1 },.int .i64 6] },Z4,[],[.len (.is g) b4,.cmp .lss n 1 false,.ld1 Z3 r 0 (.slice none 0 0),.cmp .gtr n 0 true,.st Z3 b4 0 Z1 Z1,.ldn Z4 b4 0 6 Z1]):=by intros;kernel_rfl
theorem ta_highs(r b4 b7 to len q k s oo ol:Nat)(n n1 sn fk:Int)(en lv:Bool)(ft:ByteArray)(c7 c8 c9 out:List Value)(oa:Option Addr)(la za:Nat)(g g2:Hp) :
  let Z1:Value:=.slice (some ⟨to,0,none⟩) len 1
  let Z2:List Value:=[.int .i64 0,.bool false,.bool false,.int .i64 0,.string { data:=#[] },.slice none 0 0]
  let Z3:AObj:=.cells Z2 true
  let Z4:SH:=.push (.is g) Z3
  let Z5:SH:=.set Z4 b4 Z3
  pvFn Try.prog (pvCall Try.prog 0) Try.f46 [.pointer (some ⟨r,0,none⟩),.int .i64 n] (.is g) [.idx b4,.bit false,.val Z1,.bit true,.cells [.int .i64 0,.bool false,.bool false,.int .i64 0,.string ⟨#[]⟩,.slice none 0 0],.cells [.int .i64 0,.bool false,.bool false,.int .i64 0,.string ⟨#[]⟩,.slice none 0 0]] =
  some (.tuple { toList:=[.agg { toList:=Z2 },.int .i64 6] },Z5,[],[.len (.is g) b4,.cmp .lss n 1 false,.ld1 Z4 r 0 Z1,.cmp .gtr n (Int.ofNat len) true,.st Z4 b4 0 Z2 Z2,.ldn Z5 b4 0 6 Z2]):=by intros;kernel_rfl
theorem ta_000(r b4 b7 to len q k s oo ol:Nat)(n n1 sn fk:Int)(en lv:Bool)(ft:ByteArray)(c7 c8 c9 out:List Value)(oa:Option Addr)(la za:Nat)(g g2:Hp) :
  let Z1:Value:=.slice (some ⟨to,0,none⟩) len 1
  let Z2:Value:=.pointer (some ⟨k,0,none⟩)
  let Z3:List Value:=[.int .i64 0,.bool false,.bool lv,.int .i64 0,.string { data:=#[] },.slice none 0 0]
  let Z4:AObj:=.cells [.int .i64 0,.bool false,.bool false,.int .i64 0,.string { data:=#[] },.slice none 0 0] true
  let Z5:SH:=.push (.is g) Z4
  let Z6:SH:=.push Z5 Z4
  let Z7:SH:=.set Z6 b7 (.cells c7 true)
  let Z8:SH:=.set Z7 b4 (.cells Z3 true)
  pvFn Try.prog (pvCall Try.prog 0) Try.f46 [.pointer (some ⟨r,0,none⟩),.int .i64 n] (.is g) [.idx b4,.bit false,.val Z1,.bit false,.val Z1,.num n1,.offs q,.val Z2,.val (.bool false),.val (.bool lv),.idx b7,.cells c7,.val (.pointer none),.val (.bool false),.val (.slice none 0 0),.unr 1,.bit false,.cells [.int .i64 0,.bool false,.bool lv,.int .i64 0,.string ⟨#[]⟩,.slice none 0 0],.cells [.int .i64 0,.bool false,.bool lv,.int .i64 0,.string ⟨#[]⟩,.slice none 0 0],.cells [.int .i64 0,.bool false,.bool lv,.int .i64 0,.string ⟨#[]⟩,.slice none 0 0]] =
  some (.tuple { toList:=[.agg { toList:=Z3 },.int .i64 0] },Z8,[],[.len (.is g) b4,.cmp .lss n 1 false,.ld1 Z5 r 0 Z1,.cmp .gtr n (Int.ofNat len) false,.ld1 Z5 r 0 Z1,.arith .sub .i64 n 1 n1,.off q 0 n1 len 1,.ld1 Z5 to q Z2,.stat (drawN Try.f46 0),.ld1 Z5 k 4 (.bool false),.ld1 Z5 k 3 (.bool lv),.len Z5 b7,.st Z6 b7 0 Z3 c7,.ld1 Z7 k 1 (.pointer none),.ld1 Z7 k 4 (.bool false),.ld1 Z7 k 2 (.slice none 0 0),.cmp .lss 0 0 false,.ldn Z7 b7 0 6 Z3,.st Z7 b4 0 Z3 Z3,.ldn Z8 b4 0 6 Z3]):=by intros;kernel_rfl
theorem ta_001(r b4 b7 to len q k s oo ol:Nat)(n n1 sn fk:Int)(en lv:Bool)(ft:ByteArray)(c7 c8 c9 out:List Value)(oa:Option Addr)(la za:Nat)(g g2:Hp) :
  let Z1:Value:=.pointer (some ⟨r,0,none⟩)
  let Z2:Value:=.slice (some ⟨to,0,none⟩) len 1
  let Z3:Value:=.pointer (some ⟨k,0,none⟩)
  let Z4:Value:=.slice (some ⟨oo,0,none⟩) ol 1
  let Z5:Env:=[(7,.pointer (some ⟨b7,0,none⟩)),(4,.pointer (some ⟨b4,0,none⟩))]
  let Z6:List Value:=[.int .i64 0,.bool false,.bool lv,.int .i64 0,.string { data:=#[] },.slice oa la za]
  let Z7:SH:=.set (.is g2) b4 (.cells Z6 true)
  let Z8:AObj:=.cells [.int .i64 0,.bool false,.bool false,.int .i64 0,.string { data:=#[] },.slice none 0 0] true
  let Z9:SH:=.push (.is g) Z8
  let Z10:SH:=.push Z9 Z8
  let Z11:List Value:=[.int .i64 0,.bool false,.bool lv,.int .i64 0,.string { data:=#[] },.slice none 0 0]
  let Z12:SH:=.set Z10 b7 (.cells c7 true)
  let Z13:Value:=.pointer (some ⟨k,4,none⟩)
  pvFn Try.prog (pvCall Try.prog 0) Try.f46 [Z1,.int .i64 n] (.is g) [.idx b4,.bit false,.val Z2,.bit false,.val Z2,.num n1,.offs q,.val Z3,.val (.bool false),.val (.bool lv),.idx b7,.cells c7,.val (.pointer none),.val (.bool false),.val Z4,.loop (.exit 1) Z5 (.is g2),.cells [.int .i64 0,.bool false,.bool lv,.int .i64 0,.string ⟨#[]⟩,.slice oa la za],.cells [.int .i64 0,.bool false,.bool lv,.int .i64 0,.string ⟨#[]⟩,.slice oa la za],.cells [.int .i64 0,.bool false,.bool lv,.int .i64 0,.string ⟨#[]⟩,.slice oa la za]] =
  some (.tuple { toList:=[.agg { toList:=Z6 },.int .i64 0] },Z7,[],[.len (.is g) b4,.cmp .lss n 1 false,.ld1 Z9 r 0 Z2,.cmp .gtr n (Int.ofNat len) false,.ld1 Z9 r 0 Z2,.arith .sub .i64 n 1 n1,.off q 0 n1 len 1,.ld1 Z9 to q Z3,.stat (drawN Try.f46 0),.ld1 Z9 k 4 (.bool false),.ld1 Z9 k 3 (.bool lv),.len Z9 b7,.st Z10 b7 0 Z11 c7,.ld1 Z12 k 1 (.pointer none),.ld1 Z12 k 4 (.bool false),.ld1 Z12 k 2 Z4,.loop 84 false (loopN Try.f46 0) [(71,.int .i64 0),(70,.int .i64 (Int.ofNat ol)),(69,Z4),(68,.pointer (some ⟨k,2,none⟩)),(67,Z3),(66,Z3),(60,.bool false),(59,Z13),(58,Z3),(57,Z3),(48,.bool false),(47,.pointer none),(46,.pointer (some ⟨k,1,none⟩)),(45,Z3),(44,Z3),(7,.pointer (some ⟨b7,0,none⟩)),(43,.agg { toList:=Z11 }),(42,.bool lv),(41,.pointer (some ⟨k,3,none⟩)),(40,Z3),(39,Z3),(38,.bool false),(37,Z13),(36,Z3),(35,Z3),(6,Z3),(34,Z3),(33,.pointer (some ⟨to,q,none⟩)),(32,.int .i64 n1),(31,.int .i64 n),(30,Z2),(29,Z1),(28,Z1),(27,Z1),(14,.bool false),(25,.bool false),(24,.bool false),(23,.int .i64 (Int.ofNat len)),(22,Z2),(21,Z1),(20,Z1),(19,Z1),(18,.int .i64 n),(17,.bool false),(16,.bool false),(15,.int .i64 n),(10,.bool false),(12,.bool false),(11,Z1),(5,.int .i64 0),(4,.pointer (some ⟨b4,0,none⟩)),(0,Z1),(1,.int .i64 n)] Z12 (.exit 1) Z5 (.is g2),.ldn (.is g2) b7 0 6 Z6,.st (.is g2) b4 0 Z6 Z6,.ldn Z7 b4 0 6 Z6]):=by intros;kernel_rfl
theorem ta_010(r b4 b7 to len q k s oo ol:Nat)(n n1 sn fk:Int)(en lv:Bool)(ft:ByteArray)(c7 c8 c9 out:List Value)(oa:Option Addr)(la za:Nat)(g g2:Hp) :
  let Z1:Value:=.slice (some ⟨to,0,none⟩) len 1
  let Z2:Value:=.pointer (some ⟨k,0,none⟩)
  let Z3:List Value:=[.int .i64 fk,.string ft]
  let Z4:List Value:=[.int .i64 0,.bool true,.bool lv,.int .i64 fk,.string ft,.slice none 0 0]
  let Z5:AObj:=.cells [.int .i64 0,.bool false,.bool false,.int .i64 0,.string { data:=#[] },.slice none 0 0] true
  let Z6:SH:=.push (.is g) Z5
  let Z7:SH:=.push Z6 Z5
  let Z8:SH:=.set Z7 b7 (.cells c7 true)
  let Z9:SH:=.set Z8 b7 (.cells c9 true)
  let Z10:SH:=.set Z9 b4 (.cells Z4 true)
  pvFn Try.prog (pvCall Try.prog 0) Try.f46 [.pointer (some ⟨r,0,none⟩),.int .i64 n] (.is g) [.idx b4,.bit false,.val Z1,.bit false,.val Z1,.num n1,.offs q,.val Z2,.val (.bool true),.val (.bool lv),.idx b7,.cells c7,.val (.pointer none),.val (.bool true),.cells Z3,.cells c9,.val (.slice none 0 0),.unr 1,.bit false,.cells Z4,.cells Z4,.cells Z4] =
  some (.tuple { toList:=[.agg #[.int .i64 0,.bool true,.bool lv,.int .i64 fk,.string ft,.slice none 0 0],.int .i64 0] },Z10,[],[.len (.is g) b4,.cmp .lss n 1 false,.ld1 Z6 r 0 Z1,.cmp .gtr n (Int.ofNat len) false,.ld1 Z6 r 0 Z1,.arith .sub .i64 n 1 n1,.off q 0 n1 len 1,.ld1 Z6 to q Z2,.stat (drawN Try.f46 0),.ld1 Z6 k 4 (.bool true),.ld1 Z6 k 3 (.bool lv),.len Z6 b7,.st Z7 b7 0 [.int .i64 0,.bool true,.bool lv,.int .i64 0,.string { data:=#[] },.slice none 0 0] c7,.ld1 Z8 k 1 (.pointer none),.ld1 Z8 k 4 (.bool true),.ldn Z8 k 5 2 Z3,.st Z8 b7 3 Z3 c9,.ld1 Z9 k 2 (.slice none 0 0),.cmp .lss 0 0 false,.ldn Z9 b7 0 6 Z4,.st Z9 b4 0 Z4 Z4,.ldn Z10 b4 0 6 Z4]):=by intros;kernel_rfl
theorem ta_011(r b4 b7 to len q k s oo ol:Nat)(n n1 sn fk:Int)(en lv:Bool)(ft:ByteArray)(c7 c8 c9 out:List Value)(oa:Option Addr)(la za:Nat)(g g2:Hp) :
  let Z1:Value:=.pointer (some ⟨r,0,none⟩)
  let Z2:Value:=.slice (some ⟨to,0,none⟩) len 1
  let Z3:Value:=.pointer (some ⟨k,0,none⟩)
  let Z4:List Value:=[.int .i64 fk,.string ft]
  let Z5:Value:=.slice (some ⟨oo,0,none⟩) ol 1
  let Z6:Env:=[(7,.pointer (some ⟨b7,0,none⟩)),(4,.pointer (some ⟨b4,0,none⟩))]
  let Z7:List Value:=[.int .i64 0,.bool true,.bool lv,.int .i64 fk,.string ft,.slice oa la za]
  let Z8:SH:=.set (.is g2) b4 (.cells Z7 true)
  let Z9:AObj:=.cells [.int .i64 0,.bool false,.bool false,.int .i64 0,.string { data:=#[] },.slice none 0 0] true
  let Z10:SH:=.push (.is g) Z9
  let Z11:SH:=.push Z10 Z9
  let Z12:List Value:=[.int .i64 0,.bool true,.bool lv,.int .i64 0,.string { data:=#[] },.slice none 0 0]
  let Z13:SH:=.set Z11 b7 (.cells c7 true)
  let Z14:SH:=.set Z13 b7 (.cells c9 true)
  let Z15:Value:=.pointer (some ⟨k,4,none⟩)
  pvFn Try.prog (pvCall Try.prog 0) Try.f46 [Z1,.int .i64 n] (.is g) [.idx b4,.bit false,.val Z2,.bit false,.val Z2,.num n1,.offs q,.val Z3,.val (.bool true),.val (.bool lv),.idx b7,.cells c7,.val (.pointer none),.val (.bool true),.cells Z4,.cells c9,.val Z5,.loop (.exit 1) Z6 (.is g2),.cells Z7,.cells Z7,.cells Z7] =
  some (.tuple { toList:=[.agg #[.int .i64 0,.bool true,.bool lv,.int .i64 fk,.string ft,.slice oa la za],.int .i64 0] },Z8,[],[.len (.is g) b4,.cmp .lss n 1 false,.ld1 Z10 r 0 Z2,.cmp .gtr n (Int.ofNat len) false,.ld1 Z10 r 0 Z2,.arith .sub .i64 n 1 n1,.off q 0 n1 len 1,.ld1 Z10 to q Z3,.stat (drawN Try.f46 0),.ld1 Z10 k 4 (.bool true),.ld1 Z10 k 3 (.bool lv),.len Z10 b7,.st Z11 b7 0 Z12 c7,.ld1 Z13 k 1 (.pointer none),.ld1 Z13 k 4 (.bool true),.ldn Z13 k 5 2 Z4,.st Z13 b7 3 Z4 c9,.ld1 Z14 k 2 Z5,.loop 84 false (loopN Try.f46 0) [(71,.int .i64 0),(70,.int .i64 (Int.ofNat ol)),(69,Z5),(68,.pointer (some ⟨k,2,none⟩)),(67,Z3),(66,Z3),(65,.pointer (some ⟨b7,3,none⟩)),(64,.agg #[.int .i64 fk,.string ft]),(63,.pointer (some ⟨k,5,none⟩)),(62,Z3),(61,Z3),(60,.bool true),(59,Z15),(58,Z3),(57,Z3),(48,.bool false),(47,.pointer none),(46,.pointer (some ⟨k,1,none⟩)),(45,Z3),(44,Z3),(7,.pointer (some ⟨b7,0,none⟩)),(43,.agg { toList:=Z12 }),(42,.bool lv),(41,.pointer (some ⟨k,3,none⟩)),(40,Z3),(39,Z3),(38,.bool true),(37,Z15),(36,Z3),(35,Z3),(6,Z3),(34,Z3),(33,.pointer (some ⟨to,q,none⟩)),(32,.int .i64 n1),(31,.int .i64 n),(30,Z2),(29,Z1),(28,Z1),(27,Z1),(14,.bool false),(25,.bool false),(24,.bool false),(23,.int .i64 (Int.ofNat len)),(22,Z2),(21,Z1),(20,Z1),(19,Z1),(18,.int .i64 n),(17,.bool false),(16,.bool false),(15,.int .i64 n),(10,.bool false),(12,.bool false),(11,Z1),(5,.int .i64 0),(4,.pointer (some ⟨b4,0,none⟩)),(0,Z1),(1,.int .i64 n)] Z14 (.exit 1) Z6 (.is g2),.ldn (.is g2) b7 0 6 Z7,.st (.is g2) b4 0 Z7 Z7,.ldn Z8 b4 0 6 Z7]):=by intros;kernel_rfl
theorem ta_100(r b4 b7 to len q k s oo ol:Nat)(n n1 sn fk:Int)(en lv:Bool)(ft:ByteArray)(c7 c8 c9 out:List Value)(oa:Option Addr)(la za:Nat)(g g2:Hp) :
  let Z1:Value:=.slice (some ⟨to,0,none⟩) len 1
  let Z2:Value:=.pointer (some ⟨k,0,none⟩)
  let Z3:Value:=.pointer (some ⟨s,0,none⟩)
  let Z4:List Value:=[.int .i64 sn,.bool false,.bool lv,.int .i64 0,.string { data:=#[] },.slice none 0 0]
  let Z5:AObj:=.cells [.int .i64 0,.bool false,.bool false,.int .i64 0,.string { data:=#[] },.slice none 0 0] true
  let Z6:SH:=.push (.is g) Z5
  let Z7:SH:=.push Z6 Z5
  let Z8:SH:=.set Z7 b7 (.cells c7 true)
  let Z9:SH:=.set Z8 b7 (.cells c8 true)
  let Z10:SH:=.set Z9 b4 (.cells Z4 true)
  pvFn Try.prog (pvCall Try.prog 0) Try.f46 [.pointer (some ⟨r,0,none⟩),.int .i64 n] (.is g) [.idx b4,.bit false,.val Z1,.bit false,.val Z1,.num n1,.offs q,.val Z2,.val (.bool false),.val (.bool lv),.idx b7,.cells c7,.val Z3,.val Z3,.val (.int .i64 sn),.cells c8,.val (.bool false),.val (.slice none 0 0),.unr 1,.bit false,.cells [.int .i64 sn,.bool false,.bool lv,.int .i64 0,.string ⟨#[]⟩,.slice none 0 0],.cells [.int .i64 sn,.bool false,.bool lv,.int .i64 0,.string ⟨#[]⟩,.slice none 0 0],.cells [.int .i64 sn,.bool false,.bool lv,.int .i64 0,.string ⟨#[]⟩,.slice none 0 0]] =
  some (.tuple { toList:=[.agg { toList:=Z4 },.int .i64 0] },Z10,[],[.len (.is g) b4,.cmp .lss n 1 false,.ld1 Z6 r 0 Z1,.cmp .gtr n (Int.ofNat len) false,.ld1 Z6 r 0 Z1,.arith .sub .i64 n 1 n1,.off q 0 n1 len 1,.ld1 Z6 to q Z2,.stat (drawN Try.f46 0),.ld1 Z6 k 4 (.bool false),.ld1 Z6 k 3 (.bool lv),.len Z6 b7,.st Z7 b7 0 [.int .i64 0,.bool false,.bool lv,.int .i64 0,.string { data:=#[] },.slice none 0 0] c7,.ld1 Z8 k 1 Z3,.ld1 Z8 k 1 Z3,.ld1 Z8 s 0 (.int .i64 sn),.st Z8 b7 0 [.int .i64 sn] c8,.ld1 Z9 k 4 (.bool false),.ld1 Z9 k 2 (.slice none 0 0),.cmp .lss 0 0 false,.ldn Z9 b7 0 6 Z4,.st Z9 b4 0 Z4 Z4,.ldn Z10 b4 0 6 Z4]):=by intros;kernel_rfl
theorem ta_101(r b4 b7 to len q k s oo ol:Nat)(n n1 sn fk:Int)(en lv:Bool)(ft:ByteArray)(c7 c8 c9 out:List Value)(oa:Option Addr)(la za:Nat)(g g2:Hp) :
  let Z1:Value:=.pointer (some ⟨r,0,none⟩)
  let Z2:Value:=.slice (some ⟨to,0,none⟩) len 1
  let Z3:Value:=.pointer (some ⟨k,0,none⟩)
  let Z4:Value:=.pointer (some ⟨s,0,none⟩)
  let Z5:Value:=.slice (some ⟨oo,0,none⟩) ol 1
  let Z6:Value:=.pointer (some ⟨b7,0,none⟩)
  let Z7:Env:=[(7,Z6),(4,.pointer (some ⟨b4,0,none⟩))]
  let Z8:List Value:=[.int .i64 sn,.bool false,.bool lv,.int .i64 0,.string { data:=#[] },.slice oa la za]
  let Z9:SH:=.set (.is g2) b4 (.cells Z8 true)
  let Z10:AObj:=.cells [.int .i64 0,.bool false,.bool false,.int .i64 0,.string { data:=#[] },.slice none 0 0] true
  let Z11:SH:=.push (.is g) Z10
  let Z12:SH:=.push Z11 Z10
  let Z13:List Value:=[.int .i64 0,.bool false,.bool lv,.int .i64 0,.string { data:=#[] },.slice none 0 0]
  let Z14:SH:=.set Z12 b7 (.cells c7 true)
  let Z15:SH:=.set Z14 b7 (.cells c8 true)
  let Z16:Value:=.pointer (some ⟨k,4,none⟩)
  let Z17:Value:=.pointer (some ⟨k,1,none⟩)
  pvFn Try.prog (pvCall Try.prog 0) Try.f46 [Z1,.int .i64 n] (.is g) [.idx b4,.bit false,.val Z2,.bit false,.val Z2,.num n1,.offs q,.val Z3,.val (.bool false),.val (.bool lv),.idx b7,.cells c7,.val Z4,.val Z4,.val (.int .i64 sn),.cells c8,.val (.bool false),.val Z5,.loop (.exit 1) Z7 (.is g2),.cells [.int .i64 sn,.bool false,.bool lv,.int .i64 0,.string ⟨#[]⟩,.slice oa la za],.cells [.int .i64 sn,.bool false,.bool lv,.int .i64 0,.string ⟨#[]⟩,.slice oa la za],.cells [.int .i64 sn,.bool false,.bool lv,.int .i64 0,.string ⟨#[]⟩,.slice oa la za]] =
  some (.tuple { toList:=[.agg { toList:=Z8 },.int .i64 0] },Z9,[],[.len (.is g) b4,.cmp .lss n 1 false,.ld1 Z11 r 0 Z2,.cmp .gtr n (Int.ofNat len) false,.ld1 Z11 r 0 Z2,.arith .sub .i64 n 1 n1,.off q 0 n1 len 1,.ld1 Z11 to q Z3,.stat (drawN Try.f46 0),.ld1 Z11 k 4 (.bool false),.ld1 Z11 k 3 (.bool lv),.len Z11 b7,.st Z12 b7 0 Z13 c7,.ld1 Z14 k 1 Z4,.ld1 Z14 k 1 Z4,.ld1 Z14 s 0 (.int .i64 sn),.st Z14 b7 0 [.int .i64 sn] c8,.ld1 Z15 k 4 (.bool false),.ld1 Z15 k 2 Z5,.loop 84 false (loopN Try.f46 0) [(71,.int .i64 0),(70,.int .i64 (Int.ofNat ol)),(69,Z5),(68,.pointer (some ⟨k,2,none⟩)),(67,Z3),(66,Z3),(60,.bool false),(59,Z16),(58,Z3),(57,Z3),(56,Z6),(55,.int .i64 sn),(54,Z4),(53,Z4),(52,Z4),(51,Z17),(50,Z3),(49,Z3),(48,.bool true),(47,Z4),(46,Z17),(45,Z3),(44,Z3),(7,Z6),(43,.agg { toList:=Z13 }),(42,.bool lv),(41,.pointer (some ⟨k,3,none⟩)),(40,Z3),(39,Z3),(38,.bool false),(37,Z16),(36,Z3),(35,Z3),(6,Z3),(34,Z3),(33,.pointer (some ⟨to,q,none⟩)),(32,.int .i64 n1),(31,.int .i64 n),(30,Z2),(29,Z1),(28,Z1),(27,Z1),(14,.bool false),(25,.bool false),(24,.bool false),(23,.int .i64 (Int.ofNat len)),(22,Z2),(21,Z1),(20,Z1),(19,Z1),(18,.int .i64 n),(17,.bool false),(16,.bool false),(15,.int .i64 n),(10,.bool false),(12,.bool false),(11,Z1),(5,.int .i64 0),(4,.pointer (some ⟨b4,0,none⟩)),(0,Z1),(1,.int .i64 n)] Z15 (.exit 1) Z7 (.is g2),.ldn (.is g2) b7 0 6 Z8,.st (.is g2) b4 0 Z8 Z8,.ldn Z9 b4 0 6 Z8]):=by intros;kernel_rfl
theorem ta_110(r b4 b7 to len q k s oo ol:Nat)(n n1 sn fk:Int)(en lv:Bool)(ft:ByteArray)(c7 c8 c9 out:List Value)(oa:Option Addr)(la za:Nat)(g g2:Hp) :
  let Z1:Value:=.slice (some ⟨to,0,none⟩) len 1
  let Z2:Value:=.pointer (some ⟨k,0,none⟩)
  let Z3:Value:=.pointer (some ⟨s,0,none⟩)
  let Z4:List Value:=[.int .i64 fk,.string ft]
  let Z5:List Value:=[.int .i64 sn,.bool true,.bool lv,.int .i64 fk,.string ft,.slice none 0 0]
  let Z6:AObj:=.cells [.int .i64 0,.bool false,.bool false,.int .i64 0,.string { data:=#[] },.slice none 0 0] true
  let Z7:SH:=.push (.is g) Z6
  let Z8:SH:=.push Z7 Z6
  let Z9:SH:=.set Z8 b7 (.cells c7 true)
  let Z10:SH:=.set Z9 b7 (.cells c8 true)
  let Z11:SH:=.set Z10 b7 (.cells c9 true)
  let Z12:SH:=.set Z11 b4 (.cells Z5 true)
  pvFn Try.prog (pvCall Try.prog 0) Try.f46 [.pointer (some ⟨r,0,none⟩),.int .i64 n] (.is g) [.idx b4,.bit false,.val Z1,.bit false,.val Z1,.num n1,.offs q,.val Z2,.val (.bool true),.val (.bool lv),.idx b7,.cells c7,.val Z3,.val Z3,.val (.int .i64 sn),.cells c8,.val (.bool true),.cells Z4,.cells c9,.val (.slice none 0 0),.unr 1,.bit false,.cells Z5,.cells Z5,.cells Z5] =
  some (.tuple { toList:=[.agg #[.int .i64 sn,.bool true,.bool lv,.int .i64 fk,.string ft,.slice none 0 0],.int .i64 0] },Z12,[],[.len (.is g) b4,.cmp .lss n 1 false,.ld1 Z7 r 0 Z1,.cmp .gtr n (Int.ofNat len) false,.ld1 Z7 r 0 Z1,.arith .sub .i64 n 1 n1,.off q 0 n1 len 1,.ld1 Z7 to q Z2,.stat (drawN Try.f46 0),.ld1 Z7 k 4 (.bool true),.ld1 Z7 k 3 (.bool lv),.len Z7 b7,.st Z8 b7 0 [.int .i64 0,.bool true,.bool lv,.int .i64 0,.string { data:=#[] },.slice none 0 0] c7,.ld1 Z9 k 1 Z3,.ld1 Z9 k 1 Z3,.ld1 Z9 s 0 (.int .i64 sn),.st Z9 b7 0 [.int .i64 sn] c8,.ld1 Z10 k 4 (.bool true),.ldn Z10 k 5 2 Z4,.st Z10 b7 3 Z4 c9,.ld1 Z11 k 2 (.slice none 0 0),.cmp .lss 0 0 false,.ldn Z11 b7 0 6 Z5,.st Z11 b4 0 Z5 Z5,.ldn Z12 b4 0 6 Z5]):=by intros;kernel_rfl
theorem ta_111(r b4 b7 to len q k s oo ol:Nat)(n n1 sn fk:Int)(en lv:Bool)(ft:ByteArray)(c7 c8 c9 out:List Value)(oa:Option Addr)(la za:Nat)(g g2:Hp) :
  let Z1:Value:=.pointer (some ⟨r,0,none⟩)
  let Z2:Value:=.slice (some ⟨to,0,none⟩) len 1
  let Z3:Value:=.pointer (some ⟨k,0,none⟩)
  let Z4:Value:=.pointer (some ⟨s,0,none⟩)
  let Z5:List Value:=[.int .i64 fk,.string ft]
  let Z6:Value:=.slice (some ⟨oo,0,none⟩) ol 1
  let Z7:Value:=.pointer (some ⟨b7,0,none⟩)
  let Z8:Env:=[(7,Z7),(4,.pointer (some ⟨b4,0,none⟩))]
  let Z9:List Value:=[.int .i64 sn,.bool true,.bool lv,.int .i64 fk,.string ft,.slice oa la za]
  let Z10:SH:=.set (.is g2) b4 (.cells Z9 true)
  let Z11:AObj:=.cells [.int .i64 0,.bool false,.bool false,.int .i64 0,.string { data:=#[] },.slice none 0 0] true
  let Z12:SH:=.push (.is g) Z11
  let Z13:SH:=.push Z12 Z11
  let Z14:List Value:=[.int .i64 0,.bool true,.bool lv,.int .i64 0,.string { data:=#[] },.slice none 0 0]
  let Z15:SH:=.set Z13 b7 (.cells c7 true)
  let Z16:SH:=.set Z15 b7 (.cells c8 true)
  let Z17:SH:=.set Z16 b7 (.cells c9 true)
  let Z18:Value:=.pointer (some ⟨k,4,none⟩)
  let Z19:Value:=.pointer (some ⟨k,1,none⟩)
  pvFn Try.prog (pvCall Try.prog 0) Try.f46 [Z1,.int .i64 n] (.is g) [.idx b4,.bit false,.val Z2,.bit false,.val Z2,.num n1,.offs q,.val Z3,.val (.bool true),.val (.bool lv),.idx b7,.cells c7,.val Z4,.val Z4,.val (.int .i64 sn),.cells c8,.val (.bool true),.cells Z5,.cells c9,.val Z6,.loop (.exit 1) Z8 (.is g2),.cells Z9,.cells Z9,.cells Z9] =
  some (.tuple { toList:=[.agg #[.int .i64 sn,.bool true,.bool lv,.int .i64 fk,.string ft,.slice oa la za],.int .i64 0] },Z10,[],[.len (.is g) b4,.cmp .lss n 1 false,.ld1 Z12 r 0 Z2,.cmp .gtr n (Int.ofNat len) false,.ld1 Z12 r 0 Z2,.arith .sub .i64 n 1 n1,.off q 0 n1 len 1,.ld1 Z12 to q Z3,.stat (drawN Try.f46 0),.ld1 Z12 k 4 (.bool true),.ld1 Z12 k 3 (.bool lv),.len Z12 b7,.st Z13 b7 0 Z14 c7,.ld1 Z15 k 1 Z4,.ld1 Z15 k 1 Z4,.ld1 Z15 s 0 (.int .i64 sn),.st Z15 b7 0 [.int .i64 sn] c8,.ld1 Z16 k 4 (.bool true),.ldn Z16 k 5 2 Z5,.st Z16 b7 3 Z5 c9,.ld1 Z17 k 2 Z6,.loop 84 false (loopN Try.f46 0) [(71,.int .i64 0),(70,.int .i64 (Int.ofNat ol)),(69,Z6),(68,.pointer (some ⟨k,2,none⟩)),(67,Z3),(66,Z3),(65,.pointer (some ⟨b7,3,none⟩)),(64,.agg #[.int .i64 fk,.string ft]),(63,.pointer (some ⟨k,5,none⟩)),(62,Z3),(61,Z3),(60,.bool true),(59,Z18),(58,Z3),(57,Z3),(56,Z7),(55,.int .i64 sn),(54,Z4),(53,Z4),(52,Z4),(51,Z19),(50,Z3),(49,Z3),(48,.bool true),(47,Z4),(46,Z19),(45,Z3),(44,Z3),(7,Z7),(43,.agg { toList:=Z14 }),(42,.bool lv),(41,.pointer (some ⟨k,3,none⟩)),(40,Z3),(39,Z3),(38,.bool true),(37,Z18),(36,Z3),(35,Z3),(6,Z3),(34,Z3),(33,.pointer (some ⟨to,q,none⟩)),(32,.int .i64 n1),(31,.int .i64 n),(30,Z2),(29,Z1),(28,Z1),(27,Z1),(14,.bool false),(25,.bool false),(24,.bool false),(23,.int .i64 (Int.ofNat len)),(22,Z2),(21,Z1),(20,Z1),(19,Z1),(18,.int .i64 n),(17,.bool false),(16,.bool false),(15,.int .i64 n),(10,.bool false),(12,.bool false),(11,Z1),(5,.int .i64 0),(4,.pointer (some ⟨b4,0,none⟩)),(0,Z1),(1,.int .i64 n)] Z17 (.exit 1) Z8 (.is g2),.ldn (.is g2) b7 0 6 Z9,.st (.is g2) b4 0 Z9 Z9,.ldn Z10 b4 0 6 Z9]):=by intros;kernel_rfl
theorem tl_out(b7 b4 oo ol q li d z ln:Nat)(i i1 kd sn:Int)(w:Value)(cs news c7:List Value)(g g2:Hp) :
  pvCode Try.prog (pvCall Try.prog 0) 84 false (loopN Try.f46 0) [(71,.int .i64 i),(70,.int .i64 (Int.ofNat ol)),(69,.slice (some ⟨oo,0,none⟩) ol 1),(7,.pointer (some ⟨b7,0,none⟩)),(4,.pointer (some ⟨b4,0,none⟩))] (.is g) [.bit false] =
  some (.exit 1,[(72,.bool false),(71,.int .i64 i),(70,.int .i64 (Int.ofNat ol)),(69,.slice (some ⟨oo,0,none⟩) ol 1),(7,.pointer (some ⟨b7,0,none⟩)),(4,.pointer (some ⟨b4,0,none⟩))],.is g,[],[.cmp .lss i (Int.ofNat ol) false]):=by intros;kernel_rfl
theorem tl_gon(b7 b4 oo ol q li d z ln:Nat)(i i1 kd sn:Int)(w:Value)(cs news c7:List Value)(g g2:Hp) :
  let Z1:Value:=.agg #[.int .i64 kd,.int .i64 sn]
  let Z2:Value:=.pointer (some ⟨b7,5,none⟩)
  let Z3:Value:=.slice (some ⟨z,0,none⟩) 1 2
  let Z4:SH:=.push (.is g2) (.cells [.int .i64 kd,.int .i64 sn] true)
  let Z5:SH:=.push Z4 (.cells news true)
  pvCode Try.prog (pvCall Try.prog 0) 84 false (loopN Try.f46 0) [(71,.int .i64 i),(70,.int .i64 (Int.ofNat ol)),(69,.slice (some ⟨oo,0,none⟩) ol 1),(7,.pointer (some ⟨b7,0,none⟩)),(4,.pointer (some ⟨b4,0,none⟩))] (.is g) [.bit true,.offs q,.val w,.val (.slice none 0 0),.ret Z1 (.is g2),.idx d,.app [] news 0 z,.cells c7,.num i1] =
  some (.normal,[(71,.int .i64 i1),(82,.int .i64 i1),(81,Z2),(80,Z3),(79,.slice (some ⟨d,0,none⟩) 1 2),(78,Z1),(77,w),(76,.slice none 0 0),(75,Z2),(9,w),(74,w),(73,.pointer (some ⟨oo,q,none⟩)),(72,.bool true),(71,.int .i64 i),(70,.int .i64 (Int.ofNat ol)),(69,.slice (some ⟨oo,0,none⟩) ol 1),(7,.pointer (some ⟨b7,0,none⟩)),(4,.pointer (some ⟨b4,0,none⟩))],.set Z5 b7 (.cells c7 true),[],[.cmp .lss i (Int.ofNat ol) true,.off q 0 i ol 1,.ld1 (.is g) oo q w,.stat (drawN Try.f46 1),.again (.is g) 42 Z2 (.slice none 0 0),.again (.is g) 42 Z2 (.slice none 0 0),.again (.is g2) 42 Z2 (.slice none 0 0),.ld1 (.is g) b7 5 (.slice none 0 0),.call 71 [w] (.is g) Z1 (.is g2),.len (.is g2) d,.appNil Z4 d 0 1 0 2 16 news z,.st Z5 b7 5 [Z3] c7,.arith .add .i64 i 1 i1]):=by intros;kernel_rfl
theorem tl_gos(b7 b4 oo ol q li d z ln:Nat)(i i1 kd sn:Int)(w:Value)(cs news c7:List Value)(g g2:Hp) :
  let Z1:Value:=.slice (some ⟨li,0,none⟩) ln 2
  let Z2:Value:=.agg #[.int .i64 kd,.int .i64 sn]
  let Z3:Value:=.pointer (some ⟨b7,5,none⟩)
  let Z4:Value:=.slice (some ⟨z,0,none⟩) (Nat.succ ln) 2
  let Z5:SH:=.push (.is g2) (.cells [.int .i64 kd,.int .i64 sn] true)
  let Z6:SH:=.push (.set Z5 li .dead) (.cells cs true)
  pvCode Try.prog (pvCall Try.prog 0) 84 false (loopN Try.f46 0) [(71,.int .i64 i),(70,.int .i64 (Int.ofNat ol)),(69,.slice (some ⟨oo,0,none⟩) ol 1),(7,.pointer (some ⟨b7,0,none⟩)),(4,.pointer (some ⟨b4,0,none⟩))] (.is g) [.bit true,.offs q,.val w,.val Z1,.ret Z2 (.is g2),.idx d,.app cs news 0 z,.cells c7,.num i1] =
  some (.normal,[(71,.int .i64 i1),(82,.int .i64 i1),(81,Z3),(80,Z4),(79,.slice (some ⟨d,0,none⟩) 1 2),(78,Z2),(77,w),(76,Z1),(75,Z3),(9,w),(74,w),(73,.pointer (some ⟨oo,q,none⟩)),(72,.bool true),(71,.int .i64 i),(70,.int .i64 (Int.ofNat ol)),(69,.slice (some ⟨oo,0,none⟩) ol 1),(7,.pointer (some ⟨b7,0,none⟩)),(4,.pointer (some ⟨b4,0,none⟩))],.set Z6 b7 (.cells c7 true),[],[.cmp .lss i (Int.ofNat ol) true,.off q 0 i ol 1,.ld1 (.is g) oo q w,.stat (drawN Try.f46 1),.again (.is g) 42 Z3 Z1,.again (.is g) 42 Z3 Z1,.again (.is g2) 42 Z3 Z1,.ld1 (.is g) b7 5 Z1,.call 71 [w] (.is g) Z2 (.is g2),.len (.is g2) d,.app Z5 li 0 ln d 0 1 0 2 16 cs news z,.st Z6 b7 5 [Z4] c7,.arith .add .i64 i 1 i1]):=by intros;kernel_rfl
theorem sc_err(r b4 b8 s k oo ol:Nat)(n e kn fk:Int)(su ov:Bool)(ft:ByteArray)(c8 out:List Value)(oa:Option Addr)(la za:Nat)(g g2 g3:Hp) :
  let Z1:List Value:=[.pointer (some ⟨r,0,none⟩),.int .i64 n]
  let Z2:Value:=.tuple #[.pointer none,.int .i64 e]
  let Z3:List Value:=[.int .i64 0,.bool false,.bool false,.slice none 0 0,.int .i64 0,.string { data:=#[] }]
  let Z4:AObj:=.cells Z3 true
  let Z5:SH:=.set (.is g2) b4 Z4
  pvFn Try.prog (pvCall Try.prog 0) Try.f69 Z1 (.is g) [.idx b4,.ret Z2 (.is g2),.bit true,.cells [.int .i64 0,.bool false,.bool false,.slice none 0 0,.int .i64 0,.string ⟨#[]⟩],.cells [.int .i64 0,.bool false,.bool false,.slice none 0 0,.int .i64 0,.string ⟨#[]⟩]] =
  some (.tuple { toList:=[.agg { toList:=Z3 },.int .i64 e] },Z5,[],[.len (.is g) b4,.call 72 Z1 (.push (.is g) Z4) Z2 (.is g2),.cmp .neq e 0 true,.st (.is g2) b4 0 Z3 Z3,.ldn Z5 b4 0 6 Z3]):=by intros;kernel_rfl
theorem sc_0(r b4 b8 s k oo ol:Nat)(n e kn fk:Int)(su ov:Bool)(ft:ByteArray)(c8 out:List Value)(oa:Option Addr)(la za:Nat)(g g2 g3:Hp) :
  let Z1:List Value:=[.pointer (some ⟨r,0,none⟩),.int .i64 n]
  let Z2:Value:=.tuple #[.pointer (some ⟨s,0,none⟩),.int .i64 0]
  let Z3:Value:=.pointer (some ⟨k,0,none⟩)
  let Z4:List Value:=[.int .i64 fk,.string ft]
  let Z5:List Value:=[.int .i64 kn,.bool su,.bool ov,.slice none 0 0,.int .i64 fk,.string ft]
  let Z6:AObj:=.cells [.int .i64 0,.bool false,.bool false,.slice none 0 0,.int .i64 0,.string { data:=#[] }] true
  let Z7:SH:=.push (.is g2) Z6
  let Z8:SH:=.set Z7 b8 (.cells c8 true)
  let Z9:SH:=.set Z8 b4 (.cells Z5 true)
  pvFn Try.prog (pvCall Try.prog 0) Try.f69 Z1 (.is g) [.idx b4,.ret Z2 (.is g2),.bit false,.val Z3,.val (.int .i64 kn),.val (.bool su),.val (.bool ov),.cells Z4,.idx b8,.cells c8,.val (.slice none 0 0),.unr 1,.bit false,.cells Z5,.cells Z5,.cells Z5] =
  some (.tuple { toList:=[.agg #[.int .i64 kn,.bool su,.bool ov,.slice none 0 0,.int .i64 fk,.string ft],.int .i64 0] },Z9,[],[.len (.is g) b4,.call 72 Z1 (.push (.is g) Z6) Z2 (.is g2),.cmp .neq 0 0 false,.stat (drawN Try.f69 0),.ld1 (.is g2) s 1 Z3,.ld1 (.is g2) k 0 (.int .i64 kn),.ld1 (.is g2) s 2 (.bool su),.ld1 (.is g2) s 3 (.bool ov),.ldn (.is g2) s 6 2 Z4,.len (.is g2) b8,.st Z7 b8 0 Z5 c8,.ld1 Z8 s 4 (.slice none 0 0),.cmp .lss 0 0 false,.ldn Z8 b8 0 6 Z5,.st Z8 b4 0 Z5 Z5,.ldn Z9 b4 0 6 Z5]):=by intros;kernel_rfl
theorem sc_1(r b4 b8 s k oo ol:Nat)(n e kn fk:Int)(su ov:Bool)(ft:ByteArray)(c8 out:List Value)(oa:Option Addr)(la za:Nat)(g g2 g3:Hp) :
  let Z1:Value:=.pointer (some ⟨r,0,none⟩)
  let Z2:List Value:=[Z1,.int .i64 n]
  let Z3:Value:=.pointer (some ⟨s,0,none⟩)
  let Z4:Value:=.tuple #[Z3,.int .i64 0]
  let Z5:Value:=.pointer (some ⟨k,0,none⟩)
  let Z6:List Value:=[.int .i64 fk,.string ft]
  let Z7:Value:=.slice (some ⟨oo,0,none⟩) ol 1
  let Z8:Env:=[(8,.pointer (some ⟨b8,0,none⟩)),(4,.pointer (some ⟨b4,0,none⟩))]
  let Z9:List Value:=[.int .i64 kn,.bool su,.bool ov,.slice oa la za,.int .i64 fk,.string ft]
  let Z10:SH:=.set (.is g3) b4 (.cells Z9 true)
  let Z11:AObj:=.cells [.int .i64 0,.bool false,.bool false,.slice none 0 0,.int .i64 0,.string { data:=#[] }] true
  let Z12:SH:=.push (.is g2) Z11
  let Z13:SH:=.set Z12 b8 (.cells c8 true)
  pvFn Try.prog (pvCall Try.prog 0) Try.f69 Z2 (.is g) [.idx b4,.ret Z4 (.is g2),.bit false,.val Z5,.val (.int .i64 kn),.val (.bool su),.val (.bool ov),.cells Z6,.idx b8,.cells c8,.val Z7,.loop (.exit 0) Z8 (.is g3),.cells Z9,.cells Z9,.cells Z9] =
  some (.tuple { toList:=[.agg #[.int .i64 kn,.bool su,.bool ov,.slice oa la za,.int .i64 fk,.string ft],.int .i64 0] },Z10,[],[.len (.is g) b4,.call 72 Z2 (.push (.is g) Z11) Z4 (.is g2),.cmp .neq 0 0 false,.stat (drawN Try.f69 0),.ld1 (.is g2) s 1 Z5,.ld1 (.is g2) k 0 (.int .i64 kn),.ld1 (.is g2) s 2 (.bool su),.ld1 (.is g2) s 3 (.bool ov),.ldn (.is g2) s 6 2 Z6,.len (.is g2) b8,.st Z12 b8 0 [.int .i64 kn,.bool su,.bool ov,.slice none 0 0,.int .i64 fk,.string ft] c8,.ld1 Z13 s 4 Z7,.loop 61 false (loopN Try.f69 0) [(46,.int .i64 0),(45,.int .i64 (Int.ofNat ol)),(44,Z7),(43,.pointer (some ⟨s,4,none⟩)),(42,Z3),(41,Z3),(8,.pointer (some ⟨b8,0,none⟩)),(40,.agg #[.int .i64 kn,.bool su,.bool ov,.slice none 0 0,.int .i64 fk,.string ft]),(39,.agg #[.int .i64 fk,.string ft]),(38,.pointer (some ⟨s,6,none⟩)),(37,Z3),(36,Z3),(35,.bool ov),(34,.pointer (some ⟨s,3,none⟩)),(33,Z3),(32,Z3),(31,.bool su),(30,.pointer (some ⟨s,2,none⟩)),(29,Z3),(28,Z3),(27,.int .i64 kn),(26,Z5),(25,Z5),(24,Z5),(23,.pointer (some ⟨s,1,none⟩)),(22,Z3),(21,Z3),(18,.bool false),(17,.int .i64 0),(7,.int .i64 0),(6,Z3),(16,.int .i64 0),(15,Z3),(11,Z4),(14,Z4),(13,.int .i64 n),(12,Z1),(5,.int .i64 0),(4,.pointer (some ⟨b4,0,none⟩)),(0,Z1),(1,.int .i64 n)] Z13 (.exit 0) Z8 (.is g3),.ldn (.is g3) b8 0 6 Z9,.st (.is g3) b4 0 Z9 Z9,.ldn Z10 b4 0 6 Z9]):=by intros;kernel_rfl
theorem sl_out(b8 b4 oo ol q k li d z ln:Nat)(i i1 kn:Int)(cs news c8:List Value)(g g2:Hp) :
  pvCode Try.prog (pvCall Try.prog 0) 61 false (loopN Try.f69 0) [(46,.int .i64 i),(45,.int .i64 (Int.ofNat ol)),(44,.slice (some ⟨oo,0,none⟩) ol 1),(8,.pointer (some ⟨b8,0,none⟩)),(4,.pointer (some ⟨b4,0,none⟩))] (.is g) [.bit false] =
  some (.exit 0,[(47,.bool false),(46,.int .i64 i),(45,.int .i64 (Int.ofNat ol)),(44,.slice (some ⟨oo,0,none⟩) ol 1),(8,.pointer (some ⟨b8,0,none⟩)),(4,.pointer (some ⟨b4,0,none⟩))],.is g,[],[.cmp .lss i (Int.ofNat ol) false]):=by intros;kernel_rfl
theorem sl_gon(b8 b4 oo ol q k li d z ln:Nat)(i i1 kn:Int)(cs news c8:List Value)(g g2:Hp) :
  let Z1:Value:=.pointer (some ⟨k,0,none⟩)
  let Z2:Value:=.pointer (some ⟨b8,3,none⟩)
  let Z3:Value:=.slice (some ⟨z,0,none⟩) 1 1
  let Z4:SH:=.push (.is g) (.cells [.int .i64 kn] true)
  let Z5:SH:=.push Z4 (.cells news true)
  pvCode Try.prog (pvCall Try.prog 0) 61 false (loopN Try.f69 0) [(46,.int .i64 i),(45,.int .i64 (Int.ofNat ol)),(44,.slice (some ⟨oo,0,none⟩) ol 1),(8,.pointer (some ⟨b8,0,none⟩)),(4,.pointer (some ⟨b4,0,none⟩))] (.is g) [.bit true,.offs q,.val Z1,.val (.slice none 0 0),.val (.int .i64 kn),.idx d,.app [] news 0 z,.cells c8,.num i1] =
  some (.normal,[(46,.int .i64 i1),(59,.int .i64 i1),(58,Z2),(57,Z3),(56,.slice (some ⟨d,0,none⟩) 1 1),(55,.int .i64 kn),(54,Z1),(53,Z1),(52,Z1),(51,.slice none 0 0),(50,Z2),(10,Z1),(49,Z1),(48,.pointer (some ⟨oo,q,none⟩)),(47,.bool true),(46,.int .i64 i),(45,.int .i64 (Int.ofNat ol)),(44,.slice (some ⟨oo,0,none⟩) ol 1),(8,.pointer (some ⟨b8,0,none⟩)),(4,.pointer (some ⟨b4,0,none⟩))],.set Z5 b8 (.cells c8 true),[],[.cmp .lss i (Int.ofNat ol) true,.off q 0 i ol 1,.ld1 (.is g) oo q Z1,.stat (drawN Try.f69 1),.ld1 (.is g) b8 3 (.slice none 0 0),.ld1 (.is g) k 0 (.int .i64 kn),.len (.is g) d,.appNil Z4 d 0 1 0 1 8 news z,.st Z5 b8 3 [Z3] c8,.arith .add .i64 i 1 i1]):=by intros;kernel_rfl
theorem sl_gos(b8 b4 oo ol q k li d z ln:Nat)(i i1 kn:Int)(cs news c8:List Value)(g g2:Hp) :
  let Z1:Value:=.pointer (some ⟨k,0,none⟩)
  let Z2:Value:=.slice (some ⟨li,0,none⟩) ln 1
  let Z3:Value:=.pointer (some ⟨b8,3,none⟩)
  let Z4:Value:=.slice (some ⟨z,0,none⟩) (Nat.succ ln) 1
  let Z5:SH:=.push (.is g) (.cells [.int .i64 kn] true)
  let Z6:SH:=.push (.set Z5 li .dead) (.cells cs true)
  pvCode Try.prog (pvCall Try.prog 0) 61 false (loopN Try.f69 0) [(46,.int .i64 i),(45,.int .i64 (Int.ofNat ol)),(44,.slice (some ⟨oo,0,none⟩) ol 1),(8,.pointer (some ⟨b8,0,none⟩)),(4,.pointer (some ⟨b4,0,none⟩))] (.is g) [.bit true,.offs q,.val Z1,.val Z2,.val (.int .i64 kn),.idx d,.app cs news 0 z,.cells c8,.num i1] =
  some (.normal,[(46,.int .i64 i1),(59,.int .i64 i1),(58,Z3),(57,Z4),(56,.slice (some ⟨d,0,none⟩) 1 1),(55,.int .i64 kn),(54,Z1),(53,Z1),(52,Z1),(51,Z2),(50,Z3),(10,Z1),(49,Z1),(48,.pointer (some ⟨oo,q,none⟩)),(47,.bool true),(46,.int .i64 i),(45,.int .i64 (Int.ofNat ol)),(44,.slice (some ⟨oo,0,none⟩) ol 1),(8,.pointer (some ⟨b8,0,none⟩)),(4,.pointer (some ⟨b4,0,none⟩))],.set Z6 b8 (.cells c8 true),[],[.cmp .lss i (Int.ofNat ol) true,.off q 0 i ol 1,.ld1 (.is g) oo q Z1,.stat (drawN Try.f69 1),.ld1 (.is g) b8 3 Z2,.ld1 (.is g) k 0 (.int .i64 kn),.len (.is g) d,.app Z5 li 0 ln d 0 1 0 1 8 cs news z,.st Z6 b8 3 [Z4] c8,.arith .add .i64 i 1 i1]):=by intros;kernel_rfl
end Go.Proofs.Ytlonjogfeidgfaa.r13p
namespace Go.Proofs.Ytlonjogfeidgfaa.r12p
open Go Go.Ev
set_option maxRecDepth 100000
set_option linter.unusedVariables false
theorem sp_err(r k b2 b4 b5:Nat)(n e:Int)(c5:List Value)(g g2:Hp) :
  let Z1:Value:=.pointer (some ⟨r,0,none⟩)
  let Z2:List Value:=[Z1,.int .i64 n]
  let Z3:Value:=.tuple #[.pointer none,.int .i64 e]
  let Z4:AObj:=.cells [.int .i64 0] true
  let Z5:SH:=.set (.is g2) b4 Z4
  let Z6:SH:=.push (.is g) (.cells [Z1] true)
  let Z7:SH:=.push Z6 Z4
  let Z8:SH:=.push Z7 Z4
  pvCode Try.prog (pvCall Try.prog 0) 37 false (chain [partC Try.f63 [0],partC Try.f63 [1,0],partC Try.f63 [1,1,0]]) (enterE 0 Z2) (.is g) [.idx b2,.idx b4,.idx b5,.val Z1,.ret Z3 (.is g2),.bit true,.cells [.int .i64 0],.cells c5] =
  some (.ret,[(18,.int .i64 e),(17,.bool true),(16,.int .i64 e),(7,.int .i64 e),(6,.pointer none),(15,.int .i64 e),(14,.pointer none),(10,Z3),(13,Z3),(12,.int .i64 n),(11,Z1),(5,.pointer (some ⟨b5,0,none⟩)),(4,.pointer (some ⟨b4,0,none⟩)),(2,.pointer (some ⟨b2,0,none⟩)),(0,Z1),(1,.int .i64 n)],.set Z5 b5 (.cells c5 true),[],[.len (.is g) b2,.len Z6 b4,.len Z7 b5,.ld1 Z8 b2 0 Z1,.call 78 Z2 Z8 Z3 (.is g2),.cmp .neq e 0 true,.st (.is g2) b4 0 [.int .i64 0] [.int .i64 0],.st Z5 b5 0 [.int .i64 e] c5]):=by intros;kernel_rfl
theorem sp_pre(r k b2 b4 b5:Nat)(n e:Int)(c5:List Value)(g g2:Hp) :
  let Z1:Value:=.pointer (some ⟨r,0,none⟩)
  let Z2:List Value:=[Z1,.int .i64 n]
  let Z3:Value:=.pointer (some ⟨k,0,none⟩)
  let Z4:Value:=.tuple #[Z3,.int .i64 0]
  let Z5:SH:=.push (.is g) (.cells [Z1] true)
  let Z6:AObj:=.cells [.int .i64 0] true
  let Z7:SH:=.push Z5 Z6
  let Z8:SH:=.push Z7 Z6
  pvCode Try.prog (pvCall Try.prog 0) 37 false (chain [partC Try.f63 [0],partC Try.f63 [1,0],partC Try.f63 [1,1,0]]) (enterE 0 Z2) (.is g) [.idx b2,.idx b4,.idx b5,.val Z1,.ret Z4 (.is g2),.bit false] =
  some (.normal,[(17,.bool false),(16,.int .i64 0),(7,.int .i64 0),(6,Z3),(15,.int .i64 0),(14,Z3),(10,Z4),(13,Z4),(12,.int .i64 n),(11,Z1),(5,.pointer (some ⟨b5,0,none⟩)),(4,.pointer (some ⟨b4,0,none⟩)),(2,.pointer (some ⟨b2,0,none⟩)),(0,Z1),(1,.int .i64 n)],.is g2,[],[.len (.is g) b2,.len Z5 b4,.len Z7 b5,.ld1 Z8 b2 0 Z1,.call 78 Z2 Z8 Z4 (.is g2),.cmp .neq 0 0 false]):=by intros;kernel_rfl
theorem sp_r4(k b2 b4 b5 bb ln z:Nat)(o:Option Addr)(g:Hp) :
  let Z1:Value:=.pointer (some ⟨k,0,none⟩)
  pvCode Try.prog (pvCall Try.prog 1) 37 false (partC Try.f63 [1,1,1,0,0]) [(6,Z1),(2,.pointer (some ⟨b2,0,none⟩)),(4,.pointer (some ⟨b4,0,none⟩)),(5,.pointer (some ⟨b5,0,none⟩))] (.is g) [.val (.slice o ln z),.inl,.idx bb] =
  some (.normal,[(23,.func (Fn.func 90) #[] #[.pointer (some ⟨bb,0,none⟩)]),(22,.slice o ln z),(21,.pointer (some ⟨k,2,none⟩)),(20,Z1),(19,Z1),(6,Z1),(2,.pointer (some ⟨b2,0,none⟩)),(4,.pointer (some ⟨b4,0,none⟩)),(5,.pointer (some ⟨b5,0,none⟩))],.push (.is g) (.cells [.slice o ln z] true),[],[.ld1 (.is g) k 2 (.slice o ln z),.len (.is g) bb]):=by intros;kernel_rfl
theorem sp_as(b2 b4 b5:Nat)(j:Int)(v:Value)(g:Hp) :
  pvCode Try.prog (pvCall Try.prog 0) 37 true (partC Try.f63 [1,1,1,0,1,0,0]) [(25,v),(24,.int .i64 j),(2,.pointer (some ⟨b2,0,none⟩)),(4,.pointer (some ⟨b4,0,none⟩)),(5,.pointer (some ⟨b5,0,none⟩))] (.is g) [] =
  some (.normal,[(9,v),(25,v),(24,.int .i64 j),(2,.pointer (some ⟨b2,0,none⟩)),(4,.pointer (some ⟨b4,0,none⟩)),(5,.pointer (some ⟨b5,0,none⟩))],.is g,[],[]):=by intros;kernel_rfl
theorem sp_nil(b2 b4 b5 r s to len:Nat)(x:Int)(c4 c5:List Value)(g g2:Hp) :
  pvCode Try.prog (pvCall Try.prog 0) 37 true (partC Try.f63 [1,1,1,0,1,0,1]) [(9,.pointer none),(2,.pointer (some ⟨b2,0,none⟩)),(4,.pointer (some ⟨b4,0,none⟩)),(5,.pointer (some ⟨b5,0,none⟩))] (.is g) [] =
  some (.normal,[(27,.bool true),(26,.pointer none),(9,.pointer none),(2,.pointer (some ⟨b2,0,none⟩)),(4,.pointer (some ⟨b4,0,none⟩)),(5,.pointer (some ⟨b5,0,none⟩))],.is g,[],[]):=by intros;kernel_rfl
theorem sp_full(b2 b4 b5 r s to len:Nat)(x:Int)(c4 c5:List Value)(g g2:Hp) :
  let Z1:Value:=.pointer (some ⟨s,0,none⟩)
  let Z2:Value:=.pointer (some ⟨r,0,none⟩)
  let Z3:Value:=.slice (some ⟨to,0,none⟩) len 1
  let Z4:SH:=.set (.is g) b4 (.cells c4 true)
  pvCode Try.prog (pvCall Try.prog 0) 37 true (partC Try.f63 [1,1,1,0,1,0,1]) [(9,Z1),(2,.pointer (some ⟨b2,0,none⟩)),(4,.pointer (some ⟨b4,0,none⟩)),(5,.pointer (some ⟨b5,0,none⟩))] (.is g) [.val Z2,.val Z3,.bit true,.cells c4,.cells c5] =
  some (.ret,[(33,.bool true),(32,.int .i64 (Int.ofNat len)),(31,Z3),(30,Z2),(29,Z2),(28,Z2),(27,.bool false),(26,Z1),(9,Z1),(2,.pointer (some ⟨b2,0,none⟩)),(4,.pointer (some ⟨b4,0,none⟩)),(5,.pointer (some ⟨b5,0,none⟩))],.set Z4 b5 (.cells c5 true),[],[.ld1 (.is g) b2 0 Z2,.ld1 (.is g) r 0 Z3,.cmp .geq (Int.ofNat len) 64 true,.st (.is g) b4 0 [.int .i64 0] c4,.st Z4 b5 0 [.int .i64 5] c5]):=by intros;kernel_rfl
theorem sp_ok(b2 b4 b5 r s to len:Nat)(x:Int)(c4 c5:List Value)(g g2:Hp) :
  let Z1:Value:=.pointer (some ⟨s,0,none⟩)
  let Z2:Value:=.pointer (some ⟨r,0,none⟩)
  let Z3:Value:=.slice (some ⟨to,0,none⟩) len 1
  let Z4:SH:=.set (.is g2) b4 (.cells c4 true)
  pvCode Try.prog (pvCall Try.prog 0) 37 true (partC Try.f63 [1,1,1,0,1,0,1]) [(9,Z1),(2,.pointer (some ⟨b2,0,none⟩)),(4,.pointer (some ⟨b4,0,none⟩)),(5,.pointer (some ⟨b5,0,none⟩))] (.is g) [.val Z2,.val Z3,.bit false,.val Z2,.ret (.int .i64 x) (.is g2),.cells c4,.cells c5] =
  some (.ret,[(36,.int .i64 x),(35,Z1),(34,Z2),(33,.bool false),(32,.int .i64 (Int.ofNat len)),(31,Z3),(30,Z2),(29,Z2),(28,Z2),(27,.bool false),(26,Z1),(9,Z1),(2,.pointer (some ⟨b2,0,none⟩)),(4,.pointer (some ⟨b4,0,none⟩)),(5,.pointer (some ⟨b5,0,none⟩))],.set Z4 b5 (.cells c5 true),[],[.ld1 (.is g) b2 0 Z2,.ld1 (.is g) r 0 Z3,.cmp .geq (Int.ofNat len) 64 false,.ld1 (.is g) b2 0 Z2,.call 70 [Z2,Z1] (.is g) (.int .i64 x) (.is g2),.st (.is g2) b4 0 [.int .i64 x] c4,.st Z4 b5 0 [.int .i64 0] c5]):=by intros;kernel_rfl
theorem sp_post(b4 b5:Nat)(c4 c5:List Value)(g:Hp) :
  let Z1:Env:=[(4,.pointer (some ⟨b4,0,none⟩)),(5,.pointer (some ⟨b5,0,none⟩))]
  let Z2:SH:=.set (.is g) b4 (.cells c4 true)
  pvCode Try.prog (pvCall Try.prog 0) 37 false (partC Try.f63 [1,1,1,1]) Z1 (.is g) [.cells c4,.cells c5] =
  some (.ret,Z1,.set Z2 b5 (.cells c5 true),[],[.st (.is g) b4 0 [.int .i64 0] c4,.st Z2 b5 0 [.int .i64 22] c5]):=by intros;kernel_rfl
theorem bk_r0(bb L n:Nat)(o:Option Addr)(z:Nat)(n1:Int)(g:Hp) :
  let Z1:Value:=.pointer (some ⟨bb,0,none⟩)
  pvCode Try.prog (pvCall Try.prog 0) 19 false (partC Try.f90 [0]) (enterE 0 [.func (.yield L) #[] #[],Z1]) (.is g) [.val (.slice o n z),.num n1] =
  some (.normal,[(3,.int .i64 n1),(6,.int .i64 n1),(5,.int .i64 (Int.ofNat n)),(4,.slice o n z),(0,.func (Fn.yield L) #[] #[]),(1,Z1)],.is g,[],[.ld1 (.is g) bb 0 (.slice o n z),.arith .sub .i64 (Int.ofNat n) 1 n1]):=by intros;kernel_rfl
theorem bk_end(bb L:Nat)(k:Int)(g:Hp) :
  pvCode Try.prog (pvCall Try.prog 0) 19 false (loopN Try.f90 0) [(3,.int .i64 k),(1,.pointer (some ⟨bb,0,none⟩)),(0,.func (.yield L) #[] #[])] (.is g) [.bit false] =
  some (.exit 0,[(8,.bool false),(7,.int .i64 k),(3,.int .i64 k),(1,.pointer (some ⟨bb,0,none⟩)),(0,.func (Fn.yield L) #[] #[])],.is g,[],[.cmp .geq k 0 false]):=by intros;kernel_rfl
theorem bk_go(bb j n L q:Nat)(k k1:Int)(v:Value)(g g':Hp) :
  let Z1:Value:=.slice (some ⟨j,0,none⟩) n 1
  let Z2:Value:=.func (Fn.yield L) #[] #[]
  pvCode Try.prog (pvCall Try.prog 0) 19 false (loopN Try.f90 0) [(3,.int .i64 k),(1,.pointer (some ⟨bb,0,none⟩)),(0,.func (.yield L) #[] #[])] (.is g) [.bit true,.val Z1,.offs q,.val v,.ret (.bool true) (.is g'),.num k1] =
  some (.normal,[(3,.int .i64 k1),(10,.int .i64 k1),(9,.int .i64 k),(18,.bool false),(17,.bool true),(16,v),(15,.pointer (some ⟨j,q,none⟩)),(14,.int .i64 k),(13,Z1),(12,.int .i64 k),(11,Z2),(8,.bool true),(7,.int .i64 k),(3,.int .i64 k),(1,.pointer (some ⟨bb,0,none⟩)),(0,Z2)],.is g',[],[.cmp .geq k 0 true,.ld1 (.is g) bb 0 Z1,.off q 0 k n 1,.ld1 (.is g) j q v,.yld L [.int .i64 k,v] (.is g) (.bool true) (.is g'),.arith .sub .i64 k 1 k1]):=by intros;kernel_rfl
theorem bk_stop(bb j n L q:Nat)(k k1:Int)(v:Value)(g g':Hp) :
  let Z1:Value:=.slice (some ⟨j,0,none⟩) n 1
  let Z2:Value:=.func (Fn.yield L) #[] #[]
  pvCode Try.prog (pvCall Try.prog 0) 19 false (loopN Try.f90 0) [(3,.int .i64 k),(1,.pointer (some ⟨bb,0,none⟩)),(0,.func (.yield L) #[] #[])] (.is g) [.bit true,.val Z1,.offs q,.val v,.ret (.bool false) (.is g')] =
  some (.ret,[(18,.bool true),(17,.bool false),(16,v),(15,.pointer (some ⟨j,q,none⟩)),(14,.int .i64 k),(13,Z1),(12,.int .i64 k),(11,Z2),(8,.bool true),(7,.int .i64 k),(3,.int .i64 k),(1,.pointer (some ⟨bb,0,none⟩)),(0,Z2)],.is g',[],[.cmp .geq k 0 true,.ld1 (.is g) bb 0 Z1,.off q 0 k n 1,.ld1 (.is g) j q v,.yld L [.int .i64 k,v] (.is g) (.bool false) (.is g')]):=by intros;kernel_rfl
end Go.Proofs.Ytlonjogfeidgfaa.r12p
namespace Go.Proofs.Ytlonjogfeidgfaa.r8p
open Go Go.Ev
set_option maxRecDepth 100000
set_option linter.unusedVariables false
theorem tx_end(t:ByteArray)(k m:Int)(h:Hp) :
  pvCode Try.prog (pvCall Try.prog 0) 23 false (loopN Try.f92 0) [(9,.int .i64 k),(8,.int .i64 m),(0,.string t)] (.is h) [.bit false] =
  some (Ex.exit 0,[(10,Value.bool false),(9,Value.int IntKind.i64 k),(8,Value.int IntKind.i64 m),(0,Value.string t)],SH.is h,[],[Asm.cmp BinOp.lss k m false]):=by intros;kernel_rfl
theorem tx_low(t:ByteArray)(k m:Int)(h:Hp)(c:Int) :
  pvCode Try.prog (pvCall Try.prog 0) 23 false (loopN Try.f92 0) [(9,.int .i64 k),(8,.int .i64 m),(0,.string t)] (.is h) [.bit true,.num c,.bit true] =
  some (Ex.ret,[(2,Value.bool false),(21,Value.bool true),(20,Value.tuple { toList:=[] }),(19,Value.tuple { toList:=[] }),(18,Value.tuple { toList:=[] }),(17,Value.tuple { toList:=[] }),(16,Value.bool true),(15,Value.bool true),(14,Value.int IntKind.u8 c),(13,Value.int IntKind.i64 k),(12,Value.string t),(3,Value.int IntKind.i64 k),(11,Value.int IntKind.i64 k),(10,Value.bool true),(9,Value.int IntKind.i64 k),(8,Value.int IntKind.i64 m),(0,Value.string t)],SH.is h,[],[Asm.cmp BinOp.lss k m true,Asm.sidx t k c,Asm.cmp BinOp.lss c 32 true]):=by intros;kernel_rfl
theorem tx_high(t:ByteArray)(k m:Int)(h:Hp)(c:Int) :
  pvCode Try.prog (pvCall Try.prog 0) 23 false (loopN Try.f92 0) [(9,.int .i64 k),(8,.int .i64 m),(0,.string t)] (.is h) [.bit true,.num c,.bit false,.num c,.bit true] =
  some (Ex.ret,[(2,Value.bool false),(21,Value.bool true),(20,Value.bool true),(19,Value.int IntKind.u8 c),(18,Value.int IntKind.i64 k),(17,Value.string t),(16,Value.bool false),(15,Value.bool false),(14,Value.int IntKind.u8 c),(13,Value.int IntKind.i64 k),(12,Value.string t),(3,Value.int IntKind.i64 k),(11,Value.int IntKind.i64 k),(10,Value.bool true),(9,Value.int IntKind.i64 k),(8,Value.int IntKind.i64 m),(0,Value.string t)],SH.is h,[],[Asm.cmp BinOp.lss k m true,Asm.sidx t k c,Asm.cmp BinOp.lss c 32 false,Asm.sidx t k c,Asm.cmp BinOp.gtr c 126 true]):=by intros;kernel_rfl
theorem tx_go(t:ByteArray)(k m:Int)(h:Hp)(c k1:Int) :
  pvCode Try.prog (pvCall Try.prog 0) 23 false (loopN Try.f92 0) [(9,.int .i64 k),(8,.int .i64 m),(0,.string t)] (.is h) [.bit true,.num c,.bit false,.num c,.bit false,.num k1] =
  some (Ex.normal,[(9,Value.int IntKind.i64 k1),(22,Value.int IntKind.i64 k1),(21,Value.bool false),(20,Value.bool false),(19,Value.int IntKind.u8 c),(18,Value.int IntKind.i64 k),(17,Value.string t),(16,Value.bool false),(15,Value.bool false),(14,Value.int IntKind.u8 c),(13,Value.int IntKind.i64 k),(12,Value.string t),(3,Value.int IntKind.i64 k),(11,Value.int IntKind.i64 k),(10,Value.bool true),(9,Value.int IntKind.i64 k),(8,Value.int IntKind.i64 m),(0,Value.string t)],SH.is h,[],[Asm.cmp BinOp.lss k m true,Asm.sidx t k c,Asm.cmp BinOp.lss c 32 false,Asm.sidx t k c,Asm.cmp BinOp.gtr c 126 false,Asm.arith BinOp.add IntKind.i64 k 1 k1]):=by intros;kernel_rfl
theorem tx_long(t:ByteArray)(h:Hp) :
  pvFn Try.prog (pvCall Try.prog 0) Try.f92 [.string t] (.is h) [.bit true] =
  some (Value.bool false,SH.is h,[],[Asm.cmp BinOp.gtr (Int.ofNat (ByteArray.size t)) 60 true]):=by intros;kernel_rfl
theorem tx_yes(t:ByteArray)(h:Hp) :
  pvFn Try.prog (pvCall Try.prog 0) Try.f92 [.string t] (.is h) [.bit false,.loop (.exit 0) [] (.is h)] =
  some (Value.bool true,SH.is h,[],[Asm.cmp BinOp.gtr (Int.ofNat (ByteArray.size t)) 60 false,Asm.loop 23 false (loopN Try.f92 0) [(9,Value.int IntKind.i64 0),(8,Value.int IntKind.i64 (Int.ofNat (ByteArray.size t))),(7,Value.string t),(6,Value.bool false),(5,Value.int IntKind.i64 (Int.ofNat (ByteArray.size t))),(4,Value.string t),(2,Value.bool false),(0,Value.string t)] (SH.is h) (Ex.exit 0) [] (SH.is h)]):=by intros;kernel_rfl
theorem tx_no(t:ByteArray)(h:Hp) :
  pvFn Try.prog (pvCall Try.prog 0) Try.f92 [.string t] (.is h) [.bit false,.loop .ret [(2,.bool false)] (.is h)] =
  some (Value.bool false,SH.is h,[],[Asm.cmp BinOp.gtr (Int.ofNat (ByteArray.size t)) 60 false,Asm.loop 23 false (loopN Try.f92 0) [(9,Value.int IntKind.i64 0),(8,Value.int IntKind.i64 (Int.ofNat (ByteArray.size t))),(7,Value.string t),(6,Value.bool false),(5,Value.int IntKind.i64 (Int.ofNat (ByteArray.size t))),(4,Value.string t),(2,Value.bool false),(0,Value.string t)] (SH.is h) Ex.ret [(2,Value.bool false)] (SH.is h)]):=by intros;kernel_rfl
end Go.Proofs.Ytlonjogfeidgfaa.r8p
namespace Go.Proofs.Ytlonjogfeidgfaa.tr
open Go Go.Ev
set_option linter.unusedVariables false
set_option linter.constructorNameAsVariable false
structure Tk where
 inn:Option Nat
 opn:List (Option Nat)
 lv:Bool
 en:Bool
 fk:Int
 ft:ByteArray
structure Sc where
 ow:Nat
 su:Bool
 ov:Bool
 tks:List Nat
 live:Int
 fk:Int
 ft:ByteArray
structure TS where
 tks:List Tk
 scs:List Sc
inductive Rl where
 | root
 | ts
 | ss
 | tk (k:Nat)
 | op (k:Nat)
 | sc (k:Nat)
 | st (k:Nat)
 deriving DecidableEq
abbrev Lay:=Rl->Option Nat
def pvv:Option Nat->Value
 | some i=>.pointer (some ⟨i,0,none⟩)
 | none=>.pointer none
def slv(o:Option Nat)(n:Nat):Value:=match o with
 | some i=>.slice (some ⟨i,0,none⟩) n 1
 | none=>.slice none 0 0
def inP(ρ:Lay):Option Nat->Value
 | some s=>pvv (ρ (.sc s))
 | none=>.pointer none
def tkC(ρ:Lay)(k:Nat)(x:Tk):List Value:=[.int .i64 ((k+1:Nat):Int),inP ρ x.inn,slv (ρ (.op k)) x.opn.length,.bool x.lv,.bool x.en,.int .i64 x.fk,.string x.ft]
def scC(ρ:Lay)(k:Nat)(x:Sc):List Value:=[.int .i64 ((k+1:Nat):Int),pvv (ρ (.tk x.ow)),.bool x.su,.bool x.ov,slv (ρ (.st k)) x.tks.length,.int .i64 x.live,.int .i64 x.fk,.string x.ft]
def cont(ρ:Lay)(t:TS):Rl->List Value
 | .root=>[slv (ρ .ts) t.tks.length,slv (ρ .ss) t.scs.length]
 | .ts=>(List.range t.tks.length).map fun k=>pvv (ρ (.tk k))
 | .ss=>(List.range t.scs.length).map fun k=>pvv (ρ (.sc k))
 | .tk k=>match t.tks[k]? with
  | some x=>tkC ρ k x
  | none=>[]
 | .op k=>match t.tks[k]? with
  | some x=>x.opn.map (inP ρ)
  | none=>[]
 | .sc k=>match t.scs[k]? with
  | some x=>scC ρ k x
  | none=>[]
 | .st k=>match t.scs[k]? with
  | some x=>x.tks.map fun j=>pvv (ρ (.tk j))
  | none=>[]
structure Sh(ρ:Lay)(t:TS):Prop where
 root:∃ i,ρ .root=some i
 tk:∀ k,k<t.tks.length->∃ i,ρ (.tk k)=some i
 sc:∀ k,k<t.scs.length->∃ i,ρ (.sc k)=some i
 ts:ρ .ts=none->t.tks=[]
 ss:ρ .ss=none->t.scs=[]
 op:∀ (k:Nat) x,t.tks[k]?=some x->ρ (.op k)=none->x.opn=[]
 st:∀ (k:Nat) x,t.scs[k]?=some x->ρ (.st k)=none->x.tks=[]
 otk:∀ k,t.tks.length<=k->ρ (.tk k)=none/\ρ (.op k)=none
 osc:∀ k,t.scs.length<=k->ρ (.sc k)=none/\ρ (.st k)=none
structure TAt(h:Hp)(ρ:Lay)(t:TS):Prop where
 sh:Sh ρ t
 inj:∀ r r' i,ρ r=some i->ρ r'=some i->r=r'
 obj:∀ r i,ρ r=some i->∃ junk,h[i]?=some (.cells (cont ρ t r++junk) true)
structure TOk(c:Nat)(t:TS):Prop where
 n64:t.tks.length<=64
 n200:t.scs.length<=200
 inn:∀ (k:Nat) x s,t.tks[k]?=some x->x.inn=some s->s<t.scs.length
 opn:∀ (k:Nat) x s,t.tks[k]?=some x->some s∈x.opn->s<t.scs.length
 len:∀ (k:Nat) x,t.tks[k]?=some x->x.opn.length<=c
 ow:∀ (k:Nat) x,t.scs[k]?=some x->x.ow<t.tks.length
 mem:∀ (k:Nat) x j,t.scs[k]?=some x->j∈x.tks->j<t.tks.length
 mlen:∀ (k:Nat) x,t.scs[k]?=some x->x.tks.length<=c
 live:∀ (k:Nat) x,t.scs[k]?=some x -> -(c:Int)<=x.live/\x.live<=c
def fpT(ρ:Lay)(q:Nat):Prop:=∃ r,ρ r=some q
theorem TAt.lt{h:Hp}{ρ:Lay}{t:TS}(a:TAt h ρ t){r:Rl}{i:Nat}(e:ρ r=some i):i<h.length:=by
 obtain⟨_,hj⟩:=a.obj r i e
 exact get_lt hj
theorem TAt.keep{h h':Hp}{ρ:Lay}{t:TS}{fp:Nat->Prop}(a:TAt h ρ t)(K:Keep fp h h')(hf:∀ q,fp q->¬ fpT ρ q):TAt h' ρ t :=
 ⟨a.sh,a.inj,fun r i e=>by
  obtain⟨junk,hj⟩:=a.obj r i e
  exact⟨junk,K.2 _ _ hj fun q=>hf i q ⟨r,e⟩⟩⟩
theorem TAt.grow{h h':Hp}{ρ:Lay}{t:TS}(a:TAt h ρ t)(K:Keep (fun _=>False) h h'):TAt h' ρ t:=a.keep K fun q e=>e.elim
theorem TAt.upd{h h':Hp}{ρ ρ':Lay}{t t':TS}{fp:Nat->Prop}(a:TAt h ρ t)(D:Rl->Prop)(K:Keep fp h h')(hfp:∀ r q,ρ r=some q->fp q->D r)(sh:Sh ρ' t')
  (same:∀ r,¬ D r->ρ' r=ρ r/\(ρ r≠none->∃ j1,∀ junk,cont ρ t r++junk=cont ρ' t' r++(j1++junk)))
  (new:∀ r i,D r->ρ' r=some i->(∃ junk,h'[i]?=some (.cells (cont ρ' t' r++junk) true))/\∀ r',ρ' r'=some i->r'=r):TAt h' ρ' t':=by
 refine⟨sh,fun r r' i e e'=>?_,fun r i e=>?_⟩
 ·by_cases d:D r
  ·exact ((new r i d e).2 r' e').symm
  ·by_cases d':D r'
   ·exact (new r' i d' e').2 r e
   ·rw[(same r d).1] at e
    rw[(same r' d').1] at e'
    exact a.inj r r' i e e'
 ·by_cases d:D r
  ·exact (new r i d e).1
  ·obtain⟨s1,s2⟩:=same r d
   rw[s1] at e
   obtain⟨junk,hj⟩:=a.obj r i e
   obtain⟨j1,hj1⟩:=s2 (by rw[e];simp)
   exact⟨j1++junk,by rw[<- hj1];exact K.2 _ _ hj fun f=>d (hfp r i e f)⟩
theorem TAt.set1{h:Hp}{ρ:Lay}{t t':TS}(a:TAt h ρ t){r:Rl}{i:Nat}{c:List Value}(hr:ρ r=some i)(sh:Sh ρ t')(hc:∃ junk,c=cont ρ t' r++junk)(same:∀ r',r'≠r->∃ j1,∀ junk,cont ρ t r'++junk=cont ρ t' r'++(j1++junk)) :
  TAt (h.set i (.cells c true)) ρ t':=by
 obtain⟨_,hj⟩:=a.obj r i hr
 refine a.upd (fun r'=>r'=r) (Keep.set (fp:=fun q=>q=i) rfl _) (fun r' q e f=>by subst f;exact a.inj r' r q e hr) sh (fun r' d=>⟨rfl,fun _=>same r' d⟩) (fun r' j d e=>?_)
 subst d
 rw[hr] at e
 cases e
 obtain⟨junk,rfl⟩:=hc
 exact⟨⟨junk,gE hj⟩,fun r' e'=>a.inj r' _ _ e' hr⟩
section
variable {h:Hp} {ρ:Lay} {t:TS}
theorem TAt.cells(a:TAt h ρ t){r:Rl}{i:Nat}(e:ρ r=some i){d:Nat}{v:Value}(hv:(cont ρ t r)[d]?=some v):∃ c,h[i]?=some (.cells c true)/\c[d]?=some v:=by
 obtain⟨junk,hj⟩:=a.obj r i e
 exact⟨_,hj,by rw[List.getElem?_append_left (gT hv)];exact hv⟩
theorem TAt.ld1(a:TAt h ρ t){P:Program}{s:SH}(hs:s.den=h){r:Rl}{i:Nat}(e:ρ r=some i){d:Nat}{v:Value}(hv:(cont ρ t r)[d]?=some v):(Asm.ld1 s i d v).holds P:=by
 obtain⟨c,h1,h2⟩:=a.cells e hv
 rw[<- hs] at h1
 exact aL h1 h2
theorem TAt.ldn(a:TAt h ρ t){P:Program}{s:SH}(hs:s.den=h){r:Rl}{i:Nat}(e:ρ r=some i){d k:Nat}{l:List Value}(hd:d+k<=(cont ρ t r).length)(hl:((cont ρ t r).drop d).take k=l):(Asm.ldn s i d k l).holds P:=by
 obtain⟨junk,hj⟩:=a.obj r i e
 rw[<- hs] at hj
 refine aN hj (by simp;omega) ?_
 rw[List.drop_append_of_le_length (by omega),List.take_append_of_le_length (by simp;omega)]
 exact hl
theorem TAt.own(a:TAt h ρ t){r:Rl}{i:Nat}(e:ρ r=some i):∃ c,ownAt h i=some c:=by
 obtain⟨junk,hj⟩:=a.obj r i e
 exact⟨_,own_of hj⟩
theorem cT{k:Nat}{x:Tk}(hx:t.tks[k]?=some x):cont ρ t (.tk k)=tkC ρ k x:=by simp only[cont,hx]
theorem cont_op{k:Nat}{x:Tk}(hx:t.tks[k]?=some x):cont ρ t (.op k)=x.opn.map (inP ρ):=by simp only[cont,hx]
theorem cSq{k:Nat}{x:Sc}(hx:t.scs[k]?=some x):cont ρ t (.sc k)=scC ρ k x:=by simp only[cont,hx]
theorem cont_st{k:Nat}{x:Sc}(hx:t.scs[k]?=some x):cont ρ t (.st k)=x.tks.map fun j=>pvv (ρ (.tk j)):=by simp only[cont,hx]
theorem cont_ts{k:Nat}(hk:k<t.tks.length):(cont ρ t .ts)[k]?=some (pvv (ρ (.tk k))):=by simp[cont,hk]
theorem cont_ss{k:Nat}(hk:k<t.scs.length):(cont ρ t .ss)[k]?=some (pvv (ρ (.sc k))):=by simp[cont,hk]
theorem Sh.ts'(s:Sh ρ t){k:Nat}(hk:k<t.tks.length):∃ i,ρ .ts=some i:=by
 cases e:ρ .ts with
 | some i=>exact⟨i,rfl⟩
 | none=>have:=s.ts e;rw[this] at hk;simp at hk
theorem Sh.ss'(s:Sh ρ t){k:Nat}(hk:k<t.scs.length):∃ i,ρ .ss=some i:=by
 cases e:ρ .ss with
 | some i=>exact⟨i,rfl⟩
 | none=>have:=s.ss e;rw[this] at hk;simp at hk
end
end Go.Proofs.Ytlonjogfeidgfaa.tr
