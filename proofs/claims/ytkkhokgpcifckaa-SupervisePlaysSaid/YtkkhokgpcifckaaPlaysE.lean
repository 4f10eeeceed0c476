import Derived.Test.YtkkhokgpcifckaaPlaysD
import Derived.Test.YtkkhokgpcifckaaProg
import Derived.KernelRfl
set_option linter.unusedVariables false
-- printed by wip/tools/pvgen.py; each is checked by the kernel
namespace Go.Proofs.Ytkkhokgpcifckaa.w4p
open Go Go.Ev
set_option maxRecDepth 100000
set_option linter.unusedVariables false

theorem st_pre (i j n b2 b3 b5 bb : Nat) (fv : Value) (c5 : List Value) (h : Hp) : pvCode Try.prog (pvCall Try.prog 1) 37 false ((.seq (partC Try.f49 [0]) (.seq (partC Try.f49 [1, 0]) (partC Try.f49 [1, 1, 0, 0])))) (enterE 0 [.pointer (some ⟨i, 0, none⟩), fv]) (.is h) [.idx b2, .idx b3, .idx b5, .val (.pointer (some ⟨i, 0, none⟩)), .val (.slice (some ⟨j, 0, none⟩) n 3), .inl, .idx bb] =
    some (Ex.normal, [(12, Value.func (Fn.func 71) { toList := [] } { toList := [Value.pointer (some { block := bb, off := 0 })] }), (11, Value.slice (some { block := j, off := 0 }) n 3), (10, Value.pointer (some { block := i, off := 6 })), (9, Value.pointer (some { block := i, off := 0 })), (8, Value.pointer (some { block := i, off := 0 })), (5, Value.pointer (some { block := b5, off := 0 })), (4, Value.slice none 0 0), (3, Value.pointer (some { block := b3, off := 0 })), (2, Value.pointer (some { block := b2, off := 0 })), (0, Value.pointer (some { block := i, off := 0 })), (1, fv)], SH.push (SH.push (SH.push (SH.push (SH.is h) (AObj.cells [Value.pointer (some { block := i, off := 0 })] true)) (AObj.cells (Array.toList (Value.cells fv)) true)) (AObj.cells [Value.slice none 0 0] true)) (AObj.cells [Value.slice (some { block := j, off := 0 }) n 3] true), [], [Asm.len (SH.is h) b2, Asm.len (SH.push (SH.is h) (AObj.cells [Value.pointer (some { block := i, off := 0 })] true)) b3, Asm.len (SH.push (SH.push (SH.is h) (AObj.cells [Value.pointer (some { block := i, off := 0 })] true)) (AObj.cells (Array.toList (Value.cells fv)) true)) b5, Asm.ld1 (SH.push (SH.push (SH.push (SH.is h) (AObj.cells [Value.pointer (some { block := i, off := 0 })] true)) (AObj.cells (Array.toList (Value.cells fv)) true)) (AObj.cells [Value.slice none 0 0] true)) b2 0 (Value.pointer (some { block := i, off := 0 })), Asm.ld1 (SH.push (SH.push (SH.push (SH.is h) (AObj.cells [Value.pointer (some { block := i, off := 0 })] true)) (AObj.cells (Array.toList (Value.cells fv)) true)) (AObj.cells [Value.slice none 0 0] true)) i 6 (Value.slice (some { block := j, off := 0 }) n 3), Asm.len (SH.push (SH.push (SH.push (SH.is h) (AObj.cells [Value.pointer (some { block := i, off := 0 })] true)) (AObj.cells (Array.toList (Value.cells fv)) true)) (AObj.cells [Value.slice none 0 0] true)) bb]) := by kernel_rfl
theorem st_as (b2 b3 b5 q : Nat) (k x s a : Int) (g : Hp) : pvCode Try.prog (pvCall Try.prog 0) 37 true ((partC Try.f49 [1, 1, 0, 1, 0, 0])) [(14, .agg #[.int .i64 x, .int .i64 s, .int .i64 a]), (13, .int .i64 k), (2, .pointer (some ⟨b2, 0, none⟩)), (3, .pointer (some ⟨b3, 0, none⟩)), (5, .pointer (some ⟨b5, 0, none⟩))] (.is g) [.idx q, .cells [.int .i64 x, .int .i64 s, .int .i64 a]] =
    some (Ex.normal, [(7, Value.pointer (some { block := q, off := 0 })), (6, Value.int IntKind.i64 k), (14, Value.agg { toList := [Value.int IntKind.i64 x, Value.int IntKind.i64 s, Value.int IntKind.i64 a] }), (13, Value.int IntKind.i64 k), (2, Value.pointer (some { block := b2, off := 0 })), (3, Value.pointer (some { block := b3, off := 0 })), (5, Value.pointer (some { block := b5, off := 0 }))], SH.set (SH.push (SH.is g) (AObj.cells [Value.int IntKind.i64 0, Value.int IntKind.i64 0, Value.int IntKind.i64 0] true)) q (AObj.cells [Value.int IntKind.i64 x, Value.int IntKind.i64 s, Value.int IntKind.i64 a] true), [], [Asm.len (SH.is g) q, Asm.st (SH.push (SH.is g) (AObj.cells [Value.int IntKind.i64 0, Value.int IntKind.i64 0, Value.int IntKind.i64 0] true)) q 0 [Value.int IntKind.i64 x, Value.int IntKind.i64 s, Value.int IntKind.i64 a] [Value.int IntKind.i64 x, Value.int IntKind.i64 s, Value.int IntKind.i64 a]]) := by kernel_rfl
theorem st_no1 (b2 b3 b5 q : Nat) (k s : Int) (g : Hp) : pvCode Try.prog (pvCall Try.prog 0) 37 true ((partC Try.f49 [1, 1, 0, 1, 0, 1])) [(6, .int .i64 k), (7, .pointer (some ⟨q, 0, none⟩)), (2, .pointer (some ⟨b2, 0, none⟩)), (3, .pointer (some ⟨b3, 0, none⟩)), (5, .pointer (some ⟨b5, 0, none⟩))] (.is g) [.val (.int .i64 s), .bit false] =
    some (Ex.normal, [(22, Value.bool false), (21, Value.tuple { toList := [] }), (20, Value.tuple { toList := [] }), (19, Value.tuple { toList := [] }), (18, Value.bool false), (17, Value.bool false), (16, Value.int IntKind.i64 s), (15, Value.pointer (some { block := q, off := 1 })), (6, Value.int IntKind.i64 k), (7, Value.pointer (some { block := q, off := 0 })), (2, Value.pointer (some { block := b2, off := 0 })), (3, Value.pointer (some { block := b3, off := 0 })), (5, Value.pointer (some { block := b5, off := 0 }))], SH.is g, [], [Asm.ld1 (SH.is g) q 1 (Value.int IntKind.i64 s), Asm.cmp BinOp.eql s 1 false]) := by kernel_rfl
theorem st_no2 (b2 b3 b5 q : Nat) (k s : Int) (fo : FuncId) (cl : List Value) (g : Hp) : pvCode Try.prog (pvCall Try.prog 0) 37 true ((partC Try.f49 [1, 1, 0, 1, 0, 1])) [(6, .int .i64 k), (7, .pointer (some ⟨q, 0, none⟩)), (2, .pointer (some ⟨b2, 0, none⟩)), (3, .pointer (some ⟨b3, 0, none⟩)), (5, .pointer (some ⟨b5, 0, none⟩))] (.is g) [.val (.int .i64 s), .bit true, .val (.func (.func fo) #[] ⟨cl⟩), .ret (.bool false) (.is g)] =
    some (Ex.normal, [(22, Value.bool false), (21, Value.bool false), (20, Value.int IntKind.i64 k), (19, Value.func (Fn.func fo) { toList := [] } { toList := cl }), (18, Value.bool true), (17, Value.bool true), (16, Value.int IntKind.i64 s), (15, Value.pointer (some { block := q, off := 1 })), (6, Value.int IntKind.i64 k), (7, Value.pointer (some { block := q, off := 0 })), (2, Value.pointer (some { block := b2, off := 0 })), (3, Value.pointer (some { block := b3, off := 0 })), (5, Value.pointer (some { block := b5, off := 0 }))], SH.is g, [], [Asm.ld1 (SH.is g) q 1 (Value.int IntKind.i64 s), Asm.cmp BinOp.eql s 1 true, Asm.ld1 (SH.is g) b3 0 (Value.func (Fn.func fo) { toList := [] } { toList := cl }), Asm.call fo (Value.int IntKind.i64 k :: cl) (SH.is g) (Value.bool false) (SH.is g)]) := by kernel_rfl
theorem st_yes0 (i j n b2 b3 b5 q p d e : Nat) (k k1 s : Int) (fo : FuncId) (cl c cs : List Value) (g : Hp) : pvCode Try.prog (pvCall Try.prog 0) 37 true ((partC Try.f49 [1, 1, 0, 1, 0, 1])) [(6, .int .i64 k), (7, .pointer (some ⟨q, 0, none⟩)), (2, .pointer (some ⟨b2, 0, none⟩)), (3, .pointer (some ⟨b3, 0, none⟩)), (5, .pointer (some ⟨b5, 0, none⟩))] (.is g) [.val (.int .i64 s), .bit true, .val (.func (.func fo) #[] ⟨cl⟩), .ret (.bool true) (.is g), .val (.pointer (some ⟨i, 0, none⟩)), .val (.slice (some ⟨j, 0, none⟩) n 3), .offs p, .cells c, .val (.slice none 0 0), .num k1, .idx d, .app cs [.int .i64 1, .int .i64 k1, .int .i64 0] 0 e, .cells [.slice (some ⟨e, 0, none⟩) 1 3]] =
    some (Ex.normal, [(35, Value.slice (some { block := e, off := 0 }) 1 3), (34, Value.slice (some { block := d, off := 0 }) 1 3), (33, Value.agg { toList := [Value.int IntKind.i64 1, Value.int IntKind.i64 k1, Value.int IntKind.i64 0] }), (32, Value.int IntKind.i64 k1), (31, Value.int IntKind.i64 k), (30, Value.slice none 0 0), (29, Value.pointer (some { block := j, off := Nat.succ p })), (28, Value.pointer (some { block := j, off := p })), (27, Value.int IntKind.i64 k), (26, Value.slice (some { block := j, off := 0 }) n 3), (25, Value.pointer (some { block := i, off := 6 })), (24, Value.pointer (some { block := i, off := 0 })), (23, Value.pointer (some { block := i, off := 0 })), (22, Value.bool true), (21, Value.bool true), (20, Value.int IntKind.i64 k), (19, Value.func (Fn.func fo) { toList := [] } { toList := cl }), (18, Value.bool true), (17, Value.bool true), (16, Value.int IntKind.i64 s), (15, Value.pointer (some { block := q, off := 1 })), (6, Value.int IntKind.i64 k), (7, Value.pointer (some { block := q, off := 0 })), (2, Value.pointer (some { block := b2, off := 0 })), (3, Value.pointer (some { block := b3, off := 0 })), (5, Value.pointer (some { block := b5, off := 0 }))], SH.set (SH.push (SH.push (SH.set (SH.is g) j (AObj.cells c true)) (AObj.cells [Value.int IntKind.i64 1, Value.int IntKind.i64 k1, Value.int IntKind.i64 0] true)) (AObj.cells [Value.int IntKind.i64 1, Value.int IntKind.i64 k1, Value.int IntKind.i64 0] true)) b5 (AObj.cells [Value.slice (some { block := e, off := 0 }) 1 3] true), [], [Asm.ld1 (SH.is g) q 1 (Value.int IntKind.i64 s), Asm.cmp BinOp.eql s 1 true, Asm.ld1 (SH.is g) b3 0 (Value.func (Fn.func fo) { toList := [] } { toList := cl }), Asm.call fo (Value.int IntKind.i64 k :: cl) (SH.is g) (Value.bool true) (SH.is g), Asm.ld1 (SH.is g) b2 0 (Value.pointer (some { block := i, off := 0 })), Asm.ld1 (SH.is g) i 6 (Value.slice (some { block := j, off := 0 }) n 3), Asm.off p 0 k n 3, Asm.st (SH.is g) j (Nat.succ p) [Value.int IntKind.i64 2] c, Asm.ld1 (SH.set (SH.is g) j (AObj.cells c true)) b5 0 (Value.slice none 0 0), Asm.arith BinOp.add IntKind.i64 k 1 k1, Asm.len (SH.set (SH.is g) j (AObj.cells c true)) d, Asm.appNil (SH.push (SH.set (SH.is g) j (AObj.cells c true)) (AObj.cells [Value.int IntKind.i64 1, Value.int IntKind.i64 k1, Value.int IntKind.i64 0] true)) d 0 1 0 3 24 [Value.int IntKind.i64 1, Value.int IntKind.i64 k1, Value.int IntKind.i64 0] e, Asm.st (SH.push (SH.push (SH.set (SH.is g) j (AObj.cells c true)) (AObj.cells [Value.int IntKind.i64 1, Value.int IntKind.i64 k1, Value.int IntKind.i64 0] true)) (AObj.cells [Value.int IntKind.i64 1, Value.int IntKind.i64 k1, Value.int IntKind.i64 0] true)) b5 0 [Value.slice (some { block := e, off := 0 }) 1 3] [Value.slice (some { block := e, off := 0 }) 1 3]]) := by kernel_rfl
theorem st_yes1 (o m i j n b2 b3 b5 q p d e : Nat) (k k1 s : Int) (fo : FuncId) (cl c cs : List Value) (g : Hp) : pvCode Try.prog (pvCall Try.prog 0) 37 true ((partC Try.f49 [1, 1, 0, 1, 0, 1])) [(6, .int .i64 k), (7, .pointer (some ⟨q, 0, none⟩)), (2, .pointer (some ⟨b2, 0, none⟩)), (3, .pointer (some ⟨b3, 0, none⟩)), (5, .pointer (some ⟨b5, 0, none⟩))] (.is g) [.val (.int .i64 s), .bit true, .val (.func (.func fo) #[] ⟨cl⟩), .ret (.bool true) (.is g), .val (.pointer (some ⟨i, 0, none⟩)), .val (.slice (some ⟨j, 0, none⟩) n 3), .offs p, .cells c, .val (.slice (some ⟨o, 0, none⟩) m 3), .num k1, .idx d, .app cs [.int .i64 1, .int .i64 k1, .int .i64 0] 0 e, .cells [.slice (some ⟨e, 0, none⟩) (m + 1) 3]] =
    some (Ex.normal, [(35, Value.slice (some { block := e, off := 0 }) (Nat.succ m) 3), (34, Value.slice (some { block := d, off := 0 }) 1 3), (33, Value.agg { toList := [Value.int IntKind.i64 1, Value.int IntKind.i64 k1, Value.int IntKind.i64 0] }), (32, Value.int IntKind.i64 k1), (31, Value.int IntKind.i64 k), (30, Value.slice (some { block := o, off := 0 }) m 3), (29, Value.pointer (some { block := j, off := Nat.succ p })), (28, Value.pointer (some { block := j, off := p })), (27, Value.int IntKind.i64 k), (26, Value.slice (some { block := j, off := 0 }) n 3), (25, Value.pointer (some { block := i, off := 6 })), (24, Value.pointer (some { block := i, off := 0 })), (23, Value.pointer (some { block := i, off := 0 })), (22, Value.bool true), (21, Value.bool true), (20, Value.int IntKind.i64 k), (19, Value.func (Fn.func fo) { toList := [] } { toList := cl }), (18, Value.bool true), (17, Value.bool true), (16, Value.int IntKind.i64 s), (15, Value.pointer (some { block := q, off := 1 })), (6, Value.int IntKind.i64 k), (7, Value.pointer (some { block := q, off := 0 })), (2, Value.pointer (some { block := b2, off := 0 })), (3, Value.pointer (some { block := b3, off := 0 })), (5, Value.pointer (some { block := b5, off := 0 }))], SH.set (SH.push (SH.set (SH.push (SH.set (SH.is g) j (AObj.cells c true)) (AObj.cells [Value.int IntKind.i64 1, Value.int IntKind.i64 k1, Value.int IntKind.i64 0] true)) o AObj.dead) (AObj.cells cs true)) b5 (AObj.cells [Value.slice (some { block := e, off := 0 }) (Nat.succ m) 3] true), [], [Asm.ld1 (SH.is g) q 1 (Value.int IntKind.i64 s), Asm.cmp BinOp.eql s 1 true, Asm.ld1 (SH.is g) b3 0 (Value.func (Fn.func fo) { toList := [] } { toList := cl }), Asm.call fo (Value.int IntKind.i64 k :: cl) (SH.is g) (Value.bool true) (SH.is g), Asm.ld1 (SH.is g) b2 0 (Value.pointer (some { block := i, off := 0 })), Asm.ld1 (SH.is g) i 6 (Value.slice (some { block := j, off := 0 }) n 3), Asm.off p 0 k n 3, Asm.st (SH.is g) j (Nat.succ p) [Value.int IntKind.i64 2] c, Asm.ld1 (SH.set (SH.is g) j (AObj.cells c true)) b5 0 (Value.slice (some { block := o, off := 0 }) m 3), Asm.arith BinOp.add IntKind.i64 k 1 k1, Asm.len (SH.set (SH.is g) j (AObj.cells c true)) d, Asm.app (SH.push (SH.set (SH.is g) j (AObj.cells c true)) (AObj.cells [Value.int IntKind.i64 1, Value.int IntKind.i64 k1, Value.int IntKind.i64 0] true)) o 0 m d 0 1 0 3 24 cs [Value.int IntKind.i64 1, Value.int IntKind.i64 k1, Value.int IntKind.i64 0] e, Asm.st (SH.push (SH.set (SH.push (SH.set (SH.is g) j (AObj.cells c true)) (AObj.cells [Value.int IntKind.i64 1, Value.int IntKind.i64 k1, Value.int IntKind.i64 0] true)) o AObj.dead) (AObj.cells cs true)) b5 0 [Value.slice (some { block := e, off := 0 }) (Nat.succ m) 3] [Value.slice (some { block := e, off := 0 }) (Nat.succ m) 3]]) := by kernel_rfl
theorem st_post (b5 : Nat) (v : Value) (g : Hp) : pvCode Try.prog (pvCall Try.prog 0) 37 false ((partC Try.f49 [1, 1, 1])) [(5, .pointer (some ⟨b5, 0, none⟩))] (.is g) [.val v] =
    some (Ex.ret, [(4, v), (36, v), (5, Value.pointer (some { block := b5, off := 0 }))], SH.is g, [], [Asm.ld1 (SH.is g) b5 0 v]) := by kernel_rfl
theorem bk_r0 (bb j n L : Nat) (n1 : Int) (g : Hp) : pvCode Try.prog (pvCall Try.prog 0) 19 false ((partC Try.f71 [0])) (enterE 0 [.func (.yield L) #[] #[], .pointer (some ⟨bb, 0, none⟩)]) (.is g) [.val (.slice (some ⟨j, 0, none⟩) n 3), .num n1] =
    some (Ex.normal, [(3, Value.int IntKind.i64 n1), (6, Value.int IntKind.i64 n1), (5, Value.int IntKind.i64 (Int.ofNat n)), (4, Value.slice (some { block := j, off := 0 }) n 3), (0, Value.func (Fn.yield L) { toList := [] } { toList := [] }), (1, Value.pointer (some { block := bb, off := 0 }))], SH.is g, [], [Asm.ld1 (SH.is g) bb 0 (Value.slice (some { block := j, off := 0 }) n 3), Asm.arith BinOp.sub IntKind.i64 (Int.ofNat n) 1 n1]) := by kernel_rfl
theorem bk_end (bb L : Nat) (k : Int) (g : Hp) : pvCode Try.prog (pvCall Try.prog 0) 19 false ((loopN Try.f71 0)) [(3, .int .i64 k), (1, .pointer (some ⟨bb, 0, none⟩)), (0, .func (.yield L) #[] #[])] (.is g) [.bit false] =
    some (Ex.exit 0, [(8, Value.bool false), (7, Value.int IntKind.i64 k), (3, Value.int IntKind.i64 k), (1, Value.pointer (some { block := bb, off := 0 })), (0, Value.func (Fn.yield L) { toList := [] } { toList := [] })], SH.is g, [], [Asm.cmp BinOp.geq k 0 false]) := by kernel_rfl
theorem bk_go (bb j n L q : Nat) (k k1 x s a : Int) (g g' : Hp) : pvCode Try.prog (pvCall Try.prog 0) 19 false ((loopN Try.f71 0)) [(3, .int .i64 k), (1, .pointer (some ⟨bb, 0, none⟩)), (0, .func (.yield L) #[] #[])] (.is g) [.bit true, .val (.slice (some ⟨j, 0, none⟩) n 3), .offs q, .cells [.int .i64 x, .int .i64 s, .int .i64 a], .ret (.bool true) (.is g'), .num k1] =
    some (Ex.normal, [(3, Value.int IntKind.i64 k1), (10, Value.int IntKind.i64 k1), (9, Value.int IntKind.i64 k), (18, Value.bool false), (17, Value.bool true), (16, Value.agg { toList := [Value.int IntKind.i64 x, Value.int IntKind.i64 s, Value.int IntKind.i64 a] }), (15, Value.pointer (some { block := j, off := q })), (14, Value.int IntKind.i64 k), (13, Value.slice (some { block := j, off := 0 }) n 3), (12, Value.int IntKind.i64 k), (11, Value.func (Fn.yield L) { toList := [] } { toList := [] }), (8, Value.bool true), (7, Value.int IntKind.i64 k), (3, Value.int IntKind.i64 k), (1, Value.pointer (some { block := bb, off := 0 })), (0, Value.func (Fn.yield L) { toList := [] } { toList := [] })], SH.is g', [], [Asm.cmp BinOp.geq k 0 true, Asm.ld1 (SH.is g) bb 0 (Value.slice (some { block := j, off := 0 }) n 3), Asm.off q 0 k n 3, Asm.ldn (SH.is g) j q 3 [Value.int IntKind.i64 x, Value.int IntKind.i64 s, Value.int IntKind.i64 a], Asm.yld L [Value.int IntKind.i64 k, Value.agg { toList := [Value.int IntKind.i64 x, Value.int IntKind.i64 s, Value.int IntKind.i64 a] }] (SH.is g) (Value.bool true) (SH.is g'), Asm.arith BinOp.sub IntKind.i64 k 1 k1]) := by kernel_rfl
end Go.Proofs.Ytkkhokgpcifckaa.w4p

-- printed by wip/tools/pvgen.py; each is checked by the kernel
namespace Go.Proofs.Ytkkhokgpcifckaa.w3p
open Go Go.Ev Go.Proofs.Ytkkhokgpcifckaa.rc0
set_option maxRecDepth 100000
set_option linter.unusedVariables false

theorem re_end (i o len : Nat) (now k n : Int) (h : Hp) : pvCode Try.prog (pvCall Try.prog 0) 30 false ((loopN Try.f45 0)) [(13, iv k), (12, iv (Int.ofNat len)), (11, sl o len 1), (5, iv n), (1, iv now), (0, pt i 0)] (.is h) [.bit false] =
    some (.exit 0, [(14, .bool false), (13, iv k), (12, iv (Int.ofNat len)), (11, sl o len 1), (5, iv n), (1, iv now), (0, pt i 0)], .is h, [], [.cmp .lss k (Int.ofNat len) false]) := by kernel_rfl
theorem re_in (i o len : Nat) (now k n : Int) (h : Hp) (y wi d n1 k1 : Int) : pvCode Try.prog (pvCall Try.prog 0) 30 false ((loopN Try.f45 0)) [(13, iv k), (12, iv (Int.ofNat len)), (11, sl o len 1), (5, iv n), (1, iv now), (0, pt i 0)] (.is h) [.bit true, .offs k.toNat, .val (iv y), .val (iv wi), .num d, .bit true, .num n1, .num k1] =
    some (.normal, [(13, iv k1), (28, iv k1), (5, iv n1), (27, iv n1), (26, iv n), (25, .bool true), (24, iv d), (23, iv wi), (22, pt i 2), (21, pt i 0), (20, pt i 0), (19, pt i 0), (18, iv now), (17, iv y), (7, iv y), (16, iv y), (15, .pointer (some { block := o, off := Int.toNat k })), (14, .bool true), (13, iv k), (12, iv (Int.ofNat len)), (11, sl o len 1), (5, iv n), (1, iv now), (0, pt i 0)], .is h, [], [.cmp .lss k (Int.ofNat len) true, .off (Int.toNat k) 0 k len 1, .ld1 (.is h) o (Int.toNat k) (iv y), .ld1 (.is h) i 2 (iv wi), .arith .sub .i64 now wi d, .cmp .gtr y d true, .arith .add .i64 n 1 n1, .arith .add .i64 k 1 k1]) := by kernel_rfl
theorem re_out (i o len : Nat) (now k n : Int) (h : Hp) (y wi d k1 : Int) : pvCode Try.prog (pvCall Try.prog 0) 30 false ((loopN Try.f45 0)) [(13, iv k), (12, iv (Int.ofNat len)), (11, sl o len 1), (5, iv n), (1, iv now), (0, pt i 0)] (.is h) [.bit true, .offs k.toNat, .val (iv y), .val (iv wi), .num d, .bit false, .num k1] =
    some (.normal, [(13, iv k1), (28, iv k1), (25, .bool false), (24, iv d), (23, iv wi), (22, pt i 2), (21, pt i 0), (20, pt i 0), (19, pt i 0), (18, iv now), (17, iv y), (7, iv y), (16, iv y), (15, .pointer (some { block := o, off := Int.toNat k })), (14, .bool true), (13, iv k), (12, iv (Int.ofNat len)), (11, sl o len 1), (5, iv n), (1, iv now), (0, pt i 0)], .is h, [], [.cmp .lss k (Int.ofNat len) true, .off (Int.toNat k) 0 k len 1, .ld1 (.is h) o (Int.toNat k) (iv y), .ld1 (.is h) i 2 (iv wi), .arith .sub .i64 now wi d, .cmp .gtr y d false, .arith .add .i64 k 1 k1]) := by kernel_rfl
theorem re0 (i : Nat) (now : Int) (h : Hp) : pvFn Try.prog (pvCall Try.prog 0) Try.f45 [pt i 0, iv now] (.is h) [.val (.slice none 0 0), .unr 1, .bit false] =
    some (iv 0, .is h, [], [.ld1 (.is h) i 8 (.slice none 0 0), .cmp .lss 0 0 false]) := by kernel_rfl
theorem re1 (i o len : Nat) (now r : Int) (h : Hp) : pvFn Try.prog (pvCall Try.prog 0) Try.f45 [pt i 0, iv now] (.is h) [.val (sl o len 1), .loop (.exit 0) [(5, iv r)] (.is h)] =
    some (iv r, .is h, [], [.ld1 (.is h) i 8 (sl o len 1), .loop 30 false (loopN Try.f45 0) [(13, iv 0), (12, iv (Int.ofNat len)), (11, sl o len 1), (10, pt i 8), (9, pt i 0), (8, pt i 0), (5, iv 0), (4, iv 0), (0, pt i 0), (1, iv now)] (.is h) (.exit 0) [(5, iv r)] (.is h)]) := by kernel_rfl
theorem bg_end (i j len : Nat) (v : Value) (at' k : Int) (h : Hp) : pvCode Try.prog (pvCall Try.prog 0) 64 false ((loopN Try.f32 0)) [(37, iv k), (36, iv (Int.ofNat len)), (35, sl j len 3), (4, v), (3, iv at'), (0, pt i 0)] (.is h) [.bit false] =
    some (.exit 0, [(38, .bool false), (37, iv k), (36, iv (Int.ofNat len)), (35, sl j len 3), (4, v), (3, iv at'), (0, pt i 0)], .is h, [], [.cmp .lss k (Int.ofNat len) false]) := by kernel_rfl
theorem bg_skip (i j len : Nat) (v : Value) (at' k : Int) (h : Hp) (q b : Nat) (x s a k1 : Int) : pvCode Try.prog (pvCall Try.prog 0) 64 false ((loopN Try.f32 0)) [(37, iv k), (36, iv (Int.ofNat len)), (35, sl j len 3), (4, v), (3, iv at'), (0, pt i 0)] (.is h) [.bit true, .offs q, .cells [iv x, iv s, iv a], .idx b, .cells [iv x, iv s, iv a], .val (iv s), .bit false, .num k1] =
    some (.normal, [(37, iv k1), (62, iv k1), (44, .bool false), (43, iv s), (42, pt b 1), (5, iv k), (6, pt b 0), (41, .agg #[iv x, iv s, iv a]), (40, pt j q), (39, iv k), (38, .bool true), (37, iv k), (36, iv (Int.ofNat len)), (35, sl j len 3), (4, v), (3, iv at'), (0, pt i 0)], .set (.push (.is h) (.cells [iv 0, iv 0, iv 0] true)) b (.cells [iv x, iv s, iv a] true), [], [.cmp .lss k (Int.ofNat len) true, .off q 0 k len 3, .ldn (.is h) j q 3 [iv x, iv s, iv a], .len (.is h) b, .st (.push (.is h) (.cells [iv 0, iv 0, iv 0] true)) b 0 [iv x, iv s, iv a] [iv x, iv s, iv a], .ld1 (.set (.push (.is h) (.cells [iv 0, iv 0, iv 0] true)) b (.cells [iv x, iv s, iv a] true)) b 1 (iv s), .cmp .eql s 3 false, .arith .add .i64 k 1 k1]) := by kernel_rfl
theorem bg_go0 (i j len : Nat) (at' k : Int) (h : Hp) (q b b2 d : Nat) (x s a k1 n1 : Int) (c cs : List Value) : pvCode Try.prog (pvCall Try.prog 0) 64 false ((loopN Try.f32 0)) [(37, iv k), (36, iv (Int.ofNat len)), (35, sl j len 3), (4, .slice none 0 0), (3, iv at'), (0, pt i 0)] (.is h) [.bit true, .offs q, .cells [iv x, iv s, iv a], .idx b, .cells [iv x, iv s, iv a], .val (iv s), .bit true, .val (sl j len 3), .val (iv x), .offs q, .cells c, .num n1, .idx b2, .app cs [iv 2, iv n1, iv at'] 0 d, .num k1] =
    some (.normal, [(37, iv k1), (62, iv k1), (4, sl d 1 3), (61, sl d 1 3), (60, sl b2 1 3), (59, .agg #[iv 2, iv n1, iv at']), (58, iv at'), (57, iv n1), (56, iv k), (55, .slice none 0 0), (54, pt j q), (53, .agg #[iv x, iv 4, iv at']), (52, iv at'), (51, iv x), (50, pt b 0), (49, iv k), (48, sl j len 3), (47, pt i 6), (46, pt i 0), (45, pt i 0), (44, .bool true), (43, iv s), (42, pt b 1), (5, iv k), (6, pt b 0), (41, .agg #[iv x, iv s, iv a]), (40, pt j q), (39, iv k), (38, .bool true), (37, iv k), (36, iv (Int.ofNat len)), (35, sl j len 3), (4, .slice none 0 0), (3, iv at'), (0, pt i 0)], .push (.push (.set (.set (.push (.is h) (.cells [iv 0, iv 0, iv 0] true)) b (.cells [iv x, iv s, iv a] true)) j (.cells c true)) (.cells [iv 2, iv n1, iv at'] true)) (.cells [iv 2, iv n1, iv at'] true), [], [.cmp .lss k (Int.ofNat len) true, .off q 0 k len 3, .ldn (.is h) j q 3 [iv x, iv s, iv a], .len (.is h) b, .st (.push (.is h) (.cells [iv 0, iv 0, iv 0] true)) b 0 [iv x, iv s, iv a] [iv x, iv s, iv a], .ld1 (.set (.push (.is h) (.cells [iv 0, iv 0, iv 0] true)) b (.cells [iv x, iv s, iv a] true)) b 1 (iv s), .cmp .eql s 3 true, .stat (drawN Try.f32 2), .ld1 (.set (.push (.is h) (.cells [iv 0, iv 0, iv 0] true)) b (.cells [iv x, iv s, iv a] true)) i 6 (sl j len 3), .ld1 (.set (.push (.is h) (.cells [iv 0, iv 0, iv 0] true)) b (.cells [iv x, iv s, iv a] true)) b 0 (iv x), .off q 0 k len 3, .st (.set (.push (.is h) (.cells [iv 0, iv 0, iv 0] true)) b (.cells [iv x, iv s, iv a] true)) j q [iv x, iv 4, iv at'] c, .arith .add .i64 k 1 n1, .len (.set (.set (.push (.is h) (.cells [iv 0, iv 0, iv 0] true)) b (.cells [iv x, iv s, iv a] true)) j (.cells c true)) b2, .appNil (.push (.set (.set (.push (.is h) (.cells [iv 0, iv 0, iv 0] true)) b (.cells [iv x, iv s, iv a] true)) j (.cells c true)) (.cells [iv 2, iv n1, iv at'] true)) b2 0 1 0 3 24 [iv 2, iv n1, iv at'] d, .arith .add .i64 k 1 k1]) := by kernel_rfl
theorem bg_go1 (i j len : Nat) (o m : Nat) (at' k : Int) (h : Hp) (q b b2 d : Nat) (x s a k1 n1 : Int) (c cs : List Value) : pvCode Try.prog (pvCall Try.prog 0) 64 false ((loopN Try.f32 0)) [(37, iv k), (36, iv (Int.ofNat len)), (35, sl j len 3), (4, sl o m 3), (3, iv at'), (0, pt i 0)] (.is h) [.bit true, .offs q, .cells [iv x, iv s, iv a], .idx b, .cells [iv x, iv s, iv a], .val (iv s), .bit true, .val (sl j len 3), .val (iv x), .offs q, .cells c, .num n1, .idx b2, .app cs [iv 2, iv n1, iv at'] 0 d, .num k1] =
    some (.normal, [(37, iv k1), (62, iv k1), (4, sl d (Nat.succ m) 3), (61, sl d (Nat.succ m) 3), (60, sl b2 1 3), (59, .agg #[iv 2, iv n1, iv at']), (58, iv at'), (57, iv n1), (56, iv k), (55, sl o m 3), (54, pt j q), (53, .agg #[iv x, iv 4, iv at']), (52, iv at'), (51, iv x), (50, pt b 0), (49, iv k), (48, sl j len 3), (47, pt i 6), (46, pt i 0), (45, pt i 0), (44, .bool true), (43, iv s), (42, pt b 1), (5, iv k), (6, pt b 0), (41, .agg #[iv x, iv s, iv a]), (40, pt j q), (39, iv k), (38, .bool true), (37, iv k), (36, iv (Int.ofNat len)), (35, sl j len 3), (4, sl o m 3), (3, iv at'), (0, pt i 0)], .push (.set (.push (.set (.set (.push (.is h) (.cells [iv 0, iv 0, iv 0] true)) b (.cells [iv x, iv s, iv a] true)) j (.cells c true)) (.cells [iv 2, iv n1, iv at'] true)) o .dead) (.cells cs true), [], [.cmp .lss k (Int.ofNat len) true, .off q 0 k len 3, .ldn (.is h) j q 3 [iv x, iv s, iv a], .len (.is h) b, .st (.push (.is h) (.cells [iv 0, iv 0, iv 0] true)) b 0 [iv x, iv s, iv a] [iv x, iv s, iv a], .ld1 (.set (.push (.is h) (.cells [iv 0, iv 0, iv 0] true)) b (.cells [iv x, iv s, iv a] true)) b 1 (iv s), .cmp .eql s 3 true, .stat (drawN Try.f32 2), .ld1 (.set (.push (.is h) (.cells [iv 0, iv 0, iv 0] true)) b (.cells [iv x, iv s, iv a] true)) i 6 (sl j len 3), .ld1 (.set (.push (.is h) (.cells [iv 0, iv 0, iv 0] true)) b (.cells [iv x, iv s, iv a] true)) b 0 (iv x), .off q 0 k len 3, .st (.set (.push (.is h) (.cells [iv 0, iv 0, iv 0] true)) b (.cells [iv x, iv s, iv a] true)) j q [iv x, iv 4, iv at'] c, .arith .add .i64 k 1 n1, .len (.set (.set (.push (.is h) (.cells [iv 0, iv 0, iv 0] true)) b (.cells [iv x, iv s, iv a] true)) j (.cells c true)) b2, .app (.push (.set (.set (.push (.is h) (.cells [iv 0, iv 0, iv 0] true)) b (.cells [iv x, iv s, iv a] true)) j (.cells c true)) (.cells [iv 2, iv n1, iv at'] true)) o 0 m b2 0 1 0 3 24 cs [iv 2, iv n1, iv at'] d, .arith .add .i64 k 1 k1]) := by kernel_rfl
theorem bg_busy (i b : Nat) (h h' : Hp) : pvFn Try.prog (pvCall Try.prog 0) Try.f32 [pt i 0] (.is h) [.idx b, .ret (.bool true) (.is h')] =
    some (.slice none 0 0, .is h', [], [.len (.is h) b, .call 34 [pt i 0, sl b 1 1] (.push (.is h) (.cells [iv 2] true)) (.bool true) (.is h')]) := by kernel_rfl
theorem bg_near (i j b len : Nat) (dl nw sb ad : Int) (v : Value) (c : List Value) (h h' h2 : Hp) : pvFn Try.prog (pvCall Try.prog 0) Try.f32 [pt i 0] (.is h) [.idx b, .ret (.bool false) (.is h'), .val (iv dl), .val (iv nw), .num sb, .bit true, .val (iv nw), .val (iv dl), .num ad, .cells c, .val (sl j len 3), .loop (.exit 0) [(4, v)] (.is h2)] =
    some (v, .is h2, [], [.len (.is h) b, .call 34 [pt i 0, sl b 1 1] (.push (.is h) (.cells [iv 2] true)) (.bool false) (.is h'), .stat (drawN Try.f32 0), .ld1 (.is h') i 9 (iv dl), .ld1 (.is h') i 7 (iv nw), .arith .sub .i64 1000000000000 nw sb, .cmp .lss dl sb true, .stat (drawN Try.f32 1), .ld1 (.is h') i 7 (iv nw), .ld1 (.is h') i 9 (iv dl), .arith .add .i64 nw dl ad, .st (.is h') i 9 [iv 0] c, .ld1 (.set (.is h') i (.cells c true)) i 6 (sl j len 3), .loop 64 false (loopN Try.f32 0) [(37, iv 0), (36, iv (Int.ofNat len)), (35, sl j len 3), (34, pt i 6), (33, pt i 0), (32, pt i 0), (4, .slice none 0 0), (31, pt i 9), (30, pt i 0), (29, pt i 0), (3, iv ad), (28, iv ad), (27, iv dl), (26, pt i 9), (25, pt i 0), (24, pt i 0), (23, iv nw), (22, pt i 7), (21, pt i 0), (20, pt i 0), (19, .bool true), (18, iv sb), (17, iv nw), (16, pt i 7), (15, pt i 0), (14, pt i 0), (13, iv dl), (12, pt i 9), (11, pt i 0), (10, pt i 0), (3, iv 1000000000000), (9, .bool false), (8, sl b 1 1), (7, pt i 0), (2, .slice none 0 0), (0, pt i 0)] (.set (.is h') i (.cells c true)) (.exit 0) [(4, v)] (.is h2)]) := by kernel_rfl
theorem bg_far (i j b len : Nat) (dl nw sb : Int) (v : Value) (c : List Value) (h h' h2 : Hp) : pvFn Try.prog (pvCall Try.prog 0) Try.f32 [pt i 0] (.is h) [.idx b, .ret (.bool false) (.is h'), .val (iv dl), .val (iv nw), .num sb, .bit false, .cells c, .val (sl j len 3), .loop (.exit 0) [(4, v)] (.is h2)] =
    some (v, .is h2, [], [.len (.is h) b, .call 34 [pt i 0, sl b 1 1] (.push (.is h) (.cells [iv 2] true)) (.bool false) (.is h'), .stat (drawN Try.f32 0), .ld1 (.is h') i 9 (iv dl), .ld1 (.is h') i 7 (iv nw), .arith .sub .i64 1000000000000 nw sb, .cmp .lss dl sb false, .st (.is h') i 9 [iv 0] c, .ld1 (.set (.is h') i (.cells c true)) i 6 (sl j len 3), .loop 64 false (loopN Try.f32 0) [(37, iv 0), (36, iv (Int.ofNat len)), (35, sl j len 3), (34, pt i 6), (33, pt i 0), (32, pt i 0), (4, .slice none 0 0), (31, pt i 9), (30, pt i 0), (29, pt i 0), (19, .bool false), (18, iv sb), (17, iv nw), (16, pt i 7), (15, pt i 0), (14, pt i 0), (13, iv dl), (12, pt i 9), (11, pt i 0), (10, pt i 0), (3, iv 1000000000000), (9, .bool false), (8, sl b 1 1), (7, pt i 0), (2, .slice none 0 0), (0, pt i 0)] (.set (.is h') i (.cells c true)) (.exit 0) [(4, v)] (.is h2)]) := by kernel_rfl
end Go.Proofs.Ytkkhokgpcifckaa.w3p

-- printed by wip/tools/pvgen.py; each is checked by the kernel
namespace Go.Proofs.Ytkkhokgpcifckaa.w2p
open Go Go.Ev
set_option maxRecDepth 100000
set_option linter.unusedVariables false

theorem ix_end (o len : Nat) (x k : Int) (h : Hp) : pvCode Try.prog (pvCall Try.prog 0) 19 false ((loopN Try.f66 0)) [(8, .int .i64 k), (7, .int .i64 (Int.ofNat len)), (1, .int .i64 x), (0, .slice (some ⟨o, 0, none⟩) len 1)] (.is h) [.bit false] =
    some (.exit 0, [(9, .bool false), (8, .int .i64 k), (7, .int .i64 (Int.ofNat len)), (1, .int .i64 x), (0, .slice (some ⟨o, 0, none⟩) len 1)], .is h, [], [.cmp .lss k (Int.ofNat len) false]) := by kernel_rfl
theorem ix_hit (o len : Nat) (x k : Int) (h : Hp) (q : Nat) (y : Int) : pvCode Try.prog (pvCall Try.prog 0) 19 false ((loopN Try.f66 0)) [(8, .int .i64 k), (7, .int .i64 (Int.ofNat len)), (1, .int .i64 x), (0, .slice (some ⟨o, 0, none⟩) len 1)] (.is h) [.bit true, .offs q, .val (.int .i64 y), .bit true] =
    some (.ret, [(4, .int .i64 k), (17, .int .i64 k), (16, .bool true), (15, .int .i64 y), (14, .pointer (some ⟨o, q, none⟩)), (13, .int .i64 k), (12, .slice (some ⟨o, 0, none⟩) len 1), (11, .int .i64 x), (5, .int .i64 k), (10, .int .i64 k), (9, .bool true), (8, .int .i64 k), (7, .int .i64 (Int.ofNat len)), (1, .int .i64 x), (0, .slice (some ⟨o, 0, none⟩) len 1)], .is h, [], [.cmp .lss k (Int.ofNat len) true, .off q 0 k len 1, .ld1 (.is h) o q (.int .i64 y), .cmp .eql x y true]) := by kernel_rfl
theorem ix_go (o len : Nat) (x k : Int) (h : Hp) (q : Nat) (y k1 : Int) : pvCode Try.prog (pvCall Try.prog 0) 19 false ((loopN Try.f66 0)) [(8, .int .i64 k), (7, .int .i64 (Int.ofNat len)), (1, .int .i64 x), (0, .slice (some ⟨o, 0, none⟩) len 1)] (.is h) [.bit true, .offs q, .val (.int .i64 y), .bit false, .num k1] =
    some (.normal, [(8, .int .i64 k1), (18, .int .i64 k1), (16, .bool false), (15, .int .i64 y), (14, .pointer (some ⟨o, q, none⟩)), (13, .int .i64 k), (12, .slice (some ⟨o, 0, none⟩) len 1), (11, .int .i64 x), (5, .int .i64 k), (10, .int .i64 k), (9, .bool true), (8, .int .i64 k), (7, .int .i64 (Int.ofNat len)), (1, .int .i64 x), (0, .slice (some ⟨o, 0, none⟩) len 1)], .is h, [], [.cmp .lss k (Int.ofNat len) true, .off q 0 k len 1, .ld1 (.is h) o q (.int .i64 y), .cmp .eql x y false, .arith .add .i64 k 1 k1]) := by kernel_rfl
theorem ix_none (o len : Nat) (x : Int) (h : Hp) : pvFn Try.prog (pvCall Try.prog 0) Try.f66 [.slice (some ⟨o, 0, none⟩) len 1, .int .i64 x] (.is h) [.loop (.exit 0) [] (.is h)] =
    some (.int .i64 (Int.negSucc 0), .is h, [], [.loop 19 false (loopN Try.f66 0) [(8, .int .i64 0), (7, .int .i64 (Int.ofNat len)), (6, .slice (some ⟨o, 0, none⟩) len 1), (4, .int .i64 0), (0, .slice (some ⟨o, 0, none⟩) len 1), (1, .int .i64 x)] (.is h) (.exit 0) [] (.is h)]) := by kernel_rfl
theorem ix_some (o len : Nat) (x k : Int) (h : Hp) : pvFn Try.prog (pvCall Try.prog 0) Try.f66 [.slice (some ⟨o, 0, none⟩) len 1, .int .i64 x] (.is h) [.loop .ret [(4, .int .i64 k)] (.is h)] =
    some (.int .i64 k, .is h, [], [.loop 19 false (loopN Try.f66 0) [(8, .int .i64 0), (7, .int .i64 (Int.ofNat len)), (6, .slice (some ⟨o, 0, none⟩) len 1), (4, .int .i64 0), (0, .slice (some ⟨o, 0, none⟩) len 1), (1, .int .i64 x)] (.is h) .ret [(4, .int .i64 k)] (.is h)]) := by kernel_rfl
theorem has (o len : Nat) (x r : Int) (h : Hp) (z : Bool) : pvFn Try.prog (pvCall Try.prog 0) Try.f52 [.slice (some ⟨o, 0, none⟩) len 1, .int .i64 x] (.is h) [.ret (.int .i64 r) (.is h), .bit z] =
    some (.bool z, .is h, [], [.call 66 [.slice (some ⟨o, 0, none⟩) len 1, .int .i64 x] (.is h) (.int .i64 r) (.is h), .cmp .geq r 0 z]) := by kernel_rfl
theorem any1 (c o len b : Nat) (w s a : Int) (h : Hp) (z : Bool) : pvFn Try.prog (pvCall Try.prog 0) Try.f51 [.agg #[.int .i64 w, .int .i64 s, .int .i64 a], .pointer (some ⟨c, 0, none⟩)] (.is h) [.idx b, .val (.slice (some ⟨o, 0, none⟩) len 1), .val (.int .i64 s), .ret (.bool z) (.push (.is h) (.cells [.int .i64 w, .int .i64 s, .int .i64 a] true))] =
    some (.bool z, .push (.is h) (.cells [.int .i64 w, .int .i64 s, .int .i64 a] true), [], [.len (.is h) b, .ld1 (.push (.is h) (.cells [.int .i64 w, .int .i64 s, .int .i64 a] true)) c 0 (.slice (some ⟨o, 0, none⟩) len 1), .ld1 (.push (.is h) (.cells [.int .i64 w, .int .i64 s, .int .i64 a] true)) b 1 (.int .i64 s), .call 52 [.slice (some ⟨o, 0, none⟩) len 1, .int .i64 s] (.push (.is h) (.cells [.int .i64 w, .int .i64 s, .int .i64 a] true)) (.bool z) (.push (.is h) (.cells [.int .i64 w, .int .i64 s, .int .i64 a] true))]) := by kernel_rfl
theorem if_end (o len c : Nat) (f : FuncId) (k : Int) (h : Hp) : pvCode Try.prog (pvCall Try.prog 0) 19 false ((loopN Try.f65 0)) [(8, .int .i64 k), (7, .int .i64 (Int.ofNat len)), (1, .func (.func f) #[] #[.pointer (some ⟨c, 0, none⟩)]), (0, .slice (some ⟨o, 0, none⟩) len 3)] (.is h) [.bit false] =
    some (.exit 0, [(9, .bool false), (8, .int .i64 k), (7, .int .i64 (Int.ofNat len)), (1, .func (Fn.func f) #[] #[.pointer (some ⟨c, 0, none⟩)]), (0, .slice (some ⟨o, 0, none⟩) len 3)], .is h, [], [.cmp .lss k (Int.ofNat len) false]) := by kernel_rfl
theorem if_hit (o len c : Nat) (f : FuncId) (k : Int) (h : Hp) (q : Nat) (a b d : Int) (h' : Hp) : pvCode Try.prog (pvCall Try.prog 0) 19 false ((loopN Try.f65 0)) [(8, .int .i64 k), (7, .int .i64 (Int.ofNat len)), (1, .func (.func f) #[] #[.pointer (some ⟨c, 0, none⟩)]), (0, .slice (some ⟨o, 0, none⟩) len 3)] (.is h) [.bit true, .offs q, .cells [.int .i64 a, .int .i64 b, .int .i64 d], .ret (.bool true) (.is h')] =
    some (.ret, [(4, .int .i64 k), (17, .int .i64 k), (16, .bool true), (15, .agg #[.int .i64 a, .int .i64 b, .int .i64 d]), (14, .pointer (some ⟨o, q, none⟩)), (13, .int .i64 k), (12, .slice (some ⟨o, 0, none⟩) len 3), (11, .func (Fn.func f) #[] #[.pointer (some ⟨c, 0, none⟩)]), (5, .int .i64 k), (10, .int .i64 k), (9, .bool true), (8, .int .i64 k), (7, .int .i64 (Int.ofNat len)), (1, .func (Fn.func f) #[] #[.pointer (some ⟨c, 0, none⟩)]), (0, .slice (some ⟨o, 0, none⟩) len 3)], .is h', [], [.cmp .lss k (Int.ofNat len) true, .off q 0 k len 3, .ldn (.is h) o q 3 [.int .i64 a, .int .i64 b, .int .i64 d], .call f [.agg #[.int .i64 a, .int .i64 b, .int .i64 d], .pointer (some ⟨c, 0, none⟩)] (.is h) (.bool true) (.is h')]) := by kernel_rfl
theorem if_go (o len c : Nat) (f : FuncId) (k : Int) (h : Hp) (q : Nat) (a b d k1 : Int) (h' : Hp) : pvCode Try.prog (pvCall Try.prog 0) 19 false ((loopN Try.f65 0)) [(8, .int .i64 k), (7, .int .i64 (Int.ofNat len)), (1, .func (.func f) #[] #[.pointer (some ⟨c, 0, none⟩)]), (0, .slice (some ⟨o, 0, none⟩) len 3)] (.is h) [.bit true, .offs q, .cells [.int .i64 a, .int .i64 b, .int .i64 d], .ret (.bool false) (.is h'), .num k1] =
    some (.normal, [(8, .int .i64 k1), (18, .int .i64 k1), (16, .bool false), (15, .agg #[.int .i64 a, .int .i64 b, .int .i64 d]), (14, .pointer (some ⟨o, q, none⟩)), (13, .int .i64 k), (12, .slice (some ⟨o, 0, none⟩) len 3), (11, .func (Fn.func f) #[] #[.pointer (some ⟨c, 0, none⟩)]), (5, .int .i64 k), (10, .int .i64 k), (9, .bool true), (8, .int .i64 k), (7, .int .i64 (Int.ofNat len)), (1, .func (Fn.func f) #[] #[.pointer (some ⟨c, 0, none⟩)]), (0, .slice (some ⟨o, 0, none⟩) len 3)], .is h', [], [.cmp .lss k (Int.ofNat len) true, .off q 0 k len 3, .ldn (.is h) o q 3 [.int .i64 a, .int .i64 b, .int .i64 d], .call f [.agg #[.int .i64 a, .int .i64 b, .int .i64 d], .pointer (some ⟨c, 0, none⟩)] (.is h) (.bool false) (.is h'), .arith .add .i64 k 1 k1]) := by kernel_rfl
theorem if_none (o len c : Nat) (f : FuncId) (h h' : Hp) : pvFn Try.prog (pvCall Try.prog 0) Try.f65 [.slice (some ⟨o, 0, none⟩) len 3, .func (.func f) #[] #[.pointer (some ⟨c, 0, none⟩)]] (.is h) [.loop (.exit 0) [] (.is h')] =
    some (.int .i64 (Int.negSucc 0), .is h', [], [.loop 19 false (loopN Try.f65 0) [(8, .int .i64 0), (7, .int .i64 (Int.ofNat len)), (6, .slice (some ⟨o, 0, none⟩) len 3), (4, .int .i64 0), (0, .slice (some ⟨o, 0, none⟩) len 3), (1, .func (Fn.func f) #[] #[.pointer (some ⟨c, 0, none⟩)])] (.is h) (.exit 0) [] (.is h')]) := by kernel_rfl
theorem if_some (o len c : Nat) (f : FuncId) (k : Int) (h h' : Hp) : pvFn Try.prog (pvCall Try.prog 0) Try.f65 [.slice (some ⟨o, 0, none⟩) len 3, .func (.func f) #[] #[.pointer (some ⟨c, 0, none⟩)]] (.is h) [.loop .ret [(4, .int .i64 k)] (.is h')] =
    some (.int .i64 k, .is h', [], [.loop 19 false (loopN Try.f65 0) [(8, .int .i64 0), (7, .int .i64 (Int.ofNat len)), (6, .slice (some ⟨o, 0, none⟩) len 3), (4, .int .i64 0), (0, .slice (some ⟨o, 0, none⟩) len 3), (1, .func (Fn.func f) #[] #[.pointer (some ⟨c, 0, none⟩)])] (.is h) .ret [(4, .int .i64 k)] (.is h')]) := by kernel_rfl
theorem cf (o len c : Nat) (f : FuncId) (r : Int) (h h' : Hp) (z : Bool) : pvFn Try.prog (pvCall Try.prog 0) Try.f50 [.slice (some ⟨o, 0, none⟩) len 3, .func (.func f) #[] #[.pointer (some ⟨c, 0, none⟩)]] (.is h) [.ret (.int .i64 r) (.is h'), .bit z] =
    some (.bool z, .is h', [], [.call 65 [.slice (some ⟨o, 0, none⟩) len 3, .func (Fn.func f) #[] #[.pointer (some ⟨c, 0, none⟩)]] (.is h) (.int .i64 r) (.is h'), .cmp .geq r 0 z]) := by kernel_rfl
theorem any (i j o m n b : Nat) (h h' : Hp) (z : Bool) : pvFn Try.prog (pvCall Try.prog 0) Try.f34 [.pointer (some ⟨i, 0, none⟩), .slice (some ⟨o, 0, none⟩) m 1] (.is h) [.idx b, .val (.slice (some ⟨j, 0, none⟩) n 3), .ret (.bool z) (.is h')] =
    some (.bool z, .is h', [], [.len (.is h) b, .ld1 (.push (.is h) (.cells [.slice (some ⟨o, 0, none⟩) m 1] true)) i 6 (.slice (some ⟨j, 0, none⟩) n 3), .call 50 [.slice (some ⟨j, 0, none⟩) n 3, .func (Fn.func 51) #[] #[.pointer (some ⟨b, 0, none⟩)]] (.push (.is h) (.cells [.slice (some ⟨o, 0, none⟩) m 1] true)) (.bool z) (.is h')]) := by kernel_rfl
theorem over (i o : Nat) (h h' : Hp) (z g : Bool) : pvFn Try.prog (pvCall Try.prog 0) Try.f16 [.pointer (some ⟨i, 0, none⟩)] (.is h) [.idx o, .ret (.bool z) (.is h'), .val (.bool g)] =
    some (.tuple #[.bool !z, .bool g], .is h', [], [.stat (drawN Try.f16 0), .again (.is h') 4 (.pointer (some ⟨i, 10, none⟩)) (.bool g), .again (.push (.is h) (.cells [.int .i64 1, .int .i64 2, .int .i64 3, .int .i64 4] true)) 4 (.pointer (some ⟨i, 10, none⟩)) (.bool g), .again (.is h') 4 (.pointer (some ⟨i, 10, none⟩)) (.bool g), .len (.is h) o, .call 34 [.pointer (some ⟨i, 0, none⟩), .slice (some ⟨o, 0, none⟩) 4 1] (.push (.is h) (.cells [.int .i64 1, .int .i64 2, .int .i64 3, .int .i64 4] true)) (.bool z) (.is h'), .ld1 (.is h') i 10 (.bool g)]) := by kernel_rfl
end Go.Proofs.Ytkkhokgpcifckaa.w2p

-- printed by wip/tools/pvgen.py; each is checked by the kernel
namespace Go.Proofs.Ytkkhokgpcifckaa.w1p
open Go Go.Ev
set_option maxRecDepth 100000
set_option linter.unusedVariables false

theorem late1 (i : Nat) (now now0 : Int) (h : Hp) : pvFn Try.prog (pvCall Try.prog 0) Try.f30 [.pointer (some ⟨i, 0, none⟩), .int .i64 now] (.is h) [.val (.int .i64 now0), .bit true] =
    some (.bool true, .is h, [], [.ld1 (.is h) i 7 (.int .i64 now0), .cmp .lss now now0 true]) := by kernel_rfl
theorem late2 (i : Nat) (now now0 : Int) (h : Hp) (z : Bool) : pvFn Try.prog (pvCall Try.prog 0) Try.f30 [.pointer (some ⟨i, 0, none⟩), .int .i64 now] (.is h) [.val (.int .i64 now0), .bit false, .bit z] =
    some (.bool z, .is h, [], [.ld1 (.is h) i 7 (.int .i64 now0), .cmp .lss now now0 false, .cmp .gtr now 1000000000000 z]) := by kernel_rfl
theorem state1 (i : Nat) (n : Int) (h : Hp) : pvFn Try.prog (pvCall Try.prog 0) Try.f18 [.pointer (some ⟨i, 0, none⟩), .int .i64 n] (.is h) [.bit true] =
    some (.tuple #[.int .i64 0, .int .i64 0], .is h, [], [.cmp .lss n 1 true]) := by kernel_rfl
theorem state2 (i : Nat) (n : Int) (h : Hp) (j len : Nat) : pvFn Try.prog (pvCall Try.prog 0) Try.f18 [.pointer (some ⟨i, 0, none⟩), .int .i64 n] (.is h) [.bit false, .val (.slice (some ⟨j, 0, none⟩) len 3), .bit true] =
    some (.tuple #[.int .i64 0, .int .i64 0], .is h, [], [.cmp .lss n 1 false, .ld1 (.is h) i 6 (.slice (some ⟨j, 0, none⟩) len 3), .cmp .gtr n (Int.ofNat len) true]) := by kernel_rfl
theorem state3 (i : Nat) (n n1 : Int) (h : Hp) (j len q : Nat) (s t : Int) : pvFn Try.prog (pvCall Try.prog 0) Try.f18 [.pointer (some ⟨i, 0, none⟩), .int .i64 n] (.is h) [.bit false, .val (.slice (some ⟨j, 0, none⟩) len 3), .bit false, .val (.slice (some ⟨j, 0, none⟩) len 3), .num n1, .offs q, .val (.int .i64 s), .val (.slice (some ⟨j, 0, none⟩) len 3), .num n1, .offs q, .val (.int .i64 t)] =
    some (.tuple #[.int .i64 s, .int .i64 t], .is h, [], [.cmp .lss n 1 false, .ld1 (.is h) i 6 (.slice (some ⟨j, 0, none⟩) len 3), .cmp .gtr n (Int.ofNat len) false, .stat (drawN Try.f18 0), .ld1 (.is h) i 6 (.slice (some ⟨j, 0, none⟩) len 3), .arith .sub .i64 n 1 n1, .off q 0 n1 len 3, .ld1 (.is h) j (Nat.succ q) (.int .i64 s), .ld1 (.is h) i 6 (.slice (some ⟨j, 0, none⟩) len 3), .arith .sub .i64 n 1 n1, .off q 0 n1 len 3, .ld1 (.is h) j (Nat.succ (Nat.succ q)) (.int .i64 t)]) := by kernel_rfl
theorem restarts0 (i : Nat) (h : Hp) : pvFn Try.prog (pvCall Try.prog 0) Try.f13 [.pointer (some ⟨i, 0, none⟩)] (.is h) [.val (.slice none 0 0)] =
    some (.int .i64 0, .is h, [], [.ld1 (.is h) i 8 (.slice none 0 0)]) := by kernel_rfl
theorem restarts1 (i t len : Nat) (h : Hp) : pvFn Try.prog (pvCall Try.prog 0) Try.f13 [.pointer (some ⟨i, 0, none⟩)] (.is h) [.val (.slice (some ⟨t, 0, none⟩) len 1)] =
    some (.int .i64 (Int.ofNat len), .is h, [], [.ld1 (.is h) i 8 (.slice (some ⟨t, 0, none⟩) len 1)]) := by kernel_rfl
end Go.Proofs.Ytkkhokgpcifckaa.w1p

namespace Go.Proofs.Ytkkhokgpcifckaa.wd
open Go Go.Ev

/-! ### A warden's state -/

structure Sv where
  when : Int
  state : Int
  at' : Int

def Sv.cells (x : Sv) : List Value := [.int .i64 x.when, .int .i64 x.state, .int .i64 x.at']
def svC : List Sv → List Value
  | [] => []
  | x :: l => .int .i64 x.when :: .int .i64 x.state :: .int .i64 x.at' :: svC l

theorem svC_len : ∀ l : List Sv, (svC l).length = l.length * 3
  | [] => rfl
  | x :: l => by simp [svC, svC_len l]; omega

theorem svC_get : ∀ {l : List Sv} {k : Nat} {x : Sv}, l[k]? = some x → (svC l)[k * 3]? = some (.int .i64 x.when) ∧ (svC l)[k * 3 + 1]? = some (.int .i64 x.state) ∧ (svC l)[k * 3 + 2]? = some (.int .i64 x.at')
  | [], k, x, h => by simp at h
  | y :: l, 0, x, h => by simp at h; subst h; simp [svC]
  | y :: l, k + 1, x, h => by
    have := svC_get (l := l) (k := k) (x := x) (by simpa using h)
    rw [show (k + 1) * 3 = k * 3 + 3 by omega]
    simpa [svC] using this

theorem svC_cut : ∀ {l : List Sv} {k : Nat} {x : Sv}, l[k]? = some x → ((svC l).drop (k * 3)).take 3 = x.cells
  | [], k, x, h => by simp at h
  | y :: l, 0, x, h => by simp at h; subst h; simp [svC, Sv.cells]
  | y :: l, k + 1, x, h => by
    have := svC_cut (l := l) (k := k) (x := x) (by simpa using h)
    rw [show (k + 1) * 3 = k * 3 + 3 by omega]
    simpa [svC] using this

/-- One service written anew. -/
theorem svC_put : ∀ {l : List Sv} {k : Nat} {x : Sv} (y : Sv), l[k]? = some x → (svC l).take (k * 3) ++ y.cells ++ (svC l).drop (k * 3 + y.cells.length) = svC (l.set k y)
  | [], k, x, y, h => by simp at h
  | z :: l, 0, x, y, h => by simp [svC, Sv.cells]
  | z :: l, k + 1, x, y, h => by
    have := svC_put (l := l) (k := k) (x := x) y (by simpa using h)
    rw [show (k + 1) * 3 = k * 3 + 3 by omega]
    simp only [svC, List.set_cons_succ, ← this]
    rw [show k * 3 + 3 + y.cells.length = (k * 3 + y.cells.length) + 3 by omega]
    simp
/-- Its state alone. -/
theorem svC_state : ∀ {l : List Sv} {k : Nat} {x : Sv} (s : Int), l[k]? = some x → (svC l).take (k * 3 + 1) ++ [Value.int .i64 s] ++ (svC l).drop (k * 3 + 1 + 1) = svC (l.set k { x with state := s })
  | [], k, x, s, h => by simp at h
  | z :: l, 0, x, s, h => by simp at h; subst h; simp [svC]
  | z :: l, k + 1, x, s, h => by
    have := svC_state (l := l) (k := k) (x := x) s (by simpa using h)
    rw [show (k + 1) * 3 = k * 3 + 3 by omega]
    simp only [svC, List.set_cons_succ, ← this]
    rw [show k * 3 + 3 + 1 = (k * 3 + 1) + 3 by omega, show k * 3 + 1 + 3 + 1 = (k * 3 + 1 + 1) + 3 by omega]
    simp

structure WS where
  rule : Int
  most : Int
  within : Int
  base : Int
  cap : Int
  svs : List Sv
  now : Int
  times : List Int
  delay : Int
  given : Bool

def tvVal : Option Nat → Nat → Value
  | none, _ => .slice none 0 0
  | some t, n => .slice (some ⟨t, 0, none⟩) n 1

def wCells (w : WS) (j : Nat) (t : Option Nat) : List Value :=
  [.int .i64 w.rule, .int .i64 w.most, .int .i64 w.within, .int .i64 w.base, .int .i64 w.cap, .slice none 0 0, .slice (some ⟨j, 0, none⟩) w.svs.length 3, .int .i64 w.now, tvVal t w.times.length, .int .i64 w.delay, .bool w.given]

/-- A warden in the heap: its own object, its services, its times. -/
structure WAt (h : Hp) (i j : Nat) (t : Option Nat) (w : WS) : Prop where
  obj : h[i]? = some (.cells (wCells w j t) true)
  svs : h[j]? = some (.cells (svC w.svs) true)
  tms : (t = none ∧ w.times = []) ∨ ∃ q, t = some q ∧ h[q]? = some (.cells (w.times.map (.int .i64)) true) ∧ q ≠ i ∧ q ≠ j
  ne : i ≠ j

/-- What a warden takes. -/
def fpW (i j : Nat) (t : Option Nat) (q : Nat) : Prop := q = i ∨ q = j ∨ t = some q

theorem WAt.keep {h h' : Hp} {i j : Nat} {t : Option Nat} {w : WS} {fp : Nat → Prop} (a : WAt h i j t w) (k : Keep fp h h') (hf : ∀ q, q < h.length → fp q → ¬ fpW i j t q) : WAt h' i j t w := by
  refine ⟨k.2 _ _ a.obj fun hq => hf _ (get_lt a.obj) hq (.inl rfl), k.2 _ _ a.svs fun hq => hf _ (get_lt a.svs) hq (.inr (.inl rfl)), ?_, a.ne⟩
  rcases a.tms with h1 | ⟨q, h1, h2, h3⟩
  · exact .inl h1
  · exact .inr ⟨q, h1, k.2 _ _ h2 fun hq => hf _ (get_lt h2) hq (.inr (.inr h1)), h3⟩

/-- New services of the same number. -/
theorem WAt.put {h h' : Hp} {i j : Nat} {t : Option Nat} {w : WS} {fp : Nat → Prop} {l : List Sv} (a : WAt h i j t w) (k : Keep fp h h') (hf : ∀ q, q < h.length → fp q → q = j ∨ ¬ fpW i j t q)
    (hj : h'[j]? = some (.cells (svC l) true)) (hl : l.length = w.svs.length) : WAt h' i j t { w with svs := l } := by
  have ho : h'[i]? = some (.cells (wCells w j t) true) := k.2 _ _ a.obj fun hq => (hf _ (get_lt a.obj) hq).elim (fun e => a.ne e) fun e => e (.inl rfl)
  refine ⟨?_, hj, ?_, a.ne⟩
  · rw [ho]; simp only [wCells, hl]
  · rcases a.tms with h1 | ⟨q, h1, h2, h3, h4⟩
    · exact .inl h1
    · exact .inr ⟨q, h1, k.2 _ _ h2 fun hq => (hf _ (get_lt h2) hq).elim (fun e => h4 e) fun e => e (.inr (.inr h1)), h3, h4⟩

/-- The numbers of a warden are in their bounds. -/
structure WOk (w : WS) : Prop where
  n1 : 1 ≤ w.svs.length
  n8 : w.svs.length ≤ 8
  most : 0 ≤ w.most ∧ w.most ≤ 1000000
  within : 1 ≤ w.within ∧ w.within ≤ 1000000000000
  base : 0 ≤ w.base ∧ w.base ≤ w.cap
  cap : w.cap ≤ 1000000000000
  now : 0 ≤ w.now ∧ w.now ≤ 1000000000000
  delay : 0 ≤ w.delay ∧ w.delay ≤ 1000000000000
  times : w.times.length ≤ 10000
  rule : 1 ≤ w.rule ∧ w.rule ≤ 3

theorem wrap_id {x : Int} (h : -9223372036854775808 ≤ x) (k : x ≤ 9223372036854775807) : IntKind.i64.wrap x = x := by
  simp [IntKind.wrap, IntKind.signed, IntKind.bits]
  omega

/-! ### Reading it -/

variable {h : Hp} {i j : Nat} {t : Option Nat} {w : WS}

theorem late_run (a : WAt h i j t w) (now : Int) : Run Try.prog 30 [.pointer (some ⟨i, 0, none⟩), .int .i64 now] h (.bool (decide (now < w.now) || decide (now > 1000000000000))) h := by
  by_cases c : now < w.now
  · rw [decide_eq_true c]
    exact pvF 0 Try.func30 (w1p.late1 i now w.now h) ⟨a_ld1 a.obj rfl, by simpa [Asm.holds, cmpB] using c, trivial⟩
  · rw [decide_eq_false c, Bool.false_or]
    exact pvF 0 Try.func30 (w1p.late2 i now w.now h _) ⟨a_ld1 a.obj rfl, by simpa [Asm.holds, cmpB] using c, by simp [Asm.holds, cmpB], trivial⟩

def stateOf (w : WS) (n : Int) : Int × Int := if n < 1 ∨ n > w.svs.length then (0, 0) else match w.svs[(n - 1).toNat]? with
  | some x => (x.state, x.at')
  | none => (0, 0)

theorem stat18 : statOk (drawN Try.f18 0) = true := by kernel_rfl

theorem state_run (a : WAt h i j t w) (hw : WOk w) (n : Int) : Run Try.prog 18 [.pointer (some ⟨i, 0, none⟩), .int .i64 n] h (.tuple #[.int .i64 (stateOf w n).1, .int .i64 (stateOf w n).2]) h := by
  by_cases c : n < 1
  · have : stateOf w n = (0, 0) := by simp [stateOf, c]
    rw [this]
    exact pvF 0 Try.func18 (w1p.state1 i n h) ⟨by simpa [Asm.holds, cmpB] using c, trivial⟩
  · by_cases d : n > w.svs.length
    · have : stateOf w n = (0, 0) := by simp [stateOf, d]
      rw [this]
      exact pvF 0 Try.func18 (w1p.state2 i n h j w.svs.length) ⟨by simpa [Asm.holds, cmpB] using c, a_ld1 a.obj rfl, by simpa [Asm.holds, cmpB] using d, trivial⟩
    · have hk : (n - 1).toNat < w.svs.length := by omega
      have hx := List.getElem?_eq_getElem hk
      have : stateOf w n = ((w.svs[(n - 1).toNat]).state, (w.svs[(n - 1).toNat]).at') := by
        simp only [stateOf, c, d, or_self, if_false, hx]
      rw [this]
      obtain ⟨_, g2, g3⟩ := svC_get hx
      have n8 := hw.n8
      have ar : IntKind.i64.wrap (n - 1) = n - 1 := wrap_id (by omega) (by omega)
      exact pvF 0 Try.func18 (w1p.state3 i n (n - 1) h j w.svs.length ((n - 1).toNat * 3) _ _) ⟨by simpa [Asm.holds, cmpB] using c, a_ld1 a.obj rfl, by simpa [Asm.holds, cmpB] using d, stat18, a_ld1 a.obj rfl,
        by simp [Asm.holds, arithI, ar], ⟨by omega, by omega, by omega⟩, a_ld1 a.svs g2, a_ld1 a.obj rfl, by simp [Asm.holds, arithI, ar], ⟨by omega, by omega, by omega⟩, a_ld1 a.svs g3, trivial⟩

theorem restarts_run (a : WAt h i j t w) : Run Try.prog 13 [.pointer (some ⟨i, 0, none⟩)] h (.int .i64 w.times.length) h := by
  rcases a.tms with ⟨rfl, e⟩ | ⟨q, rfl, _⟩
  · rw [e]
    exact pvF 0 Try.func13 (w1p.restarts0 i h) ⟨a_ld1 a.obj rfl, trivial⟩
  · exact pvF 0 Try.func13 (w1p.restarts1 i q w.times.length h) ⟨a_ld1 a.obj rfl, trivial⟩

end Go.Proofs.Ytkkhokgpcifckaa.wd

namespace Go.Proofs.Ytkkhokgpcifckaa.wd
open Go Go.Ev

variable {h : Hp} {i j : Nat} {t : Option Nat} {w : WS}

/-- The numbers of a slice. -/
def iC (l : List Int) : List Value := l.map (.int .i64)
theorem iC_get {l : List Int} {k : Nat} {x : Int} (h : l[k]? = some x) : (iC l)[k]? = some (.int .i64 x) := by simp [iC, h]
theorem iC_len (l : List Int) : (iC l).length = l.length := by simp [iC]

theorem add1 {k : Nat} (h : k < 1000000000000) : IntKind.i64.wrap ((k : Int) + 1) = ((k + 1 : Nat) : Int) := by
  rw [wrap_id (by omega) (by omega)]; omega

/-- 'slices.Index' of ints. -/
theorem index_run {o : Nat} {l : List Int} {rw : Bool} (ho : h[o]? = some (.cells (iC l) rw)) (hl : l.length ≤ 1000000000) (x : Int) :
    ∃ r : Int, Run Try.prog 66 [.slice (some ⟨o, 0, none⟩) l.length 1, .int .i64 x] h (.int .i64 r) h ∧ decide (r ≥ 0) = l.contains x := by
  by_cases hx : x ∈ l
  · -- found
    obtain ⟨k0, hk0, hlt, hmin⟩ : ∃ k0, l[k0]? = some x ∧ k0 < l.length ∧ ∀ m y, m < k0 → l[m]? = some y → x ≠ y := by
      refine ⟨l.idxOf x, ?_, List.idxOf_lt_length_of_mem hx, fun m y hm hy e => ?_⟩
      · rw [List.getElem?_eq_getElem (List.idxOf_lt_length_of_mem hx)]; simp
      · subst e
        have h1 := List.not_of_lt_findIdx (p := (· == x)) (xs := l) (i := m) hm
        rw [List.getElem?_eq_getElem (by have := List.idxOf_lt_length_of_mem hx; omega)] at hy
        simp only [Option.some.injEq] at hy
        simp [hy] at h1
    refine ⟨k0, pvF 0 Try.func66 (w2p.ix_some o l.length x k0 h) ⟨fun E0 hE => ?_, trivial⟩, by simp [hx]⟩
    obtain ⟨x', E1, h1, hl1, rfl, hE1, rfl⟩ := loop_inv (P := Try.prog) (n := 19) (rd := false) (b := loopN Try.f66 0) (Q := fun x' E1 h1 => x' = .ret ∧ EnvLe [(4, .int .i64 k0)] E1 ∧ h = h1)
      (fun m E g => ∃ k : Nat, k ≤ k0 ∧ m = k0 - k ∧ EnvLe [(8, .int .i64 k), (7, .int .i64 (Int.ofNat l.length)), (1, .int .i64 x), (0, .slice (some ⟨o, 0, none⟩) l.length 1)] E ∧ h = g)
      (fun m E g ⟨k, k1, k2, k3, k4⟩ => by
        subst k4
        by_cases e : k = k0
        · subst e
          right
          obtain ⟨E2, q1, q2⟩ := pvC 0 k3 (w2p.ix_hit o l.length x k h k x) ⟨by simp [Asm.holds, cmpB]; omega, ⟨by omega, by omega, by simp⟩, a_ld1 ho (iC_get hk0), by simp [Asm.holds, cmpB], trivial⟩
          exact ⟨_, E2, _, by simp, q2, rfl, .trans (.add (.nil _) rfl) q1, rfl⟩
        · left
          obtain ⟨y, hy⟩ : ∃ y, l[k]? = some y := ⟨_, List.getElem?_eq_getElem (by omega)⟩
          have ne := hmin k y (by omega) hy
          obtain ⟨E2, q1, q2⟩ := pvC 0 k3 (w2p.ix_go o l.length x k h k y ((k + 1 : Nat) : Int)) ⟨by simp [Asm.holds, cmpB]; omega, ⟨by omega, by omega, by simp⟩, a_ld1 ho (iC_get hy), by simpa [Asm.holds, cmpB] using ne,
            by simp only [Asm.holds, arithI, add1 (show k < 1000000000000 by omega)], trivial⟩
          exact ⟨k0 - (k + 1), E2, _, by omega, q2, k + 1, by omega, rfl, .trans (.add (.add (.add (.add (.nil _) rfl) rfl) rfl) rfl) q1, rfl⟩)
      k0 E0 h ⟨0, by omega, rfl, .trans (.add (.add (.add (.add (.nil _) rfl) rfl) rfl) rfl) hE, rfl⟩
    exact ⟨E1, hE1, hl1⟩
  · refine ⟨Int.negSucc 0, pvF 0 Try.func66 (w2p.ix_none o l.length x h) ⟨fun E0 hE => ?_, trivial⟩, by simp [hx]⟩
    obtain ⟨x', E1, h1, hl1, rfl, rfl⟩ := loop_inv (P := Try.prog) (n := 19) (rd := false) (b := loopN Try.f66 0) (Q := fun x' E1 h1 => x' = .exit 0 ∧ h = h1)
      (fun m E g => ∃ k : Nat, k ≤ l.length ∧ m = l.length - k ∧ EnvLe [(8, .int .i64 k), (7, .int .i64 (Int.ofNat l.length)), (1, .int .i64 x), (0, .slice (some ⟨o, 0, none⟩) l.length 1)] E ∧ h = g)
      (fun m E g ⟨k, k1, k2, k3, k4⟩ => by
        subst k4
        by_cases e : k = l.length
        · subst e
          right
          obtain ⟨E2, q1, q2⟩ := pvC 0 k3 (w2p.ix_end o l.length x l.length h) ⟨by simp [Asm.holds, cmpB], trivial⟩
          exact ⟨_, E2, _, by simp, q2, rfl, rfl⟩
        · left
          obtain ⟨y, hy⟩ : ∃ y, l[k]? = some y := ⟨_, List.getElem?_eq_getElem (by omega)⟩
          have ne : x ≠ y := fun e => hx (by subst e; exact List.mem_of_getElem? hy)
          obtain ⟨E2, q1, q2⟩ := pvC 0 k3 (w2p.ix_go o l.length x k h k y ((k + 1 : Nat) : Int)) ⟨by simp [Asm.holds, cmpB]; omega, ⟨by omega, by omega, by simp⟩, a_ld1 ho (iC_get hy), by simpa [Asm.holds, cmpB] using ne,
            by simp only [Asm.holds, arithI, add1 (show k < 1000000000000 by omega)], trivial⟩
          exact ⟨l.length - (k + 1), E2, _, by omega, q2, k + 1, by omega, rfl, .trans (.add (.add (.add (.add (.nil _) rfl) rfl) rfl) rfl) q1, rfl⟩)
      l.length E0 h ⟨0, by omega, rfl, .trans (.add (.add (.add (.add (.nil _) rfl) rfl) rfl) rfl) hE, rfl⟩
    exact ⟨E1, .nil _, hl1⟩

/-- 'slices.Contains' of ints. -/
theorem contains_run {o : Nat} {l : List Int} {rw : Bool} (ho : h[o]? = some (.cells (iC l) rw)) (hl : l.length ≤ 1000000000) (x : Int) :
    Run Try.prog 52 [.slice (some ⟨o, 0, none⟩) l.length 1, .int .i64 x] h (.bool (l.contains x)) h := by
  obtain ⟨r, h1, h2⟩ := index_run ho hl x
  exact pvF 0 Try.func52 (w2p.has o l.length x r h _) ⟨h1, by simp only [Asm.holds, cmpB, h2], trivial⟩

/-- What 'any' asks of one service. -/
theorem any1_run {c o : Nat} {l : List Int} {rw rw' : Bool} (hc : h[c]? = some (.cells [.slice (some ⟨o, 0, none⟩) l.length 1] rw')) (ho : h[o]? = some (.cells (iC l) rw)) (hl : l.length ≤ 1000000000) (x : Sv) :
    Run Try.prog 51 [.agg x.cells.toArray, .pointer (some ⟨c, 0, none⟩)] h (.bool (l.contains x.state)) (h ++ [.cells x.cells true]) :=
  pvF 0 Try.func51 (w2p.any1 c o l.length h.length x.when x.state x.at' h _) ⟨rfl, a_ld1 (get_push hc) rfl, a_ld1 (get_new h _) rfl, contains_run (get_push ho) hl _, trivial⟩

/-- The boxes that a walk over services leaves. -/
def boxes (l : List Sv) : Hp := l.map fun x => .cells x.cells true

theorem get_app {h os : Hp} {q : Nat} {o : AObj} (hq : h[q]? = some o) : (h ++ os)[q]? = some o := by rw [List.getElem?_append_left (get_lt hq)]; exact hq

theorem boxes_take {l : List Sv} {k : Nat} {x : Sv} (hx : l[k]? = some x) (h : Hp) : h ++ boxes (l.take k) ++ [.cells x.cells true] = h ++ boxes (l.take (k + 1)) := by
  have : l.take (k + 1) = l.take k ++ [x] := by rw [List.take_add_one, hx]; rfl
  rw [this, boxes, boxes, List.map_append, List.append_assoc]; rfl

/-- 'slices.IndexFunc' over services, of a test that only leaves a box. -/
theorem indexFunc_run {s c : Nat} {sv : List Sv} {rw : Bool} (hs : h[s]? = some (.cells (svC sv) rw)) (hn : sv.length ≤ 1000000) (f : FuncId) (p : Sv → Bool)
    (hf : ∀ os x, Run Try.prog f [.agg x.cells.toArray, .pointer (some ⟨c, 0, none⟩)] (h ++ os) (.bool (p x)) (h ++ os ++ [.cells x.cells true])) :
    ∃ (r : Int) (os : Hp), Run Try.prog 65 [.slice (some ⟨s, 0, none⟩) sv.length 3, .func (.func f) #[] #[.pointer (some ⟨c, 0, none⟩)]] h (.int .i64 r) (h ++ os) ∧ decide (r ≥ 0) = sv.any p := by
  have body : ∀ (k : Nat) (x : Sv) (E : Env), sv[k]? = some x → EnvLe [(8, .int .i64 k), (7, .int .i64 (Int.ofNat sv.length)), (1, .func (.func f) #[] #[.pointer (some ⟨c, 0, none⟩)]), (0, .slice (some ⟨s, 0, none⟩) sv.length 3)] E →
      (p x = true → ∃ E1, EnvLe [(4, .int .i64 k)] E1 ∧ CRun Try.prog 19 false (loopN Try.f65 0) E (h ++ boxes (sv.take k)) .ret E1 (h ++ boxes (sv.take (k + 1)))) ∧
      (p x = false → ∃ E1, EnvLe [(8, .int .i64 ((k + 1 : Nat) : Int)), (7, .int .i64 (Int.ofNat sv.length)), (1, .func (.func f) #[] #[.pointer (some ⟨c, 0, none⟩)]), (0, .slice (some ⟨s, 0, none⟩) sv.length 3)] E1 ∧
        CRun Try.prog 19 false (loopN Try.f65 0) E (h ++ boxes (sv.take k)) .normal E1 (h ++ boxes (sv.take (k + 1)))) := by
    intro k x E hx hE
    have hk := get_lt' hx
    have hcall := hf (boxes (sv.take k)) x
    rw [boxes_take hx] at hcall
    have hld : (svC sv).length = sv.length * 3 := svC_len _
    refine ⟨fun hp => ?_, fun hp => ?_⟩ <;> rw [hp] at hcall
    · obtain ⟨E2, q1, q2⟩ := pvC 0 hE (w2p.if_hit s sv.length c f k (h ++ boxes (sv.take k)) (k * 3) x.when x.state x.at' (h ++ boxes (sv.take (k + 1)))) ⟨by simp [Asm.holds, cmpB]; omega, ⟨by omega, by omega, by simp⟩,
        a_ldn (get_app hs) (by omega) (svC_cut hx), hcall, trivial⟩
      exact ⟨E2, .trans (.add (.nil _) rfl) q1, q2⟩
    · obtain ⟨E2, q1, q2⟩ := pvC 0 hE (w2p.if_go s sv.length c f k (h ++ boxes (sv.take k)) (k * 3) x.when x.state x.at' ((k + 1 : Nat) : Int) (h ++ boxes (sv.take (k + 1)))) ⟨by simp [Asm.holds, cmpB]; omega, ⟨by omega, by omega, by simp⟩,
        a_ldn (get_app hs) (by omega) (svC_cut hx), hcall, by simp only [Asm.holds, arithI, add1 (show k < 1000000000000 by omega)], trivial⟩
      exact ⟨E2, .trans (.add (.add (.add (.add (.nil _) rfl) rfl) rfl) rfl) q1, q2⟩
  by_cases hx : sv.any p = true
  · obtain ⟨k0, x0, hk0, hp0, hmin⟩ : ∃ k0 x0, sv[k0]? = some x0 ∧ p x0 = true ∧ ∀ m y, m < k0 → sv[m]? = some y → p y = false := by
      have hlt : sv.findIdx p < sv.length := List.findIdx_lt_length.2 (List.any_eq_true.1 hx)
      refine ⟨sv.findIdx p, _, List.getElem?_eq_getElem hlt, List.findIdx_getElem (w := hlt), fun m y hm hy => ?_⟩
      have h1 := List.not_of_lt_findIdx hm
      rw [List.getElem?_eq_getElem (by omega)] at hy
      simp only [Option.some.injEq] at hy
      rw [hy] at h1
      simpa using h1
    have hk := get_lt' hk0
    refine ⟨k0, boxes (sv.take (k0 + 1)), pvF 0 Try.func65 (w2p.if_some s sv.length c f k0 h (h ++ boxes (sv.take (k0 + 1)))) ⟨fun E0 hE => ?_, trivial⟩, by simp [hx]⟩
    obtain ⟨x', E1, h1, hl1, rfl, hE1, rfl⟩ := loop_inv (P := Try.prog) (n := 19) (rd := false) (b := loopN Try.f65 0) (Q := fun x' E1 h1 => x' = .ret ∧ EnvLe [(4, .int .i64 k0)] E1 ∧ h ++ boxes (sv.take (k0 + 1)) = h1)
      (fun m E g => ∃ k : Nat, k ≤ k0 ∧ m = k0 - k ∧ EnvLe [(8, .int .i64 k), (7, .int .i64 (Int.ofNat sv.length)), (1, .func (.func f) #[] #[.pointer (some ⟨c, 0, none⟩)]), (0, .slice (some ⟨s, 0, none⟩) sv.length 3)] E ∧ h ++ boxes (sv.take k) = g)
      (fun m E g ⟨k, k1, k2, k3, k4⟩ => by
        subst k4
        by_cases e : k = k0
        · subst e
          right
          obtain ⟨E2, q1, q2⟩ := (body k x0 E hk0 k3).1 hp0
          exact ⟨_, E2, _, by simp, q2, rfl, q1, rfl⟩
        · left
          obtain ⟨y, hy⟩ : ∃ y, sv[k]? = some y := ⟨_, List.getElem?_eq_getElem (by omega)⟩
          obtain ⟨E2, q1, q2⟩ := (body k y E hy k3).2 (hmin k y (by omega) hy)
          exact ⟨k0 - (k + 1), E2, _, by omega, q2, k + 1, by omega, rfl, q1, rfl⟩)
      k0 E0 h ⟨0, by omega, rfl, .trans (.add (.add (.add (.add (.nil _) rfl) rfl) rfl) rfl) hE, by simp [boxes]⟩
    exact ⟨E1, hE1, hl1⟩
  · have hn' : ∀ m y, sv[m]? = some y → p y = false := fun m y hy => by
      cases hp : p y with
      | false => rfl
      | true => exact absurd (List.any_eq_true.2 ⟨y, List.mem_of_getElem? hy, hp⟩) hx
    refine ⟨Int.negSucc 0, boxes sv, pvF 0 Try.func65 (w2p.if_none s sv.length c f h (h ++ boxes sv)) ⟨fun E0 hE => ?_, trivial⟩, by simp [hx]⟩
    obtain ⟨x', E1, h1, hl1, rfl, rfl⟩ := loop_inv (P := Try.prog) (n := 19) (rd := false) (b := loopN Try.f65 0) (Q := fun x' E1 h1 => x' = .exit 0 ∧ h ++ boxes sv = h1)
      (fun m E g => ∃ k : Nat, k ≤ sv.length ∧ m = sv.length - k ∧ EnvLe [(8, .int .i64 k), (7, .int .i64 (Int.ofNat sv.length)), (1, .func (.func f) #[] #[.pointer (some ⟨c, 0, none⟩)]), (0, .slice (some ⟨s, 0, none⟩) sv.length 3)] E ∧ h ++ boxes (sv.take k) = g)
      (fun m E g ⟨k, k1, k2, k3, k4⟩ => by
        subst k4
        by_cases e : k = sv.length
        · subst e
          right
          obtain ⟨E2, q1, q2⟩ := pvC 0 k3 (w2p.if_end s sv.length c f sv.length (h ++ boxes (sv.take sv.length))) ⟨by simp [Asm.holds, cmpB], trivial⟩
          exact ⟨_, E2, _, by simp, q2, rfl, by simp [SH.den]⟩
        · left
          obtain ⟨y, hy⟩ : ∃ y, sv[k]? = some y := ⟨_, List.getElem?_eq_getElem (by omega)⟩
          obtain ⟨E2, q1, q2⟩ := (body k y E hy k3).2 (hn' k y hy)
          exact ⟨sv.length - (k + 1), E2, _, by omega, q2, k + 1, by omega, rfl, q1, rfl⟩)
      sv.length E0 h ⟨0, by omega, rfl, .trans (.add (.add (.add (.add (.nil _) rfl) rfl) rfl) rfl) hE, by simp [boxes]⟩
    exact ⟨E1, .nil _, hl1⟩

/-- 'slices.ContainsFunc', of the same. -/
theorem cf_run {h' : Hp} {s c n : Nat} {f : FuncId} {r : Int} {z : Bool} (h1 : Run Try.prog 65 [.slice (some ⟨s, 0, none⟩) n 3, .func (.func f) #[] #[.pointer (some ⟨c, 0, none⟩)]] h (.int .i64 r) h') (h2 : decide (r ≥ 0) = z) :
    Run Try.prog 50 [.slice (some ⟨s, 0, none⟩) n 3, .func (.func f) #[] #[.pointer (some ⟨c, 0, none⟩)]] h (.bool z) h' :=
  pvF 0 Try.func50 (w2p.cf s n c f r h h' z) ⟨h1, by simp only [Asm.holds, cmpB, h2], trivial⟩

/-- 'any': whether some service has one of these states. -/
theorem any_run (a : WAt h i j t w) (hw : WOk w) {o : Nat} {l : List Int} {rw : Bool} (ho : h[o]? = some (.cells (iC l) rw)) (hl : l.length ≤ 1000000000) :
    ∃ os, Run Try.prog 34 [.pointer (some ⟨i, 0, none⟩), .slice (some ⟨o, 0, none⟩) l.length 1] h (.bool (w.svs.any fun x => l.contains x.state)) (h ++ os) := by
  have n8 := hw.n8
  obtain ⟨r, os, h1, h2⟩ := indexFunc_run (h := h ++ [.cells [.slice (some ⟨o, 0, none⟩) l.length 1] true]) (c := h.length) (get_push a.svs) (by omega) 51 (fun x => l.contains x.state)
    (fun os x => any1_run (get_app (get_new h _)) (get_app (get_push ho)) hl x)
  refine ⟨[.cells [.slice (some ⟨o, 0, none⟩) l.length 1] true] ++ os, ?_⟩
  rw [← List.append_assoc]
  exact pvF 0 Try.func34 (w2p.any i j o l.length w.svs.length h.length h _ _) ⟨rfl, a_ld1 (get_push a.obj) rfl, cf_run h1 h2, trivial⟩

theorem stat16 : statOk (drawN Try.f16 0) = true := by kernel_rfl
theorem agg4 : aggSize Try.prog 4 = some none := by kernel_rfl

def overOf (w : WS) : Bool := !(w.svs.any fun x => [1, 2, 3, 4].contains x.state)

theorem over_run (a : WAt h i j t w) (hw : WOk w) : ∃ os, Run Try.prog 16 [.pointer (some ⟨i, 0, none⟩)] h (.tuple #[.bool (overOf w), .bool w.given]) (h ++ os) := by
  have ho : (h ++ [.cells (iC [1, 2, 3, 4]) true])[h.length]? = some (.cells (iC [1, 2, 3, 4]) true) := get_new h _
  obtain ⟨os, h1⟩ := any_run (a.keep (Keep.push (fun _ => False) h (.cells (iC [1, 2, 3, 4]) true)) (fun q _ hq => hq.elim)) hw ho (by simp)
  refine ⟨[.cells (iC [1, 2, 3, 4]) true] ++ os, ?_⟩
  rw [← List.append_assoc]
  have hb := get_app (os := os) (get_push (x := .cells (iC [1, 2, 3, 4]) true) a.obj)
  exact pvF 0 Try.func16 (w2p.over i h.length h _ _ w.given) ⟨stat16, a_again1 agg4 hb rfl rfl, a_again1 agg4 (get_push a.obj) rfl rfl, a_again1 agg4 hb rfl rfl, rfl, h1, a_ld1 hb rfl, trivial⟩

end Go.Proofs.Ytkkhokgpcifckaa.wd

namespace Go.Proofs.Ytkkhokgpcifckaa.wd
open Go Go.Ev

variable {h : Hp} {i j : Nat} {t : Option Nat} {w : WS}

/-! ### recent -/

/-- How many times lie above a time. -/
def cnt (a : Int) : List Int → Nat
  | [] => 0
  | y :: l => (if y > a then 1 else 0) + cnt a l

theorem cnt_app (a : Int) : ∀ (l : List Int) (y : Int), cnt a (l ++ [y]) = cnt a l + (if y > a then 1 else 0)
  | [], y => by simp [cnt]
  | z :: l, y => by simp only [List.cons_append, cnt, cnt_app a l y]; omega
theorem cnt_le (a : Int) : ∀ l : List Int, cnt a l ≤ l.length
  | [] => by simp [cnt]
  | z :: l => by have := cnt_le a l; simp only [cnt, List.length_cons]; split <;> omega
theorem take_snoc {α : Type} {l : List α} {k : Nat} {x : α} (hx : l[k]? = some x) : l.take (k + 1) = l.take k ++ [x] := by rw [List.take_add_one, hx]; rfl

theorem recent_run (a : WAt h i j t w) (hw : WOk w) (now : Int) (hn : 0 ≤ now ∧ now ≤ 1000000000000) : Run Try.prog 45 [.pointer (some ⟨i, 0, none⟩), .int .i64 now] h (.int .i64 (cnt (now - w.within) w.times : Nat)) h := by
  rcases a.tms with ⟨rfl, e⟩ | ⟨o, rfl, ho, _⟩
  · rw [e]
    have obj := a.obj
    rw [wCells, e] at obj
    exact pvF 0 Try.func45 (w3p.re0 i now h) ⟨a_ld1 obj rfl, by simp [Asm.holds, cmpB], trivial⟩
  · have hl := hw.times
    refine pvF 0 Try.func45 (w3p.re1 i o w.times.length now (cnt (now - w.within) w.times : Nat) h) ⟨a_ld1 a.obj rfl, fun E0 hE => ?_, trivial⟩
    obtain ⟨x', E1, h1, hl1, rfl, hE1, rfl⟩ := loop_inv (P := Try.prog) (n := 30) (rd := false) (b := loopN Try.f45 0) (Q := fun x' E1 h1 => x' = .exit 0 ∧ EnvLe [(5, .int .i64 (cnt (now - w.within) w.times : Nat))] E1 ∧ h = h1)
      (fun m E g => ∃ k : Nat, k ≤ w.times.length ∧ m = w.times.length - k ∧ EnvLe [(13, .int .i64 k), (12, .int .i64 (Int.ofNat w.times.length)), (11, .slice (some ⟨o, 0, none⟩) w.times.length 1), (5, .int .i64 (cnt (now - w.within) (w.times.take k) : Nat)), (1, .int .i64 now), (0, .pointer (some ⟨i, 0, none⟩))] E ∧ h = g)
      (fun m E g ⟨k, k1, k2, k3, k4⟩ => by
        subst k4
        by_cases e : k = w.times.length
        · right
          obtain ⟨E2, q1, q2⟩ := pvC 0 k3 (w3p.re_end i o w.times.length now k _ h) ⟨by simp [Asm.holds, cmpB]; omega, trivial⟩
          refine ⟨_, E2, _, by simp, q2, rfl, .trans (.add (.nil _) ?_) q1, rfl⟩
          rw [e, List.take_length]; rfl
        · left
          obtain ⟨y, hy⟩ : ∃ y, w.times[k]? = some y := ⟨_, List.getElem?_eq_getElem (by omega)⟩
          have hwn := hw.within
          have ar : IntKind.i64.wrap (now - w.within) = now - w.within := wrap_id (by omega) (by omega)
          have hc := cnt_le (now - w.within) (w.times.take k)
          have hcl : (w.times.take k).length ≤ k := by simp; omega
          by_cases hy' : y > now - w.within
          · obtain ⟨E2, q1, q2⟩ := pvC 0 k3 (w3p.re_in i o w.times.length now k (cnt (now - w.within) (w.times.take k) : Nat) h y w.within (now - w.within) ((cnt (now - w.within) (w.times.take k) + 1 : Nat) : Int) ((k + 1 : Nat) : Int))
              ⟨by simp [Asm.holds, cmpB]; omega, ⟨by omega, by omega, by simp⟩, a_ld1 ho (by simp [hy]), a_ld1 a.obj rfl, by simp [Asm.holds, arithI, ar], by simpa [Asm.holds, cmpB] using hy', by simp only [Asm.holds, arithI, add1 (show cnt (now - w.within) (w.times.take k) < 1000000000000 by omega)],
                by simp only [Asm.holds, arithI, add1 (show k < 1000000000000 by omega)], trivial⟩
            refine ⟨w.times.length - (k + 1), E2, _, by omega, q2, k + 1, by omega, rfl, ?_, rfl⟩
            rw [take_snoc hy, cnt_app, if_pos hy']
            exact .trans (.add (.add (.add (.add (.add (.add (.nil _) rfl) rfl) rfl) rfl) rfl) rfl) q1
          · obtain ⟨E2, q1, q2⟩ := pvC 0 k3 (w3p.re_out i o w.times.length now k (cnt (now - w.within) (w.times.take k) : Nat) h y w.within (now - w.within) ((k + 1 : Nat) : Int))
              ⟨by simp [Asm.holds, cmpB]; omega, ⟨by omega, by omega, by simp⟩, a_ld1 ho (by simp [hy]), a_ld1 a.obj rfl, by simp [Asm.holds, arithI, ar], by simpa [Asm.holds, cmpB] using hy',
                by simp only [Asm.holds, arithI, add1 (show k < 1000000000000 by omega)], trivial⟩
            refine ⟨w.times.length - (k + 1), E2, _, by omega, q2, k + 1, by omega, rfl, ?_, rfl⟩
            rw [take_snoc hy, cnt_app, if_neg hy', Nat.add_zero]
            exact .trans (.add (.add (.add (.add (.add (.add (.nil _) rfl) rfl) rfl) rfl) rfl) rfl) q1)
      w.times.length E0 h ⟨0, by omega, rfl, .trans (.add (.add (.add (.add (.add (.add (.nil _) rfl) rfl) rfl) rfl) rfl) rfl) hE, rfl⟩
    exact ⟨E1, hE1, hl1⟩

/-! ### Orders -/

/-- A list of orders (three numbers each, as a service). -/
def OrdAt (h : Hp) (b : Nat) (v : Value) (l : List Sv) : Prop := (v = .slice none 0 0 ∧ l = []) ∨ ∃ o, v = .slice (some ⟨o, 0, none⟩) l.length 3 ∧ h[o]? = some (.cells (svC l) true) ∧ b ≤ o ∧ l ≠ []

theorem OrdAt.keep {h h' : Hp} {b : Nat} {v : Value} {l : List Sv} {fp : Nat → Prop} (a : OrdAt h b v l) (k : Keep fp h h') (hf : ∀ q, b ≤ q → q < h.length → ¬ fp q) : OrdAt h' b v l := by
  rcases a with h1 | ⟨o, h1, h2, h3, h4⟩
  · exact .inl h1
  · exact .inr ⟨o, h1, k.2 _ _ h2 (hf o h3 (get_lt h2)), h3, h4⟩

theorem svC_app : ∀ l m : List Sv, svC (l ++ m) = svC l ++ svC m
  | [], m => rfl
  | x :: l, m => by simp [svC, svC_app l m]
theorem svC_ones : ∀ l : List Sv, (svC l).all Value.oneCell' = true
  | [] => rfl
  | x :: l => by simp only [svC, List.all_cons, svC_ones l]; rfl
theorem OrdAt.base {h : Hp} {b b' : Nat} {v : Value} {l : List Sv} (a : OrdAt h b v l) (hb : b' ≤ b) : OrdAt h b' v l := by
  rcases a with h1 | ⟨o, h1, h2, h3, h4⟩
  · exact .inl h1
  · exact .inr ⟨o, h1, h2, by omega, h4⟩
/-- One list of orders behind another. -/
theorem a_app3 {P : Program} {s : SH} {o1 o2 d : Nat} {l1 l2 : List Sv} {rw : Bool} (h1 : s.den[o1]? = some (.cells (svC l1) true)) (h2 : s.den[o2]? = some (.cells (svC l2) rw)) (hn : l2 ≠ []) (hb : l1.length + l2.length ≤ 1000) (hd : s.den.length = d) :
    (Asm.app s o1 0 l1.length o2 0 l2.length (l2.length - 1) 3 24 (svC (l1 ++ l2)) (svC l2) d).holds P := by
  have e1 := svC_len l1
  have e2 := svC_len l2
  have : l2.length ≠ 0 := fun e => hn (List.length_eq_zero_iff.1 e)
  refine ⟨by omega, ⟨_, cells_of h2, by omega, ?_⟩, svC_ones l2, by omega, by omega, ⟨_, own_of h1, by omega, ?_⟩, hd⟩
  · rw [List.drop_zero, List.take_of_length_le (by omega)]
  · rw [List.drop_zero, List.take_of_length_le (by omega), svC_app]
theorem a_app3n {P : Program} {s : SH} {o2 d : Nat} {l2 : List Sv} {rw : Bool} (h2 : s.den[o2]? = some (.cells (svC l2) rw)) (hn : l2 ≠ []) (hb : l2.length ≤ 1000) (hd : s.den.length = d) :
    (Asm.appNil s o2 0 l2.length (l2.length - 1) 3 24 (svC l2) d).holds P := by
  have e2 := svC_len l2
  have : l2.length ≠ 0 := fun e => hn (List.length_eq_zero_iff.1 e)
  refine ⟨by omega, ⟨_, cells_of h2, by omega, ?_⟩, svC_ones l2, by omega, by omega, hd⟩
  rw [List.drop_zero, List.take_of_length_le (by omega)]
/-! ### begin -/

def bgStep (at' : Int) (x : Sv) : Sv := if x.state = 3 then ⟨x.when, 4, at'⟩ else x
def bgO (at' : Int) : Nat → List Sv → List Sv
  | _, [] => []
  | n, x :: l => if x.state = 3 then ⟨2, ((n + 1 : Nat) : Int), at'⟩ :: bgO at' (n + 1) l else bgO at' (n + 1) l
theorem bgO_app (at' : Int) : ∀ (n : Nat) (l : List Sv) (x : Sv), bgO at' n (l ++ [x]) = bgO at' n l ++ (if x.state = 3 then [⟨2, ((n + l.length + 1 : Nat) : Int), at'⟩] else [])
  | n, [], x => by simp [bgO]
  | n, y :: l, x => by
    have := bgO_app at' (n + 1) l x
    simp only [List.cons_append, bgO, this, List.length_cons]
    rw [show n + 1 + l.length + 1 = n + (l.length + 1) + 1 by omega]
    split <;> simp
theorem bgO_len (at' : Int) : ∀ (n : Nat) (l : List Sv), (bgO at' n l).length ≤ l.length
  | n, [] => by simp [bgO]
  | n, y :: l => by have := bgO_len at' (n + 1) l; simp only [bgO]; split <;> simp <;> omega

theorem front_step {α : Type} {l : List α} {k : Nat} {x : α} (f : α → α) (hx : l[k]? = some x) : ((l.take k).map f ++ l.drop k)[k]? = some x ∧ ((l.take k).map f ++ l.drop k).set k (f x) = (l.take (k + 1)).map f ++ l.drop (k + 1) := by
  have hk := get_lt' hx
  have hl : ((l.take k).map f).length = k := by simp; omega
  have hd : l.drop k = x :: l.drop (k + 1) := by rw [List.drop_eq_getElem_cons hk]; rw [List.getElem?_eq_getElem hk] at hx; cases hx; rfl
  refine ⟨?_, ?_⟩
  · rw [List.getElem?_append_right (by omega), hl, Nat.sub_self, hd]; rfl
  · rw [List.set_append_right _ _ (by omega), hl, Nat.sub_self, hd, List.set_cons_zero, take_snoc hx, List.map_append, List.append_assoc]; rfl

theorem stat32 : statOk (drawN Try.f32 0) = true ∧ statOk (drawN Try.f32 1) = true ∧ statOk (drawN Try.f32 2) = true := ⟨by kernel_rfl, by kernel_rfl, by kernel_rfl⟩

/-- The rounds of 'begin': from a heap h on. -/
theorem begin_loop (a : WAt h i j t w) (hw : WOk w) (at' : Int) (E0 : Env)
    (hE : EnvLe [(37, .int .i64 0), (36, .int .i64 (Int.ofNat w.svs.length)), (35, .slice (some ⟨j, 0, none⟩) w.svs.length 3), (4, .slice none 0 0), (3, .int .i64 at'), (0, .pointer (some ⟨i, 0, none⟩))] E0) :
    ∃ E1 v h1, EnvLe [(4, v)] E1 ∧ LRun Try.prog 64 false (loopN Try.f32 0) E0 h (.exit 0) E1 h1 ∧ WAt h1 i j t { w with svs := w.svs.map (bgStep at') } ∧ OrdAt h1 h.length v (bgO at' 0 w.svs) ∧ Keep (· = j) h h1 := by
  have n8 := hw.n8
  obtain ⟨x', E1, h1, hl1, rfl, v, q1, q2, q3, q4⟩ := loop_inv (P := Try.prog) (n := 64) (rd := false) (b := loopN Try.f32 0)
    (Q := fun x' E1 h1 => x' = .exit 0 ∧ ∃ v, EnvLe [(4, v)] E1 ∧ WAt h1 i j t { w with svs := w.svs.map (bgStep at') } ∧ OrdAt h1 h.length v (bgO at' 0 w.svs) ∧ Keep (· = j) h h1)
    (fun m E g => ∃ k v, k ≤ w.svs.length ∧ m = w.svs.length - k ∧ EnvLe [(37, .int .i64 (k : Nat)), (36, .int .i64 (Int.ofNat w.svs.length)), (35, .slice (some ⟨j, 0, none⟩) w.svs.length 3), (4, v), (3, .int .i64 at'), (0, .pointer (some ⟨i, 0, none⟩))] E ∧
      WAt g i j t { w with svs := (w.svs.take k).map (bgStep at') ++ w.svs.drop k } ∧ OrdAt g h.length v (bgO at' 0 (w.svs.take k)) ∧ Keep (· = j) h g)
    (fun m E g ⟨k, v, k1, k2, k3, k4, k5, k6⟩ => by
      by_cases e : k = w.svs.length
      · right
        subst e
        obtain ⟨E2, q1, q2⟩ := pvC 0 k3 (w3p.bg_end i j w.svs.length v at' w.svs.length g) ⟨by simp [Asm.holds, cmpB], trivial⟩
        refine ⟨_, E2, _, by simp, q2, rfl, v, .trans (.add (.nil _) rfl) q1, ?_, ?_, k6⟩
        · simpa [SH.den] using k4
        · simpa [SH.den] using k5
      · left
        obtain ⟨x, hx⟩ : ∃ x, w.svs[k]? = some x := ⟨_, List.getElem?_eq_getElem (by omega)⟩
        obtain ⟨f1, f2⟩ := front_step (bgStep at') hx
        have hsv := k4.svs
        have hobj := k4.obj
        have hll : (svC ((w.svs.take k).map (bgStep at') ++ w.svs.drop k)).length = w.svs.length * 3 := by rw [svC_len]; simp; omega
        have hwl : wCells { w with svs := (w.svs.take k).map (bgStep at') ++ w.svs.drop k } j t = wCells w j t := by
          simp only [wCells]; rw [show ((w.svs.take k).map (bgStep at') ++ w.svs.drop k).length = w.svs.length by simp; omega]
        simp only [] at hsv
        rw [hwl] at hobj
        have hgj := get_lt hsv
        have hgi := get_lt hobj
        have hne := a.ne
        have ak1 : IntKind.i64.wrap ((k : Int) + 1) = ((k + 1 : Nat) : Int) := add1 (by omega)
        by_cases hs : x.state = 3
        · -- due
          have hst : bgStep at' x = ⟨x.when, 4, at'⟩ := by simp [bgStep, hs]
          rw [hst] at f2
          have hgo : ∀ {q : Nat} {o y : AObj}, g[q]? = some o → ((g ++ [AObj.cells [.int .i64 0, .int .i64 0, .int .i64 0] true]).set g.length y)[q]? = some o := fun hq => get_set_ne (get_push hq) (by have := get_lt hq; omega)
          have pre1 : (Asm.cmp .lss (k : Int) (Int.ofNat w.svs.length) true).holds Try.prog := by simp [Asm.holds, cmpB]; omega
          have hput := svC_put (⟨x.when, 4, at'⟩ : Sv) f1
          rw [f2] at hput
          rcases k5 with ⟨rfl, hnil⟩ | ⟨o, rfl, ho, hbo, _⟩
          · obtain ⟨E2, q1, q2⟩ := pvC 0 k3 (w3p.bg_go0 i j w.svs.length at' k g (k * 3) g.length (g.length + 1) (g.length + 2) x.when x.state x.at' ((k + 1 : Nat) : Int) ((k + 1 : Nat) : Int) (svC ((w.svs.take (k + 1)).map (bgStep at') ++ w.svs.drop (k + 1))) [])
              ⟨pre1, ⟨by omega, by omega, by simp⟩, a_ldn hsv (by omega) (svC_cut f1), rfl, a_st (get_new g _) (by simp) rfl, a_ld1 (get_set_eq (get_new g _)) rfl, by simpa [Asm.holds, cmpB] using hs, stat32.2.2,
                a_ld1 (hgo hobj) rfl, a_ld1 (get_set_eq (get_new g _)) rfl, ⟨by omega, by omega, by simp⟩, a_st (hgo hsv) (by rw [hll]; simp; omega) hput, by simp only [Asm.holds, arithI, ak1], by simp [Asm.holds, SH.den],
                ⟨rfl, ⟨_, cells_of (get_new' _ (by simp [SH.den])), by simp, rfl⟩, rfl, by omega, by omega, by simp [SH.den]⟩, by simp only [Asm.holds, arithI, ak1], trivial⟩
            have hK : Keep (fun q => q = j ∨ g.length ≤ q) g (((((g ++ [AObj.cells [.int .i64 0, .int .i64 0, .int .i64 0] true]).set g.length (.cells x.cells true)).set j (.cells (svC ((w.svs.take (k + 1)).map (bgStep at') ++ w.svs.drop (k + 1))) true)) ++
                [.cells [.int .i64 2, .int .i64 ((k + 1 : Nat) : Int), .int .i64 at'] true]) ++ [.cells [.int .i64 2, .int .i64 ((k + 1 : Nat) : Int), .int .i64 at'] true]) :=
              ((((Keep.push (fun q => q = j ∨ g.length ≤ q) _ _).trans (Keep.set (fp := fun q => q = j ∨ g.length ≤ q) (.inr (Nat.le_refl _)) _)).trans (Keep.set (fp := fun q => q = j ∨ g.length ≤ q) (.inl rfl) _)).trans (Keep.push _ _ _)).trans (Keep.push _ _ _)
            refine ⟨w.svs.length - (k + 1), E2, _, by omega, q2, k + 1, _, by omega, rfl, .trans (.add (.add (.add (.add (.add (.add (.nil _) rfl) rfl) rfl) rfl) rfl) rfl) q1, ?_, ?_, ?_⟩
            · refine k4.put hK (fun q hq e => ?_) (get_push (get_push (get_set_eq (hgo hsv)))) (by simp; omega)
              rcases e with e | e
              · exact .inl e
              · omega
            · right
              refine ⟨g.length + 2, ?_, ?_, by have := k6.1; omega, by rw [take_snoc hx, bgO_app, if_pos hs]; simp⟩
              · rw [take_snoc hx, bgO_app, if_pos hs, hnil]; rfl
              · rw [take_snoc hx, bgO_app, if_pos hs, hnil]
                have : (w.svs.take k).length = k := by simp; omega
                simp only [this, Nat.zero_add]
                exact get_new' _ (by simp [SH.den])
            · refine k6.trans_new hK (fun q hq e => ?_)
              rcases e with e | e
              · exact e
              · have := k6.1; omega
          · have hlo : (svC (bgO at' 0 (w.svs.take k))).length = (bgO at' 0 (w.svs.take k)).length * 3 := svC_len _
            have hno : (bgO at' 0 (w.svs.take k)).length ≤ 8 := by have := bgO_len at' 0 (w.svs.take k); simp at this; omega
            have hgo' := get_lt ho
            have noj : o ≠ j := by have := get_lt a.svs; omega
            have hcs : (svC (bgO at' 0 (w.svs.take k))).take ((bgO at' 0 (w.svs.take k)).length * 3) ++ [.int .i64 2, .int .i64 ((k + 1 : Nat) : Int), .int .i64 at'] = svC (bgO at' 0 (w.svs.take (k + 1))) := by
              rw [take_snoc hx, bgO_app, if_pos hs, svC_app, List.take_of_length_le (by omega)]
              have : (w.svs.take k).length = k := by simp; omega
              simp only [this, Nat.zero_add]
              rfl
            obtain ⟨E2, q1, q2⟩ := pvC 0 k3 (w3p.bg_go1 i j w.svs.length o (bgO at' 0 (w.svs.take k)).length at' k g (k * 3) g.length (g.length + 1) (g.length + 2) x.when x.state x.at' ((k + 1 : Nat) : Int) ((k + 1 : Nat) : Int)
                (svC ((w.svs.take (k + 1)).map (bgStep at') ++ w.svs.drop (k + 1))) (svC (bgO at' 0 (w.svs.take (k + 1)))))
              ⟨pre1, ⟨by omega, by omega, by simp⟩, a_ldn hsv (by omega) (svC_cut f1), rfl, a_st (get_new g _) (by simp) rfl, a_ld1 (get_set_eq (get_new g _)) rfl, by simpa [Asm.holds, cmpB] using hs, stat32.2.2,
                a_ld1 (hgo hobj) rfl, a_ld1 (get_set_eq (get_new g _)) rfl, ⟨by omega, by omega, by simp⟩, a_st (hgo hsv) (by rw [hll]; simp; omega) hput, by simp only [Asm.holds, arithI, ak1], by simp [Asm.holds, SH.den],
                ⟨rfl, ⟨_, cells_of (get_new' _ (by simp [SH.den])), by simp, rfl⟩, rfl, by omega, by omega, ⟨_, own_of (get_push (get_set_ne (hgo ho) (Ne.symm noj))), by omega, hcs⟩, by simp [SH.den]⟩, by simp only [Asm.holds, arithI, ak1], trivial⟩
            have hK : Keep (fun q => q = j ∨ g.length ≤ q ∨ q = o) g ((((((g ++ [AObj.cells [.int .i64 0, .int .i64 0, .int .i64 0] true]).set g.length (.cells x.cells true)).set j (.cells (svC ((w.svs.take (k + 1)).map (bgStep at') ++ w.svs.drop (k + 1))) true)) ++
                [AObj.cells [.int .i64 2, .int .i64 ((k + 1 : Nat) : Int), .int .i64 at'] true]).set o .dead) ++ [.cells (svC (bgO at' 0 (w.svs.take (k + 1)))) true]) :=
              (((((Keep.push (fun q => q = j ∨ g.length ≤ q ∨ q = o) _ _).trans (Keep.set (fp := fun q => q = j ∨ g.length ≤ q ∨ q = o) (.inr (.inl (Nat.le_refl _))) _)).trans (Keep.set (fp := fun q => q = j ∨ g.length ≤ q ∨ q = o) (.inl rfl) _)).trans (Keep.push _ _ _)).trans
                (Keep.set (fp := fun q => q = j ∨ g.length ≤ q ∨ q = o) (.inr (.inr rfl)) _)).trans (Keep.push _ _ _)
            refine ⟨w.svs.length - (k + 1), E2, _, by omega, q2, k + 1, _, by omega, rfl, .trans (.add (.add (.add (.add (.add (.add (.nil _) rfl) rfl) rfl) rfl) rfl) rfl) q1, ?_, ?_, ?_⟩
            · refine k4.put hK (fun q hq e => ?_) (get_push (get_set_ne (get_push (get_set_eq (hgo hsv))) noj)) (by simp; omega)
              rcases e with e | e | e
              · exact .inl e
              · omega
              · right
                rintro (r | r | r)
                · have := get_lt a.obj; omega
                · omega
                · rcases a.tms with ⟨r2, _⟩ | ⟨p, r1, r2, _⟩
                  · rw [r2] at r; cases r
                  · rw [r1] at r; cases r; have := get_lt r2; omega
            · right
              refine ⟨g.length + 2, ?_, ?_, by have := k6.1; omega, by rw [take_snoc hx, bgO_app, if_pos hs]; simp⟩
              · rw [take_snoc hx, bgO_app, if_pos hs]; simp
              · exact get_new' _ (by simp [SH.den])
            · refine k6.trans_new hK (fun q hq e => ?_)
              rcases e with e | e | e
              · exact e
              · have := k6.1; omega
              · omega
        · obtain ⟨E2, q1, q2⟩ := pvC 0 k3 (w3p.bg_skip i j w.svs.length v at' k g (k * 3) g.length x.when x.state x.at' ((k + 1 : Nat) : Int))
            ⟨by simp [Asm.holds, cmpB]; omega, ⟨by omega, by omega, by simp⟩, a_ldn hsv (by omega) (svC_cut f1), rfl, a_st (get_new g _) (by simp) rfl, a_ld1 (get_set_eq (get_new g _)) rfl, by simpa [Asm.holds, cmpB] using hs,
              by simp only [Asm.holds, arithI, ak1], trivial⟩
          have hK : Keep (fun q => q = g.length) g ((g ++ [AObj.cells [.int .i64 0, .int .i64 0, .int .i64 0] true]).set g.length (.cells x.cells true)) := (Keep.push (fun q => q = g.length) _ _).trans (Keep.set (fp := fun q => q = g.length) rfl _)
          have hst : bgStep at' x = x := by simp [bgStep, hs]
          rw [hst] at f2
          have f2' : ((w.svs.take k).map (bgStep at') ++ w.svs.drop k).set k x = (w.svs.take k).map (bgStep at') ++ w.svs.drop k := by
            obtain ⟨hb, he⟩ := List.getElem?_eq_some_iff.1 f1
            rw [← he]; exact List.set_getElem_self hb
          refine ⟨w.svs.length - (k + 1), E2, _, by omega, q2, k + 1, v, by omega, rfl, .trans (.add (.add (.add (.add (.add (.add (.nil _) rfl) rfl) rfl) rfl) rfl) rfl) q1, ?_, ?_, ?_⟩
          · rw [← f2]
            refine k4.put hK (fun q hq e => by omega) ?_ (by simp)
            have := hK.2 _ _ hsv (by omega)
            rw [f2']; exact this
          · rw [take_snoc hx, bgO_app, if_neg hs, List.append_nil]
            exact k5.keep hK (fun q _ hq e => by omega)
          · exact k6.trans_new hK (fun q hq e => by have := k6.1; omega))
    w.svs.length E0 h ⟨0, .slice none 0 0, by omega, rfl, hE, by simpa using a, .inl ⟨rfl, rfl⟩, .refl _ _⟩
  exact ⟨E1, v, h1, q1, hl1, q2, q3, q4⟩

def atOf (w : WS) : Int := if w.delay < 1000000000000 - w.now then w.now + w.delay else 1000000000000
def beginF (w : WS) : WS × List Sv := if (w.svs.any fun x => [2].contains x.state) = true then (w, []) else ({ w with delay := 0, svs := w.svs.map (bgStep (atOf w)) }, bgO (atOf w) 0 w.svs)

theorem WAt.lts {h : Hp} (a : WAt h i j t w) : ∀ p : Nat, fpW i j t p → p < h.length := by
  rintro q (r | r | r)
  · subst r; exact get_lt a.obj
  · subst r; exact get_lt a.svs
  · rcases a.tms with ⟨r2, _⟩ | ⟨p, r1, r2, _⟩
    · rw [r2] at r; cases r
    · rw [r1] at r; cases r; exact get_lt r2

theorem WAt.app {h : Hp} (a : WAt h i j t w) (os : Hp) : WAt (h ++ os) i j t w := a.keep (Keep.app (fun _ => False) h os) (fun q _ hq => hq.elim)

theorem begin_run (a : WAt h i j t w) (hw : WOk w) : ∃ v h', Run Try.prog 32 [.pointer (some ⟨i, 0, none⟩)] h v h' ∧ WAt h' i j t (beginF w).1 ∧ OrdAt h' h.length v (beginF w).2 ∧ Keep (fun q => q = i ∨ q = j) h h' := by
  have ho : (h ++ [.cells (iC [2]) true])[h.length]? = some (.cells (iC [2]) true) := get_new h _
  obtain ⟨os, h1⟩ := any_run (a.app [.cells (iC [2]) true]) hw ho (by simp)
  have K1 : Keep (fun q => q = i ∨ q = j) h (h ++ [AObj.cells (iC [2]) true] ++ os) := (Keep.push _ _ _).trans (Keep.app _ _ _)
  have a1 := (a.app [.cells (iC [2]) true]).app os
  unfold beginF
  by_cases hb : (w.svs.any fun x => [2].contains x.state) = true
  · rw [if_pos hb]
    rw [hb] at h1
    exact ⟨_, _, pvF 0 Try.func32 (w3p.bg_busy i h.length h _) ⟨rfl, h1, trivial⟩, a1, .inl ⟨rfl, rfl⟩, K1⟩
  · rw [if_neg hb]
    rw [Bool.eq_false_iff.2 hb] at h1
    have hd := hw.delay
    have hnow := hw.now
    -- the delay is spent
    have a2 : WAt ((h ++ [AObj.cells (iC [2]) true] ++ os).set i (.cells (wCells { w with delay := 0 } j t) true)) i j t { w with delay := 0 } :=
      ⟨get_set_eq a1.obj, get_set_ne a1.svs a1.ne, by
        rcases a1.tms with q1 | ⟨q, q1, q2, q3, q4⟩
        · exact .inl q1
        · exact .inr ⟨q, q1, get_set_ne q2 (Ne.symm q3), q3, q4⟩, a1.ne⟩
    have K2 : Keep (fun q => q = i ∨ q = j) h ((h ++ [AObj.cells (iC [2]) true] ++ os).set i (.cells (wCells { w with delay := 0 } j t) true)) := K1.trans (Keep.set (.inl rfl) _)
    have hw2 : WOk { w with delay := 0 } := ⟨hw.n1, hw.n8, hw.most, hw.within, hw.base, hw.cap, hw.now, by simp, hw.times, hw.rule⟩
    have sb : IntKind.i64.wrap (1000000000000 - w.now) = 1000000000000 - w.now := wrap_id (by omega) (by omega)
    have ad : IntKind.i64.wrap (w.now + w.delay) = w.now + w.delay := wrap_id (by omega) (by omega)
    obtain ⟨E1, v, h2, hE1, hl, b1, b2, b3⟩ := begin_loop a2 hw2 (atOf w) _ (EnvLe.refl _)
    have K3 : Keep (fun q => q = i ∨ q = j) h h2 := K2.trans (b3.mono fun q _ e => .inr e)
    have hlen : h.length ≤ (h ++ [AObj.cells (iC [2]) true] ++ os).length := K1.1
    have b2' : OrdAt h2 h.length v (bgO (atOf w) 0 w.svs) := by
      rcases b2 with q | ⟨o, q1, q2, q3, q4⟩
      · exact .inl q
      · exact .inr ⟨o, q1, q2, by simp at q3 hlen ⊢; omega, q4⟩
    refine ⟨v, h2, ?_, b1, b2', K3⟩
    have pl : plainC (loopN Try.f32 0) = true := by kernel_rfl
    have st1 := a_st (P := Try.prog) (s := .is (h ++ [AObj.cells (iC [2]) true] ++ os)) (d := 9) (l := [.int .i64 0]) (c' := wCells { w with delay := 0 } j t) a1.obj (by simp [wCells]) rfl
    by_cases hc : w.delay < 1000000000000 - w.now
    · have hat : atOf w = w.now + w.delay := by simp [atOf, hc]
      rw [hat] at hl
      exact pvF 0 Try.func32 (w3p.bg_near i j h.length w.svs.length w.delay w.now (1000000000000 - w.now) (w.now + w.delay) v (wCells { w with delay := 0 } j t) h _ h2) ⟨rfl, h1, stat32.1, a_ld1 a1.obj rfl, a_ld1 a1.obj rfl, by simp only [Asm.holds, arithI, sb], by simpa [Asm.holds, cmpB] using hc, stat32.2.1,
        a_ld1 a1.obj rfl, a_ld1 a1.obj rfl, by simp only [Asm.holds, arithI, ad], st1, a_ld1 a2.obj rfl,
        a_loop pl (.add (.add (.add (.add (.add (.add (.nil _) rfl) rfl) rfl) rfl) rfl) rfl) hE1 hl, trivial⟩
    · have hat : atOf w = 1000000000000 := by simp [atOf, hc]
      rw [hat] at hl
      exact pvF 0 Try.func32 (w3p.bg_far i j h.length w.svs.length w.delay w.now (1000000000000 - w.now) v (wCells { w with delay := 0 } j t) h _ h2) ⟨rfl, h1, stat32.1, a_ld1 a1.obj rfl, a_ld1 a1.obj rfl, by simp only [Asm.holds, arithI, sb], by simpa [Asm.holds, cmpB] using hc,
        st1, a_ld1 a2.obj rfl, a_loop pl (.add (.add (.add (.add (.add (.add (.nil _) rfl) rfl) rfl) rfl) rfl) rfl) hE1 hl, trivial⟩

end Go.Proofs.Ytkkhokgpcifckaa.wd

namespace Go.Proofs.Ytkkhokgpcifckaa.wd
open Go Go.Ev

variable {h : Hp} {i j : Nat} {t : Option Nat} {w : WS}

/-! ### stop -/

def stStep (p : Nat → Bool) (n : Nat) (x : Sv) : Sv := if x.state = 1 ∧ p n = true then { x with state := 2 } else x
/-- The services from a place on, stopped. -/
def stS (p : Nat → Bool) : Nat → List Sv → List Sv
  | _, [] => []
  | n, x :: l => stStep p n x :: stS p (n + 1) l
/-- The orders for them, the last first. -/
def stO (p : Nat → Bool) : Nat → List Sv → List Sv
  | _, [] => []
  | n, x :: l => stO p (n + 1) l ++ (if x.state = 1 ∧ p n = true then [⟨1, ((n + 1 : Nat) : Int), 0⟩] else [])

theorem stS_len (p : Nat → Bool) : ∀ (n : Nat) (l : List Sv), (stS p n l).length = l.length
  | _, [] => rfl
  | n, x :: l => by simp [stS, stS_len p (n + 1) l]
theorem stO_len (p : Nat → Bool) : ∀ (n : Nat) (l : List Sv), (stO p n l).length ≤ l.length
  | _, [] => by simp [stO]
  | n, x :: l => by have := stO_len p (n + 1) l; simp only [stO, List.length_append, List.length_cons]; split <;> simp <;> omega

theorem drop_cons {α : Type} {l : List α} {k : Nat} {x : α} (hx : l[k]? = some x) : l.drop k = x :: l.drop (k + 1) := by
  have hk := get_lt' hx
  rw [List.drop_eq_getElem_cons hk]; rw [List.getElem?_eq_getElem hk] at hx; cases hx; rfl

/-- The services when all from k on are done. -/
def stL (p : Nat → Bool) (l : List Sv) (k : Nat) : List Sv := l.take k ++ stS p k (l.drop k)
theorem stL_len (p : Nat → Bool) (l : List Sv) (k : Nat) : (stL p l k).length = l.length := by simp [stL, stS_len]; omega
theorem stL_step (p : Nat → Bool) {l : List Sv} {k : Nat} {x : Sv} (hx : l[k]? = some x) : (stL p l (k + 1))[k]? = some x ∧ (stL p l (k + 1)).set k (stStep p k x) = stL p l k := by
  have hk := get_lt' hx
  have hl : (l.take k).length = k := by simp; omega
  unfold stL
  rw [take_snoc hx, List.append_assoc]
  refine ⟨?_, ?_⟩
  · rw [List.getElem?_append_right (by omega), hl, Nat.sub_self]; rfl
  · rw [List.set_append_right _ _ (by omega), hl, Nat.sub_self, drop_cons hx]; rfl

noncomputable def AS49 : Code := partC Try.f49 [1, 1, 0, 1, 0, 0]
noncomputable def BD49 : Code := partC Try.f49 [1, 1, 0, 1, 0, 1]

/-- Where the rounds of 'stop' stand, when all from k on are done. -/
structure SI (h : Hp) (i j : Nat) (t : Option Nat) (w : WS) (fv : Value) (p : Nat → Bool) (E0 : Env) (k : Nat) (g : Hp) : Prop where
  wat : WAt g i j t { w with svs := stL p w.svs k }
  bw : g[h.length]? = some (.cells [.pointer (some ⟨i, 0, none⟩)] true)
  bf : g[h.length + 1]? = some (.cells [fv] true)
  bo : ∃ v, g[h.length + 2]? = some (.cells [v] true) ∧ OrdAt g (h.length + 5) v (stO p k (w.svs.drop k))
  bs : g[h.length + 3]? = some (.cells [.slice (some ⟨j, 0, none⟩) w.svs.length 3] true)
  lp : g[h.length + 4]? = some (.loop .ready none E0 37 #[13, 14] AS49 BD49)
  kp : Keep (· = j) h g

theorem SI.next {fv : Value} {p : Nat → Bool} {E0 : Env} {k k' : Nat} {g g' : Hp} {v : Value} (a : WAt h i j t w) (s : SI h i j t w fv p E0 k g) {fp : Nat → Prop} (K : Keep fp g g')
    (hf : ∀ q, fp q → q = j ∨ q = h.length + 2 ∨ h.length + 4 ≤ q) (hj : g'[j]? = some (.cells (svC (stL p w.svs k')) true))
    (h2 : g'[h.length + 2]? = some (.cells [v] true)) (ho : OrdAt g' (h.length + 5) v (stO p k' (w.svs.drop k'))) (hl : g'[h.length + 4]? = some (.loop .ready none E0 37 #[13, 14] AS49 BD49)) : SI h i j t w fv p E0 k' g' := by
  have hjl := a.lts j (.inr (.inl rfl))
  refine ⟨?_, K.2 _ _ s.bw fun e => ?_, K.2 _ _ s.bf fun e => ?_, ⟨v, h2, ho⟩, K.2 _ _ s.bs fun e => ?_, hl, ?_⟩
  · refine s.wat.put K (fun q _ e => ?_) hj (by simp [stL_len])
    rcases hf q e with e | e | e
    · exact .inl e
    · right; intro hq; have := a.lts q hq; omega
    · right; intro hq; have := a.lts q hq; omega
  · rcases hf _ e with e | e | e <;> omega
  · rcases hf _ e with e | e | e <;> omega
  · rcases hf _ e with e | e | e <;> omega
  · refine s.kp.trans_new K (fun q hq e => ?_)
    rcases hf q e with e | e | e
    · exact e
    · omega
    · omega

/-- One round of 'stop'. -/
theorem stop_round (a : WAt h i j t w) (hw : WOk w) {fo : FuncId} {cl : List Value} {p : Nat → Bool} {E0 : Env} (hE : EnvLe [(2, .pointer (some ⟨h.length, 0, none⟩)), (3, .pointer (some ⟨h.length + 1, 0, none⟩)), (5, .pointer (some ⟨h.length + 2, 0, none⟩))] E0)
    (hof : ∀ g, Keep (· = j) h g → ∀ k : Nat, k < w.svs.length → Run Try.prog fo (.int .i64 k :: cl) g (.bool (p k)) g) {k : Nat} {x : Sv} (hx : w.svs[k]? = some x) {g : Hp} (s : SI h i j t w (.func (.func fo) #[] ⟨cl⟩) p E0 (k + 1) g) :
    ∃ g', RunR Try.prog (h.length + 4) [.int .i64 k, .agg x.cells.toArray] g (.bool true) g' ∧ SI h i j t w (.func (.func fo) #[] ⟨cl⟩) p E0 k g' := by
  have n8 := hw.n8
  have hk := get_lt' hx
  obtain ⟨v, hv, hov⟩ := s.bo
  have hLg := get_lt s.lp
  have hjl := a.lts j (.inr (.inl rfl))
  have hil := a.lts i (.inl rfl)
  obtain ⟨f1, f2⟩ := stL_step p hx
  have hsv := s.wat.svs
  simp only [] at hsv
  have hll : (svC (stL p w.svs (k + 1))).length = w.svs.length * 3 := by rw [svC_len, stL_len]
  -- the variables of the round
  obtain ⟨E2, e1, c1⟩ := pvC 0 ((hE.cons 13 (.int .i64 k)).cons 14 (.agg #[.int .i64 x.when, .int .i64 x.state, .int .i64 x.at'])) (w4p.st_as h.length (h.length + 1) (h.length + 2) g.length k x.when x.state x.at' g) ⟨rfl, a_st (get_new g _) (by simp) rfl, trivial⟩
  -- the heap of the body
  let g1 : Hp := (g ++ [AObj.cells [.int .i64 0, .int .i64 0, .int .i64 0] true]).set g.length (.cells x.cells true)
  let gb : Hp := g1.set (h.length + 4) (.loop .busy none E0 37 #[13, 14] AS49 BD49)
  have keep1 : ∀ {q : Nat} {o : AObj}, g[q]? = some o → g1[q]? = some o := fun hq => get_set_ne (get_push hq) (by have := get_lt hq; omega)
  have keepb : ∀ {q : Nat} {o : AObj}, g[q]? = some o → q ≠ h.length + 4 → gb[q]? = some o := fun hq hn => get_set_ne (keep1 hq) (Ne.symm hn)
  have hq1 : gb[g.length]? = some (.cells x.cells true) := get_set_ne (get_set_eq (get_new g _)) (by omega)
  have hL1 : gb[h.length + 4]? = some (.loop .busy none E0 37 #[13, 14] AS49 BD49) := get_set_eq (keep1 s.lp)
  have Kb : Keep (fun q => q = h.length + 4 ∨ g.length ≤ q) g gb := ((Keep.push (fun q => q = h.length + 4 ∨ g.length ≤ q) _ _).trans (Keep.set (fp := fun q => q = h.length + 4 ∨ g.length ≤ q) (.inr (Nat.le_refl _)) _)).trans (Keep.set (fp := fun q => q = h.length + 4 ∨ g.length ≤ q) (.inl rfl) _)
  have Kj : Keep (· = j) h gb := s.kp.trans_new Kb (fun q hq e => by rcases e with e | e <;> have := s.kp.1 <;> omega)
  have hEB : EnvLe [(6, .int .i64 k), (7, .pointer (some ⟨g.length, 0, none⟩)), (2, .pointer (some ⟨h.length, 0, none⟩)), (3, .pointer (some ⟨h.length + 1, 0, none⟩)), (5, .pointer (some ⟨h.length + 2, 0, none⟩))] E2 :=
    .trans (.add (.add (.add (.add (.add (.nil _) rfl) rfl) rfl) rfl) rfl) e1
  have hcall := hof gb Kj k hk
  have fin : ∀ {E4 : Env} {h4 : Hp}, CRun Try.prog 37 true BD49 E2 gb .normal E4 h4 → h4[h.length + 4]? = some (.loop .busy none E0 37 #[13, 14] AS49 BD49) →
      RunR Try.prog (h.length + 4) [.int .i64 k, .agg x.cells.toArray] g (.bool true) (h4.set (h.length + 4) (.loop .ready none E0 37 #[13, 14] AS49 BD49)) := fun hb h4 =>
    RunR.go s.lp rfl rfl c1 (keep1 s.lp) hb h4 rfl
  have no : stStep p k x = x → ¬ (x.state = 1 ∧ p k = true) → SI h i j t w (.func (.func fo) #[] ⟨cl⟩) p E0 k (gb.set (h.length + 4) (.loop .ready none E0 37 #[13, 14] AS49 BD49)) := by
    intro hst hsel
    have K : Keep (fun q => q = h.length + 4 ∨ g.length ≤ q) g (gb.set (h.length + 4) (.loop .ready none E0 37 #[13, 14] AS49 BD49)) := Kb.trans (Keep.set (fp := fun q => q = h.length + 4 ∨ g.length ≤ q) (.inl rfl) _)
    rw [hst] at f2
    have f2' : stL p w.svs (k + 1) = stL p w.svs k := by
      obtain ⟨hb, he⟩ := List.getElem?_eq_some_iff.1 f1
      rw [← f2, ← he, List.set_getElem_self hb]
    have hord : stO p k (w.svs.drop k) = stO p (k + 1) (w.svs.drop (k + 1)) := by rw [drop_cons hx]; simp only [stO, if_neg hsel, List.append_nil]
    refine s.next a K (fun q e => ?_) ?_ (K.2 _ _ hv (by omega)) ?_ (get_set_eq hL1)
    · omega
    · rw [← f2']; exact K.2 _ _ hsv (by omega)
    · rw [hord]; exact hov.keep K (fun q h1 h2 => by omega)
  by_cases hs : x.state = 1
  · by_cases hp : p k = true
    · -- it stops
      rw [hp] at hcall
      have hst : stStep p k x = { x with state := 2 } := by simp [stStep, hs, hp]
      rw [hst] at f2
      have hput := svC_state 2 f1
      rw [f2] at hput
      have ak1 : IntKind.i64.wrap ((k : Int) + 1) = ((k + 1 : Nat) : Int) := add1 (by omega)
      have hord : stO p k (w.svs.drop k) = stO p (k + 1) (w.svs.drop (k + 1)) ++ [⟨1, ((k + 1 : Nat) : Int), 0⟩] := by rw [drop_cons hx]; simp [stO, hs, hp]
      have n1 : h.length + 2 ≠ j := by omega
      have n2 : h.length + 4 ≠ j := by omega
      have hobj : gb[i]? = some (.cells (wCells { w with svs := stL p w.svs (k + 1) } j t) true) := keepb s.wat.obj (by omega)
      have hwc : (wCells { w with svs := stL p w.svs (k + 1) } j t)[6]? = some (.slice (some ⟨j, 0, none⟩) w.svs.length 3) := by simp [wCells, stL_len]
      have hjb := keepb hsv (by omega)
      have hgb : gb.length = g.length + 1 := by simp [gb, g1]
      rcases hov with ⟨rfl, hnil⟩ | ⟨o, rfl, ho, hbo, _⟩
      · obtain ⟨E4, q1, q2⟩ := pvC 0 hEB (w4p.st_yes0 i j w.svs.length h.length (h.length + 1) (h.length + 2) g.length (k * 3) (g.length + 1) (g.length + 2) k ((k + 1 : Nat) : Int) x.state fo cl (svC (stL p w.svs k)) [] gb)
          ⟨a_ld1 hq1 rfl, by simpa [Asm.holds, cmpB] using hs, a_ld1 (keepb s.bf (by omega)) rfl, hcall, a_ld1 (keepb s.bw (by omega)) rfl, a_ld1 hobj hwc, ⟨by omega, by omega, by simp⟩, a_st hjb (by rw [hll]; simp; omega) hput,
            a_ld1 (get_set_ne (keepb hv (by omega)) (Ne.symm n1)) rfl, by simp only [Asm.holds, arithI, ak1], by simp [Asm.holds, SH.den, hgb], ⟨rfl, ⟨_, cells_of (get_new' _ (by simp [SH.den, hgb])), by simp, rfl⟩, rfl, by omega, by omega, by simp [SH.den, hgb]⟩,
            a_st (get_push (get_push (get_set_ne (keepb hv (by omega)) (Ne.symm n1)))) (by simp) rfl, trivial⟩
        refine ⟨_, fin q2 (get_set_ne (get_push (get_push (get_set_ne hL1 (Ne.symm n2)))) (by omega)), ?_⟩
        have K : Keep (fun q => q = h.length + 4 ∨ g.length ≤ q ∨ q = j ∨ q = h.length + 2) g (((((gb.set j (.cells (svC (stL p w.svs k)) true)) ++ [AObj.cells [.int .i64 1, .int .i64 ((k + 1 : Nat) : Int), .int .i64 0] true]) ++
            [AObj.cells [.int .i64 1, .int .i64 ((k + 1 : Nat) : Int), .int .i64 0] true]).set (h.length + 2) (.cells [.slice (some ⟨g.length + 2, 0, none⟩) 1 3] true)).set (h.length + 4) (.loop .ready none E0 37 #[13, 14] AS49 BD49)) :=
          (((((Kb.mono (fp' := fun q => q = h.length + 4 ∨ g.length ≤ q ∨ q = j ∨ q = h.length + 2) (fun q _ e => by omega)).trans (Keep.set (fp := fun q => q = h.length + 4 ∨ g.length ≤ q ∨ q = j ∨ q = h.length + 2) (.inr (.inr (.inl rfl))) _)).trans (Keep.push _ _ _)).trans (Keep.push _ _ _)).trans
            (Keep.set (fp := fun q => q = h.length + 4 ∨ g.length ≤ q ∨ q = j ∨ q = h.length + 2) (.inr (.inr (.inr rfl))) _)).trans (Keep.set (fp := fun q => q = h.length + 4 ∨ g.length ≤ q ∨ q = j ∨ q = h.length + 2) (.inl rfl) _)
        refine s.next a K (fun q e => by omega) (get_set_ne (get_set_ne (get_push (get_push (get_set_eq hjb))) n1) n2) (get_set_ne (get_set_eq (get_push (get_push (get_set_ne (keepb hv (by omega)) (Ne.symm n1))))) (by omega)) ?_
          (get_set_eq (get_set_ne (get_push (get_push (get_set_ne hL1 (Ne.symm n2)))) (by omega)))
        refine .inr ⟨g.length + 2, by rw [hord, hnil]; rfl, ?_, by omega, by rw [hord]; simp⟩
        rw [hord, hnil]
        exact get_set_ne (get_set_ne (get_new' _ (by simp [SH.den, hgb])) (by omega)) (by omega)
      · have hlo := svC_len (stO p (k + 1) (w.svs.drop (k + 1)))
        have hno : (stO p (k + 1) (w.svs.drop (k + 1))).length ≤ 8 := by have := stO_len p (k + 1) (w.svs.drop (k + 1)); simp at this; omega
        have hgo' := get_lt ho
        have noj : o ≠ j := by omega
        have hcs : (svC (stO p (k + 1) (w.svs.drop (k + 1)))).take ((stO p (k + 1) (w.svs.drop (k + 1))).length * 3) ++ [.int .i64 1, .int .i64 ((k + 1 : Nat) : Int), .int .i64 0] = svC (stO p k (w.svs.drop k)) := by
          rw [hord, svC_app, List.take_of_length_le (by omega)]; rfl
        obtain ⟨E4, q1, q2⟩ := pvC 0 hEB (w4p.st_yes1 o (stO p (k + 1) (w.svs.drop (k + 1))).length i j w.svs.length h.length (h.length + 1) (h.length + 2) g.length (k * 3) (g.length + 1) (g.length + 2) k ((k + 1 : Nat) : Int) x.state fo cl (svC (stL p w.svs k)) (svC (stO p k (w.svs.drop k))) gb)
          ⟨a_ld1 hq1 rfl, by simpa [Asm.holds, cmpB] using hs, a_ld1 (keepb s.bf (by omega)) rfl, hcall, a_ld1 (keepb s.bw (by omega)) rfl, a_ld1 hobj hwc, ⟨by omega, by omega, by simp⟩, a_st hjb (by rw [hll]; simp; omega) hput,
            a_ld1 (get_set_ne (keepb hv (by omega)) (Ne.symm n1)) rfl, by simp only [Asm.holds, arithI, ak1], by simp [Asm.holds, SH.den, hgb], ⟨rfl, ⟨_, cells_of (get_new' _ (by simp [SH.den, hgb])), by simp, rfl⟩, rfl, by omega, by omega, ⟨_, own_of (get_push (get_set_ne (keepb ho (by omega)) (Ne.symm noj))), by omega, hcs⟩, by simp [SH.den, hgb]⟩,
            a_st (get_push (get_set_ne (get_push (get_set_ne (keepb hv (by omega)) (Ne.symm n1))) (by omega))) (by simp) rfl, trivial⟩
        refine ⟨_, fin q2 (get_set_ne (get_push (get_set_ne (get_push (get_set_ne hL1 (Ne.symm n2))) (by omega))) (by omega)), ?_⟩
        have K : Keep (fun q => q = h.length + 4 ∨ g.length ≤ q ∨ q = j ∨ q = h.length + 2 ∨ q = o) g ((((((gb.set j (.cells (svC (stL p w.svs k)) true)) ++ [AObj.cells [.int .i64 1, .int .i64 ((k + 1 : Nat) : Int), .int .i64 0] true]).set o .dead) ++
            [AObj.cells (svC (stO p k (w.svs.drop k))) true]).set (h.length + 2) (.cells [.slice (some ⟨g.length + 2, 0, none⟩) ((stO p (k + 1) (w.svs.drop (k + 1))).length + 1) 3] true)).set (h.length + 4) (.loop .ready none E0 37 #[13, 14] AS49 BD49)) :=
          ((((((Kb.mono (fp' := fun q => q = h.length + 4 ∨ g.length ≤ q ∨ q = j ∨ q = h.length + 2 ∨ q = o) (fun q _ e => by omega)).trans (Keep.set (fp := fun q => q = h.length + 4 ∨ g.length ≤ q ∨ q = j ∨ q = h.length + 2 ∨ q = o) (.inr (.inr (.inl rfl))) _)).trans (Keep.push _ _ _)).trans
            (Keep.set (fp := fun q => q = h.length + 4 ∨ g.length ≤ q ∨ q = j ∨ q = h.length + 2 ∨ q = o) (.inr (.inr (.inr (.inr rfl)))) _)).trans (Keep.push _ _ _)).trans
            (Keep.set (fp := fun q => q = h.length + 4 ∨ g.length ≤ q ∨ q = j ∨ q = h.length + 2 ∨ q = o) (.inr (.inr (.inr (.inl rfl)))) _)).trans (Keep.set (fp := fun q => q = h.length + 4 ∨ g.length ≤ q ∨ q = j ∨ q = h.length + 2 ∨ q = o) (.inl rfl) _)
        refine s.next a K (fun q e => by omega) (get_set_ne (get_set_ne (get_push (get_set_ne (get_push (get_set_eq hjb)) noj)) n1) n2)
          (get_set_ne (get_set_eq (get_push (get_set_ne (get_push (get_set_ne (keepb hv (by omega)) (Ne.symm n1))) (by omega)))) (by omega)) ?_
          (get_set_eq (get_set_ne (get_push (get_set_ne (get_push (get_set_ne hL1 (Ne.symm n2))) (by omega))) (by omega)))
        refine .inr ⟨g.length + 2, by rw [hord]; simp, ?_, by omega, by rw [hord]; simp⟩
        exact get_set_ne (get_set_ne (get_new' _ (by simp [SH.den, hgb])) (by omega)) (by omega)
    · -- it is not named
      have hp' : p k = false := by simpa using hp
      rw [hp'] at hcall
      obtain ⟨E4, q1, q2⟩ := pvC 0 hEB (w4p.st_no2 h.length (h.length + 1) (h.length + 2) g.length k x.state fo cl gb) ⟨a_ld1 hq1 rfl, by simpa [Asm.holds, cmpB] using hs, a_ld1 (keepb s.bf (by omega)) rfl, hcall, trivial⟩
      exact ⟨_, fin q2 hL1, no (by simp [stStep, hp']) (fun e => hp e.2)⟩
  · -- it does not run
    obtain ⟨E4, q1, q2⟩ := pvC 0 hEB (w4p.st_no1 h.length (h.length + 1) (h.length + 2) g.length k x.state gb) ⟨a_ld1 hq1 rfl, by simpa [Asm.holds, cmpB] using hs, trivial⟩
    exact ⟨_, fin q2 hL1, no (by simp [stStep, hs]) (fun e => hs e.1)⟩

theorem body71 : Try.f71.body = some (.seq (partC Try.f71 [0]) (.block 0 (.loop (loopN Try.f71 0)))) := by kernel_rfl
theorem body49 : Try.f49.body = some (.seq (partC Try.f49 [0]) (.seq (partC Try.f49 [1, 0]) (.seq (.seq (partC Try.f49 [1, 1, 0, 0]) (.block 0 (.rangeFunc (.tmp 12) #[13, 14] AS49 BD49))) (partC Try.f49 [1, 1, 1])))) := by kernel_rfl
theorem sub1 {k : Nat} (h : k < 1000000000000) : IntKind.i64.wrap ((k : Int) - 1) = (k : Int) - 1 := wrap_id (by omega) (by omega)

/-- The walk from the last service to the first. -/
theorem backward_run (a : WAt h i j t w) (hw : WOk w) {fo : FuncId} {cl : List Value} {p : Nat → Bool} {E0 : Env} (hE : EnvLe [(2, .pointer (some ⟨h.length, 0, none⟩)), (3, .pointer (some ⟨h.length + 1, 0, none⟩)), (5, .pointer (some ⟨h.length + 2, 0, none⟩))] E0)
    (hof : ∀ g, Keep (· = j) h g → ∀ k : Nat, k < w.svs.length → Run Try.prog fo (.int .i64 k :: cl) g (.bool (p k)) g) {g : Hp} (s : SI h i j t w (.func (.func fo) #[] ⟨cl⟩) p E0 w.svs.length g) :
    ∃ g', Run Try.prog 71 [.func (.yield (h.length + 4)) #[] #[], .pointer (some ⟨h.length + 3, 0, none⟩)] g (.tuple #[]) g' ∧ SI h i j t w (.func (.func fo) #[] ⟨cl⟩) p E0 0 g' := by
  have n8 := hw.n8
  obtain ⟨E1, e1, c1⟩ := pvC 0 (EnvLe.refl _) (w4p.bk_r0 (h.length + 3) j w.svs.length (h.length + 4) ((w.svs.length : Int) - 1) g) ⟨a_ld1 s.bs rfl, by simp only [Asm.holds, arithI]; exact congrArg some (sub1 (by omega)), trivial⟩
  obtain ⟨x', E2, g2, hl, rfl, hs⟩ := loop_inv (P := Try.prog) (n := 19) (rd := false) (b := loopN Try.f71 0) (Q := fun x' _ g' => x' = .exit 0 ∧ SI h i j t w (.func (.func fo) #[] ⟨cl⟩) p E0 0 g')
    (fun m E g => m ≤ w.svs.length ∧ EnvLe [(3, .int .i64 ((m : Int) - 1)), (1, .pointer (some ⟨h.length + 3, 0, none⟩)), (0, .func (.yield (h.length + 4)) #[] #[])] E ∧ SI h i j t w (.func (.func fo) #[] ⟨cl⟩) p E0 m g)
    (fun m E g ⟨k1, k2, k3⟩ => by
      cases m with
      | zero =>
        right
        obtain ⟨E2, q1, q2⟩ := pvC 0 k2 (w4p.bk_end (h.length + 3) (h.length + 4) (((0 : Nat) : Int) - 1) g) ⟨by simp [Asm.holds, cmpB], trivial⟩
        exact ⟨_, E2, _, by simp, q2, rfl, k3⟩
      | succ k =>
        left
        obtain ⟨x, hx⟩ : ∃ x, w.svs[k]? = some x := ⟨_, List.getElem?_eq_getElem (by omega)⟩
        obtain ⟨g', r1, r2⟩ := stop_round a hw hE hof hx k3
        have hsv := k3.wat.svs
        simp only [] at hsv
        have hll : (svC (stL p w.svs (k + 1))).length = w.svs.length * 3 := by rw [svC_len, stL_len]
        rw [show ((k + 1 : Nat) : Int) - 1 = (k : Int) by omega] at k2
        obtain ⟨E2, q1, q2⟩ := pvC 0 k2 (w4p.bk_go (h.length + 3) j w.svs.length (h.length + 4) (k * 3) k ((k : Int) - 1) x.when x.state x.at' g g')
          ⟨by simp [Asm.holds, cmpB], a_ld1 k3.bs rfl, ⟨by omega, by omega, by simp⟩, a_ldn hsv (by omega) (svC_cut (stL_step p hx).1), r1, by simp only [Asm.holds, arithI]; exact congrArg some (sub1 (by omega)), trivial⟩
        exact ⟨k, E2, _, by omega, q2, by omega, .trans (.add (.add (.add (.nil _) rfl) rfl) rfl) q1, r2⟩)
    w.svs.length E1 g ⟨Nat.le_refl _, .trans (.add (.add (.add (.nil _) rfl) rfl) rfl) e1, s⟩
  exact ⟨g2, Run.code Try.func71 body71 (.inl rfl) (c1.seq (CRun.block 0 (.of_loop hl))) rfl, hs⟩

/-- 'stop': those that run and are named are told to stop. -/
theorem stop_run (a : WAt h i j t w) (hw : WOk w) {fo : FuncId} {cl : List Value} {p : Nat → Bool}
    (hof : ∀ g, Keep (· = j) h g → ∀ k : Nat, k < w.svs.length → Run Try.prog fo (.int .i64 k :: cl) g (.bool (p k)) g) :
    ∃ v h', Run Try.prog 49 [.pointer (some ⟨i, 0, none⟩), .func (.func fo) #[] ⟨cl⟩] h v h' ∧ WAt h' i j t { w with svs := stS p 0 w.svs } ∧ OrdAt h' h.length v (stO p 0 w.svs) ∧ Keep (· = j) h h' := by
  have n8 := hw.n8
  obtain ⟨E1, e1, c1⟩ := pvC 1 (EnvLe.refl _) (w4p.st_pre i j w.svs.length h.length (h.length + 1) (h.length + 2) (h.length + 3) (.func (.func fo) #[] ⟨cl⟩) [] h)
    ⟨rfl, by simp [Asm.holds, SH.den], by simp [Asm.holds, SH.den], a_ld1 (get_push (get_push (get_new h _))) rfl, a_ld1 (get_push (get_push (get_push a.obj))) rfl, by simp [Asm.holds, SH.den], trivial⟩
  let h4 : Hp := h ++ [AObj.cells [.pointer (some ⟨i, 0, none⟩)] true] ++ [AObj.cells [.func (.func fo) #[] ⟨cl⟩] true] ++ [AObj.cells [.slice none 0 0] true] ++ [AObj.cells [.slice (some ⟨j, 0, none⟩) w.svs.length 3] true]
  have hl4 : h4.length = h.length + 4 := by simp [h4]
  have hE1 : EnvLe [(2, .pointer (some ⟨h.length, 0, none⟩)), (3, .pointer (some ⟨h.length + 1, 0, none⟩)), (5, .pointer (some ⟨h.length + 2, 0, none⟩))] E1 := .trans (.add (.add (.add (.nil _) rfl) rfl) rfl) e1
  let g0 : Hp := h4 ++ [.loop .ready none E1 37 #[13, 14] AS49 BD49]
  have K0 : Keep (· = j) h g0 := ((((Keep.push _ _ _).trans (Keep.push _ _ _)).trans (Keep.push _ _ _)).trans (Keep.push _ _ _)).trans (Keep.push _ _ _)
  have K0' : Keep (fun _ => False) h g0 := ((((Keep.push _ _ _).trans (Keep.push _ _ _)).trans (Keep.push _ _ _)).trans (Keep.push _ _ _)).trans (Keep.push _ _ _)
  have s0 : SI h i j t w (.func (.func fo) #[] ⟨cl⟩) p E1 w.svs.length g0 := by
    have hw0 : ({ w with svs := stL p w.svs w.svs.length } : WS) = w := by simp [stL, stS]
    refine ⟨by rw [hw0]; exact a.keep K0' (fun q _ hq => hq.elim), ?_, ?_, ⟨.slice none 0 0, ?_, .inl ⟨rfl, by simp [stO]⟩⟩, ?_, ?_, K0⟩
    · exact get_push (get_push (get_push (get_push (get_new h _))))
    · exact get_push (get_push (get_push (get_new' _ (by simp))))
    · exact get_push (get_push (get_new' _ (by simp)))
    · exact get_push (get_new' _ (by simp))
    · exact get_new' _ hl4
  obtain ⟨g1, hr, s1⟩ := backward_run a hw hE1 hof s0
  have hg : evalO E1 (.tmp 12) = some (.func (.func 71) #[] #[.pointer (some ⟨h.length + 3, 0, none⟩)]) := e1 12 _ rfl
  have hr' : Run Try.prog 71 ([.func (.yield h4.length) #[] #[]] ++ (#[.pointer (some ⟨h.length + 3, 0, none⟩)] : Array Value).toList) (h4 ++ [.loop .ready none E1 37 #[13, 14] AS49 BD49]) (.tuple #[]) g1 := by rw [hl4]; exact hr
  have c2 : CRun Try.prog 37 false (.rangeFunc (.tmp 12) #[13, 14] AS49 BD49) E1 h4 .normal E1 (g1.set h4.length .dead) := CRun.range (pend := none) hg hr' (by rw [hl4]; exact s1.lp) rfl
  rw [hl4] at c2
  obtain ⟨v, hv, hov⟩ := s1.bo
  have Kd : Keep (fun q => q = h.length + 4) g1 (g1.set (h.length + 4) .dead) := Keep.set (fp := fun q => q = h.length + 4) rfl _
  obtain ⟨E3, e3, c3⟩ := pvC 0 (.trans (.add (.nil _) rfl) hE1) (w4p.st_post (h.length + 2) v (g1.set (h.length + 4) .dead)) ⟨a_ld1 (Kd.2 _ _ hv (by omega)) rfl, trivial⟩
  have hfin : stL p w.svs 0 = stS p 0 w.svs := by simp [stL]
  refine ⟨v, g1.set (h.length + 4) .dead, ?_, ?_, ?_, ?_⟩
  · refine Run.code Try.func49 body49 (.inr rfl) (CRun.pre3 c1 (CRun.blockN 0 c2) c3) ?_
    have h4' := e3 4 v rfl
    exact evResults_one rfl h4'
  · have := s1.wat.keep Kd (fun q hq e hf => by have := a.lts q hf; omega)
    rw [hfin] at this; exact this
  · have := hov.keep Kd (fun q h1 h2 => by omega)
    exact this.base (by omega)
  · exact s1.kp.trans_new Kd (fun q hq e => by omega)

end Go.Proofs.Ytkkhokgpcifckaa.wd

namespace Go.Proofs.Ytkkhokgpcifckaa.wd
open Go Go.Ev

variable {h : Hp} {i j : Nat} {t : Option Nat} {w : WS}

/-! ### Rounds over the services that rewrite them in place -/

def mS (f : Nat → Sv → Sv) : Nat → List Sv → List Sv
  | _, [] => []
  | n, x :: l => f n x :: mS f (n + 1) l
theorem mS_len (f : Nat → Sv → Sv) : ∀ (n : Nat) (l : List Sv), (mS f n l).length = l.length
  | _, [] => rfl
  | n, x :: l => by simp [mS, mS_len f (n + 1) l]
theorem mS_snoc (f : Nat → Sv → Sv) : ∀ (n : Nat) (l : List Sv) (x : Sv), mS f n (l ++ [x]) = mS f n l ++ [f (n + l.length) x]
  | n, [], x => rfl
  | n, y :: l, x => by
    simp only [List.cons_append, mS, mS_snoc f (n + 1) l x, List.length_cons]
    rw [show n + 1 + l.length = n + (l.length + 1) by omega]

def mL (f : Nat → Sv → Sv) (l : List Sv) (k : Nat) : List Sv := mS f 0 (l.take k) ++ l.drop k
theorem mL_len (f : Nat → Sv → Sv) (l : List Sv) (k : Nat) : (mL f l k).length = l.length := by simp [mL, mS_len]; omega
theorem mL_step (f : Nat → Sv → Sv) {l : List Sv} {k : Nat} {x : Sv} (hx : l[k]? = some x) : (mL f l k)[k]? = some x ∧ (mL f l k).set k (f k x) = mL f l (k + 1) := by
  have hk := get_lt' hx
  have hl : (mS f 0 (l.take k)).length = k := by rw [mS_len]; simp; omega
  unfold mL
  refine ⟨?_, ?_⟩
  · rw [List.getElem?_append_right (by omega), hl, Nat.sub_self, drop_cons hx]; rfl
  · have : (l.take k).length = k := by simp; omega
    rw [List.set_append_right _ _ (by omega), hl, Nat.sub_self, drop_cons hx, List.set_cons_zero, take_snoc hx, mS_snoc, this, Nat.zero_add, List.append_assoc]; rfl

theorem map_loop {nn : Nat} {b : Code} (Ek : Nat → Env) (E' : Env) (id : Nat) (f : Nat → Sv → Sv) (a : WAt h i j t w)
    (hend : ∀ E g, EnvLe (Ek w.svs.length) E → ∃ E1, EnvLe E' E1 ∧ CRun Try.prog nn false b E g (.exit id) E1 g)
    (hround : ∀ k x E g, w.svs[k]? = some x → EnvLe (Ek k) E → WAt g i j t { w with svs := mL f w.svs k } → (mL f w.svs k)[k]? = some x → Keep (· = j) h g →
      ∃ E1 g1, EnvLe (Ek (k + 1)) E1 ∧ CRun Try.prog nn false b E g .normal E1 g1 ∧ g1[j]? = some (.cells (svC (mL f w.svs (k + 1))) true) ∧ Keep (fun q => q = j ∨ g.length ≤ q) g g1)
    {E0 : Env} (hE : EnvLe (Ek 0) E0) : ∃ E1 h1, EnvLe E' E1 ∧ LRun Try.prog nn false b E0 h (.exit id) E1 h1 ∧ WAt h1 i j t { w with svs := mS f 0 w.svs } ∧ Keep (· = j) h h1 := by
  obtain ⟨x', E1, h1, hl1, rfl, q1, q2, q3⟩ := loop_inv (P := Try.prog) (n := nn) (rd := false) (b := b)
    (Q := fun x' E1 h1 => x' = .exit id ∧ EnvLe E' E1 ∧ WAt h1 i j t { w with svs := mS f 0 w.svs } ∧ Keep (· = j) h h1)
    (fun m E g => ∃ k, k ≤ w.svs.length ∧ m = w.svs.length - k ∧ EnvLe (Ek k) E ∧ WAt g i j t { w with svs := mL f w.svs k } ∧ Keep (· = j) h g)
    (fun m E g ⟨k, k1, k2, k3, k4, k5⟩ => by
      by_cases e : k = w.svs.length
      · right
        subst e
        obtain ⟨E1, r1, r2⟩ := hend E g k3
        refine ⟨_, E1, g, by simp, r2, rfl, r1, ?_, k5⟩
        have : mL f w.svs w.svs.length = mS f 0 w.svs := by simp [mL]
        rw [← this]; exact k4
      · left
        obtain ⟨x, hx⟩ : ∃ x, w.svs[k]? = some x := ⟨_, List.getElem?_eq_getElem (by omega)⟩
        obtain ⟨E1, g1, r1, r2, r3, r4⟩ := hround k x E g hx k3 k4 (mL_step f hx).1 k5
        refine ⟨w.svs.length - (k + 1), E1, g1, by omega, r2, k + 1, by omega, rfl, r1, ?_, ?_⟩
        · refine k4.put r4 (fun q hq e => ?_) r3 (by simp [mL_len])
          rcases e with e | e
          · exact .inl e
          · omega
        · exact k5.trans_new r4 (fun q hq e => by rcases e with e | e <;> have := k5.1 <;> omega))
    w.svs.length E0 h ⟨0, by omega, rfl, hE, by simpa [mL, mS] using a, .refl _ _⟩
  exact ⟨E1, h1, q1, hl1, q2, q3⟩

/-! ### giveUp -/

def gvStep (_ : Nat) (x : Sv) : Sv := if x.state = 3 ∨ x.state = 4 then ⟨x.when, 5, 0⟩ else x

theorem stat46 : statOk (drawN Try.f46 0) = true := by kernel_rfl

theorem svC_same {l : List Sv} {k : Nat} {x : Sv} (hx : l[k]? = some x) : l.set k x = l := by
  obtain ⟨hb, he⟩ := List.getElem?_eq_some_iff.1 hx
  rw [← he]; exact List.set_getElem_self hb

theorem gu_loop (a : WAt h i j t w) (hw : WOk w) : ∃ E1 h1, EnvLe [(0, .pointer (some ⟨i, 0, none⟩))] E1 ∧
    LRun Try.prog 51 false (loopN Try.f46 0) [(23, .int .i64 ((0 : Nat) : Int)), (22, .int .i64 (Int.ofNat w.svs.length)), (21, .slice (some ⟨j, 0, none⟩) w.svs.length 3), (0, .pointer (some ⟨i, 0, none⟩))] h (.exit 0) E1 h1 ∧
    WAt h1 i j t { w with svs := mS gvStep 0 w.svs } ∧ Keep (· = j) h h1 := by
  have n8 := hw.n8
  refine map_loop (fun k => [(23, .int .i64 (k : Nat)), (22, .int .i64 (Int.ofNat w.svs.length)), (21, .slice (some ⟨j, 0, none⟩) w.svs.length 3), (0, .pointer (some ⟨i, 0, none⟩))]) _ 0 gvStep a ?_ ?_ (EnvLe.refl _)
  · intro E g hE
    obtain ⟨E2, q1, q2⟩ := pvC 0 hE (w5p.gu_end i j w.svs.length w.svs.length g) ⟨by simp [Asm.holds, cmpB], trivial⟩
    exact ⟨E2, .trans (.add (.nil _) rfl) q1, q2⟩
  · intro k x E g hx hE hwa f1 hk
    have hkl := get_lt' hx
    have hsv := hwa.svs
    have hobj := hwa.obj
    simp only [] at hsv
    have hll : (svC (mL gvStep w.svs k)).length = w.svs.length * 3 := by rw [svC_len, mL_len]
    have hwc : (wCells { w with svs := mL gvStep w.svs k } j t)[6]? = some (.slice (some ⟨j, 0, none⟩) w.svs.length 3) := by simp [wCells, mL_len]
    have f2 := (mL_step gvStep hx).2
    have hgj := get_lt hsv
    have pre1 : (Asm.cmp .lss (k : Int) (Int.ofNat w.svs.length) true).holds Try.prog := by simp [Asm.holds, cmpB]; omega
    have ak1 : IntKind.i64.wrap ((k : Int) + 1) = ((k + 1 : Nat) : Int) := add1 (by omega)
    have hgo : ∀ {q : Nat} {o y : AObj}, g[q]? = some o → ((g ++ [AObj.cells [.int .i64 0, .int .i64 0, .int .i64 0] true]).set g.length y)[q]? = some o := fun hq => get_set_ne (get_push hq) (by have := get_lt hq; omega)
    have K1 : Keep (fun q => q = j ∨ g.length ≤ q) g ((g ++ [AObj.cells [.int .i64 0, .int .i64 0, .int .i64 0] true]).set g.length (.cells x.cells true)) := (Keep.push (fun q => q = j ∨ g.length ≤ q) _ _).trans (Keep.set (fp := fun q => q = j ∨ g.length ≤ q) (.inr (Nat.le_refl _)) _)
    have K2 := fun c => K1.trans (Keep.set (fp := fun q => q = j ∨ g.length ≤ q) (i := j) (.inl rfl) c)
    by_cases h3 : x.state = 3
    · have hst : gvStep k x = ⟨x.when, 5, 0⟩ := by simp [gvStep, h3]
      have hput := svC_put (⟨x.when, 5, 0⟩ : Sv) f1
      rw [← hst, f2, hst] at hput
      obtain ⟨E2, q1, q2⟩ := pvC 0 hE (w5p.gu_off i j w.svs.length k g (k * 3) g.length x.when x.state x.at' ((k + 1 : Nat) : Int) (svC (mL gvStep w.svs (k + 1))))
        ⟨pre1, ⟨by omega, by omega, by simp⟩, a_ldn hsv (by omega) (svC_cut f1), rfl, a_st (get_new g _) (by simp) rfl, a_ld1 (get_set_eq (get_new g _)) rfl, by simpa [Asm.holds, cmpB] using h3, stat46, a_ld1 (hgo hobj) hwc, a_ld1 (get_set_eq (get_new g _)) rfl,
          ⟨by omega, by omega, by simp⟩, a_st (hgo hsv) (by rw [hll]; simp; omega) hput, by simp only [Asm.holds, arithI, ak1], trivial⟩
      exact ⟨E2, _, .trans (.add (.add (.add (.add (.nil _) rfl) rfl) rfl) rfl) q1, q2, get_set_eq (hgo hsv), K2 _⟩
    · by_cases h4 : x.state = 4
      · have hst : gvStep k x = ⟨x.when, 5, 0⟩ := by simp [gvStep, h4]
        have hput := svC_put (⟨x.when, 5, 0⟩ : Sv) f1
        rw [← hst, f2, hst] at hput
        obtain ⟨E2, q1, q2⟩ := pvC 0 hE (w5p.gu_due i j w.svs.length k g (k * 3) g.length x.when x.state x.at' ((k + 1 : Nat) : Int) (svC (mL gvStep w.svs (k + 1))))
          ⟨pre1, ⟨by omega, by omega, by simp⟩, a_ldn hsv (by omega) (svC_cut f1), rfl, a_st (get_new g _) (by simp) rfl, a_ld1 (get_set_eq (get_new g _)) rfl, by simpa [Asm.holds, cmpB] using h3, a_ld1 (get_set_eq (get_new g _)) rfl, by simpa [Asm.holds, cmpB] using h4, stat46,
            a_ld1 (hgo hobj) hwc, a_ld1 (get_set_eq (get_new g _)) rfl, ⟨by omega, by omega, by simp⟩, a_st (hgo hsv) (by rw [hll]; simp; omega) hput, by simp only [Asm.holds, arithI, ak1], trivial⟩
        exact ⟨E2, _, .trans (.add (.add (.add (.add (.nil _) rfl) rfl) rfl) rfl) q1, q2, get_set_eq (hgo hsv), K2 _⟩
      · have hst : gvStep k x = x := by simp [gvStep, h3, h4]
        rw [hst, svC_same f1] at f2
        obtain ⟨E2, q1, q2⟩ := pvC 0 hE (w5p.gu_no i j w.svs.length k g (k * 3) g.length x.when x.state x.at' ((k + 1 : Nat) : Int))
          ⟨pre1, ⟨by omega, by omega, by simp⟩, a_ldn hsv (by omega) (svC_cut f1), rfl, a_st (get_new g _) (by simp) rfl, a_ld1 (get_set_eq (get_new g _)) rfl, by simpa [Asm.holds, cmpB] using h3, a_ld1 (get_set_eq (get_new g _)) rfl, by simpa [Asm.holds, cmpB] using h4,
            by simp only [Asm.holds, arithI, ak1], trivial⟩
        refine ⟨E2, _, .trans (.add (.add (.add (.add (.nil _) rfl) rfl) rfl) rfl) q1, q2, ?_, K1⟩
        rw [← f2]; exact hgo hsv

def stopped (p : Nat → Bool) (w : WS) : WS := { w with svs := stS p 0 w.svs }

/-- Service n (from 1 on) in a state. -/
def setSt (l : List Sv) (n : Int) (s : Int) : List Sv := match l[(n - 1).toNat]? with
  | some x => l.set (n - 1).toNat { x with state := s }
  | none => l
theorem setSt_len (l : List Sv) (n s : Int) : (setSt l n s).length = l.length := by unfold setSt; split <;> simp

def gave (w : WS) (n : Int) : WS := { w with given := true, svs := mS gvStep 0 (setSt w.svs n 5) }
def giveUpF (w : WS) (n : Int) : WS × List Sv := (stopped (fun _ => true) (gave w n), ⟨3, 0, 0⟩ :: stO (fun _ => true) 0 (gave w n).svs)

theorem all_run (g : Hp) (k : Int) : Run Try.prog 60 [.int .i64 k] g (.bool true) g := pvF 0 Try.func60 (w5p.all k g) trivial

theorem giveUp_run (a : WAt h i j t w) (hw : WOk w) {n : Int} (hn : 1 ≤ n ∧ n ≤ w.svs.length) :
    ∃ v h', Run Try.prog 46 [.pointer (some ⟨i, 0, none⟩), .int .i64 n] h v h' ∧ WAt h' i j t (giveUpF w n).1 ∧ OrdAt h' h.length v (giveUpF w n).2 ∧ Keep (fun q => q = i ∨ q = j) h h' := by
  have n8 := hw.n8
  have hil := get_lt a.obj
  have hjl := get_lt a.svs
  have hk : (n - 1).toNat < w.svs.length := by omega
  have hx := List.getElem?_eq_getElem hk
  have ar : IntKind.i64.wrap (n - 1) = n - 1 := wrap_id (by omega) (by omega)
  -- given, and gone
  have a1 : WAt (h.set i (.cells (wCells { w with given := true } j t) true)) i j t { w with given := true } :=
    ⟨get_set_eq a.obj, get_set_ne a.svs a.ne, by
      rcases a.tms with q1 | ⟨q, q1, q2, q3, q4⟩
      · exact .inl q1
      · exact .inr ⟨q, q1, get_set_ne q2 (Ne.symm q3), q3, q4⟩, a.ne⟩
  have hss : setSt w.svs n 5 = w.svs.set (n - 1).toNat { w.svs[(n - 1).toNat] with state := 5 } := by simp only [setSt, hx]
  have K1 : Keep (fun q => q = i ∨ q = j) h ((h.set i (.cells (wCells { w with given := true } j t) true)).set j (.cells (svC (setSt w.svs n 5)) true)) := (Keep.set (fp := fun q => q = i ∨ q = j) (.inl rfl) _).trans (Keep.set (fp := fun q => q = i ∨ q = j) (.inr rfl) _)
  have a2 : WAt ((h.set i (.cells (wCells { w with given := true } j t) true)).set j (.cells (svC (setSt w.svs n 5)) true)) i j t { w with given := true, svs := setSt w.svs n 5 } :=
    a1.put (Keep.set (fp := fun q => q = j) rfl _) (fun q _ e => .inl e) (get_set_eq a1.svs) (setSt_len _ _ _)
  have hw2 : WOk { w with given := true, svs := setSt w.svs n 5 } := ⟨by simp only [setSt_len]; exact hw.n1, by simp only [setSt_len]; exact hw.n8, hw.most, hw.within, hw.base, hw.cap, hw.now, hw.delay, hw.times, hw.rule⟩
  obtain ⟨E1, h2, hE1, hl, a3, K3⟩ := gu_loop a2 hw2
  have hw3 : WOk (gave w n) := ⟨by simp only [gave, mS_len, setSt_len]; exact hw.n1, by simp only [gave, mS_len, setSt_len]; exact hw.n8, hw.most, hw.within, hw.base, hw.cap, hw.now, hw.delay, hw.times, hw.rule⟩
  -- the rest are told to stop
  have a4 : WAt (h2 ++ [AObj.cells [.int .i64 3, .int .i64 0, .int .i64 0] true]) i j t (gave w n) := a3.app _
  obtain ⟨v, h3, hr, a5, o5, K5⟩ := stop_run a4 hw3 (fo := 60) (cl := []) (p := fun _ => true) (fun g _ k _ => all_run g k)
  have Kall : Keep (fun q => q = i ∨ q = j) h h3 := ((K1.trans (K3.mono fun q _ e => .inr e)).trans (Keep.push _ _ _)).trans (K5.mono fun q _ e => .inr e)
  have hlen : h.length ≤ h2.length := (K1.trans (K3.mono fun q _ e => .inr e)).1
  have hb : h3[h2.length]? = some (.cells (svC [⟨3, 0, 0⟩]) true) := K5.2 _ _ (get_new h2 _) (by omega)
  have st1 := a_st (P := Try.prog) (s := .is h) (d := 10) (l := [.bool true]) (c' := wCells { w with given := true } j t) a.obj (by simp [wCells]) rfl
  have hput := svC_state 5 hx
  rw [← hss] at hput
  have hlc := svC_len w.svs
  have st2 := a_st (P := Try.prog) (s := .set (.is h) i (.cells (wCells { w with given := true } j t) true)) (d := (n - 1).toNat * 3 + 1) (l := [.int .i64 5]) (c' := svC (setSt w.svs n 5)) a1.svs (by simp; omega) hput
  have pl : plainC (loopN Try.f46 0) = true := by kernel_rfl
  simp only [setSt_len] at hl
  obtain ⟨L2, hL2⟩ : ∃ L2, stO (fun _ => true) 0 (gave w n).svs = L2 := ⟨_, rfl⟩
  have e2 : (giveUpF w n).2 = ⟨3, 0, 0⟩ :: L2 := by rw [← hL2]; rfl
  have hol : L2.length ≤ 8 := by have := stO_len (fun _ => true) 0 (gave w n).svs; have := hw3.n8; rw [hL2] at *; omega
  rw [e2]
  rw [hL2] at o5
  rcases o5 with ⟨rfl, hnil⟩ | ⟨o, rfl, ho, hbo, hne⟩
  · refine ⟨_, h3, pvF 0 Try.func46 (w5p.gu0 i j w.svs.length ((n - 1).toNat * 3) h2.length n (n - 1) (wCells { w with given := true } j t) (svC (setSt w.svs n 5)) h h2 h3)
      ⟨st1, a_ld1 a1.obj rfl, by simp only [Asm.holds, arithI, ar], ⟨by omega, by omega, by omega⟩, st2, a_ld1 (get_set_ne a1.obj (Ne.symm a.ne)) rfl, a_loop pl (.add (.add (.add (.add (.nil _) rfl) rfl) rfl) rfl) hE1 hl, rfl, hr, trivial⟩, a5, ?_, Kall⟩
    rw [hnil]
    exact .inr ⟨h2.length, rfl, hb, hlen, by simp⟩
  · have hbl : h2.length < h3.length := get_lt hb
    have hob : o ≠ h2.length := by simp at hbo; omega
    have hpath := w5p.gu1 i j w.svs.length ((n - 1).toNat * 3) h2.length n (n - 1) (wCells { w with given := true } j t) (svC (setSt w.svs n 5)) h h2 h3 o L2.length (L2.length - 1) h3.length (svC ([⟨3, 0, 0⟩] ++ L2)) (svC L2)
    have hrun := pvF 0 Try.func46 hpath
      ⟨st1, a_ld1 a1.obj rfl, by simp only [Asm.holds, arithI, ar], ⟨by omega, by omega, by omega⟩, st2, a_ld1 (get_set_ne a1.obj (Ne.symm a.ne)) rfl, a_loop pl (.add (.add (.add (.add (.nil _) rfl) rfl) rfl) rfl) hE1 hl, rfl, hr,
        a_app3 (s := .is h3) (o1 := h2.length) (o2 := o) (l1 := [⟨3, 0, 0⟩]) (l2 := L2) hb ho hne (by simp; omega) rfl, trivial⟩
    refine ⟨_, _, hrun, ?_, ?_, ?_⟩
    · have K : Keep (fun q => q = h2.length) h3 ((h3.set h2.length .dead) ++ [AObj.cells (svC ([⟨3, 0, 0⟩] ++ L2)) true]) := (Keep.set (fp := fun q => q = h2.length) rfl _).trans (Keep.push _ _ _)
      exact a5.keep K (fun q _ e hf => by have := a.lts q hf; omega)
    · refine .inr ⟨h3.length, ?_, get_new' _ (by simp [SH.den]), by omega, by simp⟩
      simp only [List.length_cons]; rw [Nat.add_comm]
    · exact Kall.trans_new ((Keep.set (fp := fun q => q = h2.length) rfl _).trans (Keep.push _ _ _)) (fun q hq e => by omega)

end Go.Proofs.Ytkkhokgpcifckaa.wd

namespace Go.Proofs.Ytkkhokgpcifckaa.wd
open Go Go.Ev

variable {h : Hp} {i j : Nat} {t : Option Nat} {w : WS}

/-! ### again -/

theorem stat33 : statOk (drawN Try.f33 0) = true ∧ statOk (drawN Try.f33 1) = true ∧ statOk (drawN Try.f33 2) = true := ⟨by kernel_rfl, by kernel_rfl, by kernel_rfl⟩

def counted (w : WS) : Nat := cnt (w.now - w.within) w.times
def timed (w : WS) : WS := { w with times := w.times ++ [w.now] }

noncomputable def HD33 : Code := .seq (partC Try.f33 [0]) (.seq (partC Try.f33 [1, 0]) (partC Try.f33 [1, 1, 0]))

theorem again_head (a : WAt h i j t w) (hw : WOk w) (ht : w.times.length < 10000) (n : Int) : ∃ E1 hA d, EnvLe [(5, .int .i64 (counted w : Nat)), (3, .pointer (some ⟨h.length, 0, none⟩)), (0, .pointer (some ⟨i, 0, none⟩))] E1 ∧
    CRun Try.prog 118 false HD33 (enterE 0 [.pointer (some ⟨i, 0, none⟩), .int .i64 n]) h .normal E1 hA ∧ WAt hA i j (some d) (timed w) ∧ hA[h.length]? = some (.cells [.int .i64 n] true) ∧ Keep (fpW i j t) h hA ∧ h.length ≤ d := by
  have hil := get_lt a.obj
  have hjl := get_lt a.svs
  have hnow := hw.now
  have hrec := recent_run (a.app [AObj.cells [.int .i64 n] true]) hw w.now hw.now
  rcases a.tms with ⟨rfl, hnil⟩ | ⟨q, rfl, hq, hqi, hqj⟩
  · have hobj := a.obj
    have hc8 : (wCells w j none)[8]? = some (.slice none 0 0) := rfl
    obtain ⟨E1, e1, c1⟩ := pvC 0 (EnvLe.refl _) (w5p.ag_head0 i h.length (h.length + 1) (h.length + 2) n w.now (counted w : Nat) (wCells (timed w) j (some (h.length + 2))) h)
      ⟨rfl, a_ld1 (get_push a.obj) rfl, hrec, stat33.1, a_ld1 (get_push a.obj) hc8, a_ld1 (get_push a.obj) rfl, by simp [Asm.holds, SH.den], ⟨rfl, ⟨_, cells_of (get_new' _ (by simp [SH.den])), by simp, rfl⟩, rfl, by omega, by omega, by simp [SH.den]⟩,
        a_st (get_push (get_push (get_push a.obj))) (by simp [wCells]) (by simp [wCells, timed, tvVal, hnil]), trivial⟩
    have K : Keep (fpW i j none) h ((((h ++ [AObj.cells [.int .i64 n] true]) ++ [AObj.cells [.int .i64 w.now] true]) ++ [AObj.cells [.int .i64 w.now] true]).set i (.cells (wCells (timed w) j (some (h.length + 2))) true)) :=
      (((Keep.push _ _ _).trans (Keep.push _ _ _)).trans (Keep.push _ _ _)).trans (Keep.set (fp := fpW i j none) (.inl rfl) _)
    refine ⟨E1, _, h.length + 2, .trans (.add (.add (.add (.nil _) rfl) rfl) rfl) e1, c1, ⟨get_set_eq (get_push (get_push (get_push a.obj))), get_set_ne (get_push (get_push (get_push a.svs))) a.ne, .inr ⟨_, rfl, ?_, by omega, by omega⟩, a.ne⟩, get_set_ne (get_push (get_push (get_new h _))) (by omega), K, by omega⟩
    have : (timed w).times.map (Value.int .i64) = [.int .i64 w.now] := by simp [timed, hnil]
    rw [this]
    exact get_set_ne (get_new' _ (by simp [SH.den])) (by omega)
  · have hc8 : (wCells w j (some q))[8]? = some (.slice (some ⟨q, 0, none⟩) w.times.length 1) := rfl
    have hql := get_lt hq
    have hcs : ((w.times.map (Value.int .i64)).drop 0).take (w.times.length * 1) ++ [.int .i64 w.now] = (timed w).times.map (Value.int .i64) := by
      rw [List.drop_zero, List.take_of_length_le (by simp)]; simp [timed]
    obtain ⟨E1, e1, c1⟩ := pvC 0 (EnvLe.refl _) (w5p.ag_head1 i h.length (h.length + 1) q w.times.length (h.length + 2) n w.now (counted w : Nat) (wCells (timed w) j (some (h.length + 2))) ((timed w).times.map (Value.int .i64)) h)
      ⟨rfl, a_ld1 (get_push a.obj) rfl, hrec, stat33.1, a_ld1 (get_push a.obj) hc8, a_ld1 (get_push a.obj) rfl, by simp [Asm.holds, SH.den], ⟨rfl, ⟨_, cells_of (get_new' _ (by simp [SH.den])), by simp, rfl⟩, rfl, by omega, by omega, ⟨_, own_of (get_push (get_push hq)), by simp, hcs⟩, by simp [SH.den]⟩,
        a_st (get_push (get_set_ne (get_push (get_push a.obj)) hqi)) (by simp [wCells]) (by simp [wCells, timed, tvVal]), trivial⟩
    have K : Keep (fpW i j (some q)) h (((((h ++ [AObj.cells [.int .i64 n] true]) ++ [AObj.cells [.int .i64 w.now] true]).set q .dead) ++ [AObj.cells ((timed w).times.map (Value.int .i64)) true]).set i (.cells (wCells (timed w) j (some (h.length + 2))) true)) :=
      ((((Keep.push _ _ _).trans (Keep.push _ _ _)).trans (Keep.set (fp := fpW i j (some q)) (.inr (.inr rfl)) _)).trans (Keep.push _ _ _)).trans (Keep.set (fp := fpW i j (some q)) (.inl rfl) _)
    refine ⟨E1, _, h.length + 2, .trans (.add (.add (.add (.nil _) rfl) rfl) rfl) e1, c1, ⟨get_set_eq (get_push (get_set_ne (get_push (get_push a.obj)) hqi)), get_set_ne (get_push (get_set_ne (get_push (get_push a.svs)) hqj)) a.ne, .inr ⟨_, rfl, ?_, by omega, by omega⟩, a.ne⟩,
      get_set_ne (get_push (get_set_ne (get_push (get_new h _)) (by omega))) (by omega), K, by omega⟩
    exact get_set_ne (get_new' _ (by simp [SH.den])) (by omega)

/-- The delay, doubled. -/
def dbl (cp : Int) : Nat → Int → Int
  | 0, d => d
  | k + 1, d => dbl cp k (if cp < 2 * d then cp else 2 * d)

theorem dbl_succ (cp : Int) : ∀ (k : Nat) (d : Int), dbl cp (k + 1) d = if cp < 2 * dbl cp k d then cp else 2 * dbl cp k d
  | 0, d => rfl
  | k + 1, d => by rw [dbl, dbl_succ cp k]; rfl
theorem dbl_bounds {cp : Int} : ∀ (k : Nat) {d : Int}, 0 ≤ d → d ≤ cp → 0 ≤ dbl cp k d ∧ dbl cp k d ≤ cp
  | 0, d, h1, h2 => ⟨h1, h2⟩
  | k + 1, d, h1, h2 => by
    rw [dbl]
    split
    · exact dbl_bounds k (by omega) (by omega)
    · exact dbl_bounds k (by omega) (by omega)

theorem dbl_loop (a : WAt h i j t w) (hw : WOk w) (n : Nat) (hn : n ≤ 1000000) (b3 : Nat) : ∃ E1, EnvLe [(6, .int .i64 (dbl w.cap n w.base)), (3, .pointer (some ⟨b3, 0, none⟩)), (0, .pointer (some ⟨i, 0, none⟩))] E1 ∧
    LRun Try.prog 118 false (loopN Try.f33 0) [(48, .int .i64 ((0 : Nat) : Int)), (47, .int .i64 (n : Nat)), (6, .int .i64 w.base), (3, .pointer (some ⟨b3, 0, none⟩)), (0, .pointer (some ⟨i, 0, none⟩))] h (.exit 0) E1 h := by
  obtain ⟨x', E1, h1, hl1, rfl, q1, rfl⟩ := loop_inv (P := Try.prog) (n := 118) (rd := false) (b := loopN Try.f33 0)
    (Q := fun x' E1 h1 => x' = .exit 0 ∧ EnvLe [(6, .int .i64 (dbl w.cap n w.base)), (3, .pointer (some ⟨b3, 0, none⟩)), (0, .pointer (some ⟨i, 0, none⟩))] E1 ∧ h = h1)
    (fun m E g => ∃ k : Nat, k ≤ n ∧ m = n - k ∧ EnvLe [(48, .int .i64 (k : Nat)), (47, .int .i64 (n : Nat)), (6, .int .i64 (dbl w.cap k w.base)), (3, .pointer (some ⟨b3, 0, none⟩)), (0, .pointer (some ⟨i, 0, none⟩))] E ∧ h = g)
    (fun m E g ⟨k, k1, k2, k3, k4⟩ => by
      subst k4
      by_cases e : k = n
      · right
        subst e
        obtain ⟨E2, q1, q2⟩ := pvC 0 k3 (w5p.du_end i b3 k k (dbl w.cap k w.base) h) ⟨by simp [Asm.holds, cmpB], trivial⟩
        exact ⟨_, E2, _, by simp, q2, rfl, .trans (.add (.add (.add (.nil _) rfl) rfl) rfl) q1, rfl⟩
      · left
        have hb := hw.base
        have hc := hw.cap
        have hd := dbl_bounds k hb.1 hb.2
        have ar : IntKind.i64.wrap (2 * dbl w.cap k w.base) = 2 * dbl w.cap k w.base := wrap_id (by omega) (by omega)
        obtain ⟨E2, q1, q2⟩ := pvC 0 k3 (w5p.du_go i b3 k n (dbl w.cap k w.base) (2 * dbl w.cap k w.base) w.cap (dbl w.cap (k + 1) w.base) ((k + 1 : Nat) : Int) h)
          ⟨by simp [Asm.holds, cmpB]; omega, by simp only [Asm.holds, arithI, ar], a_ld1 a.obj rfl, .inr ⟨rfl, (dbl_succ _ _ _).symm⟩, by simp only [Asm.holds, arithI, add1 (show k < 1000000000000 by omega)], trivial⟩
        exact ⟨n - (k + 1), E2, _, by omega, q2, k + 1, by omega, rfl, .trans (.add (.add (.add (.add (.add (.nil _) rfl) rfl) rfl) rfl) rfl) q1, rfl⟩)
    n [(48, .int .i64 ((0 : Nat) : Int)), (47, .int .i64 (n : Nat)), (6, .int .i64 w.base), (3, .pointer (some ⟨b3, 0, none⟩)), (0, .pointer (some ⟨i, 0, none⟩))] h ⟨0, by omega, rfl, EnvLe.refl _, rfl⟩
  exact ⟨E1, q1, hl1⟩

/-- Which others a rule names. -/
def grp (f : FuncId) (a b : Int) : Bool := if f = 61 then false else if f = 62 then true else decide (b > a)
theorem grp_run {f : FuncId} (hf : f = 61 ∨ f = 62 ∨ f = 63) (a b : Int) (g : Hp) : Run Try.prog f [.int .i64 a, .int .i64 b] g (.bool (grp f a b)) g := by
  rcases hf with rfl | rfl | rfl
  · exact pvF 0 Try.func61 (w5p.g1 a b g) trivial
  · exact pvF 0 Try.func62 (w5p.g2 a b g) trivial
  · exact pvF 0 Try.func63 (w5p.g3 a b g _) ⟨by simp [Asm.holds, cmpB, grp], trivial⟩

def named (f : FuncId) (n k : Int) : Bool := decide (k ≠ n - 1) && grp f (n - 1) k
theorem named_run {f : FuncId} (hf : f = 61 ∨ f = 62 ∨ f = 63) {b3 b7 : Nat} {n : Int} (hn : 1 ≤ n ∧ n ≤ 8) {g : Hp} {r1 r2 : Bool} (h3 : g[b3]? = some (.cells [.int .i64 n] r1)) (h7 : g[b7]? = some (.cells [.func (.func f) #[] #[]] r2)) (k : Int) :
    Run Try.prog 48 [.int .i64 k, .pointer (some ⟨b3, 0, none⟩), .pointer (some ⟨b7, 0, none⟩)] g (.bool (named f n k)) g := by
  have ar : IntKind.i64.wrap (n - 1) = n - 1 := wrap_id (by omega) (by omega)
  by_cases e : k = n - 1
  · have : named f n k = false := by simp [named, e]
    rw [this]
    exact pvF 0 Try.func48 (w5p.named_no b3 b7 k n (n - 1) g) ⟨a_ld1 h3 rfl, by simp only [Asm.holds, arithI, ar], by simp [Asm.holds, cmpB, e], trivial⟩
  · have : named f n k = grp f (n - 1) k := by simp [named, e]
    rw [this]
    exact pvF 0 Try.func48 (w5p.named b3 b7 k n (n - 1) f _ g) ⟨a_ld1 h3 rfl, by simp only [Asm.holds, arithI, ar], by simpa [Asm.holds, cmpB] using e, a_ld1 h7 rfl, a_ld1 h3 rfl, by simp only [Asm.holds, arithI, ar], grp_run hf _ _ _, trivial⟩

def ofStep (p : Nat → Bool) (k : Nat) (x : Sv) : Sv := if x.state = 4 ∧ p k = true then ⟨x.when, 3, 0⟩ else x

theorem of_loop (a : WAt h i j t w) (hw : WOk w) {f : FuncId} (hf : f = 61 ∨ f = 62 ∨ f = 63) {b3 b7 : Nat} {n : Int} (hn : 1 ≤ n ∧ n ≤ 8) (h3 : h[b3]? = some (.cells [.int .i64 n] true)) (h7 : h[b7]? = some (.cells [.func (.func f) #[] #[]] true))
    (hb : b3 ≠ j ∧ b7 ≠ j) (v9 : Value) : ∃ E1 h1, EnvLe [(9, v9), (0, .pointer (some ⟨i, 0, none⟩))] E1 ∧
    LRun Try.prog 118 false (loopN Try.f33 1) [(91, .int .i64 ((0 : Nat) : Int)), (90, .int .i64 (Int.ofNat w.svs.length)), (89, .slice (some ⟨j, 0, none⟩) w.svs.length 3), (8, .func (.func 48) #[] #[.pointer (some ⟨b3, 0, none⟩), .pointer (some ⟨b7, 0, none⟩)]), (9, v9), (0, .pointer (some ⟨i, 0, none⟩))] h (.exit 2) E1 h1 ∧
    WAt h1 i j t { w with svs := mS (ofStep (fun k => named f n k)) 0 w.svs } ∧ Keep (· = j) h h1 := by
  have n8 := hw.n8
  refine map_loop (fun k => [(91, .int .i64 (k : Nat)), (90, .int .i64 (Int.ofNat w.svs.length)), (89, .slice (some ⟨j, 0, none⟩) w.svs.length 3), (8, .func (.func 48) #[] #[.pointer (some ⟨b3, 0, none⟩), .pointer (some ⟨b7, 0, none⟩)]), (9, v9), (0, .pointer (some ⟨i, 0, none⟩))]) _ 2
    (ofStep (fun k => named f n k)) a ?_ ?_ (EnvLe.refl _)
  · intro E g hE
    obtain ⟨E2, q1, q2⟩ := pvC 0 hE (w5p.of_end i j w.svs.length b3 b7 v9 w.svs.length g) ⟨by simp [Asm.holds, cmpB], trivial⟩
    exact ⟨E2, .trans (.add (.add (.nil _) rfl) rfl) q1, q2⟩
  · intro k x E g hx hE hwa f1 hk
    have hkl := get_lt' hx
    have hsv := hwa.svs
    have hobj := hwa.obj
    simp only [] at hsv
    have hll : (svC (mL (ofStep (fun k => named f n k)) w.svs k)).length = w.svs.length * 3 := by rw [svC_len, mL_len]
    have hwc : (wCells { w with svs := mL (ofStep (fun k => named f n k)) w.svs k } j t)[6]? = some (.slice (some ⟨j, 0, none⟩) w.svs.length 3) := by simp [wCells, mL_len]
    have f2 := (mL_step (ofStep (fun k => named f n k)) hx).2
    have hgj := get_lt hsv
    have g3 := hk.2 _ _ h3 hb.1
    have g7 := hk.2 _ _ h7 hb.2
    have pre1 : (Asm.cmp .lss (k : Int) (Int.ofNat w.svs.length) true).holds Try.prog := by simp [Asm.holds, cmpB]; omega
    have ak1 : IntKind.i64.wrap ((k : Int) + 1) = ((k + 1 : Nat) : Int) := add1 (by omega)
    have hgo : ∀ {q : Nat} {o y : AObj}, g[q]? = some o → ((g ++ [AObj.cells [.int .i64 0, .int .i64 0, .int .i64 0] true]).set g.length y)[q]? = some o := fun hq => get_set_ne (get_push hq) (by have := get_lt hq; omega)
    have K1 : Keep (fun q => q = j ∨ g.length ≤ q) g ((g ++ [AObj.cells [.int .i64 0, .int .i64 0, .int .i64 0] true]).set g.length (.cells x.cells true)) := (Keep.push (fun q => q = j ∨ g.length ≤ q) _ _).trans (Keep.set (fp := fun q => q = j ∨ g.length ≤ q) (.inr (Nat.le_refl _)) _)
    have K2 := fun c => K1.trans (Keep.set (fp := fun q => q = j ∨ g.length ≤ q) (i := j) (.inl rfl) c)
    by_cases h4 : x.state = 4
    · have hcall := named_run hf hn (hgo (y := .cells x.cells true) g3) (hgo (y := .cells x.cells true) g7) k
      by_cases hp : named f n k = true
      · rw [hp] at hcall
        have hst : ofStep (fun k => named f n k) k x = ⟨x.when, 3, 0⟩ := by simp [ofStep, h4, hp]
        have hput := svC_put (⟨x.when, 3, 0⟩ : Sv) f1
        rw [← hst, f2, hst] at hput
        obtain ⟨E2, q1, q2⟩ := pvC 0 hE (w5p.of_yes i j w.svs.length b3 b7 v9 k g (k * 3) g.length x.when x.state x.at' ((k + 1 : Nat) : Int) (svC (mL (ofStep (fun k => named f n k)) w.svs (k + 1))) _)
          ⟨pre1, ⟨by omega, by omega, by simp⟩, a_ldn hsv (by omega) (svC_cut f1), rfl, a_st (get_new g _) (by simp) rfl, a_ld1 (get_set_eq (get_new g _)) rfl, by simpa [Asm.holds, cmpB] using h4, hcall, stat33.2.2, a_ld1 (hgo hobj) hwc, a_ld1 (get_set_eq (get_new g _)) rfl,
            ⟨by omega, by omega, by simp⟩, a_st (hgo hsv) (by rw [hll]; simp; omega) hput, by simp only [Asm.holds, arithI, ak1], trivial⟩
        exact ⟨E2, _, .trans (.add (.add (.add (.add (.add (.add (.nil _) rfl) rfl) rfl) rfl) rfl) rfl) q1, q2, get_set_eq (hgo hsv), K2 _⟩
      · have hp' : named f n k = false := by simpa using hp
        rw [hp'] at hcall
        have hst : ofStep (fun k => named f n k) k x = x := by simp [ofStep, hp']
        rw [hst, svC_same f1] at f2
        obtain ⟨E2, q1, q2⟩ := pvC 0 hE (w5p.of_no2 i j w.svs.length b3 b7 v9 k g (k * 3) g.length x.when x.state x.at' ((k + 1 : Nat) : Int) _)
          ⟨pre1, ⟨by omega, by omega, by simp⟩, a_ldn hsv (by omega) (svC_cut f1), rfl, a_st (get_new g _) (by simp) rfl, a_ld1 (get_set_eq (get_new g _)) rfl, by simpa [Asm.holds, cmpB] using h4, hcall, by simp only [Asm.holds, arithI, ak1], trivial⟩
        refine ⟨E2, _, .trans (.add (.add (.add (.add (.add (.add (.nil _) rfl) rfl) rfl) rfl) rfl) rfl) q1, q2, ?_, K1⟩
        rw [← f2]; exact hgo hsv
    · have hst : ofStep (fun k => named f n k) k x = x := by simp [ofStep, h4]
      rw [hst, svC_same f1] at f2
      obtain ⟨E2, q1, q2⟩ := pvC 0 hE (w5p.of_no1 i j w.svs.length b3 b7 v9 k g (k * 3) g.length x.when x.state x.at' ((k + 1 : Nat) : Int))
        ⟨pre1, ⟨by omega, by omega, by simp⟩, a_ldn hsv (by omega) (svC_cut f1), rfl, a_st (get_new g _) (by simp) rfl, a_ld1 (get_set_eq (get_new g _)) rfl, by simpa [Asm.holds, cmpB] using h4, by simp only [Asm.holds, arithI, ak1], trivial⟩
      refine ⟨E2, _, .trans (.add (.add (.add (.add (.add (.add (.nil _) rfl) rfl) rfl) rfl) rfl) rfl) q1, q2, ?_, K1⟩
      rw [← f2]; exact hgo hsv

end Go.Proofs.Ytkkhokgpcifckaa.wd

namespace Go.Proofs.Ytkkhokgpcifckaa.wd
open Go Go.Ev

variable {h : Hp} {i j : Nat} {t : Option Nat} {w : WS}

theorem body33 : Try.f33.body = some (.seq (partC Try.f33 [0]) (.seq (partC Try.f33 [1, 0]) (.seq (partC Try.f33 [1, 1, 0]) (partC Try.f33 [1, 1, 1])))) := by kernel_rfl

def ruleF (w : WS) : FuncId := (60 + w.rule).toNat
theorem ruleF_or (hw : WOk w) : ruleF w = 61 ∨ ruleF w = 62 ∨ ruleF w = 63 := by
  have := hw.rule
  rcases (by omega : w.rule = 1 ∨ w.rule = 2 ∨ w.rule = 3) with e | e | e <;> simp [ruleF, e]
theorem group_run (hw : WOk w) (g : Hp) : Run Try.prog 47 [.int .i64 w.rule] g (.func (.func (ruleF w)) #[] #[]) g := by
  have := hw.rule
  rcases (by omega : w.rule = 1 ∨ w.rule = 2 ∨ w.rule = 3) with e | e | e
  · have e2 : ruleF w = 61 := by simp [ruleF, e]
    rw [e, e2]; exact pvF 0 Try.func47 (w5p.group1 g) trivial
  · have e2 : ruleF w = 62 := by simp [ruleF, e]
    rw [e, e2]; exact pvF 0 Try.func47 (w5p.group2 g) trivial
  · have e2 : ruleF w = 63 := by simp [ruleF, e]
    rw [e, e2]; exact pvF 0 Try.func47 (w5p.group3 g) trivial

def maxI (a b : Int) : Int := if b > a then b else a
def waits (w : WS) : Int := maxI w.delay (dbl w.cap (counted w) w.base)
/-- The restart, but for the others. -/
def off1 (w : WS) (n : Int) : WS := { timed w with delay := waits w, svs := setSt w.svs n 3 }
def nameP (w : WS) (n : Int) (k : Nat) : Bool := named (ruleF w) n k
def off2 (w : WS) (n : Int) : WS := stopped (nameP w n) (off1 w n)
def off3 (w : WS) (n : Int) : WS := { off2 w n with svs := mS (ofStep (nameP w n)) 0 (off2 w n).svs }

def againF (w : WS) (n : Int) : WS × List Sv :=
  if (counted w : Int) + 1 > w.most then giveUpF (timed w) n else ((beginF (off3 w n)).1, stO (nameP w n) 0 (off1 w n).svs ++ (beginF (off3 w n)).2)

theorem WOk.timed (hw : WOk w) (ht : w.times.length < 10000) : WOk (timed w) := ⟨hw.n1, hw.n8, hw.most, hw.within, hw.base, hw.cap, hw.now, hw.delay, by simp [wd.timed]; omega, hw.rule⟩
theorem waits_ok (hw : WOk w) : 0 ≤ waits w ∧ waits w ≤ 1000000000000 := by
  have h1 := dbl_bounds (counted w) hw.base.1 hw.base.2
  have h2 := hw.delay
  have h3 := hw.cap
  unfold waits maxI
  split <;> omega
theorem WOk.off1 (hw : WOk w) (ht : w.times.length < 10000) (n : Int) : WOk (off1 w n) :=
  ⟨by simp only [wd.off1, setSt_len]; exact hw.n1, by simp only [wd.off1, setSt_len]; exact hw.n8, hw.most, hw.within, hw.base, hw.cap, hw.now, waits_ok hw, (hw.timed ht).times, hw.rule⟩
theorem WOk.off2 (hw : WOk w) (ht : w.times.length < 10000) (n : Int) : WOk (off2 w n) := by
  have h := hw.off1 ht n
  exact ⟨by simp only [wd.off2, stopped, stS_len]; exact h.n1, by simp only [wd.off2, stopped, stS_len]; exact h.n8, h.most, h.within, h.base, h.cap, h.now, h.delay, h.times, h.rule⟩
theorem WOk.off3 (hw : WOk w) (ht : w.times.length < 10000) (n : Int) : WOk (off3 w n) := by
  have h := hw.off2 ht n
  exact ⟨by simp only [wd.off3, mS_len]; exact h.n1, by simp only [wd.off3, mS_len]; exact h.n8, h.most, h.within, h.base, h.cap, h.now, h.delay, h.times, h.rule⟩
theorem off1_len (w : WS) (n : Int) : (off1 w n).svs.length = w.svs.length := by simp [off1, setSt_len]
theorem off2_len (w : WS) (n : Int) : (off2 w n).svs.length = w.svs.length := by simp [off2, stopped, stS_len, off1_len]
theorem off3_len (w : WS) (n : Int) : (off3 w n).svs.length = w.svs.length := by simp [off3, mS_len, off2_len]

theorem beginF_len (w : WS) : (beginF w).2.length ≤ w.svs.length := by
  unfold beginF
  split
  · simp
  · exact bgO_len _ _ _

theorem again_run (a : WAt h i j t w) (hw : WOk w) (ht : w.times.length < 10000) {n : Int} (hn : 1 ≤ n ∧ n ≤ w.svs.length) :
    ∃ v h' t', Run Try.prog 33 [.pointer (some ⟨i, 0, none⟩), .int .i64 n] h v h' ∧ WAt h' i j t' (againF w n).1 ∧ (∃ b, h.length ≤ b ∧ (∀ q, t' = some q → q < b) ∧ OrdAt h' b v (againF w n).2) ∧ Keep (fpW i j t) h h' ∧ (∀ q, t' = some q → h.length ≤ q) := by
  have n8 := hw.n8
  have hil := get_lt a.obj
  have hjl := get_lt a.svs
  have hcl : counted w ≤ 10000 := Nat.le_trans (cnt_le _ _) hw.times
  obtain ⟨E1, hA, d, hE1, c1, aA, hb3, KA, hd⟩ := again_head a hw ht n
  have hwA := hw.timed ht
  have ak : IntKind.i64.wrap ((counted w : Int) + 1) = (counted w : Int) + 1 := wrap_id (by omega) (by omega)
  have hbA := get_lt hb3
  have hlA := KA.1
  have hdA : ∀ q, some d = some q → q < hA.length := fun q e => by cases e; exact aA.lts d (.inr (.inr rfl))
  unfold againF
  by_cases hm : (counted w : Int) + 1 > w.most
  · rw [if_pos hm]
    obtain ⟨v, h', hr, a', o', K'⟩ := giveUp_run aA hwA (n := n) hn
    obtain ⟨E2, e2, c2⟩ := pvC 0 hE1 (w5p.ag_up i h.length n (counted w : Nat) ((counted w : Int) + 1) w.most v hA h') ⟨by simp only [Asm.holds, arithI, ak], a_ld1 aA.obj rfl, by simpa [Asm.holds, cmpB] using hm, a_ld1 hb3 rfl, hr, trivial⟩
    refine ⟨v, h', some d, Run.code Try.func33 body33 (.inr rfl) (CRun.pre2 c1 c2) (evResults_one rfl (e2 4 v rfl)), a', ⟨hA.length, hlA, hdA, o'⟩, ?_, fun q e => by cases e; exact hd⟩
    exact KA.trans (K'.mono fun q _ e => by rcases e with e | e; exact .inl e; exact .inr (.inl e))
  · rw [if_neg hm]
    have hk : (n - 1).toNat < w.svs.length := by omega
    have hx := List.getElem?_eq_getElem hk
    have ar : IntKind.i64.wrap (n - 1) = n - 1 := wrap_id (by omega) (by omega)
    obtain ⟨E3, hE3, hl3⟩ := dbl_loop aA hwA (counted w) (by omega) h.length
    -- the delay, and the service that is off
    have a1 : WAt (hA.set i (.cells (wCells { timed w with delay := waits w } j (some d)) true)) i j (some d) { timed w with delay := waits w } :=
      ⟨get_set_eq aA.obj, get_set_ne aA.svs aA.ne, by
        rcases aA.tms with q1 | ⟨q, q1, q2, q3, q4⟩
        · exact .inl q1
        · exact .inr ⟨q, q1, get_set_ne q2 (Ne.symm q3), q3, q4⟩, aA.ne⟩
    have hss : setSt w.svs n 3 = w.svs.set (n - 1).toNat { w.svs[(n - 1).toNat] with state := 3 } := by simp only [setSt, hx]
    have hput := svC_state 3 hx
    rw [← hss] at hput
    have hlc := svC_len w.svs
    let hB : Hp := (hA.set i (.cells (wCells { timed w with delay := waits w } j (some d)) true)).set j (.cells (svC (setSt w.svs n 3)) true)
    have a2 : WAt hB i j (some d) (off1 w n) := a1.put (Keep.set (fp := fun q => q = j) rfl _) (fun q _ e => .inl e) (get_set_eq a1.svs) (setSt_len _ _ _)
    have KB : Keep (fun q => q = i ∨ q = j) hA hB := (Keep.set (fp := fun q => q = i ∨ q = j) (.inl rfl) _).trans (Keep.set (fp := fun q => q = i ∨ q = j) (.inr rfl) _)
    have hlB : hB.length = hA.length := by simp [hB]
    let hC : Hp := (hB ++ [AObj.cells [.nilFunc] true]).set hA.length (.cells [.func (.func (ruleF w)) #[] #[]] true)
    have KC : Keep (fun q => hA.length ≤ q) hB hC := (Keep.push _ _ _).trans (Keep.set (fp := fun q => hA.length ≤ q) (Nat.le_refl _) _)
    have a3 : WAt hC i j (some d) (off1 w n) := a2.keep KC (fun q hq e => by omega)
    have hb3B : hB[h.length]? = some (.cells [.int .i64 n] true) := KB.2 _ _ hb3 (by omega)
    have hb3C : hC[h.length]? = some (.cells [.int .i64 n] true) := KC.2 _ _ hb3B (by omega)
    have hb7C : hC[hA.length]? = some (.cells [.func (.func (ruleF w)) #[] #[]] true) := get_set_eq (get_new' _ hlB)
    have hn8 : 1 ≤ n ∧ n ≤ 8 := by omega
    obtain ⟨v1, h2, r1, a4, o4, K4⟩ := stop_run a3 (hw.off1 ht n) (fo := 48) (cl := [.pointer (some ⟨h.length, 0, none⟩), .pointer (some ⟨hA.length, 0, none⟩)]) (p := nameP w n)
      (fun g hg k _ => named_run (ruleF_or hw) hn8 (hg.2 _ _ hb3C (by omega)) (hg.2 _ _ hb7C (by omega)) k)
    have hb3D := K4.2 _ _ hb3C (by omega)
    have hb7D := K4.2 _ _ hb7C (by omega)
    obtain ⟨E5, h3, hE5, hl5, a5, K5⟩ := of_loop (w := off2 w n) a4 (hw.off2 ht n) (ruleF_or hw) hn8 hb3D hb7D ⟨by omega, by omega⟩ v1
    obtain ⟨v2, h4, r2, a6, o6, K6⟩ := begin_run (w := off3 w n) a5 (hw.off3 ht n)
    have Kall : Keep (fpW i j t) h h4 := ((((KA.trans (KB.mono fun q _ e => by rcases e with e | e; exact .inl e; exact .inr (.inl e))).trans_new KC (fun q hq e => by omega)).trans (K4.mono fun q _ e => .inr (.inl e))).trans (K5.mono fun q _ e => .inr (.inl e))).trans
      (K6.mono fun q _ e => by rcases e with e | e; exact .inl e; exact .inr (.inl e))
    obtain ⟨L1, hL1⟩ : ∃ L, stO (nameP w n) 0 (off1 w n).svs = L := ⟨_, rfl⟩
    obtain ⟨L2, hL2⟩ : ∃ L, (beginF (off3 w n)).2 = L := ⟨_, rfl⟩
    have n1 : L1.length ≤ 8 := by have := stO_len (nameP w n) 0 (off1 w n).svs; rw [hL1, off1_len] at this; omega
    have n2 : L2.length ≤ 8 := by have := beginF_len (off3 w n); rw [hL2, off3_len] at this; omega
    rw [hL1, hL2]
    rw [hL1] at o4
    rw [hL2] at o6
    have hlC : hC.length = hA.length + 1 := by simp [hC, hB]
    have hh2 : hC.length ≤ h2.length := K4.1
    have hh3 : h2.length ≤ h3.length := K5.1
    have hh4 : hA.length ≤ h4.length := by have := K6.1; omega
    have o4' : OrdAt h4 hC.length v1 L1 := (o4.keep K5 (fun q hq _ e => by omega)).keep K6 (fun q hq _ e => by rcases e with e | e <;> omega)
    have hb3a : (hA.set i (.cells (wCells { timed w with delay := waits w } j (some d)) true))[h.length]? = some (.cells [.int .i64 n] true) := get_set_ne hb3 (by omega)
    have pl0 : plainC (loopN Try.f33 0) = true := by kernel_rfl
    have pl1 : plainC (loopN Try.f33 1) = true := by kernel_rfl
    have st1 := a_st (P := Try.prog) (s := .is hA) (d := 9) (l := [.int .i64 (waits w)]) (c' := wCells { timed w with delay := waits w } j (some d)) aA.obj (by simp [wCells]) rfl
    have st2 := a_st (P := Try.prog) (s := .set (.is hA) i (.cells (wCells { timed w with delay := waits w } j (some d)) true)) (d := (n - 1).toNat * 3 + 1) (l := [.int .i64 3]) (c' := svC (setSt w.svs n 3)) a1.svs (by show _ ≤ (svC w.svs).length; simp; omega) hput
    have st3 := a_st (P := Try.prog) (s := .push (.set (.set (.is hA) i (.cells (wCells { timed w with delay := waits w } j (some d)) true)) j (.cells (svC (setSt w.svs n 3)) true)) (.cells [.nilFunc] true)) (i := hA.length) (d := 0) (l := [.func (.func (ruleF w)) #[] #[]])
      (c' := [.func (.func (ruleF w)) #[] #[]]) (get_new' _ hlB) (by simp) rfl
    have ld4 : (wCells (off2 w n) j (some d))[6]? = some (.slice (some ⟨j, 0, none⟩) w.svs.length 3) := by simp [wCells, off2_len]
    rw [off2_len] at hl5
    have hfin : ∀ {E6 : Env} {h' : Hp} {v : Value}, CRun Try.prog 118 false (partC Try.f33 [1, 1, 1]) E1 hA .ret E6 h' → Go.Ev.look E6 4 = some v → Run Try.prog 33 [.pointer (some ⟨i, 0, none⟩), .int .i64 n] h v h' := fun c6 e =>
      Run.code Try.func33 body33 (.inr rfl) (CRun.pre2 c1 c6) (evResults_one rfl e)
    have lp0 : ∀ {E : Env}, EnvLe [(48, .int .i64 ((0 : Nat) : Int)), (47, .int .i64 (counted w : Nat)), (6, .int .i64 w.base), (3, .pointer (some ⟨h.length, 0, none⟩)), (0, .pointer (some ⟨i, 0, none⟩))] E → (Asm.loop 118 false (loopN Try.f33 0) E (.is hA) (.exit 0) [(6, .int .i64 (dbl w.cap (counted w) w.base)), (3, .pointer (some ⟨h.length, 0, none⟩)), (0, .pointer (some ⟨i, 0, none⟩))] (.is hA)).holds Try.prog := fun hs => a_loop pl0 hs hE3 hl3
    have lp1 : ∀ {E : Env}, EnvLe [(91, .int .i64 ((0 : Nat) : Int)), (90, .int .i64 (Int.ofNat w.svs.length)), (89, .slice (some ⟨j, 0, none⟩) w.svs.length 3), (8, .func (.func 48) #[] #[.pointer (some ⟨h.length, 0, none⟩), .pointer (some ⟨hA.length, 0, none⟩)]), (9, v1), (0, .pointer (some ⟨i, 0, none⟩))] E →
      (Asm.loop 118 false (loopN Try.f33 1) E (.is h2) (.exit 2) [(9, v1), (0, .pointer (some ⟨i, 0, none⟩))] (.is h3)).holds Try.prog := fun hs => a_loop pl1 hs hE5 hl5
    rcases o4' with ⟨rfl, rfl⟩ | ⟨o, rfl, ho, hbo, hne⟩
    · rcases o6 with ⟨rfl, rfl⟩ | ⟨o2, rfl, ho2, hbo2, hne2⟩
      · obtain ⟨E6, e6, c6⟩ := pvC 0 hE1 (w5p.ag_00 i j h.length hA.length ((n - 1).toNat * 3) w.svs.length n (counted w : Nat) ((counted w : Int) + 1) w.most w.base (dbl w.cap (counted w) w.base) w.delay (waits w) (n - 1) w.rule (ruleF w) (wCells { timed w with delay := waits w } j (some d)) (svC (setSt w.svs n 3)) hA h2 h3 h4) ⟨by simp only [Asm.holds, arithI, ak], a_ld1 aA.obj rfl, by simpa [Asm.holds, cmpB] using hm, a_ld1 aA.obj rfl, lp0 (.add (.add (.add (.add (.add (.nil _) rfl) rfl) rfl) rfl) rfl), a_ld1 aA.obj rfl, .inl ⟨rfl, rfl⟩, st1, stat33.2.1, a_ld1 a1.obj rfl, a_ld1 hb3a rfl, by simp only [Asm.holds, arithI, ar], ⟨by omega, by omega, by omega⟩, st2, a_ld1 a2.obj rfl, group_run hw _, hlB, st3, r1, a_ld1 a4.obj ld4, lp1 (.add (.add (.add (.add (.add (.add (.nil _) rfl) rfl) rfl) rfl) rfl) rfl), r2, trivial⟩
        exact ⟨_, h4, some d, hfin c6 (e6 4 _ rfl), a6, ⟨hA.length, hlA, hdA, .inl ⟨rfl, rfl⟩⟩, Kall, fun q e => by cases e; exact hd⟩
      · obtain ⟨E6, e6, c6⟩ := pvC 0 hE1 (w5p.ag_01 i j h.length hA.length ((n - 1).toNat * 3) w.svs.length n (counted w : Nat) ((counted w : Int) + 1) w.most w.base (dbl w.cap (counted w) w.base) w.delay (waits w) (n - 1) w.rule (ruleF w) (wCells { timed w with delay := waits w } j (some d)) (svC (setSt w.svs n 3)) hA h2 h3 h4 o2 L2.length (L2.length - 1) h4.length (svC L2)) ⟨by simp only [Asm.holds, arithI, ak], a_ld1 aA.obj rfl, by simpa [Asm.holds, cmpB] using hm, a_ld1 aA.obj rfl, lp0 (.add (.add (.add (.add (.add (.nil _) rfl) rfl) rfl) rfl) rfl), a_ld1 aA.obj rfl, .inl ⟨rfl, rfl⟩, st1, stat33.2.1, a_ld1 a1.obj rfl, a_ld1 hb3a rfl, by simp only [Asm.holds, arithI, ar], ⟨by omega, by omega, by omega⟩, st2, a_ld1 a2.obj rfl, group_run hw _, hlB, st3, r1, a_ld1 a4.obj ld4, lp1 (.add (.add (.add (.add (.add (.add (.nil _) rfl) rfl) rfl) rfl) rfl) rfl), r2, a_app3n ho2 hne2 (by omega) rfl, trivial⟩
        refine ⟨_, _, some d, hfin c6 (e6 4 _ rfl), a6.app [AObj.cells (svC L2) true], ⟨hA.length, hlA, hdA, .inr ⟨h4.length, rfl, get_new h4 _, hh4, by simpa using hne2⟩⟩, Kall.trans (Keep.push _ _ _), fun q e => by cases e; exact hd⟩
    · have hol := get_lt ho
      have hKd : ∀ c, Keep (fun q => q = o) h4 ((h4.set o .dead) ++ [AObj.cells c true]) := fun c => (Keep.set (fp := fun q => q = o) rfl _).trans (Keep.push _ _ _)
      rcases o6 with ⟨rfl, rfl⟩ | ⟨o2, rfl, ho2, hbo2, hne2⟩
      · obtain ⟨E6, e6, c6⟩ := pvC 0 hE1 (w5p.ag_10 i j h.length hA.length ((n - 1).toNat * 3) w.svs.length n (counted w : Nat) ((counted w : Int) + 1) w.most w.base (dbl w.cap (counted w) w.base) w.delay (waits w) (n - 1) w.rule (ruleF w) (wCells { timed w with delay := waits w } j (some d)) (svC (setSt w.svs n 3)) hA h2 h3 h4 o L1.length) ⟨by simp only [Asm.holds, arithI, ak], a_ld1 aA.obj rfl, by simpa [Asm.holds, cmpB] using hm, a_ld1 aA.obj rfl, lp0 (.add (.add (.add (.add (.add (.nil _) rfl) rfl) rfl) rfl) rfl), a_ld1 aA.obj rfl, .inl ⟨rfl, rfl⟩, st1, stat33.2.1, a_ld1 a1.obj rfl, a_ld1 hb3a rfl, by simp only [Asm.holds, arithI, ar], ⟨by omega, by omega, by omega⟩, st2, a_ld1 a2.obj rfl, group_run hw _, hlB, st3, r1, a_ld1 a4.obj ld4, lp1 (.add (.add (.add (.add (.add (.add (.nil _) rfl) rfl) rfl) rfl) rfl) rfl), r2, trivial⟩
        refine ⟨_, h4, some d, hfin c6 (e6 4 _ rfl), a6, ⟨hA.length, hlA, hdA, .inr ⟨o, by rw [List.append_nil], by rw [List.append_nil]; exact ho, by omega, by rw [List.append_nil]; exact hne⟩⟩, Kall, fun q e => by cases e; exact hd⟩
      · obtain ⟨E6, e6, c6⟩ := pvC 0 hE1 (w5p.ag_11 i j h.length hA.length ((n - 1).toNat * 3) w.svs.length n (counted w : Nat) ((counted w : Int) + 1) w.most w.base (dbl w.cap (counted w) w.base) w.delay (waits w) (n - 1) w.rule (ruleF w) (wCells { timed w with delay := waits w } j (some d)) (svC (setSt w.svs n 3)) hA h2 h3 h4 o L1.length o2 L2.length (L2.length - 1) h4.length (svC (L1 ++ L2)) (svC L2)) ⟨by simp only [Asm.holds, arithI, ak], a_ld1 aA.obj rfl, by simpa [Asm.holds, cmpB] using hm, a_ld1 aA.obj rfl, lp0 (.add (.add (.add (.add (.add (.nil _) rfl) rfl) rfl) rfl) rfl), a_ld1 aA.obj rfl, .inl ⟨rfl, rfl⟩, st1, stat33.2.1, a_ld1 a1.obj rfl, a_ld1 hb3a rfl, by simp only [Asm.holds, arithI, ar], ⟨by omega, by omega, by omega⟩, st2, a_ld1 a2.obj rfl, group_run hw _, hlB, st3, r1, a_ld1 a4.obj ld4, lp1 (.add (.add (.add (.add (.add (.add (.nil _) rfl) rfl) rfl) rfl) rfl) rfl), r2, a_app3 ho ho2 hne2 (by omega) rfl, trivial⟩
        have hda := a5.lts
        refine ⟨_, _, some d, hfin c6 (e6 4 _ rfl), a6.keep (hKd _) (fun q _ e hf => ?_), ⟨hA.length, hlA, hdA, .inr ⟨h4.length, by rw [List.length_append], get_new' _ (by simp [SH.den]), hh4, by simp [hne]⟩⟩, Kall.trans_new (hKd _) (fun q hq e => by omega), fun q e => by cases e; exact hd⟩
        have := aA.lts q hf
        omega

end Go.Proofs.Ytkkhokgpcifckaa.wd

namespace Go.Proofs.Ytkkhokgpcifckaa.wd
open Go Go.Ev

variable {h : Hp} {i j : Nat} {t : Option Nat} {w : WS}

theorem WAt.nowSet {w : WS} (a : WAt h i j t w) (now : Int) : WAt (h.set i (.cells (wCells { w with now := now } j t) true)) i j t { w with now := now } :=
  ⟨get_set_eq a.obj, get_set_ne a.svs a.ne, by
    rcases a.tms with q1 | ⟨q, q1, q2, q3, q4⟩
    · exact .inl q1
    · exact .inr ⟨q, q1, get_set_ne q2 (Ne.symm q3), q3, q4⟩, a.ne⟩

/-! ### Started -/

def putSv (l : List Sv) (n : Int) (f : Sv → Sv) : List Sv := match l[(n - 1).toNat]? with
  | some x => l.set (n - 1).toNat (f x)
  | none => l
theorem putSv_len (l : List Sv) (n : Int) (f : Sv → Sv) : (putSv l n f).length = l.length := by unfold putSv; split <;> simp

def lateB (w : WS) (now : Int) : Bool := decide (now < w.now) || decide (now > 1000000000000)
def svAt (w : WS) (n : Int) : Option Sv := if 1 ≤ n ∧ n ≤ w.svs.length then w.svs[(n - 1).toNat]? else none

def startedF (w : WS) (n now : Int) : WS × Int :=
  if lateB w now = true then (w, 2) else match svAt w n with
    | none => (w, 6)
    | some x => if x.state = 4 then (if now < x.at' then (w, 22) else ({ w with now := now, svs := putSv w.svs n fun x => ⟨x.when, 1, 0⟩ }, 0)) else (w, 6)

theorem stat15 : statOk (drawN Try.f15 0) = true := by kernel_rfl

theorem started_run (a : WAt h i j t w) (hw : WOk w) (n now : Int) :
    ∃ h', Run Try.prog 15 [.pointer (some ⟨i, 0, none⟩), .int .i64 n, .int .i64 now] h (.int .i64 (startedF w n now).2) h' ∧ WAt h' i j t (startedF w n now).1 ∧ Keep (fun q => q = i ∨ q = j) h h' := by
  have n8 := hw.n8
  have hl := late_run a now
  have hlc := svC_len w.svs
  by_cases c : lateB w now = true
  · have e : startedF w n now = (w, 2) := by simp [startedF, c]
    rw [e]
    unfold lateB at c
    rw [c] at hl
    exact ⟨h, pvF 0 Try.func15 (w8p.sd_late i j 0 0 n 0 now 0 0 0 [] [] h) ⟨hl, trivial⟩, a, .refl _ _⟩
  · have c' : lateB w now = false := by simpa using c
    have c2 := c'
    unfold lateB at c2
    rw [c2] at hl
    by_cases d1 : n < 1
    · have e : startedF w n now = (w, 6) := by simp [startedF, c', svAt, show ¬ (1 ≤ n ∧ n ≤ w.svs.length) by omega]
      rw [e]
      exact ⟨h, pvF 0 Try.func15 (w8p.sd_low i j 0 0 n 0 now 0 0 0 [] [] h) ⟨hl, by simpa [Asm.holds, cmpB] using d1, trivial⟩, a, .refl _ _⟩
    · by_cases d2 : n > w.svs.length
      · have e : startedF w n now = (w, 6) := by simp [startedF, c', svAt, show ¬ (1 ≤ n ∧ n ≤ w.svs.length) by omega]
        rw [e]
        exact ⟨h, pvF 0 Try.func15 (w8p.sd_high i j w.svs.length 0 n 0 now 0 0 0 [] [] h) ⟨hl, by simpa [Asm.holds, cmpB] using d1, a_ld1 a.obj rfl, by simpa [Asm.holds, cmpB] using d2, trivial⟩, a, .refl _ _⟩
      · have hk : (n - 1).toNat < w.svs.length := by omega
        have hx := List.getElem?_eq_getElem hk
        obtain ⟨x, hxe⟩ : ∃ x, w.svs[(n - 1).toNat] = x := ⟨_, rfl⟩
        rw [hxe] at hx
        obtain ⟨g1, g2, g3⟩ := svC_get hx
        have ar : IntKind.i64.wrap (n - 1) = n - 1 := wrap_id (by omega) (by omega)
        have hsv : svAt w n = some x := by simp only [svAt, if_pos (show 1 ≤ n ∧ n ≤ (w.svs.length : Int) by omega), hx]
        have f1 : (Asm.cmp .lss n 1 false).holds Try.prog := by simpa [Asm.holds, cmpB] using d1
        have f2 : (Asm.cmp .gtr n (Int.ofNat w.svs.length) false).holds Try.prog := by simpa [Asm.holds, cmpB] using d2
        have f3 : (Asm.arith .sub .i64 n 1 (n - 1)).holds Try.prog := by simp only [Asm.holds, arithI, ar]
        have f4 : (Asm.off ((n - 1).toNat * 3) 0 (n - 1) w.svs.length 3).holds Try.prog := ⟨by omega, by omega, by omega⟩
        by_cases d3 : x.state = 4
        · by_cases d4 : now < x.at'
          · have e : startedF w n now = (w, 22) := by simp [startedF, c', hsv, d3, d4]
            rw [e]
            exact ⟨h, pvF 0 Try.func15 (w8p.sd_soon i j w.svs.length ((n - 1).toNat * 3) n (n - 1) now x.state x.at' 0 [] [] h) ⟨hl, f1, a_ld1 a.obj rfl, f2, a_ld1 a.obj rfl, f3, f4, a_ld1 a.svs g2, by simpa [Asm.holds, cmpB] using d3, a_ld1 a.obj rfl, f3, f4, a_ld1 a.svs g3,
              by simpa [Asm.holds, cmpB] using d4, trivial⟩, a, .refl _ _⟩
          · have e : startedF w n now = ({ w with now := now, svs := putSv w.svs n fun x => ⟨x.when, 1, 0⟩ }, 0) := by simp [startedF, c', hsv, d3, d4]
            rw [e]
            have a1 := a.nowSet now
            have hput := svC_put (⟨x.when, 1, 0⟩ : Sv) hx
            have hps : putSv w.svs n (fun x => ⟨x.when, 1, 0⟩) = w.svs.set (n - 1).toNat ⟨x.when, 1, 0⟩ := by simp only [putSv, hx]
            rw [← hps] at hput
            have st1 := a_st (P := Try.prog) (s := .is h) (d := 7) (l := [.int .i64 now]) (c' := wCells { w with now := now } j t) a.obj (by simp [wCells]) rfl
            have st2 := a_st (P := Try.prog) (s := .set (.is h) i (.cells (wCells { w with now := now } j t) true)) (d := (n - 1).toNat * 3) (l := (⟨x.when, 1, 0⟩ : Sv).cells) (c' := svC (putSv w.svs n fun x => ⟨x.when, 1, 0⟩)) a1.svs (by show _ ≤ (svC w.svs).length; simp [Sv.cells]; omega) hput
            refine ⟨_, pvF 0 Try.func15 (w8p.sd_ok i j w.svs.length ((n - 1).toNat * 3) n (n - 1) now x.state x.at' x.when (wCells { w with now := now } j t) (svC (putSv w.svs n fun x => ⟨x.when, 1, 0⟩)) h)
              ⟨hl, f1, a_ld1 a.obj rfl, f2, a_ld1 a.obj rfl, f3, f4, a_ld1 a.svs g2, by simpa [Asm.holds, cmpB] using d3, a_ld1 a.obj rfl, f3, f4, a_ld1 a.svs g3, by simpa [Asm.holds, cmpB] using d4, st1, stat15, a_ld1 a1.obj rfl, f3, a_ld1 a1.obj rfl, f3, f4, a_ld1 a1.svs g1, f4, st2, trivial⟩, ?_, ?_⟩
            · exact a1.put (Keep.set (fp := fun q => q = j) rfl _) (fun q _ e => .inl e) (get_set_eq a1.svs) (putSv_len _ _ _)
            · exact (Keep.set (fp := fun q => q = i ∨ q = j) (.inl rfl) _).trans (Keep.set (fp := fun q => q = i ∨ q = j) (.inr rfl) _)
        · have e : startedF w n now = (w, 6) := by simp [startedF, c', hsv, d3]
          rw [e]
          exact ⟨h, pvF 0 Try.func15 (w8p.sd_none i j w.svs.length ((n - 1).toNat * 3) n (n - 1) now x.state 0 0 [] [] h) ⟨hl, f1, a_ld1 a.obj rfl, f2, a_ld1 a.obj rfl, f3, f4, a_ld1 a.svs g2, by simpa [Asm.holds, cmpB] using d3, trivial⟩, a, .refl _ _⟩

/-! ### Ended -/

def textB (s : ByteArray) : Bool := decide (s.size ≤ 60) && s.data.toList.all fun b => decide (32 ≤ b.toNat) && decide (b.toNat ≤ 126)
/-- What 'valid.Text' comes to: shown apart. -/
def TextRun : Prop := ∀ (g : Hp) (s : ByteArray), Run Try.prog 44 [.string s] g (.bool (textB s)) g

def faultB (fk : Int) (ft : ByteArray) : Bool := if fk = 0 ∨ fk = 2 then ft.toList == (⟨#[]⟩ : ByteArray).toList else if fk = 1 then textB ft else false

theorem fault_run (hT : TextRun) (g : Hp) (fk : Int) (ft : ByteArray) : Run Try.prog 31 [.agg #[.int .i64 fk, .string ft]] g (.bool (faultB fk ft)) (g ++ [.cells [.int .i64 fk, .string ft] true]) := by
  by_cases c0 : fk = 0
  · have e : faultB fk ft = (ft.toList == (⟨#[]⟩ : ByteArray).toList) := by simp [faultB, c0]
    rw [e]
    exact pvF 0 Try.func31 (w8p.fa_none g.length fk ft _ g) ⟨rfl, a_ld1 (get_new g _) rfl, by simpa [Asm.holds, cmpB] using c0, a_ld1 (get_new g _) rfl, .inl ⟨rfl, rfl⟩, trivial⟩
  · by_cases c2 : fk = 2
    · have e : faultB fk ft = (ft.toList == (⟨#[]⟩ : ByteArray).toList) := by simp [faultB, c2]
      rw [e]
      exact pvF 0 Try.func31 (w8p.fa_cancel g.length fk ft _ g) ⟨rfl, a_ld1 (get_new g _) rfl, by simpa [Asm.holds, cmpB] using c0, by simpa [Asm.holds, cmpB] using c2, a_ld1 (get_new g _) rfl, .inl ⟨rfl, rfl⟩, trivial⟩
    · by_cases c1 : fk = 1
      · have e : faultB fk ft = textB ft := by simp [faultB, c1]
        rw [e]
        exact pvF 0 Try.func31 (w8p.fa_throw g.length fk ft _ g _) ⟨rfl, a_ld1 (get_new g _) rfl, by simpa [Asm.holds, cmpB] using c0, by simpa [Asm.holds, cmpB] using c2, by simpa [Asm.holds, cmpB] using c1, a_ld1 (get_new g _) rfl, hT _ _, trivial⟩
      · have e : faultB fk ft = false := by simp [faultB, c0, c1, c2]
        rw [e]
        exact pvF 0 Try.func31 (w8p.fa_other g.length fk ft g) ⟨rfl, a_ld1 (get_new g _) rfl, by simpa [Asm.holds, cmpB] using c0, by simpa [Asm.holds, cmpB] using c2, by simpa [Asm.holds, cmpB] using c1, trivial⟩

/-- What becomes of a service that ended (x: as it was), and the orders. -/
def followF (w : WS) (n fk : Int) (x : Sv) : WS × List Sv :=
  if w.given = true then ({ w with svs := setSt w.svs n 5 }, []) else
  if x.state = 2 then beginF { w with svs := setSt w.svs n 3 } else
  if x.when = 3 ∨ (x.when = 2 ∧ fk ≠ 1) then ({ w with svs := setSt w.svs n 5 }, []) else againF w n

def doneF (r : WS × List Sv) : WS × List Sv := (r.1, if overOf r.1 = true then r.2 ++ [⟨4, 0, 0⟩] else r.2)

def endedF (w : WS) (n fk : Int) (ft : ByteArray) (now : Int) : WS × List Sv × Int :=
  if lateB w now = true ∨ faultB fk ft = false then (w, [], 2) else match svAt w n with
    | none => (w, [], 6)
    | some x => if x.state = 1 ∨ x.state = 2 then let r := doneF (followF { w with now := now } n fk x); (r.1, r.2, 0) else (w, [], 6)

theorem body14 : Try.f14.body = some (thenC (.seq (partC Try.f14 [0]) (.seq (partC Try.f14 [1, 0]) (.seq (partC Try.f14 [1, 1, 0]) (.seq (partC Try.f14 [1, 1, 1, 0]) (.seq (partC Try.f14 [1, 1, 1, 1, 0]) (partC Try.f14 [1, 1, 1, 1, 1, 0]))))))
    (.seq (partC Try.f14 [1, 1, 1, 1, 1, 1, 0]) (partC Try.f14 [1, 1, 1, 1, 1, 1, 1]))) := by kernel_rfl

theorem WOk.svs {l : List Sv} (hw : WOk w) (hl : l.length = w.svs.length) : WOk { w with svs := l } := ⟨by simp only [hl]; exact hw.n1, by simp only [hl]; exact hw.n8, hw.most, hw.within, hw.base, hw.cap, hw.now, hw.delay, hw.times, hw.rule⟩
theorem WOk.begin (hw : WOk w) : WOk (beginF w).1 ∧ (beginF w).1.svs.length = w.svs.length := by
  unfold beginF
  split
  · exact ⟨hw, rfl⟩
  · exact ⟨⟨by simp; exact hw.n1, by simp; exact hw.n8, hw.most, hw.within, hw.base, hw.cap, hw.now, by simp, hw.times, hw.rule⟩, by simp⟩
theorem WOk.giveUp (hw : WOk w) (n : Int) : WOk (giveUpF w n).1 ∧ (giveUpF w n).1.svs.length = w.svs.length := by
  have hl : (giveUpF w n).1.svs.length = w.svs.length := by simp [giveUpF, stopped, stS_len, gave, mS_len, setSt_len]
  exact ⟨⟨by rw [hl]; exact hw.n1, by rw [hl]; exact hw.n8, hw.most, hw.within, hw.base, hw.cap, hw.now, hw.delay, hw.times, hw.rule⟩, hl⟩
theorem WOk.again (hw : WOk w) (ht : w.times.length < 10000) (n : Int) : WOk (againF w n).1 ∧ (againF w n).1.svs.length = w.svs.length := by
  unfold againF
  split
  · exact (hw.timed ht).giveUp n
  · obtain ⟨h1, h2⟩ := (hw.off3 ht n).begin
    exact ⟨h1, by rw [h2, off3_len]⟩
theorem WOk.follow (hw : WOk w) (ht : w.times.length < 10000) (n fk : Int) (x : Sv) : WOk (followF w n fk x).1 ∧ (followF w n fk x).1.svs.length = w.svs.length := by
  unfold followF
  split
  · exact ⟨hw.svs (setSt_len _ _ _), setSt_len _ _ _⟩
  · split
    · obtain ⟨h1, h2⟩ := (hw.svs (setSt_len w.svs n 3)).begin
      exact ⟨h1, by rw [h2]; exact setSt_len _ _ _⟩
    · split
      · exact ⟨hw.svs (setSt_len _ _ _), setSt_len _ _ _⟩
      · exact hw.again ht n

/-- The switch: what follows. -/
theorem switch_run {g : Hp} (a : WAt g i j t w) (hw : WOk w) (ht : w.times.length < 10000) {n fk : Int} {ft : ByteArray} {b : Nat} (hn : 1 ≤ n ∧ n ≤ w.svs.length) {x : Sv} (hx : w.svs[(n - 1).toNat]? = some x) (hb : g[b]? = some (.cells [.int .i64 fk, .string ft] true)) (hbj : b ≠ j)
    {E : Env} (hE : EnvLe [(11, .slice none 0 0), (10, .pointer (some ⟨j, (n - 1).toNat * 3, none⟩)), (6, .pointer (some ⟨b, 0, none⟩)), (1, .int .i64 n), (0, .pointer (some ⟨i, 0, none⟩))] E) :
    ∃ E1 v g1 t1, EnvLe [(11, v), (0, .pointer (some ⟨i, 0, none⟩))] E1 ∧ CRun Try.prog 118 false (partC Try.f14 [1, 1, 1, 1, 1, 1, 0]) E g .normal E1 g1 ∧ WAt g1 i j t1 (followF w n fk x).1 ∧ (∃ b, g.length ≤ b ∧ (∀ q, t1 = some q → q < b) ∧ OrdAt g1 b v (followF w n fk x).2) ∧ Keep (fpW i j t) g g1 ∧
      (∀ q, t1 = some q → t = some q ∨ g.length ≤ q) := by
  have n8 := hw.n8
  have hlc := svC_len w.svs
  obtain ⟨g1, g2, g3⟩ := svC_get hx
  have hk := get_lt' hx
  have htl : ∀ q, t = some q → q < g.length := fun q e => a.lts q (.inr (.inr e))
  have hset : ∀ s : Int, setSt w.svs n s = w.svs.set (n - 1).toNat { x with state := s } := fun s => by simp only [setSt, hx]
  have aS : ∀ s : Int, WAt (g.set j (.cells (svC (setSt w.svs n s)) true)) i j t { w with svs := setSt w.svs n s } := fun s => a.put (Keep.set (fp := fun q => q = j) rfl _) (fun q _ e => .inl e) (get_set_eq a.svs) (setSt_len _ _ _)
  have KS : ∀ s : Int, Keep (fpW i j t) g (g.set j (.cells (svC (setSt w.svs n s)) true)) := fun s => Keep.set (fp := fpW i j t) (.inr (.inl rfl)) _
  have stS' : ∀ s : Int, (Asm.st (.is g) j ((n - 1).toNat * 3 + 1) [.int .i64 s] (svC (setSt w.svs n s))).holds Try.prog := fun s => a_st a.svs (by rw [hlc]; simp; omega) (by rw [hset]; exact svC_state s hx)
  have wS : ∀ s : Int, WOk { w with svs := setSt w.svs n s } := fun s => ⟨by simp only [setSt_len]; exact hw.n1, by simp only [setSt_len]; exact hw.n8, hw.most, hw.within, hw.base, hw.cap, hw.now, hw.delay, hw.times, hw.rule⟩
  unfold followF
  by_cases cg : w.given = true
  · rw [if_pos cg]
    have hgv : (wCells w j t)[10]? = some (.bool true) := by simp [wCells, cg]
    obtain ⟨E2, q1, q2⟩ := pvC 0 hE (w8p.sw_given i j b ((n - 1).toNat * 3) n 0 0 0 ft (svC (setSt w.svs n 5)) .nilFunc g g) ⟨a_ld1 a.obj hgv, stS' 5, trivial⟩
    exact ⟨E2, _, _, t, .trans (.add (.add (.nil _) rfl) rfl) q1, q2, aS 5, ⟨g.length, Nat.le_refl _, htl, .inl ⟨rfl, rfl⟩⟩, KS 5, fun q e => .inl e⟩
  · rw [if_neg cg]
    have hgv : (wCells w j t)[10]? = some (.bool false) := by simp [wCells, Bool.eq_false_iff.2 cg]
    by_cases c2 : x.state = 2
    · rw [if_pos c2]
      obtain ⟨v, h', r1, r2, r3, r4⟩ := begin_run (aS 3) (wS 3)
      obtain ⟨E2, q1, q2⟩ := pvC 0 hE (w8p.sw_stop i j b ((n - 1).toNat * 3) n x.state 0 0 ft (svC (setSt w.svs n 3)) v g h') ⟨a_ld1 a.obj hgv, a_ld1 a.svs g2, by simpa [Asm.holds, cmpB] using c2, stS' 3, r1, trivial⟩
      refine ⟨E2, v, h', t, .trans (.add (.add (.nil _) rfl) rfl) q1, q2, r2, ⟨g.length, Nat.le_refl _, htl, r3.base (by simp)⟩, (KS 3).trans (r4.mono fun q _ e => ?_), fun q e => .inl e⟩
      rcases e with e | e
      · exact .inl e
      · exact .inr (.inl e)
    · rw [if_neg c2]
      have f2 : (Asm.cmp .eql x.state 2 false).holds Try.prog := by simpa [Asm.holds, cmpB] using c2
      by_cases c3 : x.when = 3
      · rw [if_pos (.inl c3)]
        obtain ⟨E2, q1, q2⟩ := pvC 0 hE (w8p.sw_never i j b ((n - 1).toNat * 3) n x.state x.when 0 ft (svC (setSt w.svs n 5)) .nilFunc g g) ⟨a_ld1 a.obj hgv, a_ld1 a.svs g2, f2, a_ld1 a.svs g1, by simpa [Asm.holds, cmpB] using c3, stS' 5, trivial⟩
        exact ⟨E2, _, _, t, .trans (.add (.add (.nil _) rfl) rfl) q1, q2, aS 5, ⟨g.length, Nat.le_refl _, htl, .inl ⟨rfl, rfl⟩⟩, KS 5, fun q e => .inl e⟩
      · have f3 : (Asm.cmp .eql x.when 3 false).holds Try.prog := by simpa [Asm.holds, cmpB] using c3
        by_cases c4 : x.when = 2
        · have f4 : (Asm.cmp .eql x.when 2 true).holds Try.prog := by simpa [Asm.holds, cmpB] using c4
          by_cases c5 : fk = 1
          · rw [if_neg (by simp [c3, c5])]
            obtain ⟨v, h', t', r1, r2, r3, r4, r5⟩ := again_run a hw ht hn
            obtain ⟨E2, q1, q2⟩ := pvC 0 hE (w8p.sw_throw i j b ((n - 1).toNat * 3) n x.state x.when fk ft [] v g h') ⟨a_ld1 a.obj hgv, a_ld1 a.svs g2, f2, a_ld1 a.svs g1, f3, a_ld1 a.svs g1, f4, a_ld1 hb rfl, by simp [Asm.holds, cmpB, c5], r1, trivial⟩
            exact ⟨E2, v, h', t', .trans (.add (.add (.nil _) rfl) rfl) q1, q2, r2, r3, r4, fun q e => .inr (r5 q e)⟩
          · rw [if_pos (.inr ⟨c4, c5⟩)]
            obtain ⟨E2, q1, q2⟩ := pvC 0 hE (w8p.sw_fail i j b ((n - 1).toNat * 3) n x.state x.when fk ft (svC (setSt w.svs n 5)) .nilFunc g g) ⟨a_ld1 a.obj hgv, a_ld1 a.svs g2, f2, a_ld1 a.svs g1, f3, a_ld1 a.svs g1, f4, a_ld1 hb rfl, by simpa [Asm.holds, cmpB] using c5, stS' 5, trivial⟩
            exact ⟨E2, _, _, t, .trans (.add (.add (.nil _) rfl) rfl) q1, q2, aS 5, ⟨g.length, Nat.le_refl _, htl, .inl ⟨rfl, rfl⟩⟩, KS 5, fun q e => .inl e⟩
        · rw [if_neg (by simp [c3, c4])]
          obtain ⟨v, h', t', r1, r2, r3, r4, r5⟩ := again_run a hw ht hn
          obtain ⟨E2, q1, q2⟩ := pvC 0 hE (w8p.sw_again i j b ((n - 1).toNat * 3) n x.state x.when fk ft [] v g h') ⟨a_ld1 a.obj hgv, a_ld1 a.svs g2, f2, a_ld1 a.svs g1, f3, a_ld1 a.svs g1, by simpa [Asm.holds, cmpB] using c4, r1, trivial⟩
          exact ⟨E2, v, h', t', .trans (.add (.add (.nil _) rfl) rfl) q1, q2, r2, r3, r4, fun q e => .inr (r5 q e)⟩

theorem followF_len (hw : WOk w) (n fk : Int) (x : Sv) : (followF w n fk x).2.length ≤ 100 := by
  have n8 := hw.n8
  unfold followF
  split
  · simp
  · split
    · have := beginF_len { w with svs := setSt w.svs n 3 }
      simp only [setSt_len] at this
      omega
    · split
      · simp
      · unfold againF
        split
        · have := stO_len (fun _ => true) 0 (gave (timed w) n).svs
          have e : (gave (timed w) n).svs.length = w.svs.length := by simp [gave, mS_len, setSt_len, timed]
          simp only [giveUpF, List.length_cons]
          omega
        · have h1 := stO_len (nameP w n) 0 (off1 w n).svs
          have h2 := beginF_len (off3 w n)
          rw [off1_len] at h1
          rw [off3_len] at h2
          simp only [List.length_append]
          omega

theorem ended_run (hT : TextRun) (a : WAt h i j t w) (hw : WOk w) (ht : w.times.length < 10000) (n fk now : Int) (ft : ByteArray) :
    ∃ v h' t', Run Try.prog 14 [.pointer (some ⟨i, 0, none⟩), .int .i64 n, .agg #[.int .i64 fk, .string ft], .int .i64 now] h (.tuple #[v, .int .i64 (endedF w n fk ft now).2.2]) h' ∧ WAt h' i j t' (endedF w n fk ft now).1 ∧
      (∃ b, h.length ≤ b ∧ (∀ q, t' = some q → q < b) ∧ OrdAt h' b v (endedF w n fk ft now).2.1) ∧ Keep (fpW i j t) h h' ∧ (∀ q, t' = some q → t = some q ∨ h.length ≤ q) := by
  have n8 := hw.n8
  have hil := get_lt a.obj
  have hjl := get_lt a.svs
  have htl : ∀ q, t = some q → q < h.length := fun q e => a.lts q (.inr (.inr e))
  have a0 := a.app [AObj.cells [.int .i64 fk, .string ft] true]
  have hl := late_run a0 now
  have K0 : Keep (fpW i j t) h (h ++ [AObj.cells [.int .i64 fk, .string ft] true]) := Keep.push _ _ _
  by_cases c : lateB w now = true
  · have e : endedF w n fk ft now = (w, [], 2) := by simp [endedF, c]
    rw [e]
    unfold lateB at c
    rw [c] at hl
    exact ⟨_, _, t, pvF 0 Try.func14 (w8p.en_late i j 0 h.length 0 n 0 now fk 0 ft h h) ⟨rfl, hl, trivial⟩, a0, ⟨h.length, Nat.le_refl _, htl, .inl ⟨rfl, rfl⟩⟩, K0, fun q e => .inl e⟩
  · have c' : lateB w now = false := by simpa using c
    have c2 := c'
    unfold lateB at c2
    rw [c2] at hl
    have hf := fault_run hT (h ++ [AObj.cells [.int .i64 fk, .string ft] true]) fk ft
    have K1 : Keep (fpW i j t) h (h ++ [AObj.cells [.int .i64 fk, .string ft] true] ++ [AObj.cells [.int .i64 fk, .string ft] true]) := K0.trans (Keep.push _ _ _)
    have a1 := a0.app [AObj.cells [.int .i64 fk, .string ft] true]
    have ldb := a_ldn (P := Try.prog) (s := .push (.is h) (.cells [.int .i64 fk, .string ft] true)) (d := 0) (k := 2) (l := [.int .i64 fk, .string ft]) (get_new h _) (by simp) rfl
    by_cases cf : faultB fk ft = true
    · rw [cf] at hf
      by_cases d1 : n < 1
      · have e : endedF w n fk ft now = (w, [], 6) := by simp [endedF, c', cf, svAt, show ¬ (1 ≤ n ∧ n ≤ w.svs.length) by omega]
        rw [e]
        exact ⟨_, _, t, pvF 0 Try.func14 (w8p.en_low i j 0 h.length 0 n 0 now fk 0 ft h _) ⟨rfl, hl, ldb, hf, by simpa [Asm.holds, cmpB] using d1, trivial⟩, a1, ⟨h.length, Nat.le_refl _, htl, .inl ⟨rfl, rfl⟩⟩, K1, fun q e => .inl e⟩
      · have f1 : (Asm.cmp .lss n 1 false).holds Try.prog := by simpa [Asm.holds, cmpB] using d1
        by_cases d2 : n > w.svs.length
        · have e : endedF w n fk ft now = (w, [], 6) := by simp [endedF, c', cf, svAt, show ¬ (1 ≤ n ∧ n ≤ w.svs.length) by omega]
          rw [e]
          exact ⟨_, _, t, pvF 0 Try.func14 (w8p.en_high i j w.svs.length h.length 0 n 0 now fk 0 ft h _) ⟨rfl, hl, ldb, hf, f1, a_ld1 a1.obj rfl, by simpa [Asm.holds, cmpB] using d2, trivial⟩, a1, ⟨h.length, Nat.le_refl _, htl, .inl ⟨rfl, rfl⟩⟩, K1, fun q e => .inl e⟩
        · have hn : 1 ≤ n ∧ n ≤ w.svs.length := by omega
          have hk : (n - 1).toNat < w.svs.length := by omega
          obtain ⟨x, hx⟩ : ∃ x, w.svs[(n - 1).toNat]? = some x := ⟨_, List.getElem?_eq_getElem hk⟩
          obtain ⟨g1, g2, g3⟩ := svC_get hx
          have ar : IntKind.i64.wrap (n - 1) = n - 1 := wrap_id (by omega) (by omega)
          have hsv : svAt w n = some x := by simp only [svAt, if_pos hn, hx]
          have f2 : (Asm.cmp .gtr n (Int.ofNat w.svs.length) false).holds Try.prog := by simpa [Asm.holds, cmpB] using d2
          have f3 : (Asm.arith .sub .i64 n 1 (n - 1)).holds Try.prog := by simp only [Asm.holds, arithI, ar]
          have f4 : (Asm.off ((n - 1).toNat * 3) 0 (n - 1) w.svs.length 3).holds Try.prog := ⟨by omega, by omega, by omega⟩
          by_cases d3 : x.state = 1 ∨ x.state = 2
          · -- it ends
            have e : endedF w n fk ft now = ((doneF (followF { w with now := now } n fk x)).1, (doneF (followF { w with now := now } n fk x)).2, 0) := by simp [endedF, c', cf, hsv, d3]
            rw [e]
            have a2 := a1.nowSet now
            have hnw : 0 ≤ now ∧ now ≤ 1000000000000 := by
              simp [lateB] at c'; have := hw.now; omega
            have hwn : WOk { w with now := now } := ⟨hw.n1, hw.n8, hw.most, hw.within, hw.base, hw.cap, hnw, hw.delay, hw.times, hw.rule⟩
            have st1 := a_st (P := Try.prog) (s := .is (h ++ [AObj.cells [.int .i64 fk, .string ft] true] ++ [AObj.cells [.int .i64 fk, .string ft] true])) (d := 7) (l := [.int .i64 now]) (c' := wCells { w with now := now } j t) a1.obj (by simp [wCells]) rfl
            have hpre : ∃ E2, EnvLe [(11, .slice none 0 0), (10, .pointer (some ⟨j, (n - 1).toNat * 3, none⟩)), (6, .pointer (some ⟨h.length, 0, none⟩)), (1, .int .i64 n), (0, .pointer (some ⟨i, 0, none⟩))] E2 ∧
                CRun Try.prog 118 false (.seq (partC Try.f14 [0]) (.seq (partC Try.f14 [1, 0]) (.seq (partC Try.f14 [1, 1, 0]) (.seq (partC Try.f14 [1, 1, 1, 0]) (.seq (partC Try.f14 [1, 1, 1, 1, 0]) (partC Try.f14 [1, 1, 1, 1, 1, 0])))))) (enterE 0 [.pointer (some ⟨i, 0, none⟩), .int .i64 n, .agg #[.int .i64 fk, .string ft], .int .i64 now]) h .normal E2
                ((h ++ [AObj.cells [.int .i64 fk, .string ft] true] ++ [AObj.cells [.int .i64 fk, .string ft] true]).set i (.cells (wCells { w with now := now } j t) true)) := by
              by_cases d4 : x.state = 1
              · obtain ⟨E2, q1, q2⟩ := pvC 0 (EnvLe.refl _) (w8p.en_run i j w.svs.length h.length ((n - 1).toNat * 3) n (n - 1) now fk x.state ft h _ (wCells { w with now := now } j t))
                  ⟨rfl, hl, ldb, hf, f1, a_ld1 a1.obj rfl, f2, a_ld1 a1.obj rfl, f3, f4, a_ld1 a1.svs g2, by simpa [Asm.holds, cmpB] using d4, st1, a_ld1 a2.obj rfl, f3, f4, trivial⟩
                exact ⟨E2, .trans (.add (.add (.add (.add (.add (.nil _) rfl) rfl) rfl) rfl) rfl) q1, q2⟩
              · have d5 : x.state = 2 := by rcases d3 with d | d; exact absurd d d4; exact d
                obtain ⟨E2, q1, q2⟩ := pvC 0 (EnvLe.refl _) (w8p.en_stp i j w.svs.length h.length ((n - 1).toNat * 3) n (n - 1) now fk x.state ft h _ (wCells { w with now := now } j t))
                  ⟨rfl, hl, ldb, hf, f1, a_ld1 a1.obj rfl, f2, a_ld1 a1.obj rfl, f3, f4, a_ld1 a1.svs g2, by simpa [Asm.holds, cmpB] using d4, a_ld1 a1.obj rfl, f3, f4, a_ld1 a1.svs g2, by simpa [Asm.holds, cmpB] using d5, st1, a_ld1 a2.obj rfl, f3, f4, trivial⟩
                exact ⟨E2, .trans (.add (.add (.add (.add (.add (.nil _) rfl) rfl) rfl) rfl) rfl) q1, q2⟩
            obtain ⟨E2, hE2, c1⟩ := hpre
            have K2 : Keep (fpW i j t) h ((h ++ [AObj.cells [.int .i64 fk, .string ft] true] ++ [AObj.cells [.int .i64 fk, .string ft] true]).set i (.cells (wCells { w with now := now } j t) true)) := K1.trans (Keep.set (fp := fpW i j t) (.inl rfl) _)
            have hb : ((h ++ [AObj.cells [.int .i64 fk, .string ft] true] ++ [AObj.cells [.int .i64 fk, .string ft] true]).set i (.cells (wCells { w with now := now } j t) true))[h.length]? = some (.cells [.int .i64 fk, .string ft] true) := get_set_ne (get_push (get_new h _)) (by omega)
            obtain ⟨E3, v, g3', t3, hE3, c3, a3, ⟨bo, hbo1, hbo2, o3⟩, K3, ht3⟩ := switch_run a2 hwn ht hn hx hb (by omega) hE2
            have hw3 := (hwn.follow ht n fk x).1
            obtain ⟨W2, hW2⟩ : ∃ W2, followF { w with now := now } n fk x = W2 := ⟨_, rfl⟩
            have hlen := followF_len hwn n fk x
            rw [hW2] at a3 o3 hw3 hlen ⊢
            have ho : (g3' ++ [AObj.cells (iC [1, 2, 3, 4]) true])[g3'.length]? = some (.cells (iC [1, 2, 3, 4]) true) := get_new _ _
            obtain ⟨os, hany⟩ := any_run (a3.app [AObj.cells (iC [1, 2, 3, 4]) true]) hw3 ho (by simp)
            have K4 : Keep (fpW i j t) h (g3' ++ [AObj.cells (iC [1, 2, 3, 4]) true] ++ os) := ((K2.trans K3).trans (Keep.push _ _ _)).trans (Keep.app _ _ _)
            have hh3 : h.length ≤ ((h ++ [AObj.cells [.int .i64 fk, .string ft] true] ++ [AObj.cells [.int .i64 fk, .string ft] true]).set i (.cells (wCells { w with now := now } j t) true)).length := K2.1
            have a4 := (a3.app [AObj.cells (iC [1, 2, 3, 4]) true]).app os
            have Kn : Keep (fun _ => False) g3' (g3' ++ [AObj.cells (iC [1, 2, 3, 4]) true] ++ os) := (Keep.push _ _ _).trans (Keep.app _ _ _)
            have hbh : h.length ≤ bo := Nat.le_trans hh3 hbo1
            have o4 : OrdAt (g3' ++ [AObj.cells (iC [1, 2, 3, 4]) true] ++ os) bo v W2.2 := o3.keep Kn (fun q _ _ e => e)
            let h3l : Nat := g3'.length
            have hh3l : h.length ≤ h3l := (K2.trans K3).1
            have ht3l : ∀ q, t3 = some q → q < h3l := fun q e => a3.lts q (.inr (.inr e))
            have ht4 : ∀ q, t3 = some q → t = some q ∨ h.length ≤ q := fun q e => by rcases ht3 q e with e | e; exact .inl e; exact .inr (by omega)
            have fin : ∀ {E6 : Env} {h' : Hp} {v' : Value}, CRun Try.prog 118 false (partC Try.f14 [1, 1, 1, 1, 1, 1, 1]) E3 g3' .ret E6 h' → Go.Ev.look E6 8 = some v' → Go.Ev.look E6 9 = some (.int .i64 0) →
                Run Try.prog 14 [.pointer (some ⟨i, 0, none⟩), .int .i64 n, .agg #[.int .i64 fk, .string ft], .int .i64 now] h (.tuple #[v', .int .i64 0]) h' := fun c6 e8 e9 =>
              Run.code Try.func14 body14 (.inr rfl) (c1.thenC (c3.seq c6)) (evResults_two rfl e8 e9)
            by_cases z : (W2.1.svs.any fun x => [1, 2, 3, 4].contains x.state) = true
            · have hov : overOf W2.1 = false := by unfold overOf; rw [z]; rfl
              rw [z] at hany
              obtain ⟨E6, q1, q2⟩ := pvC 0 hE3 (w8p.tl_some i g3'.length v g3' _) ⟨rfl, hany, trivial⟩
              refine ⟨v, _, t3, fin q2 (q1 8 _ rfl) (q1 9 _ rfl), a4, ?_, K4, ht4⟩
              simp only [doneF, hov]; exact ⟨bo, hbh, hbo2, o4⟩
            · have hov : overOf W2.1 = true := by unfold overOf; rw [Bool.eq_false_iff.2 z]; rfl
              rw [Bool.eq_false_iff.2 z] at hany
              simp only [doneF, hov, if_true]
              rcases o4 with ⟨rfl, hnil⟩ | ⟨o, rfl, ho4, hbo, hne⟩
              · obtain ⟨E6, q1, q2⟩ := pvC 0 hE3 (w8p.tl_done0 i g3'.length _ _ g3' _) ⟨rfl, hany, rfl, a_app3n (l2 := [⟨4, 0, 0⟩]) (get_new _ _) (by simp) (by simp) rfl, trivial⟩
                rw [hnil]
                exact ⟨_, _, t3, fin q2 (q1 8 _ rfl) (q1 9 _ rfl), (a4.app _).app _, ⟨h3l, by omega, ht3l, .inr ⟨_, rfl, get_new _ _, by simp [SH.den, h3l], by simp⟩⟩, (K4.trans (Keep.push _ _ _)).trans (Keep.push _ _ _), ht4⟩
              · have hol := get_lt ho4
                obtain ⟨E6, q1, q2⟩ := pvC 0 hE3 (w8p.tl_done1 i g3'.length _ _ o W2.2.length (svC (W2.2 ++ [⟨4, 0, 0⟩])) g3' _) ⟨rfl, hany, rfl, a_app3 (l1 := W2.2) (l2 := [⟨4, 0, 0⟩]) (get_push ho4) (get_new _ _) (by simp) (by simp; omega) rfl, trivial⟩
                have hKd : Keep (fun q => q = o) (g3' ++ [AObj.cells (iC [1, 2, 3, 4]) true] ++ os ++ [AObj.cells [.int .i64 4, .int .i64 0, .int .i64 0] true]) (((g3' ++ [AObj.cells (iC [1, 2, 3, 4]) true] ++ os ++ [AObj.cells [.int .i64 4, .int .i64 0, .int .i64 0] true]).set o .dead) ++ [AObj.cells (svC (W2.2 ++ [⟨4, 0, 0⟩])) true]) :=
                  (Keep.set (fp := fun q => q = o) rfl _).trans (Keep.push _ _ _)
                have Kp : Keep (fpW i j t) h (g3' ++ [AObj.cells (iC [1, 2, 3, 4]) true] ++ os ++ [AObj.cells [.int .i64 4, .int .i64 0, .int .i64 0] true]) := K4.trans (Keep.push _ _ _)
                refine ⟨_, _, t3, fin q2 (q1 8 _ rfl) (q1 9 _ rfl), (a4.app [AObj.cells [.int .i64 4, .int .i64 0, .int .i64 0] true]).keep hKd (fun q _ e hf => ?_), ⟨h3l, by omega, ht3l, .inr ⟨(g3' ++ [AObj.cells (iC [1, 2, 3, 4]) true] ++ os).length + 1, by simp [SH.den], get_new' _ (by simp [SH.den]; omega), by simp [h3l]; omega, by simp⟩⟩, Kp.trans_new hKd (fun q hq e => by omega), ht4⟩
                subst e
                rcases hf with r | r | r
                · omega
                · omega
                · have := hbo2 _ r; omega
          · have e : endedF w n fk ft now = (w, [], 6) := by simp [endedF, c', cf, hsv, d3]
            rw [e]
            have d4 : ¬ x.state = 1 := fun e => d3 (.inl e)
            have d5 : ¬ x.state = 2 := fun e => d3 (.inr e)
            exact ⟨_, _, t, pvF 0 Try.func14 (w8p.en_none i j w.svs.length h.length ((n - 1).toNat * 3) n (n - 1) now fk x.state ft h _) ⟨rfl, hl, ldb, hf, f1, a_ld1 a1.obj rfl, f2, a_ld1 a1.obj rfl, f3, f4, a_ld1 a1.svs g2, by simpa [Asm.holds, cmpB] using d4,
              a_ld1 a1.obj rfl, f3, f4, a_ld1 a1.svs g2, by simpa [Asm.holds, cmpB] using d5, trivial⟩, a1, ⟨h.length, Nat.le_refl _, htl, .inl ⟨rfl, rfl⟩⟩, K1, fun q e => .inl e⟩
    · have cf' : faultB fk ft = false := by simpa using cf
      have e : endedF w n fk ft now = (w, [], 2) := by simp [endedF, cf']
      rw [e]
      rw [cf'] at hf
      exact ⟨_, _, t, pvF 0 Try.func14 (w8p.en_bad i j 0 h.length 0 n 0 now fk 0 ft h _) ⟨rfl, hl, ldb, hf, trivial⟩, a1, ⟨h.length, Nat.le_refl _, htl, .inl ⟨rfl, rfl⟩⟩, K1, fun q e => .inl e⟩

end Go.Proofs.Ytkkhokgpcifckaa.wd

namespace Go.Proofs.Ytkkhokgpcifckaa.wd
open Go Go.Ev

theorem byte_at {s : ByteArray} {k : Nat} (hk : k < s.size) : s[k]? = some (s.data.toList[k]'(by simpa using hk)) := by
  rw [getElem?_pos s k hk]; rfl

def okB (b : UInt8) : Bool := decide (32 ≤ b.toNat) && decide (b.toNat ≤ 126)

theorem text_run : TextRun := by
  intro g s
  by_cases hl : s.size ≤ 60
  · have f0 : (Asm.cmp .gtr (Int.ofNat s.size) 60 false).holds Try.prog := by simp [Asm.holds, cmpB]; omega
    have hlen : s.data.toList.length = s.size := Array.length_toList
    have body : ∀ (k : Nat) (E : Env), k < s.size → EnvLe [(9, .int .i64 k), (8, .int .i64 (Int.ofNat s.size)), (0, .string s)] E → ∀ b, s.data.toList[k]? = some b →
        (okB b = true → ∃ E1, EnvLe [(9, .int .i64 ((k + 1 : Nat) : Int)), (8, .int .i64 (Int.ofNat s.size)), (0, .string s)] E1 ∧ CRun Try.prog 23 false (loopN Try.f44 0) E g .normal E1 g) ∧
        (okB b = false → ∃ E1, EnvLe [(2, .bool false)] E1 ∧ CRun Try.prog 23 false (loopN Try.f44 0) E g .ret E1 g) := by
      intro k E hk hE b hb
      have hat : s[k]? = some b := by rw [byte_at hk, ← hb, List.getElem?_eq_getElem]
      have f1 : (Asm.cmp .lss (k : Int) (Int.ofNat s.size) true).holds Try.prog := by simp [Asm.holds, cmpB]; omega
      have f2 : (Asm.sidx s k b.toNat).holds Try.prog := ⟨by omega, b, by simpa using hat, rfl⟩
      refine ⟨fun ho => ?_, fun ho => ?_⟩
      · simp [okB] at ho
        obtain ⟨E2, q1, q2⟩ := pvC 0 hE (w9p.tx_go s k (Int.ofNat s.size) g b.toNat ((k + 1 : Nat) : Int)) ⟨f1, f2, by simp [Asm.holds, cmpB]; omega, f2, by simp [Asm.holds, cmpB]; omega, by simp only [Asm.holds, arithI, add1 (show k < 1000000000000 by omega)], trivial⟩
        exact ⟨E2, .trans (.add (.add (.add (.nil _) rfl) rfl) rfl) q1, q2⟩
      · by_cases h1 : b.toNat < 32
        · obtain ⟨E2, q1, q2⟩ := pvC 0 hE (w9p.tx_low s k (Int.ofNat s.size) g b.toNat) ⟨f1, f2, by simp [Asm.holds, cmpB]; omega, trivial⟩
          exact ⟨E2, .trans (.add (.nil _) rfl) q1, q2⟩
        · have h2 : 126 < b.toNat := by simp [okB] at ho; omega
          obtain ⟨E2, q1, q2⟩ := pvC 0 hE (w9p.tx_high s k (Int.ofNat s.size) g b.toNat) ⟨f1, f2, by simp [Asm.holds, cmpB]; omega, f2, by simp [Asm.holds, cmpB]; omega, trivial⟩
          exact ⟨E2, .trans (.add (.nil _) rfl) q1, q2⟩
    have pl : plainC (loopN Try.f44 0) = true := by kernel_rfl
    by_cases hall : s.data.toList.all okB = true
    · have e : textB s = true := by
        have : (s.data.toList.all fun b => decide (32 ≤ b.toNat) && decide (b.toNat ≤ 126)) = true := hall
        simp only [textB, this, decide_eq_true hl, Bool.and_self]
      rw [e]
      obtain ⟨x', E1, h1, hl1, rfl, rfl⟩ := loop_inv (P := Try.prog) (n := 23) (rd := false) (b := loopN Try.f44 0) (Q := fun x' _ h1 => x' = .exit 0 ∧ g = h1)
        (fun m E g' => ∃ k : Nat, k ≤ s.size ∧ m = s.size - k ∧ EnvLe [(9, .int .i64 k), (8, .int .i64 (Int.ofNat s.size)), (0, .string s)] E ∧ g = g')
        (fun m E g' ⟨k, k1, k2, k3, k4⟩ => by
          subst k4
          by_cases ek : k = s.size
          · right
            obtain ⟨E2, q1, q2⟩ := pvC 0 k3 (w9p.tx_end s k (Int.ofNat s.size) g) ⟨by simp [Asm.holds, cmpB]; omega, trivial⟩
            exact ⟨_, E2, _, by simp, q2, rfl, rfl⟩
          · left
            obtain ⟨b, hb⟩ : ∃ b, s.data.toList[k]? = some b := ⟨_, List.getElem?_eq_getElem (by omega)⟩
            obtain ⟨E2, q1, q2⟩ := (body k E (by omega) k3 b hb).1 (List.all_eq_true.1 hall b (List.mem_of_getElem? hb))
            exact ⟨s.size - (k + 1), E2, _, by omega, q2, k + 1, by omega, rfl, q1, rfl⟩)
        s.size [(9, .int .i64 ((0 : Nat) : Int)), (8, .int .i64 (Int.ofNat s.size)), (0, .string s)] g ⟨0, by omega, rfl, EnvLe.refl _, rfl⟩
      exact pvF 0 Try.func44 (w9p.tx_yes s g) ⟨f0, a_loop pl (.add (.add (.add (.nil _) rfl) rfl) rfl) (.nil _) hl1, trivial⟩
    · have e : textB s = false := by
        have : (s.data.toList.all fun b => decide (32 ≤ b.toNat) && decide (b.toNat ≤ 126)) = false := Bool.eq_false_iff.2 hall
        simp only [textB, this, Bool.and_false]
      rw [e]
      obtain ⟨k0, hk0, hmin⟩ : ∃ k0, (∃ b, s.data.toList[k0]? = some b ∧ okB b = false) ∧ ∀ m b, m < k0 → s.data.toList[m]? = some b → okB b = true := by
        have hlt : s.data.toList.findIdx (fun b => !okB b) < s.data.toList.length := by
          rw [List.findIdx_lt_length]
          obtain ⟨b, hb, hn⟩ : ∃ b ∈ s.data.toList, okB b = false := by
            obtain ⟨b, hb, hn⟩ := List.all_eq_false.1 (Bool.eq_false_iff.2 hall)
            exact ⟨b, hb, by simpa using hn⟩
          exact ⟨b, hb, by simp [hn]⟩
        refine ⟨s.data.toList.findIdx (fun b => !okB b), ⟨_, List.getElem?_eq_getElem hlt, ?_⟩, fun m b hm hb => ?_⟩
        · have := List.findIdx_getElem (w := hlt); simpa using this
        · have h1 := List.not_of_lt_findIdx hm
          rw [List.getElem?_eq_getElem (by omega)] at hb
          simp only [Option.some.injEq] at hb
          rw [hb] at h1
          simpa using h1
      obtain ⟨b0, hb0, hn0⟩ := hk0
      have hk0l := get_lt' hb0
      obtain ⟨x', E1, h1, hl1, rfl, hE1, rfl⟩ := loop_inv (P := Try.prog) (n := 23) (rd := false) (b := loopN Try.f44 0) (Q := fun x' E1 h1 => x' = .ret ∧ EnvLe [(2, .bool false)] E1 ∧ g = h1)
        (fun m E g' => ∃ k : Nat, k ≤ k0 ∧ m = k0 - k ∧ EnvLe [(9, .int .i64 k), (8, .int .i64 (Int.ofNat s.size)), (0, .string s)] E ∧ g = g')
        (fun m E g' ⟨k, k1, k2, k3, k4⟩ => by
          subst k4
          by_cases ek : k = k0
          · right
            subst ek
            obtain ⟨E2, q1, q2⟩ := (body k E (by omega) k3 b0 hb0).2 hn0
            exact ⟨_, E2, _, by simp, q2, rfl, q1, rfl⟩
          · left
            obtain ⟨b, hb⟩ : ∃ b, s.data.toList[k]? = some b := ⟨_, List.getElem?_eq_getElem (by omega)⟩
            obtain ⟨E2, q1, q2⟩ := (body k E (by omega) k3 b hb).1 (hmin k b (by omega) hb)
            exact ⟨k0 - (k + 1), E2, _, by omega, q2, k + 1, by omega, rfl, q1, rfl⟩)
        k0 [(9, .int .i64 ((0 : Nat) : Int)), (8, .int .i64 (Int.ofNat s.size)), (0, .string s)] g ⟨0, by omega, rfl, EnvLe.refl _, rfl⟩
      exact pvF 0 Try.func44 (w9p.tx_no s g) ⟨f0, a_loop pl (.add (.add (.add (.nil _) rfl) rfl) rfl) hE1 hl1, trivial⟩
  · have e : textB s = false := by simp [textB, hl]
    rw [e]
    exact pvF 0 Try.func44 (w9p.tx_long s g) ⟨by simp [Asm.holds, cmpB]; omega, trivial⟩

end Go.Proofs.Ytkkhokgpcifckaa.wd

namespace Go.Proofs.Ytkkhokgpcifckaa.wd
open Go Go.Ev

variable {h : Hp} {i j : Nat} {t : Option Nat} {w : WS}

/-! ### A call of the law's -/

structure OpV where
  kind : Int
  n : Int
  at' : Int
  fk : Int
  ft : ByteArray

def OpV.cells (o : OpV) : List Value := [.int .i64 o.kind, .int .i64 o.n, .int .i64 o.at', .int .i64 o.fk, .string o.ft]

def runF (w : WS) (o : OpV) : WS × List Sv := if o.kind = 0 then ((endedF w o.n o.fk o.ft o.at').1, (endedF w o.n o.fk o.ft o.at').2.1) else ((startedF w o.n o.at').1, [])

end Go.Proofs.Ytkkhokgpcifckaa.wd

namespace Go.Proofs.Ytkkhokgpcifckaa.wd
open Go Go.Ev

variable {w : WS}

theorem begin_times (w : WS) : (beginF w).1.times = w.times := by unfold beginF; split <;> rfl
theorem again_times (w : WS) (n : Int) : (againF w n).1.times = w.times ++ [w.now] := by
  unfold againF
  split
  · rfl
  · rw [begin_times]; rfl
theorem follow_times (w : WS) (n fk : Int) (x : Sv) : (followF w n fk x).1.times = w.times ∨ (followF w n fk x).1.times = w.times ++ [w.now] := by
  unfold followF
  split
  · exact .inl rfl
  · split
    · exact .inl (begin_times _)
    · split
      · exact .inl rfl
      · exact .inr (again_times _ _)

theorem WOk.ended (hw : WOk w) (ht : w.times.length < 10000) (n fk : Int) (ft : ByteArray) (now : Int) :
    WOk (endedF w n fk ft now).1 ∧ (endedF w n fk ft now).1.svs.length = w.svs.length ∧ (endedF w n fk ft now).1.times.length ≤ w.times.length + 1 := by
  unfold endedF
  split
  · exact ⟨hw, rfl, by simp⟩
  · rename_i hc
    split
    · exact ⟨hw, rfl, by simp⟩
    · rename_i x hx
      split
      · have hnw : 0 ≤ now ∧ now ≤ 1000000000000 := by
          simp [lateB] at hc; have := hw.now; omega
        have hwn : WOk { w with now := now } := ⟨hw.n1, hw.n8, hw.most, hw.within, hw.base, hw.cap, hnw, hw.delay, hw.times, hw.rule⟩
        obtain ⟨h1, h2⟩ := hwn.follow ht n fk x
        refine ⟨h1, h2, ?_⟩
        rcases follow_times { w with now := now } n fk x with e | e
        · simp only [doneF, e]; omega
        · simp only [doneF, e, List.length_append, List.length_cons, List.length_nil]; omega
      · exact ⟨hw, rfl, by simp⟩

theorem WOk.started (hw : WOk w) (n now : Int) : WOk (startedF w n now).1 ∧ (startedF w n now).1.svs.length = w.svs.length ∧ (startedF w n now).1.times = w.times := by
  unfold startedF
  split
  · exact ⟨hw, rfl, rfl⟩
  · rename_i hc
    split
    · exact ⟨hw, rfl, rfl⟩
    · split
      · split
        · exact ⟨hw, rfl, rfl⟩
        · have hnw : 0 ≤ now ∧ now ≤ 1000000000000 := by
            simp [lateB] at hc; have := hw.now; omega
          exact ⟨⟨by simp only [putSv_len]; exact hw.n1, by simp only [putSv_len]; exact hw.n8, hw.most, hw.within, hw.base, hw.cap, hnw, hw.delay, hw.times, hw.rule⟩, putSv_len _ _ _, rfl⟩
      · exact ⟨hw, rfl, rfl⟩

end Go.Proofs.Ytkkhokgpcifckaa.wd

namespace Go.Proofs.Ytkkhokgpcifckaa.wd
open Go Go.Ev

theorem awake_run (h : Hp) : Run Try.prog 12 [] h (.bool true) h := Run.of_ev (k := 40) (by kernel_rfl)

end Go.Proofs.Ytkkhokgpcifckaa.wd

namespace Go.Proofs.Ytkkhokgpcifckaa.wd
open Go Go.Ev

variable {h : Hp}

/-! ### Clone -/

theorem iC_ones : ∀ l : List Int, (iC l).all Value.oneCell' = true
  | [] => rfl
  | x :: l => by simp only [iC, List.map_cons, List.all_cons]; exact iC_ones l

theorem clone35_run {o : Nat} {l : List Sv} {rw : Bool} (ho : h[o]? = some (.cells (svC l) rw)) (hn : l ≠ []) (hb : l.length ≤ 1000) :
    ∃ d h', Run Try.prog 35 [.slice (some ⟨o, 0, none⟩) l.length 3] h (.slice (some ⟨d, 0, none⟩) l.length 3) h' ∧ h'[d]? = some (.cells (svC l) true) ∧ h.length ≤ d ∧ Keep (fun _ => False) h h' := by
  have hol := get_lt ho
  have hp := a_app3 (P := Try.prog) (s := .push (.is h) (.cells [] true)) (o1 := h.length) (o2 := o) (d := h.length + 1) (l1 := []) (l2 := l) (get_new h _) (get_push ho) hn (by simpa using hb) (by simp [SH.den])
  have hr := pvF 0 Try.func35 (w13p.cl35_some o l.length (l.length - 1) h.length (h.length + 1) (svC ([] ++ l)) (svC l) h) ⟨rfl, hp, trivial⟩
  rw [Nat.zero_add] at hr
  refine ⟨_, _, hr, get_new' _ (by simp [SH.den]), by omega, ?_⟩
  have K1 : Keep (fun q => q = h.length) (h ++ [AObj.cells [] true]) (((h ++ [AObj.cells [] true]).set h.length .dead) ++ [AObj.cells (svC ([] ++ l)) true]) := (Keep.set (fp := fun q => q = h.length) rfl _).trans (Keep.push _ _ _)
  exact (Keep.push (fun _ => False) h (AObj.cells [] true)).trans_new K1 (fun q hq e => by omega)

theorem clone36_run {o : Nat} {l : List Int} {rw : Bool} (ho : h[o]? = some (.cells (iC l) rw)) (hn : l ≠ []) (hb : l.length ≤ 1000000) :
    ∃ d h', Run Try.prog 36 [.slice (some ⟨o, 0, none⟩) l.length 1] h (.slice (some ⟨d, 0, none⟩) l.length 1) h' ∧ h'[d]? = some (.cells (iC l) true) ∧ h.length ≤ d ∧ Keep (fun _ => False) h h' := by
  have hol := get_lt ho
  have hl := iC_len l
  have hne : l.length ≠ 0 := fun e => hn (List.length_eq_zero_iff.1 e)
  have hp : (Asm.app (.push (.is h) (.cells [] true)) h.length 0 0 o 0 l.length (l.length - 1) 1 8 (iC l) (iC l) (h.length + 1)).holds Try.prog :=
    ⟨by omega, ⟨_, cells_of (get_push ho), by omega, by rw [List.drop_zero, List.take_of_length_le (by omega)]⟩, iC_ones l, by omega, by omega, ⟨_, own_of (get_new h _), by simp, by simp⟩, by simp [SH.den]⟩
  have hr := pvF 0 Try.func36 (w13p.cl36_some o l.length (l.length - 1) h.length (h.length + 1) (iC l) (iC l) h) ⟨rfl, hp, trivial⟩
  rw [Nat.zero_add] at hr
  refine ⟨_, _, hr, get_new' _ (by simp [SH.den]), by omega, ?_⟩
  have K1 : Keep (fun q => q = h.length) (h ++ [AObj.cells [] true]) (((h ++ [AObj.cells [] true]).set h.length .dead) ++ [AObj.cells (iC l) true]) := (Keep.set (fp := fun q => q = h.length) rfl _).trans (Keep.push _ _ _)
  exact (Keep.push (fun _ => False) h (AObj.cells [] true)).trans_new K1 (fun q hq e => by omega)

theorem clone36_nil : Run Try.prog 36 [.slice none 0 0] h (.slice none 0 0) h := pvF 0 Try.func36 (w13p.cl36_nil h) trivial

end Go.Proofs.Ytkkhokgpcifckaa.wd

namespace Go.Proofs.Ytkkhokgpcifckaa.wd
open Go Go.Ev

variable {h : Hp} {i j : Nat} {t : Option Nat} {w : WS}

theorem stat21 : statOk (drawN Try.f21 0) = true := by kernel_rfl
theorem agg32 : aggSize Try.prog 32 = some none := by kernel_rfl

end Go.Proofs.Ytkkhokgpcifckaa.wd

namespace Go.Proofs.Ytkkhokgpcifckaa.wd
open Go Go.Ev

variable {h : Hp}

/-! ### valid.Value, valid.Values -/

structure VV where
  k : Int
  n : Int
  s : ByteArray

def VV.cells (x : VV) : List Value := [.int .i64 x.k, .int .i64 x.n, .string x.s]
def vvC : List VV → List Value
  | [] => []
  | x :: l => .int .i64 x.k :: .int .i64 x.n :: .string x.s :: vvC l

theorem vvC_len : ∀ l : List VV, (vvC l).length = l.length * 3
  | [] => rfl
  | x :: l => by simp [vvC, vvC_len l]; omega
theorem vvC_cut : ∀ {l : List VV} {k : Nat} {x : VV}, l[k]? = some x → ((vvC l).drop (k * 3)).take 3 = x.cells
  | [], k, x, h => by simp at h
  | y :: l, 0, x, h => by simp at h; subst h; simp [vvC, VV.cells]
  | y :: l, k + 1, x, h => by
    have := vvC_cut (l := l) (k := k) (x := x) (by simpa using h)
    rw [show (k + 1) * 3 = k * 3 + 3 by omega]
    simpa [vvC] using this
theorem vvC_ones : ∀ l : List VV, (vvC l).all Value.oneCell' = true
  | [] => rfl
  | x :: l => by simp only [vvC, List.all_cons, vvC_ones l]; rfl
theorem vvC_take : ∀ (l : List VV) (n : Nat), (vvC l).take (n * 3) = vvC (l.take n)
  | [], n => by simp [vvC]
  | x :: l, 0 => by simp [vvC]
  | x :: l, n + 1 => by
    rw [show (n + 1) * 3 = n * 3 + 1 + 1 + 1 by omega]
    simp [vvC, vvC_take l n]

def emptyB (s : ByteArray) : Bool := s.toList == (⟨#[]⟩ : ByteArray).toList

def valueB (x : VV) : Bool :=
  if x.k = 0 then decide (x.n = 0) && decide (x.s.data.toList = []) else
  if x.k = 1 then emptyB x.s && (decide (x.n ≥ -1000000000000) && decide (x.n ≤ 1000000000000)) else
  if x.k = 2 then emptyB x.s && (decide (x.n = 0) || decide (x.n = 1)) else
  if x.k = 3 then decide (x.n = 0) && textB x.s else
  if x.k = 4 ∨ x.k = 5 ∨ x.k = 6 then emptyB x.s && (decide (x.n ≥ 1) && decide (x.n ≤ 1000000000000)) else false

theorem value_run (g : Hp) (x : VV) : Run Try.prog 54 [.agg x.cells.toArray] g (.bool (valueB x)) (g ++ [.cells x.cells true]) := by
  obtain ⟨k, n, s⟩ := x
  have L0 : (Asm.ld1 (.push (.is g) (.cells [.int .i64 k, .int .i64 n, .string s] true)) g.length 0 (.int .i64 k)).holds Try.prog := a_ld1 (get_new g _) rfl
  have L1 : (Asm.ld1 (.push (.is g) (.cells [.int .i64 k, .int .i64 n, .string s] true)) g.length 1 (.int .i64 n)).holds Try.prog := a_ld1 (get_new g _) rfl
  have L2 : (Asm.ld1 (.push (.is g) (.cells [.int .i64 k, .int .i64 n, .string s] true)) g.length 2 (.string s)).holds Try.prog := a_ld1 (get_new g _) rfl
  have N : ∀ c : Int, k ≠ c → (Asm.cmp .eql k c false).holds Try.prog := fun c e => by simpa [Asm.holds, cmpB] using e
  have Y : ∀ c : Int, k = c → (Asm.cmp .eql k c true).holds Try.prog := fun c e => by simpa [Asm.holds, cmpB] using e
  have S1 : ∀ b, emptyB s = b → (Asm.scmp .eql s ⟨⟨[]⟩⟩ b).holds Try.prog := fun b e => .inl ⟨rfl, e⟩
  unfold valueB
  simp only
  by_cases c0 : k = 0
  · rw [if_pos c0]
    subst c0
    obtain ⟨⟨sl⟩⟩ := s
    match n, sl with
    | .ofNat 0, [] => exact pvF 0 Try.func54 (w15p.va_unit g.length 0 0 ⟨⟨[]⟩⟩ g) ⟨rfl, L0, Y 0 rfl, a_ldn (get_new g _) (by simp) rfl, trivial⟩
    | .ofNat 0, y :: l => exact pvF 0 Try.func54 (w15p.va_unit_s g.length 0 0 ⟨⟨y :: l⟩⟩ y l g) ⟨rfl, L0, Y 0 rfl, a_ldn (get_new g _) (by simp) rfl, trivial⟩
    | .ofNat (m + 1), sl =>
      have e : decide (Int.ofNat (m + 1) = 0) = false := decide_eq_false (by intro h; cases h)
      rw [e]
      exact pvF 0 Try.func54 (w15p.va_unit_p g.length m 0 (Int.ofNat (m + 1)) ⟨⟨sl⟩⟩ g) ⟨rfl, L0, Y 0 rfl, a_ldn (get_new g _) (by simp) rfl, trivial⟩
    | .negSucc m, sl =>
      have e : decide (Int.negSucc m = 0) = false := by simp
      rw [e]
      exact pvF 0 Try.func54 (w15p.va_unit_n g.length m 0 (Int.negSucc m) ⟨⟨sl⟩⟩ g) ⟨rfl, L0, Y 0 rfl, a_ldn (get_new g _) (by simp) rfl, trivial⟩
  · rw [if_neg c0]
    by_cases c1 : k = 1
    · rw [if_pos c1]
      cases es : emptyB s with
      | false => exact pvF 0 Try.func54 (w15p.va_int0 g.length k n s false false false g) ⟨rfl, L0, N 0 c0, Y 1 c1, L2, S1 _ es, trivial⟩
      | true =>
        rw [Bool.true_and]
        by_cases d : n ≥ -1000000000000
        · rw [decide_eq_true d, Bool.true_and]
          exact pvF 0 Try.func54 (w15p.va_int2 g.length k n s false false _ g) ⟨rfl, L0, N 0 c0, Y 1 c1, L2, S1 _ es, L1, by simpa [Asm.holds, cmpB] using d, L1, by simp [Asm.holds, cmpB], trivial⟩
        · rw [decide_eq_false d, Bool.false_and]
          exact pvF 0 Try.func54 (w15p.va_int1 g.length k n s false false false g) ⟨rfl, L0, N 0 c0, Y 1 c1, L2, S1 _ es, L1, by simp [Asm.holds, cmpB]; omega, trivial⟩
    · rw [if_neg c1]
      by_cases c2 : k = 2
      · rw [if_pos c2]
        cases es : emptyB s with
        | false => exact pvF 0 Try.func54 (w15p.va_bool0 g.length k n s false false false g) ⟨rfl, L0, N 0 c0, N 1 c1, Y 2 c2, L2, S1 _ es, trivial⟩
        | true =>
          rw [Bool.true_and]
          by_cases d : n = 0
          · rw [decide_eq_true d, Bool.true_or]
            exact pvF 0 Try.func54 (w15p.va_bool1 g.length k n s false false false g) ⟨rfl, L0, N 0 c0, N 1 c1, Y 2 c2, L2, S1 _ es, L1, by simpa [Asm.holds, cmpB] using d, trivial⟩
          · rw [decide_eq_false d, Bool.false_or]
            exact pvF 0 Try.func54 (w15p.va_bool2 g.length k n s false false _ g) ⟨rfl, L0, N 0 c0, N 1 c1, Y 2 c2, L2, S1 _ es, L1, by simpa [Asm.holds, cmpB] using d, L1, by simp [Asm.holds, cmpB]; rfl, trivial⟩
      · rw [if_neg c2]
        by_cases c3 : k = 3
        · rw [if_pos c3]
          by_cases d : n = 0
          · rw [decide_eq_true d, Bool.true_and]
            exact pvF 0 Try.func54 (w15p.va_text1 g.length k n s false false _ g) ⟨rfl, L0, N 0 c0, N 1 c1, N 2 c2, Y 3 c3, L1, by simpa [Asm.holds, cmpB] using d, L2, text_run _ s, trivial⟩
          · rw [decide_eq_false d, Bool.false_and]
            exact pvF 0 Try.func54 (w15p.va_text0 g.length k n s false false false g) ⟨rfl, L0, N 0 c0, N 1 c1, N 2 c2, Y 3 c3, L1, by simpa [Asm.holds, cmpB] using d, trivial⟩
        · rw [if_neg c3]
          by_cases c4 : k = 4
          · rw [if_pos (.inl c4)]
            cases es : emptyB s with
            | false => exact pvF 0 Try.func54 (w15p.va_chan0 g.length k n s false false false g) ⟨rfl, L0, N 0 c0, N 1 c1, N 2 c2, N 3 c3, Y 4 c4, L2, S1 _ es, trivial⟩
            | true =>
              rw [Bool.true_and]
              by_cases d : n ≥ 1
              · rw [decide_eq_true d, Bool.true_and]
                exact pvF 0 Try.func54 (w15p.va_chan2 g.length k n s false false _ g) ⟨rfl, L0, N 0 c0, N 1 c1, N 2 c2, N 3 c3, Y 4 c4, L2, S1 _ es, L1, by simpa [Asm.holds, cmpB] using d, L1, by simp [Asm.holds, cmpB], trivial⟩
              · rw [decide_eq_false d, Bool.false_and]
                exact pvF 0 Try.func54 (w15p.va_chan1 g.length k n s false false false g) ⟨rfl, L0, N 0 c0, N 1 c1, N 2 c2, N 3 c3, Y 4 c4, L2, S1 _ es, L1, by simp [Asm.holds, cmpB]; omega, trivial⟩
          · by_cases c5 : k = 5
            · rw [if_pos (.inr (.inl c5))]
              cases es : emptyB s with
              | false => exact pvF 0 Try.func54 (w15p.va_task0 g.length k n s false false false g) ⟨rfl, L0, N 0 c0, N 1 c1, N 2 c2, N 3 c3, N 4 c4, Y 5 c5, L2, S1 _ es, trivial⟩
              | true =>
                rw [Bool.true_and]
                by_cases d : n ≥ 1
                · rw [decide_eq_true d, Bool.true_and]
                  exact pvF 0 Try.func54 (w15p.va_task2 g.length k n s false false _ g) ⟨rfl, L0, N 0 c0, N 1 c1, N 2 c2, N 3 c3, N 4 c4, Y 5 c5, L2, S1 _ es, L1, by simpa [Asm.holds, cmpB] using d, L1, by simp [Asm.holds, cmpB], trivial⟩
                · rw [decide_eq_false d, Bool.false_and]
                  exact pvF 0 Try.func54 (w15p.va_task1 g.length k n s false false false g) ⟨rfl, L0, N 0 c0, N 1 c1, N 2 c2, N 3 c3, N 4 c4, Y 5 c5, L2, S1 _ es, L1, by simp [Asm.holds, cmpB]; omega, trivial⟩
            · by_cases c6 : k = 6
              · rw [if_pos (.inr (.inr c6))]
                cases es : emptyB s with
                | false => exact pvF 0 Try.func54 (w15p.va_lock0 g.length k n s false false false g) ⟨rfl, L0, N 0 c0, N 1 c1, N 2 c2, N 3 c3, N 4 c4, N 5 c5, Y 6 c6, L2, S1 _ es, trivial⟩
                | true =>
                  rw [Bool.true_and]
                  by_cases d : n ≥ 1
                  · rw [decide_eq_true d, Bool.true_and]
                    exact pvF 0 Try.func54 (w15p.va_lock2 g.length k n s false false _ g) ⟨rfl, L0, N 0 c0, N 1 c1, N 2 c2, N 3 c3, N 4 c4, N 5 c5, Y 6 c6, L2, S1 _ es, L1, by simpa [Asm.holds, cmpB] using d, L1, by simp [Asm.holds, cmpB], trivial⟩
                  · rw [decide_eq_false d, Bool.false_and]
                    exact pvF 0 Try.func54 (w15p.va_lock1 g.length k n s false false false g) ⟨rfl, L0, N 0 c0, N 1 c1, N 2 c2, N 3 c3, N 4 c4, N 5 c5, Y 6 c6, L2, S1 _ es, L1, by simp [Asm.holds, cmpB]; omega, trivial⟩
              · rw [if_neg (by omega)]
                exact pvF 0 Try.func54 (w15p.va_other g.length k n s false false false g) ⟨rfl, L0, N 0 c0, N 1 c1, N 2 c2, N 3 c3, N 4 c4, N 5 c5, N 6 c6, trivial⟩

/-- A list of values where it lies. -/
def ArgsAt (h : Hp) (v : Value) (l : List VV) : Prop := (v = .slice none 0 0 ∧ l = []) ∨ ∃ a rw, v = .slice (some ⟨a, 0, none⟩) l.length 3 ∧ h[a]? = some (.cells (vvC l) rw)
theorem ArgsAt.keep {h' : Hp} {v : Value} {l : List VV} (a : ArgsAt h v l) (k : Keep (fun _ => False) h h') : ArgsAt h' v l := by
  rcases a with h1 | ⟨o, rw, h1, h2⟩
  · exact .inl h1
  · exact .inr ⟨o, rw, h1, k.2 _ _ h2 id⟩

theorem values_run {v : Value} {l : List VV} (a : ArgsAt h v l) (hl : l.length ≤ 1000000) : ∃ h', Run Try.prog 38 [v] h (.bool (l.all valueB)) h' ∧ Keep (fun _ => False) h h' := by
  rcases a with ⟨rfl, rfl⟩ | ⟨o, rw, rfl, ho⟩
  · exact ⟨h, pvF 0 Try.func38 (w15p.vs_nil h) trivial, .refl _ _⟩
  · have hlc := vvC_len l
    obtain ⟨x', E1, h1, hl1, hQ⟩ := loop_inv (P := Try.prog) (n := 15) (rd := false) (b := loopN Try.f38 0)
      (Q := fun x' E1 h1 => Keep (fun _ => False) h h1 ∧ ((x' = .exit 0 ∧ l.all valueB = true) ∨ (x' = .ret ∧ EnvLe [(2, .bool false)] E1 ∧ l.all valueB = false)))
      (fun m E g => ∃ k, k ≤ l.length ∧ m = l.length - k ∧ EnvLe [(7, .int .i64 (k : Nat)), (6, .int .i64 (Int.ofNat l.length)), (5, .slice (some ⟨o, 0, none⟩) l.length 3)] E ∧ (l.take k).all valueB = true ∧ Keep (fun _ => False) h g)
      (fun m E g ⟨k, k1, k2, k3, k4, k5⟩ => by
        by_cases e : k = l.length
        · right
          subst e
          obtain ⟨E2, q1, q2⟩ := pvC 0 k3 (w15p.vl_out o l.length (l.length : Nat) g) ⟨by simp [Asm.holds, cmpB], trivial⟩
          exact ⟨_, E2, _, by simp, q2, k5, .inl ⟨rfl, by rwa [List.take_length] at k4⟩⟩
        · obtain ⟨x, hx⟩ : ∃ x, l[k]? = some x := ⟨_, List.getElem?_eq_getElem (by omega)⟩
          have hog := k5.2 _ _ ho id
          have hgl := get_lt hog
          have ak1 : IntKind.i64.wrap ((k : Int) + 1) = ((k + 1 : Nat) : Int) := add1 (by omega)
          have pre1 : (Asm.cmp .lss (k : Int) (Int.ofNat l.length) true).holds Try.prog := by simp [Asm.holds, cmpB]; omega
          have hv := value_run ((g ++ [AObj.cells [.int .i64 0, .int .i64 0, .string ⟨⟨[]⟩⟩] true]).set g.length (.cells x.cells true)) x
          have hK : Keep (fun _ => False) g (((g ++ [AObj.cells [.int .i64 0, .int .i64 0, .string ⟨⟨[]⟩⟩] true]).set g.length (.cells x.cells true)) ++ [.cells x.cells true]) :=
            ((Keep.push (fun _ => False) g _).trans_new (Keep.set (fp := fun q => q = g.length) rfl _) (fun q hq e => by omega)).trans (Keep.push _ _ _)
          have hta : (l.take (k + 1)).all valueB = ((l.take k).all valueB && valueB x) := by rw [take_snoc hx]; simp [List.all_append]
          cases hb : valueB x with
          | true =>
            left
            rw [hb] at hv
            obtain ⟨E2, q1, q2⟩ := pvC 0 k3 (w15p.vl_go o l.length (k * 3) g.length k ((k + 1 : Nat) : Int) x.k x.n x.s g _)
              ⟨pre1, ⟨by omega, by omega, by simp⟩, a_ldn hog (by omega) (vvC_cut hx), rfl, a_st (get_new g _) (by simp) rfl, a_ldn (get_set_eq (get_new g _)) (by simp) rfl, hv, by simp only [Asm.holds, arithI, ak1], trivial⟩
            exact ⟨l.length - (k + 1), E2, _, by omega, q2, k + 1, by omega, rfl, .trans (.add (.add (.add (.nil _) rfl) rfl) rfl) q1, by rw [hta, k4, hb]; rfl, k5.trans hK⟩
          | false =>
            right
            rw [hb] at hv
            obtain ⟨E2, q1, q2⟩ := pvC 0 k3 (w15p.vl_no o l.length (k * 3) g.length k ((k + 1 : Nat) : Int) x.k x.n x.s g _)
              ⟨pre1, ⟨by omega, by omega, by simp⟩, a_ldn hog (by omega) (vvC_cut hx), rfl, a_st (get_new g _) (by simp) rfl, a_ldn (get_set_eq (get_new g _)) (by simp) rfl, hv, trivial⟩
            refine ⟨_, E2, _, by simp, q2, k5.trans hK, .inr ⟨rfl, .trans (.add (.nil _) rfl) q1, ?_⟩⟩
            exact List.all_eq_false.2 ⟨x, List.mem_of_getElem? hx, by simp [hb]⟩)
      l.length [(7, .int .i64 ((0 : Nat) : Int)), (6, .int .i64 (Int.ofNat l.length)), (5, .slice (some ⟨o, 0, none⟩) l.length 3)] h ⟨0, by omega, rfl, EnvLe.refl _, rfl, .refl _ _⟩
    have pl : plainC (loopN Try.f38 0) = true := by kernel_rfl
    obtain ⟨hK, ⟨rfl, hv⟩ | ⟨rfl, hE1, hv⟩⟩ := hQ
    · rw [hv]
      exact ⟨h1, pvF 0 Try.func38 (w15p.vs_some o l.length E1 h h1) ⟨a_loop pl (.add (.add (.add (.nil _) rfl) rfl) rfl) (.refl _) hl1, trivial⟩, hK⟩
    · rw [hv]
      exact ⟨h1, pvF 0 Try.func38 (w15p.vs_no o l.length [] h h1) ⟨a_loop pl (.add (.add (.add (.nil _) rfl) rfl) rfl) hE1 hl1, trivial⟩, hK⟩

/-! ### Clone of services and of values -/

theorem clone_run {f : FuncId} (hf : f = 28 ∨ f = 29) {o n : Nat} {c : List Value} {rw : Bool} (ho : h[o]? = some (.cells c rw)) (hc : n * 3 ≤ c.length) (h1 : (c.take (n * 3)).all Value.oneCell' = true) (hb : n ≤ 1000) :
    ∃ d h', Run Try.prog f [.slice (some ⟨o, 0, none⟩) n 3] h (.slice (some ⟨d, 0, none⟩) n 3) h' ∧ h'[d]? = some (.cells (c.take (n * 3)) true) ∧ h.length ≤ d ∧ Keep (fun _ => False) h h' := by
  have hol := get_lt ho
  by_cases hn : n = 0
  · subst hn
    have ha : (Asm.app0 (.push (.is h) (.cells [] true)) o 0 0).holds Try.prog := ⟨rfl, c, cells_of (get_push ho), by omega⟩
    refine ⟨h.length, h ++ [.cells [] true], ?_, ?_, by omega, Keep.push _ _ _⟩
    · rcases hf with rfl | rfl
      · exact pvF 0 Try.func28 (w15p.cl28_none o 0 h.length h) ⟨rfl, ha, trivial⟩
      · exact pvF 0 Try.func29 (w15p.cl29_none o 0 h.length h) ⟨rfl, ha, trivial⟩
    · rw [Nat.zero_mul, List.take_zero]; exact get_new h _
  · have hp : ∀ by', by' ≤ 1000 → (Asm.app (.push (.is h) (.cells [] true)) h.length 0 0 o 0 n (n - 1) 3 by' (c.take (n * 3)) (c.take (n * 3)) (h.length + 1)).holds Try.prog := fun by' hby =>
      ⟨by omega, ⟨_, cells_of (get_push ho), by omega, by rw [List.drop_zero]⟩, h1, by have := Nat.mul_le_mul (show 0 + n ≤ 1000 by omega) hby; omega, by omega, ⟨_, own_of (get_new h _), by simp, by simp⟩, by simp [SH.den]⟩
    have K1 : Keep (fun q => q = h.length) (h ++ [AObj.cells [] true]) (((h ++ [AObj.cells [] true]).set h.length .dead) ++ [AObj.cells (c.take (n * 3)) true]) := (Keep.set (fp := fun q => q = h.length) rfl _).trans (Keep.push _ _ _)
    refine ⟨h.length + 1, ((h ++ [AObj.cells [] true]).set h.length .dead) ++ [AObj.cells (c.take (n * 3)) true], ?_, get_new' _ (by simp), by omega, (Keep.push (fun _ => False) h (AObj.cells [] true)).trans_new K1 (fun q hq e => by omega)⟩
    rcases hf with rfl | rfl
    · have hr := pvF 0 Try.func28 (w15p.cl28_some o n (n - 1) h.length (h.length + 1) _ _ h) ⟨rfl, hp 40 (by omega), trivial⟩
      rw [Nat.zero_add] at hr; exact hr
    · have hr := pvF 0 Try.func29 (w15p.cl29_some o n (n - 1) h.length (h.length + 1) _ _ h) ⟨rfl, hp 32 (by omega), trivial⟩
      rw [Nat.zero_add] at hr; exact hr

end Go.Proofs.Ytkkhokgpcifckaa.wd

namespace Go.Proofs.Ytkkhokgpcifckaa.wd
open Go Go.Ev

variable {h : Hp}

theorem a_cut {P : Program} {n len : Nat} (hn : n ≤ len) : (Asm.cut none (some (.int .i64 (Int.ofNat n))) len 0 n).holds P := by
  have h1 : (0 : Int) ≤ Int.ofNat n := Int.natCast_nonneg n
  have h2 : Int.ofNat n ≤ (len : Int) := Int.ofNat_le.2 hn
  refine ⟨?_, rfl⟩
  simp only [boundO, decide_eq_true h1, decide_eq_true h2]
  rfl

/-! ### Services of a specification -/

structure SvH where
  fn : Int
  av : Value
  wh : Int

def SvH.cells (x : SvH) : List Value := [.int .i64 x.fn, x.av, .int .i64 x.wh]
def svhC : List SvH → List Value
  | [] => []
  | x :: l => .int .i64 x.fn :: x.av :: .int .i64 x.wh :: svhC l

theorem svhC_len : ∀ l : List SvH, (svhC l).length = l.length * 3
  | [] => rfl
  | x :: l => by simp [svhC, svhC_len l]; omega
theorem svhC_cut : ∀ {l : List SvH} {k : Nat} {x : SvH}, l[k]? = some x → ((svhC l).drop (k * 3)).take 3 = x.cells
  | [], k, x, h => by simp at h
  | y :: l, 0, x, h => by simp at h; subst h; simp [svhC, SvH.cells]
  | y :: l, k + 1, x, h => by
    have := svhC_cut (l := l) (k := k) (x := x) (by simpa using h)
    rw [show (k + 1) * 3 = k * 3 + 3 by omega]
    simpa [svhC] using this
theorem svhC_av : ∀ {l : List SvH} {k : Nat} {x : SvH}, l[k]? = some x → (svhC l)[k * 3 + 1]? = some x.av
  | [], k, x, h => by simp at h
  | y :: l, 0, x, h => by simp at h; subst h; simp [svhC]
  | y :: l, k + 1, x, h => by
    have := svhC_av (l := l) (k := k) (x := x) (by simpa using h)
    rw [show (k + 1) * 3 + 1 = (k * 3 + 1) + 3 by omega]
    simpa [svhC] using this
theorem svhC_put : ∀ {l : List SvH} {k : Nat} {x : SvH} (v : Value), l[k]? = some x → (svhC l).take (k * 3 + 1) ++ [v] ++ (svhC l).drop (k * 3 + 1 + 1) = svhC (l.set k { x with av := v })
  | [], k, x, s, h => by simp at h
  | z :: l, 0, x, s, h => by simp at h; subst h; simp [svhC]
  | z :: l, k + 1, x, s, h => by
    have := svhC_put (l := l) (k := k) (x := x) s (by simpa using h)
    rw [show (k + 1) * 3 = k * 3 + 3 by omega]
    simp only [svhC, List.set_cons_succ, ← this]
    rw [show k * 3 + 3 + 1 = (k * 3 + 1) + 3 by omega, show k * 3 + 1 + 3 + 1 = (k * 3 + 1 + 1) + 3 by omega]
    simp
theorem svhC_take : ∀ (l : List SvH) (n : Nat), (svhC l).take (n * 3) = svhC (l.take n)
  | [], n => by simp [svhC]
  | x :: l, 0 => by simp [svhC]
  | x :: l, n + 1 => by
    rw [show (n + 1) * 3 = n * 3 + 1 + 1 + 1 by omega]
    simp [svhC, svhC_take l n]
theorem svhC_ones : ∀ {l : List SvH}, (∀ x ∈ l, Value.oneCell' x.av = true) → (svhC l).all Value.oneCell' = true
  | [], _ => rfl
  | x :: l, h => by simp only [svhC, List.all_cons, svhC_ones (fun y hy => h y (List.mem_cons_of_mem _ hy)), h x (List.mem_cons_self ..)]; rfl
theorem vvC_pos : ∀ {l : List VV} {p : Nat} {v : Value}, (vvC l)[p]? = some v → (∃ n, v = .int .i64 n) ∨ ∃ s, v = .string s
  | [], p, v, h => by simp [vvC] at h
  | x :: l, 0, v, h => by simp [vvC] at h; exact .inl ⟨_, h.symm⟩
  | x :: l, 1, v, h => by simp [vvC] at h; exact .inl ⟨_, h.symm⟩
  | x :: l, 2, v, h => by simp [vvC] at h; exact .inr ⟨_, h.symm⟩
  | x :: l, p + 3, v, h => vvC_pos (l := l) (p := p) (by simpa [vvC] using h)

structure SvV where
  fn : Int
  args : List VV
  wh : Int

theorem ArgsAt.one {v : Value} {l : List VV} (a : ArgsAt h v l) : Value.oneCell' v = true := by
  rcases a with ⟨rfl, _⟩ | ⟨o, rw, rfl, _⟩ <;> rfl

def SvsAt (h : Hp) (xs : List SvH) (l : List SvV) : Prop := xs.length = l.length ∧ ∀ (k : Nat) x y, xs[k]? = some x → l[k]? = some y → x.fn = y.fn ∧ x.wh = y.wh ∧ ArgsAt h x.av y.args
def SlAt (h : Hp) (v : Value) (l : List SvV) : Prop := (v = .slice none 0 0 ∧ l = []) ∨ ∃ o rw xs, v = .slice (some ⟨o, 0, none⟩) l.length 3 ∧ h[o]? = some (.cells (svhC xs) rw) ∧ SvsAt h xs l

theorem SvsAt.keep {h' : Hp} {xs : List SvH} {l : List SvV} (a : SvsAt h xs l) (k : Keep (fun _ => False) h h') : SvsAt h' xs l :=
  ⟨a.1, fun q x y hx hy => let ⟨h1, h2, h3⟩ := a.2 q x y hx hy; ⟨h1, h2, h3.keep k⟩⟩
theorem SlAt.keep {h' : Hp} {v : Value} {l : List SvV} (a : SlAt h v l) (k : Keep (fun _ => False) h h') : SlAt h' v l := by
  rcases a with h1 | ⟨o, rw, xs, h1, h2, h3⟩
  · exact .inl h1
  · exact .inr ⟨o, rw, xs, h1, k.2 _ _ h2 id, h3.keep k⟩

/-- The services' own object is no list of values. -/
theorem ArgsAt.keepD {h' : Hp} {d : Nat} {xs : List SvH} {rw : Bool} {k : Nat} {x : SvH} {l : List VV} (hd : h[d]? = some (.cells (svhC xs) rw)) (hx : xs[k]? = some x) (a : ArgsAt h x.av l) (K : Keep (fun q => q = d) h h') : ArgsAt h' x.av l := by
  rcases a with h1 | ⟨o, rw', h1, h2⟩
  · exact .inl h1
  · refine .inr ⟨o, rw', h1, K.2 _ _ h2 fun e => ?_⟩
    subst e
    rw [hd] at h2
    simp only [Option.some.injEq, AObj.cells.injEq] at h2
    have := svhC_av hx
    rw [h2.1] at this
    rcases vvC_pos this with ⟨n, e⟩ | ⟨s, e⟩ <;> rw [h1] at e <;> cases e

/-! ### clipped -/

structure SpecV where
  r : Int
  m : Int
  wi : Int
  ba : Int
  ca : Int

def SpecV.cells (s : SpecV) (v : Value) : List Value := [.int .i64 s.r, .int .i64 s.m, .int .i64 s.wi, .int .i64 s.ba, .int .i64 s.ca, v]
def cutA (y : SvV) : SvV := { y with args := y.args.take 6 }
def clipF (l : List SvV) : List SvV := (l.take 10).map cutA
set_option maxRecDepth 100000 in
theorem clip_loop {b c d : Nat} {xs : List SvH} {l : List SvV} (hd : h[d]? = some (.cells (svhC xs) true)) (ha : SvsAt h xs l) (hl : l.length ≤ 10) :
    ∃ E1 h1 ys, EnvLe [(3, .slice (some ⟨d, 0, none⟩) l.length 3), (2, .pointer (some ⟨c, 0, none⟩)), (1, .pointer (some ⟨b, 0, none⟩))] E1 ∧
      LRun Try.prog 37 false (loopN Try.f10 0) [(16, .int .i64 0), (15, .int .i64 (Int.ofNat l.length)), (14, .slice (some ⟨d, 0, none⟩) l.length 3), (3, .slice (some ⟨d, 0, none⟩) l.length 3), (2, .pointer (some ⟨c, 0, none⟩)), (1, .pointer (some ⟨b, 0, none⟩))] h (.exit 0) E1 h1 ∧
      h1[d]? = some (.cells (svhC ys) true) ∧ SvsAt h1 ys (l.map cutA) ∧ Keep (fun q => q = d) h h1 := by
  obtain ⟨x', E1, h1, hl1, rfl, ys, q1, q2, q3, q4⟩ := loop_inv (P := Try.prog) (n := 37) (rd := false) (b := loopN Try.f10 0)
    (Q := fun x' E1 h1 => x' = .exit 0 ∧ ∃ ys, EnvLe [(3, .slice (some ⟨d, 0, none⟩) l.length 3), (2, .pointer (some ⟨c, 0, none⟩)), (1, .pointer (some ⟨b, 0, none⟩))] E1 ∧ h1[d]? = some (.cells (svhC ys) true) ∧ SvsAt h1 ys (l.map cutA) ∧ Keep (fun q => q = d) h h1)
    (fun m E g => ∃ k ys, k ≤ l.length ∧ m = l.length - k ∧ EnvLe [(16, .int .i64 (k : Nat)), (15, .int .i64 (Int.ofNat l.length)), (14, .slice (some ⟨d, 0, none⟩) l.length 3), (3, .slice (some ⟨d, 0, none⟩) l.length 3), (2, .pointer (some ⟨c, 0, none⟩)), (1, .pointer (some ⟨b, 0, none⟩))] E ∧
      g[d]? = some (.cells (svhC ys) true) ∧ SvsAt g ys ((l.take k).map cutA ++ l.drop k) ∧ Keep (fun q => q = d) h g)
    (fun m E g ⟨k, ys, k1, k2, k3, k4, k5, k6⟩ => by
      have hyl : ys.length = l.length := by rw [k5.1]; simp; omega
      by_cases e : k = l.length
      · right
        subst e
        obtain ⟨E2, q1, q2⟩ := pvC 0 k3 (w15p.cpl_out b c d l.length (l.length : Nat) g) ⟨by simp [Asm.holds, cmpB], trivial⟩
        exact ⟨_, E2, _, by simp, q2, rfl, ys, .trans (.add (.add (.add (.nil _) rfl) rfl) rfl) q1, k4, by simpa [SH.den] using k5, k6⟩
      · left
        obtain ⟨y, hy⟩ : ∃ y, l[k]? = some y := ⟨_, List.getElem?_eq_getElem (by omega)⟩
        obtain ⟨x, hx⟩ : ∃ x, ys[k]? = some x := ⟨_, List.getElem?_eq_getElem (by omega)⟩
        obtain ⟨f1, f2⟩ := front_step cutA hy
        obtain ⟨x1, x2, x3⟩ := k5.2 k x y hx f1
        obtain ⟨fn, av, wh⟩ := x
        simp only at x1 x2 x3
        have hdl := get_lt k4
        have hcl := svhC_len ys
        have ak1 : IntKind.i64.wrap ((k : Int) + 1) = ((k + 1 : Nat) : Int) := add1 (by omega)
        have pre1 : (Asm.cmp .lss (k : Int) (Int.ofNat l.length) true).holds Try.prog := by simp [Asm.holds, cmpB]; omega
        let gA : Hp := (g ++ [AObj.cells [.int .i64 0, .slice none 0 0, .int .i64 0] true]).set g.length (.cells [.int .i64 fn, av, .int .i64 wh] true)
        have KA : Keep (fun _ => False) g gA := (Keep.push (fun _ => False) g _).trans_new (Keep.set (fp := fun q => q = g.length) rfl _) (fun q hq e => by omega)
        -- what the clone comes to, and what follows
        have fin : ∀ (av' : Value) (g2 : Hp), Keep (fun _ => False) gA g2 → ArgsAt g2 av' (y.args.take 6) → (∀ a n, av' = .slice (some ⟨a, 0, none⟩) n 3 → a ≠ d) →
            g2[d]? = some (.cells (svhC ys) true) ∧ (g2.set d (.cells (svhC (ys.set k ⟨fn, av', wh⟩)) true))[d]? = some (.cells (svhC (ys.set k ⟨fn, av', wh⟩)) true) ∧
            SvsAt (g2.set d (.cells (svhC (ys.set k ⟨fn, av', wh⟩)) true)) (ys.set k ⟨fn, av', wh⟩) ((l.take (k + 1)).map cutA ++ l.drop (k + 1)) ∧ Keep (fun q => q = d) h (g2.set d (.cells (svhC (ys.set k ⟨fn, av', wh⟩)) true)) := by
          intro av' g2 K2 ha' hne
          have K3 := KA.trans K2
          have hd2 := K3.2 _ _ k4 id
          have KD : Keep (fun q => q = d) g2 (g2.set d (.cells (svhC (ys.set k ⟨fn, av', wh⟩)) true)) := Keep.set (fp := fun q => q = d) rfl _
          refine ⟨hd2, get_set_eq hd2, ⟨?_, fun q x' y' hx' hy' => ?_⟩, (k6.trans (K3.mono fun q _ e => e.elim)).trans KD⟩
          · rw [← f2, List.length_set, List.length_set]; exact k5.1
          · rw [← f2] at hy'
            by_cases eq : q = k
            · subst eq
              rw [List.getElem?_set_self (by omega)] at hx'
              rw [List.getElem?_set_self (get_lt' f1)] at hy'
              cases hx'; cases hy'
              refine ⟨x1, x2, ?_⟩
              rcases ha' with h1 | ⟨o, rw', h1, h2⟩
              · exact .inl h1
              · exact .inr ⟨o, rw', h1, by rw [List.getElem?_set_ne (Ne.symm (hne _ _ h1))]; exact h2⟩
            · rw [List.getElem?_set_ne (Ne.symm eq)] at hx' hy'
              obtain ⟨z1, z2, z3⟩ := k5.2 q x' y' hx' hy'
              exact ⟨z1, z2, (z3.keep K3).keepD hd2 hx' KD⟩
        rcases x3 with ⟨rfl, hnil⟩ | ⟨a, rw', rfl, hao⟩
        · obtain ⟨z1, z2, z3, z4⟩ := fin (.slice none 0 0) gA (.refl _ _) (.inl ⟨rfl, by rw [hnil]; rfl⟩) (fun a n e => by cases e)
          have hc29 : Run Try.prog 29 [.slice none 0 0] gA (.slice none 0 0) gA := pvF 0 Try.func29 (w15p.cl29_nil gA) trivial
          obtain ⟨E2, q1, q2⟩ := pvC 0 k3 (w15p.cpl_nil b c d l.length (k * 3) g.length k ((k + 1 : Nat) : Int) fn wh (svhC (ys.set k ⟨fn, .slice none 0 0, wh⟩)) g gA)
            ⟨pre1, ⟨by omega, by omega, by simp⟩, a_ldn k4 (by omega) (svhC_cut hx), rfl, a_st (get_new g _) (by simp) rfl, a_ld1 (get_set_eq (get_new g _)) rfl, a_ld1 (get_set_eq (get_new g _)) rfl, by simp [Asm.holds],
              hc29, ⟨by omega, by omega, by simp⟩, a_st (d := k * 3 + 1) z1 (by simp; omega) (svhC_put _ hx), by simp only [Asm.holds, arithI, ak1], trivial⟩
          exact ⟨l.length - (k + 1), E2, _, by omega, q2, k + 1, _, by omega, rfl, .trans (.add (.add (.add (.add (.add (.add (.nil _) rfl) rfl) rfl) rfl) rfl) rfl) q1, z2, z3, z4⟩
        · have hvl := vvC_len y.args
          have hoA := KA.2 _ _ hao id
          have hmin : min 6 y.args.length = min y.args.length 6 := Nat.min_comm _ _
          obtain ⟨e, g2, r1, r2, r3, r4⟩ := clone_run (f := 29) (.inr rfl) (n := min y.args.length 6) hoA (by omega) (by
            rw [vvC_take]; exact vvC_ones _) (by omega)
          have hta : (vvC y.args).take (min y.args.length 6 * 3) = vvC (y.args.take 6) := by
            rw [vvC_take, ← hmin, ← List.take_eq_take_min]
          have htl : (y.args.take 6).length = min y.args.length 6 := by simp [hmin]
          rw [hta] at r2
          have hgAl : gA.length = g.length + 1 := by simp [gA]
          obtain ⟨z1, z2, z3, z4⟩ := fin (.slice (some ⟨e, 0, none⟩) (min y.args.length 6) 3) g2 r4 (.inr ⟨e, true, by rw [htl], r2⟩) (fun a n he => by
            have : a = e := by injection he with h1; injection h1 with h1; injection h1 with h1; exact h1.symm
            omega)
          obtain ⟨E2, q1, q2⟩ := pvC 0 k3 (w15p.cpl_some b c d l.length (k * 3) g.length a y.args.length (min y.args.length 6) e k ((k + 1 : Nat) : Int) fn wh (svhC (ys.set k ⟨fn, .slice (some ⟨e, 0, none⟩) (min y.args.length 6) 3, wh⟩)) g g2)
            ⟨pre1, ⟨by omega, by omega, by simp⟩, a_ldn k4 (by omega) (svhC_cut hx), rfl, a_st (get_new g _) (by simp) rfl, a_ld1 (get_set_eq (get_new g _)) rfl, a_ld1 (get_set_eq (get_new g _)) rfl,
              .inr ⟨rfl, by simp only [Int.ofNat_eq_natCast]; split <;> omega⟩, a_cut (by omega),
              r1, ⟨by omega, by omega, by simp⟩, a_st (d := k * 3 + 1) z1 (by simp; omega) (svhC_put _ hx), by simp only [Asm.holds, arithI, ak1], trivial⟩
          exact ⟨l.length - (k + 1), E2, _, by omega, q2, k + 1, _, by omega, rfl, .trans (.add (.add (.add (.add (.add (.add (.nil _) rfl) rfl) rfl) rfl) rfl) rfl) q1, z2, z3, z4⟩)
    l.length [(16, .int .i64 ((0 : Nat) : Int)), (15, .int .i64 (Int.ofNat l.length)), (14, .slice (some ⟨d, 0, none⟩) l.length 3), (3, .slice (some ⟨d, 0, none⟩) l.length 3), (2, .pointer (some ⟨c, 0, none⟩)), (1, .pointer (some ⟨b, 0, none⟩))] h
    ⟨0, xs, by omega, rfl, EnvLe.refl _, hd, by simpa using ha, .refl _ _⟩
  exact ⟨E1, h1, ys, q1, hl1, q2, q3, q4⟩

set_option maxRecDepth 100000 in
theorem clipped_run {v : Value} {l : List SvV} (s : SpecV) (a : SlAt h v l) : ∃ v' h', Run Try.prog 10 [.agg (s.cells v).toArray] h (.agg (s.cells v').toArray) h' ∧ SlAt h' v' (clipF l) ∧ Keep (fun _ => False) h h' := by
  obtain ⟨r, m, wi, ba, ca⟩ := s
  let S := fun v => SpecV.cells ⟨r, m, wi, ba, ca⟩ v
  have K0 : ∀ v w, Keep (fun _ => False) h ((h ++ [AObj.cells (S v) true]) ++ [AObj.cells (S w) true]) := fun v w => (Keep.push _ _ _).trans (Keep.push _ _ _)
  let Z : AObj := .cells [.int .i64 0, .int .i64 0, .int .i64 0, .int .i64 0, .int .i64 0, .slice none 0 0] true
  rcases a with ⟨rfl, rfl⟩ | ⟨o, rw, xs, rfl, ho, ha⟩
  · let hA : Hp := (h ++ [AObj.cells (S (.slice none 0 0)) true]) ++ [Z]
    have g1 : hA[h.length]? = some (.cells (S (.slice none 0 0)) true) := get_push (get_new h _)
    have g2 : hA[h.length + 1]? = some Z := get_new' _ (by simp)
    have hr : Run Try.prog 28 [.slice none 0 0] hA (.slice none 0 0) hA := pvF 0 Try.func28 (w15p.cl28_nil hA) trivial
    refine ⟨_, _, pvF 0 Try.func10 (w15p.cp_nil h.length (h.length + 1) r m wi ba ca h hA)
      ⟨rfl, by simp [Asm.holds, SH.den], a_ld1 g1 rfl, a_ld1 g1 rfl, by simp [Asm.holds], hr, a_st g1 (by simp [S, SpecV.cells]) rfl, a_ldn (get_set_eq g1) (by simp) rfl, a_st (get_set_ne g2 (by omega)) (by simp) rfl, a_ldn (get_set_eq (get_set_ne g2 (by omega))) (by simp) rfl, trivial⟩, .inl ⟨rfl, rfl⟩, ?_⟩
    exact (((Keep.push (fun _ => False) h _).trans (Keep.push _ _ _)).trans_new ((Keep.set (fp := fun q => h.length ≤ q) (Nat.le_refl _) _).trans (Keep.set (fp := fun q => h.length ≤ q) (by omega) _)) (fun q hq e => by omega))
  · let V := Value.slice (some ⟨o, 0, none⟩) l.length 3
    let hA : Hp := (h ++ [AObj.cells (S V) true]) ++ [Z]
    have g1 : hA[h.length]? = some (.cells (S V) true) := get_push (get_new h _)
    have g2 : hA[h.length + 1]? = some Z := get_new' _ (by simp)
    have KA : Keep (fun _ => False) h hA := (Keep.push _ _ _).trans (Keep.push _ _ _)
    have hcl := svhC_len xs
    have hxl := ha.1
    have hmin : min 10 l.length = min l.length 10 := Nat.min_comm _ _
    obtain ⟨d, hB, r1, r2, r3, KB⟩ := clone_run (f := 28) (.inl rfl) (n := min l.length 10) (KA.2 _ _ ho id) (by omega) (by
      rw [svhC_take]
      refine svhC_ones fun x hx => ?_
      obtain ⟨q, hq⟩ := List.mem_iff_getElem?.1 (List.mem_of_mem_take hx)
      have hql := get_lt' hq
      exact (ha.2 q x _ hq (List.getElem?_eq_getElem (by omega))).2.2.one) (by omega)
    have hta : (svhC xs).take (min l.length 10 * 3) = svhC (xs.take 10) := by
      rw [svhC_take, ← hmin, ← hxl, ← List.take_eq_take_min]
    have htl : (l.take 10).length = min l.length 10 := by simp [hmin]
    rw [hta] at r2
    have aB : SvsAt hB (xs.take 10) (l.take 10) := by
      refine ⟨by simp [hxl], fun q x y hx hy => ?_⟩
      rw [List.getElem?_take] at hx hy
      split at hx
      · rename_i hq
        rw [if_pos hq] at hy
        obtain ⟨z1, z2, z3⟩ := ha.2 q x y hx hy
        exact ⟨z1, z2, (z3.keep KA).keep KB⟩
      · cases hx
    obtain ⟨E1, hC, ys, e1, hl1, e2, e3, KC⟩ := clip_loop (b := h.length) (c := h.length + 1) r2 aB (by omega)
    rw [htl] at e1 hl1
    have hAl : hA.length = h.length + 2 := by simp [hA]
    have gb := KC.2 _ _ (KB.2 _ _ g1 id) (show ¬ h.length = d by omega)
    have gc := KC.2 _ _ (KB.2 _ _ g2 id) (show ¬ h.length + 1 = d by omega)
    have pl : plainC (loopN Try.f10 0) = true := by kernel_rfl
    have hrun := pvF 0 Try.func10 (w15p.cp_some h.length (h.length + 1) o l.length d (min l.length 10) r m wi ba ca [] [] h hB hC)
      ⟨rfl, by simp [Asm.holds, SH.den], a_ld1 g1 rfl, a_ld1 g1 rfl, .inr ⟨rfl, by simp only [Int.ofNat_eq_natCast]; split <;> omega⟩, a_cut (by omega), r1,
        a_loop pl (.add (.add (.add (.add (.add (.add (.nil _) rfl) rfl) rfl) rfl) rfl) rfl) e1 hl1,
        a_st gb (by simp [S, SpecV.cells]) rfl, a_ldn (get_set_eq gb) (by simp) rfl, a_st (get_set_ne gc (by omega)) (by simp) rfl, a_ldn (get_set_eq (get_set_ne gc (by omega))) (by simp) rfl, trivial⟩
    have KD : Keep (fun q => h.length ≤ q ∧ q ≤ h.length + 1) hC ((hC.set h.length (.cells (S (.slice (some ⟨d, 0, none⟩) (min l.length 10) 3)) true)).set (h.length + 1) (.cells (S (.slice (some ⟨d, 0, none⟩) (min l.length 10) 3)) true)) :=
      (Keep.set (fp := fun q => h.length ≤ q ∧ q ≤ h.length + 1) (by omega) _).trans (Keep.set (fp := fun q => h.length ≤ q ∧ q ≤ h.length + 1) (by omega) _)
    refine ⟨_, _, hrun, .inr ⟨d, true, ys, ?_, KD.2 _ _ e2 (show ¬ (h.length ≤ d ∧ d ≤ h.length + 1) by omega), ?_⟩, ((KA.trans KB).trans_new (fp' := fun q => q = d) KC (fun q hq e => by omega)).trans_new KD (fun q hq e => by omega)⟩
    · simp [clipF, hmin]
    · refine ⟨e3.1, fun q x y hx hy => ?_⟩
      obtain ⟨z1, z2, z3⟩ := e3.2 q x y hx hy
      refine ⟨z1, z2, ?_⟩
      rcases z3 with z | ⟨a, rw', z4, z5⟩
      · exact .inl z
      · refine .inr ⟨a, rw', z4, KD.2 _ _ z5 fun e => ?_⟩
        rcases Nat.lt_or_ge h.length a with c1 | c1
        · have : a = h.length + 1 := by omega
          subst this
          rw [gc] at z5; simp [Z] at z5
          have := vvC_pos (l := y.args) (p := 5) (v := .slice none 0 0) (by rw [← z5.1]; rfl)
          rcases this with ⟨n, e⟩ | ⟨s, e⟩ <;> cases e
        · have : a = h.length := by omega
          subst this
          rw [gb] at z5; simp [S, SpecV.cells] at z5
          have := vvC_pos (l := y.args) (p := 5) (v := .slice (some ⟨o, 0, none⟩) l.length 3) (by rw [← z5.1]; rfl)
          rcases this with ⟨n, e⟩ | ⟨s, e⟩ <;> cases e

end Go.Proofs.Ytkkhokgpcifckaa.wd

namespace Go.Proofs.Ytkkhokgpcifckaa.wd
open Go Go.Ev

variable {h : Hp}

/-! ### Check -/

def svOk (y : SvV) : Bool := decide (0 ≤ y.fn) && decide (y.args.length ≤ 4) && y.args.all valueB && decide (1 ≤ y.wh) && decide (y.wh ≤ 3)
def headOk (s : SpecV) (n : Nat) : Prop := 1 ≤ s.r ∧ s.r ≤ 3 ∧ 0 ≤ s.m ∧ s.m ≤ 20 ∧ 1 ≤ s.wi ∧ s.wi ≤ 1000000000000 ∧ 0 ≤ s.ba ∧ s.ba ≤ s.ca ∧ s.ca ≤ 1000000000000 ∧ 1 ≤ n ∧ n ≤ 8
instance (s : SpecV) (n : Nat) : Decidable (headOk s n) := by unfold headOk; infer_instance
def checkF (s : SpecV) (l : List SvV) : Int := if headOk s l.length ∧ l.all svOk = true then 0 else 2

theorem check_loop {o : Nat} {xs : List SvH} {rw : Bool} {l : List SvV} (ho : h[o]? = some (.cells (svhC xs) rw)) (ha : SvsAt h xs l) (hl : l.length ≤ 8) :
    ∃ x' E1 h1, LRun Try.prog 93 false (loopN Try.f25 0) [(63, .int .i64 0), (62, .int .i64 (Int.ofNat l.length)), (61, .slice (some ⟨o, 0, none⟩) l.length 3)] h x' E1 h1 ∧ Keep (fun _ => False) h h1 ∧
      ((x' = .exit 0 ∧ l.all svOk = true) ∨ (x' = .ret ∧ EnvLe [(2, .int .i64 2)] E1 ∧ l.all svOk = false)) := by
  have hcl := svhC_len xs
  have hxl := ha.1
  exact loop_inv (P := Try.prog) (n := 93) (rd := false) (b := loopN Try.f25 0)
    (Q := fun x' E1 h1 => Keep (fun _ => False) h h1 ∧ ((x' = .exit 0 ∧ l.all svOk = true) ∨ (x' = .ret ∧ EnvLe [(2, .int .i64 2)] E1 ∧ l.all svOk = false)))
    (fun m E g => ∃ k, k ≤ l.length ∧ m = l.length - k ∧ EnvLe [(63, .int .i64 (k : Nat)), (62, .int .i64 (Int.ofNat l.length)), (61, .slice (some ⟨o, 0, none⟩) l.length 3)] E ∧ (l.take k).all svOk = true ∧ Keep (fun _ => False) h g)
    (fun m E g ⟨k, k1, k2, k3, k4, k5⟩ => by
      by_cases e : k = l.length
      · right
        subst e
        obtain ⟨E2, q1, q2⟩ := pvC 0 k3 (w15p.ckl_out o l.length (l.length : Nat) g) ⟨by simp [Asm.holds, cmpB], trivial⟩
        exact ⟨_, E2, _, by simp, q2, k5, .inl ⟨rfl, by rwa [List.take_length] at k4⟩⟩
      · obtain ⟨y, hy⟩ : ∃ y, l[k]? = some y := ⟨_, List.getElem?_eq_getElem (by omega)⟩
        obtain ⟨x, hx⟩ : ∃ x, xs[k]? = some x := ⟨_, List.getElem?_eq_getElem (by omega)⟩
        obtain ⟨x1, x2, x3⟩ := ha.2 k x y hx hy
        obtain ⟨fn, av, wh⟩ := x
        obtain ⟨fn', args, wh'⟩ := y
        simp only at x1 x2 x3
        subst x1; subst x2
        have hog := k5.2 _ _ ho id
        have ak1 : IntKind.i64.wrap ((k : Int) + 1) = ((k + 1 : Nat) : Int) := add1 (by omega)
        have pre1 : (Asm.cmp .lss (k : Int) (Int.ofNat l.length) true).holds Try.prog := by simp [Asm.holds, cmpB]; omega
        have pre2 : (Asm.off (k * 3) 0 (k : Int) l.length 3).holds Try.prog := ⟨by omega, by omega, by simp⟩
        have pre3 : (Asm.ldn (.is g) o (k * 3) 3 [.int .i64 fn, av, .int .i64 wh]).holds Try.prog := a_ldn hog (by omega) (svhC_cut hx)
        let gA : Hp := (g ++ [AObj.cells [.int .i64 0, .slice none 0 0, .int .i64 0] true]).set g.length (.cells [.int .i64 fn, av, .int .i64 wh] true)
        have KA : Keep (fun _ => False) g gA := (Keep.push (fun _ => False) g _).trans_new (Keep.set (fp := fun q => q = g.length) rfl _) (fun q hq e => by omega)
        have gx : gA[g.length]? = some (.cells [.int .i64 fn, av, .int .i64 wh] true) := get_set_eq (get_new g _)
        have hta : (l.take (k + 1)).all svOk = ((l.take k).all svOk && svOk ⟨fn, args, wh⟩) := by rw [take_snoc hy]; simp [List.all_append]
        have bad : svOk ⟨fn, args, wh⟩ = false → l.all svOk = false := fun hb => List.all_eq_false.2 ⟨_, List.mem_of_getElem? hy, by simp [hb]⟩
        have c63 : ∀ {E2 : Env}, EnvLe [(2, .int .i64 2)] E2 → EnvLe [(2, .int .i64 2)] E2 := fun h => h
        by_cases d1 : fn < 0
        · right
          have hb : svOk ⟨fn, args, wh⟩ = false := by simp [svOk]; omega
          rcases x3 with ⟨rfl, hnil⟩ | ⟨a, rw', rfl, hao⟩
          · obtain ⟨E2, q1, q2⟩ := pvC 0 k3 (w15p.ckl_fnn o l.length (k * 3) g.length k 0 fn wh g g) ⟨pre1, pre2, pre3, rfl, a_st (get_new g _) (by simp) rfl, a_ld1 gx rfl, by simpa [Asm.holds, cmpB] using d1, trivial⟩
            exact ⟨_, E2, _, by simp, q2, k5.trans KA, .inr ⟨rfl, .trans (.add (.nil _) rfl) q1, bad hb⟩⟩
          · obtain ⟨E2, q1, q2⟩ := pvC 0 k3 (w15p.ckl_fns o l.length (k * 3) g.length k 0 fn wh g g a args.length) ⟨pre1, pre2, pre3, rfl, a_st (get_new g _) (by simp) rfl, a_ld1 gx rfl, by simpa [Asm.holds, cmpB] using d1, trivial⟩
            exact ⟨_, E2, _, by simp, q2, k5.trans KA, .inr ⟨rfl, .trans (.add (.nil _) rfl) q1, bad hb⟩⟩
        · have f1 : (Asm.cmp .lss fn 0 false).holds Try.prog := by simpa [Asm.holds, cmpB] using d1
          by_cases d2 : args.length > 4
          · right
            have hb : svOk ⟨fn, args, wh⟩ = false := by simp [svOk]; omega
            rcases x3 with ⟨rfl, hnil⟩ | ⟨a, rw', rfl, hao⟩
            · rw [hnil] at d2; simp at d2
            · obtain ⟨E2, q1, q2⟩ := pvC 0 k3 (w15p.ckl_lens o l.length (k * 3) g.length k 0 fn wh g g a args.length) ⟨pre1, pre2, pre3, rfl, a_st (get_new g _) (by simp) rfl, a_ld1 gx rfl, f1, a_ld1 gx rfl, by simp [Asm.holds, cmpB]; omega, trivial⟩
              exact ⟨_, E2, _, by simp, q2, k5.trans KA, .inr ⟨rfl, .trans (.add (.nil _) rfl) q1, bad hb⟩⟩
          · obtain ⟨gB, rv, KB⟩ := values_run (h := gA) (((x3.keep k5).keep KA)) (by omega)
            have gy := KB.2 _ _ gx id
            have K3 := (k5.trans KA).trans KB
            by_cases d3 : args.all valueB = true
            · rw [d3] at rv
              by_cases d4 : wh < 1
              · right
                have hb : svOk ⟨fn, args, wh⟩ = false := by simp [svOk]; omega
                rcases x3 with ⟨rfl, hnil⟩ | ⟨a, rw', rfl, hao⟩
                · obtain ⟨E2, q1, q2⟩ := pvC 0 k3 (w15p.ckl_lon o l.length (k * 3) g.length k 0 fn wh g gB) ⟨pre1, pre2, pre3, rfl, a_st (get_new g _) (by simp) rfl, a_ld1 gx rfl, f1, a_ld1 gx rfl, by simp [Asm.holds, cmpB], a_ld1 gx rfl, rv, a_ld1 gy rfl, by simpa [Asm.holds, cmpB] using d4, trivial⟩
                  exact ⟨_, E2, _, by simp, q2, K3, .inr ⟨rfl, .trans (.add (.nil _) rfl) q1, bad hb⟩⟩
                · obtain ⟨E2, q1, q2⟩ := pvC 0 k3 (w15p.ckl_los o l.length (k * 3) g.length k 0 fn wh g gB a args.length) ⟨pre1, pre2, pre3, rfl, a_st (get_new g _) (by simp) rfl, a_ld1 gx rfl, f1, a_ld1 gx rfl, by simp [Asm.holds, cmpB]; omega, a_ld1 gx rfl, rv, a_ld1 gy rfl, by simpa [Asm.holds, cmpB] using d4, trivial⟩
                  exact ⟨_, E2, _, by simp, q2, K3, .inr ⟨rfl, .trans (.add (.nil _) rfl) q1, bad hb⟩⟩
              · have f4 : (Asm.cmp .lss wh 1 false).holds Try.prog := by simpa [Asm.holds, cmpB] using d4
                by_cases d5 : wh > 3
                · right
                  have hb : svOk ⟨fn, args, wh⟩ = false := by simp [svOk]; omega
                  rcases x3 with ⟨rfl, hnil⟩ | ⟨a, rw', rfl, hao⟩
                  · obtain ⟨E2, q1, q2⟩ := pvC 0 k3 (w15p.ckl_hin o l.length (k * 3) g.length k 0 fn wh g gB) ⟨pre1, pre2, pre3, rfl, a_st (get_new g _) (by simp) rfl, a_ld1 gx rfl, f1, a_ld1 gx rfl, by simp [Asm.holds, cmpB], a_ld1 gx rfl, rv, a_ld1 gy rfl, f4, a_ld1 gy rfl, by simpa [Asm.holds, cmpB] using d5, trivial⟩
                    exact ⟨_, E2, _, by simp, q2, K3, .inr ⟨rfl, .trans (.add (.nil _) rfl) q1, bad hb⟩⟩
                  · obtain ⟨E2, q1, q2⟩ := pvC 0 k3 (w15p.ckl_his o l.length (k * 3) g.length k 0 fn wh g gB a args.length) ⟨pre1, pre2, pre3, rfl, a_st (get_new g _) (by simp) rfl, a_ld1 gx rfl, f1, a_ld1 gx rfl, by simp [Asm.holds, cmpB]; omega, a_ld1 gx rfl, rv, a_ld1 gy rfl, f4, a_ld1 gy rfl, by simpa [Asm.holds, cmpB] using d5, trivial⟩
                    exact ⟨_, E2, _, by simp, q2, K3, .inr ⟨rfl, .trans (.add (.nil _) rfl) q1, bad hb⟩⟩
                · left
                  have f5 : (Asm.cmp .gtr wh 3 false).holds Try.prog := by simpa [Asm.holds, cmpB] using d5
                  have hb : svOk ⟨fn, args, wh⟩ = true := by simp only [svOk, Bool.and_eq_true, decide_eq_true_eq]; exact ⟨⟨⟨⟨by omega, by omega⟩, d3⟩, by omega⟩, by omega⟩
                  rcases x3 with ⟨rfl, hnil⟩ | ⟨a, rw', rfl, hao⟩
                  · obtain ⟨E2, q1, q2⟩ := pvC 0 k3 (w15p.ckl_okn o l.length (k * 3) g.length k ((k + 1 : Nat) : Int) fn wh g gB) ⟨pre1, pre2, pre3, rfl, a_st (get_new g _) (by simp) rfl, a_ld1 gx rfl, f1, a_ld1 gx rfl, by simp [Asm.holds, cmpB], a_ld1 gx rfl, rv, a_ld1 gy rfl, f4, a_ld1 gy rfl, f5, by simp only [Asm.holds, arithI, ak1], trivial⟩
                    exact ⟨l.length - (k + 1), E2, _, by omega, q2, k + 1, by omega, rfl, .trans (.add (.add (.add (.nil _) rfl) rfl) rfl) q1, by rw [hta, k4, hb]; rfl, K3⟩
                  · obtain ⟨E2, q1, q2⟩ := pvC 0 k3 (w15p.ckl_oks o l.length (k * 3) g.length k ((k + 1 : Nat) : Int) fn wh g gB a args.length) ⟨pre1, pre2, pre3, rfl, a_st (get_new g _) (by simp) rfl, a_ld1 gx rfl, f1, a_ld1 gx rfl, by simp [Asm.holds, cmpB]; omega, a_ld1 gx rfl, rv, a_ld1 gy rfl, f4, a_ld1 gy rfl, f5, by simp only [Asm.holds, arithI, ak1], trivial⟩
                    exact ⟨l.length - (k + 1), E2, _, by omega, q2, k + 1, by omega, rfl, .trans (.add (.add (.add (.nil _) rfl) rfl) rfl) q1, by rw [hta, k4, hb]; rfl, K3⟩
            · right
              have d3' : args.all valueB = false := by simpa using d3
              rw [d3'] at rv
              have hb : svOk ⟨fn, args, wh⟩ = false := by simp only [svOk, d3', Bool.and_false, Bool.false_and]
              rcases x3 with ⟨rfl, hnil⟩ | ⟨a, rw', rfl, hao⟩
              · obtain ⟨E2, q1, q2⟩ := pvC 0 k3 (w15p.ckl_valn o l.length (k * 3) g.length k 0 fn wh g gB) ⟨pre1, pre2, pre3, rfl, a_st (get_new g _) (by simp) rfl, a_ld1 gx rfl, f1, a_ld1 gx rfl, by simp [Asm.holds, cmpB], a_ld1 gx rfl, rv, trivial⟩
                exact ⟨_, E2, _, by simp, q2, K3, .inr ⟨rfl, .trans (.add (.nil _) rfl) q1, bad hb⟩⟩
              · obtain ⟨E2, q1, q2⟩ := pvC 0 k3 (w15p.ckl_vals o l.length (k * 3) g.length k 0 fn wh g gB a args.length) ⟨pre1, pre2, pre3, rfl, a_st (get_new g _) (by simp) rfl, a_ld1 gx rfl, f1, a_ld1 gx rfl, by simp [Asm.holds, cmpB]; omega, a_ld1 gx rfl, rv, trivial⟩
                exact ⟨_, E2, _, by simp, q2, K3, .inr ⟨rfl, .trans (.add (.nil _) rfl) q1, bad hb⟩⟩)
    l.length [(63, .int .i64 ((0 : Nat) : Int)), (62, .int .i64 (Int.ofNat l.length)), (61, .slice (some ⟨o, 0, none⟩) l.length 3)] h ⟨0, by omega, rfl, EnvLe.refl _, rfl, .refl _ _⟩

theorem check_run {v : Value} {l : List SvV} (s : SpecV) (a : SlAt h v l) : ∃ h', Run Try.prog 25 [.agg (s.cells v).toArray] h (.int .i64 (checkF s l)) h' ∧ Keep (fun _ => False) h h' := by
  obtain ⟨r, m, wi, ba, ca⟩ := s
  have Lt : ∀ (x y : Int), ¬ x < y → (Asm.cmp .lss x y false).holds Try.prog := fun x y e => by simpa [Asm.holds, cmpB] using e
  have Gt : ∀ (x y : Int), ¬ x > y → (Asm.cmp .gtr x y false).holds Try.prog := fun x y e => by simpa [Asm.holds, cmpB] using e
  have Lt' : ∀ (x y : Int), x < y → (Asm.cmp .lss x y true).holds Try.prog := fun x y e => by simpa [Asm.holds, cmpB] using e
  have Gt' : ∀ (x y : Int), x > y → (Asm.cmp .gtr x y true).holds Try.prog := fun x y e => by simpa [Asm.holds, cmpB] using e
  have K0 : Keep (fun _ => False) h (h ++ [.cells (SpecV.cells ⟨r, m, wi, ba, ca⟩ v) true]) := Keep.push _ _ _
  have g0 : (h ++ [AObj.cells (SpecV.cells ⟨r, m, wi, ba, ca⟩ v) true])[h.length]? = some (.cells (SpecV.cells ⟨r, m, wi, ba, ca⟩ v) true) := get_new h _
  have no : ¬ headOk ⟨r, m, wi, ba, ca⟩ l.length → checkF ⟨r, m, wi, ba, ca⟩ l = 2 := fun hn => by simp [checkF, hn]
  rcases a with ⟨rfl, rfl⟩ | ⟨o, rw, xs, rfl, ho, ha⟩
  · rw [no (by simp [headOk])]
    refine ⟨h ++ [.cells (SpecV.cells ⟨r, m, wi, ba, ca⟩ (.slice none 0 0)) true], ?_, K0⟩
    have L : ∀ {p : Nat} {x : Value}, (SpecV.cells ⟨r, m, wi, ba, ca⟩ (.slice none 0 0))[p]? = some x → (Asm.ld1 (.push (.is h) (.cells (SpecV.cells ⟨r, m, wi, ba, ca⟩ (.slice none 0 0)) true)) h.length p x).holds Try.prog := fun e => a_ld1 g0 e
    by_cases e1 : r < 1
    · exact pvF 0 Try.func25 (w15p.ck_a1 h.length r m wi ba ca (.slice none 0 0) h) ⟨rfl, L rfl, Lt' _ _ e1, trivial⟩
    by_cases e2 : r > 3
    · exact pvF 0 Try.func25 (w15p.ck_a2 h.length r m wi ba ca (.slice none 0 0) h) ⟨rfl, L rfl, Lt _ _ e1, L rfl, Gt' _ _ e2, trivial⟩
    by_cases e3 : m < 0
    · exact pvF 0 Try.func25 (w15p.ck_a3 h.length r m wi ba ca (.slice none 0 0) h) ⟨rfl, L rfl, Lt _ _ e1, L rfl, Gt _ _ e2, L rfl, Lt' _ _ e3, trivial⟩
    by_cases e4 : m > 20
    · exact pvF 0 Try.func25 (w15p.ck_a4 h.length r m wi ba ca (.slice none 0 0) h) ⟨rfl, L rfl, Lt _ _ e1, L rfl, Gt _ _ e2, L rfl, Lt _ _ e3, L rfl, Gt' _ _ e4, trivial⟩
    by_cases e5 : wi < 1
    · exact pvF 0 Try.func25 (w15p.ck_a5 h.length r m wi ba ca (.slice none 0 0) h) ⟨rfl, L rfl, Lt _ _ e1, L rfl, Gt _ _ e2, L rfl, Lt _ _ e3, L rfl, Gt _ _ e4, L rfl, Lt' _ _ e5, trivial⟩
    by_cases e6 : wi > 1000000000000
    · exact pvF 0 Try.func25 (w15p.ck_a6 h.length r m wi ba ca (.slice none 0 0) h) ⟨rfl, L rfl, Lt _ _ e1, L rfl, Gt _ _ e2, L rfl, Lt _ _ e3, L rfl, Gt _ _ e4, L rfl, Lt _ _ e5, L rfl, Gt' _ _ e6, trivial⟩
    by_cases e7 : ba < 0
    · exact pvF 0 Try.func25 (w15p.ck_b1 h.length r m wi ba ca (.slice none 0 0) h) ⟨rfl, L rfl, Lt _ _ e1, L rfl, Gt _ _ e2, L rfl, Lt _ _ e3, L rfl, Gt _ _ e4, L rfl, Lt _ _ e5, L rfl, Gt _ _ e6, L rfl, Lt' _ _ e7, trivial⟩
    by_cases e8 : ba > ca
    · exact pvF 0 Try.func25 (w15p.ck_b2 h.length r m wi ba ca (.slice none 0 0) h) ⟨rfl, L rfl, Lt _ _ e1, L rfl, Gt _ _ e2, L rfl, Lt _ _ e3, L rfl, Gt _ _ e4, L rfl, Lt _ _ e5, L rfl, Gt _ _ e6, L rfl, Lt _ _ e7, L rfl, L rfl, Gt' _ _ e8, trivial⟩
    by_cases e9 : ca > 1000000000000
    · exact pvF 0 Try.func25 (w15p.ck_b3 h.length r m wi ba ca (.slice none 0 0) h) ⟨rfl, L rfl, Lt _ _ e1, L rfl, Gt _ _ e2, L rfl, Lt _ _ e3, L rfl, Gt _ _ e4, L rfl, Lt _ _ e5, L rfl, Gt _ _ e6, L rfl, Lt _ _ e7, L rfl, L rfl, Gt _ _ e8, L rfl, Gt' _ _ e9, trivial⟩
    exact pvF 0 Try.func25 (w15p.ck_b4n h.length r m wi ba ca h) ⟨rfl, L rfl, Lt _ _ e1, L rfl, Gt _ _ e2, L rfl, Lt _ _ e3, L rfl, Gt _ _ e4, L rfl, Lt _ _ e5, L rfl, Gt _ _ e6, L rfl, Lt _ _ e7, L rfl, L rfl, Gt _ _ e8, L rfl, Gt _ _ e9, L rfl, Lt' _ _ (by simp), trivial⟩
  · let hA := h ++ [AObj.cells (SpecV.cells ⟨r, m, wi, ba, ca⟩ (.slice (some ⟨o, 0, none⟩) l.length 3)) true]
    have L : ∀ {p : Nat} {x : Value}, (SpecV.cells ⟨r, m, wi, ba, ca⟩ (.slice (some ⟨o, 0, none⟩) l.length 3))[p]? = some x → (Asm.ld1 (.push (.is h) (.cells (SpecV.cells ⟨r, m, wi, ba, ca⟩ (.slice (some ⟨o, 0, none⟩) l.length 3)) true)) h.length p x).holds Try.prog := fun e => a_ld1 g0 e
    by_cases e1 : r < 1
    · rw [no (by simp [headOk]; omega)]; exact ⟨hA, pvF 0 Try.func25 (w15p.ck_a1 h.length r m wi ba ca (.slice (some ⟨o, 0, none⟩) l.length 3) h) ⟨rfl, L rfl, Lt' _ _ e1, trivial⟩, K0⟩
    by_cases e2 : r > 3
    · rw [no (by simp [headOk]; omega)]; exact ⟨hA, pvF 0 Try.func25 (w15p.ck_a2 h.length r m wi ba ca (.slice (some ⟨o, 0, none⟩) l.length 3) h) ⟨rfl, L rfl, Lt _ _ e1, L rfl, Gt' _ _ e2, trivial⟩, K0⟩
    by_cases e3 : m < 0
    · rw [no (by simp [headOk]; omega)]; exact ⟨hA, pvF 0 Try.func25 (w15p.ck_a3 h.length r m wi ba ca (.slice (some ⟨o, 0, none⟩) l.length 3) h) ⟨rfl, L rfl, Lt _ _ e1, L rfl, Gt _ _ e2, L rfl, Lt' _ _ e3, trivial⟩, K0⟩
    by_cases e4 : m > 20
    · rw [no (by simp [headOk]; omega)]; exact ⟨hA, pvF 0 Try.func25 (w15p.ck_a4 h.length r m wi ba ca (.slice (some ⟨o, 0, none⟩) l.length 3) h) ⟨rfl, L rfl, Lt _ _ e1, L rfl, Gt _ _ e2, L rfl, Lt _ _ e3, L rfl, Gt' _ _ e4, trivial⟩, K0⟩
    by_cases e5 : wi < 1
    · rw [no (by simp [headOk]; omega)]; exact ⟨hA, pvF 0 Try.func25 (w15p.ck_a5 h.length r m wi ba ca (.slice (some ⟨o, 0, none⟩) l.length 3) h) ⟨rfl, L rfl, Lt _ _ e1, L rfl, Gt _ _ e2, L rfl, Lt _ _ e3, L rfl, Gt _ _ e4, L rfl, Lt' _ _ e5, trivial⟩, K0⟩
    by_cases e6 : wi > 1000000000000
    · rw [no (by simp [headOk]; omega)]; exact ⟨hA, pvF 0 Try.func25 (w15p.ck_a6 h.length r m wi ba ca (.slice (some ⟨o, 0, none⟩) l.length 3) h) ⟨rfl, L rfl, Lt _ _ e1, L rfl, Gt _ _ e2, L rfl, Lt _ _ e3, L rfl, Gt _ _ e4, L rfl, Lt _ _ e5, L rfl, Gt' _ _ e6, trivial⟩, K0⟩
    by_cases e7 : ba < 0
    · rw [no (by simp [headOk]; omega)]; exact ⟨hA, pvF 0 Try.func25 (w15p.ck_b1 h.length r m wi ba ca (.slice (some ⟨o, 0, none⟩) l.length 3) h) ⟨rfl, L rfl, Lt _ _ e1, L rfl, Gt _ _ e2, L rfl, Lt _ _ e3, L rfl, Gt _ _ e4, L rfl, Lt _ _ e5, L rfl, Gt _ _ e6, L rfl, Lt' _ _ e7, trivial⟩, K0⟩
    by_cases e8 : ba > ca
    · rw [no (by simp [headOk]; omega)]; exact ⟨hA, pvF 0 Try.func25 (w15p.ck_b2 h.length r m wi ba ca (.slice (some ⟨o, 0, none⟩) l.length 3) h) ⟨rfl, L rfl, Lt _ _ e1, L rfl, Gt _ _ e2, L rfl, Lt _ _ e3, L rfl, Gt _ _ e4, L rfl, Lt _ _ e5, L rfl, Gt _ _ e6, L rfl, Lt _ _ e7, L rfl, L rfl, Gt' _ _ e8, trivial⟩, K0⟩
    by_cases e9 : ca > 1000000000000
    · rw [no (by simp [headOk]; omega)]; exact ⟨hA, pvF 0 Try.func25 (w15p.ck_b3 h.length r m wi ba ca (.slice (some ⟨o, 0, none⟩) l.length 3) h) ⟨rfl, L rfl, Lt _ _ e1, L rfl, Gt _ _ e2, L rfl, Lt _ _ e3, L rfl, Gt _ _ e4, L rfl, Lt _ _ e5, L rfl, Gt _ _ e6, L rfl, Lt _ _ e7, L rfl, L rfl, Gt _ _ e8, L rfl, Gt' _ _ e9, trivial⟩, K0⟩
    have hof : Int.ofNat l.length = (l.length : Int) := rfl
    by_cases e10 : (Int.ofNat l.length) < 1
    · rw [no (by simp [headOk]; omega)]; exact ⟨hA, pvF 0 Try.func25 (w15p.ck_b4s h.length o l.length r m wi ba ca h) ⟨rfl, L rfl, Lt _ _ e1, L rfl, Gt _ _ e2, L rfl, Lt _ _ e3, L rfl, Gt _ _ e4, L rfl, Lt _ _ e5, L rfl, Gt _ _ e6, L rfl, Lt _ _ e7, L rfl, L rfl, Gt _ _ e8, L rfl, Gt _ _ e9, L rfl, Lt' _ _ e10, trivial⟩, K0⟩
    by_cases e11 : (Int.ofNat l.length) > 8
    · rw [no (by simp [headOk]; omega)]; exact ⟨hA, pvF 0 Try.func25 (w15p.ck_b5s h.length o l.length r m wi ba ca h) ⟨rfl, L rfl, Lt _ _ e1, L rfl, Gt _ _ e2, L rfl, Lt _ _ e3, L rfl, Gt _ _ e4, L rfl, Lt _ _ e5, L rfl, Gt _ _ e6, L rfl, Lt _ _ e7, L rfl, L rfl, Gt _ _ e8, L rfl, Gt _ _ e9, L rfl, Lt _ _ e10, L rfl, Gt' _ _ e11, trivial⟩, K0⟩
    have hd : headOk ⟨r, m, wi, ba, ca⟩ l.length := by simp at e10 e11; simp only [headOk]; omega
    have pl : plainC (loopN Try.f25 0) = true := by kernel_rfl
    obtain ⟨x', E1, h1, hl1, hK, ⟨rfl, hv⟩ | ⟨rfl, hE1, hv⟩⟩ := check_loop (K0.2 _ _ ho id) (ha.keep K0) (by simp at e11; omega)
    · rw [show checkF ⟨r, m, wi, ba, ca⟩ l = 0 by simp [checkF, hd, hv]]
      exact ⟨h1, pvF 0 Try.func25 (w15p.ck_oks h.length o l.length r m wi ba ca E1 h h1) ⟨rfl, L rfl, Lt _ _ e1, L rfl, Gt _ _ e2, L rfl, Lt _ _ e3, L rfl, Gt _ _ e4, L rfl, Lt _ _ e5, L rfl, Gt _ _ e6, L rfl, Lt _ _ e7, L rfl, L rfl, Gt _ _ e8, L rfl, Gt _ _ e9, L rfl, Lt _ _ e10, L rfl, Gt _ _ e11, L rfl,
        a_loop pl (.add (.add (.add (.nil _) rfl) rfl) rfl) (.refl _) hl1, trivial⟩, K0.trans hK⟩
    · rw [show checkF ⟨r, m, wi, ba, ca⟩ l = 2 by simp [checkF, hv]]
      exact ⟨h1, pvF 0 Try.func25 (w15p.ck_nos h.length o l.length r m wi ba ca [] h h1) ⟨rfl, L rfl, Lt _ _ e1, L rfl, Gt _ _ e2, L rfl, Lt _ _ e3, L rfl, Gt _ _ e4, L rfl, Lt _ _ e5, L rfl, Gt _ _ e6, L rfl, Lt _ _ e7, L rfl, L rfl, Gt _ _ e8, L rfl, Gt _ _ e9, L rfl, Lt _ _ e10, L rfl, Gt _ _ e11, L rfl,
        a_loop pl (.add (.add (.add (.nil _) rfl) rfl) rfl) hE1 hl1, trivial⟩, K0.trans hK⟩

end Go.Proofs.Ytkkhokgpcifckaa.wd

namespace Go.Proofs.Ytkkhokgpcifckaa.wd
open Go Go.Ev

variable {h : Hp}

/-! ### New -/

theorem stat11 : statOk (drawN Try.f11 0) = true := by kernel_rfl
def sv0 (y : SvV) : Sv := ⟨y.wh, 1, 0⟩
def newW (s : SpecV) (l : List SvV) : WS := ⟨s.r, s.m, s.wi, s.ba, s.ca, l.map sv0, 0, [], 0, false⟩

/-- The warden while its services come in: none yet, or some. -/
def nwCells (s : SpecV) (v : Value) : List Value := [.int .i64 s.r, .int .i64 s.m, .int .i64 s.wi, .int .i64 s.ba, .int .i64 s.ca, .slice none 0 0, v, .int .i64 0, .slice none 0 0, .int .i64 0, .bool false]

theorem new_loop {o w : Nat} {xs : List SvH} {rw : Bool} {l : List SvV} (s : SpecV) (ho : h[o]? = some (.cells (svhC xs) rw)) (ha : SvsAt h xs l) (hl : l.length ≤ 8) (hw : h[w]? = some (.cells (nwCells s (.slice none 0 0)) true)) (how : o ≠ w) :
    ∃ E1 h1 v, EnvLe [(5, .pointer (some ⟨w, 0, none⟩))] E1 ∧ LRun Try.prog 47 false (loopN Try.f11 0) [(29, .int .i64 0), (28, .int .i64 (Int.ofNat l.length)), (27, .slice (some ⟨o, 0, none⟩) l.length 3), (5, .pointer (some ⟨w, 0, none⟩))] h (.exit 0) E1 h1 ∧
      Keep (fun q => q = w) h h1 ∧ h1[w]? = some (.cells (nwCells s v) true) ∧ OrdAt h1 h.length v (l.map sv0) := by
  have hcl := svhC_len xs
  have hxl := ha.1
  obtain ⟨x', E1, h1, hl1, rfl, v, q1, q2, q3, q4⟩ := loop_inv (P := Try.prog) (n := 47) (rd := false) (b := loopN Try.f11 0)
    (Q := fun x' E1 h1 => x' = .exit 0 ∧ ∃ v, EnvLe [(5, .pointer (some ⟨w, 0, none⟩))] E1 ∧ Keep (fun q => q = w) h h1 ∧ h1[w]? = some (.cells (nwCells s v) true) ∧ OrdAt h1 h.length v (l.map sv0))
    (fun m E g => ∃ k v, k ≤ l.length ∧ m = l.length - k ∧ EnvLe [(29, .int .i64 (k : Nat)), (28, .int .i64 (Int.ofNat l.length)), (27, .slice (some ⟨o, 0, none⟩) l.length 3), (5, .pointer (some ⟨w, 0, none⟩))] E ∧
      Keep (fun q => q = w) h g ∧ g[w]? = some (.cells (nwCells s v) true) ∧ OrdAt g h.length v ((l.take k).map sv0))
    (fun m E g ⟨k, v, k1, k2, k3, k4, k5, k6⟩ => by
      by_cases e : k = l.length
      · right
        subst e
        obtain ⟨E2, q1, q2⟩ := pvC 0 k3 (w15p.nwl_out o l.length w (l.length : Nat) g) ⟨by simp [Asm.holds, cmpB], trivial⟩
        exact ⟨_, E2, _, by simp, q2, rfl, v, .trans (.add (.nil _) rfl) q1, k4, k5, by rwa [List.take_length] at k6⟩
      · left
        obtain ⟨y, hy⟩ : ∃ y, l[k]? = some y := ⟨_, List.getElem?_eq_getElem (by omega)⟩
        obtain ⟨x, hx⟩ : ∃ x, xs[k]? = some x := ⟨_, List.getElem?_eq_getElem (by omega)⟩
        obtain ⟨x1, x2, x3⟩ := ha.2 k x y hx hy
        obtain ⟨fn, av, wh⟩ := x
        obtain ⟨fn', args, wh'⟩ := y
        simp only at x1 x2 x3
        subst x1; subst x2
        have hog := k4.2 _ _ ho how
        have hgw := get_lt k5
        have hhl := k4.1
        have ak1 : IntKind.i64.wrap ((k : Int) + 1) = ((k + 1 : Nat) : Int) := add1 (by omega)
        have pre1 : (Asm.cmp .lss (k : Int) (Int.ofNat l.length) true).holds Try.prog := by simp [Asm.holds, cmpB]; omega
        have pre2 : (Asm.off (k * 3) 0 (k : Int) l.length 3).holds Try.prog := ⟨by omega, by omega, by simp⟩
        have pre3 : (Asm.ldn (.is g) o (k * 3) 3 [.int .i64 fn, av, .int .i64 wh]).holds Try.prog := a_ldn hog (by omega) (svhC_cut hx)
        let gA : Hp := (g ++ [AObj.cells [.int .i64 0, .slice none 0 0, .int .i64 0] true]).set g.length (.cells [.int .i64 fn, av, .int .i64 wh] true)
        have KA : Keep (fun _ => False) g gA := (Keep.push (fun _ => False) g _).trans_new (Keep.set (fp := fun q => q = g.length) rfl _) (fun q hq e => by omega)
        have gx : gA[g.length]? = some (.cells [.int .i64 fn, av, .int .i64 wh] true) := get_set_eq (get_new g _)
        have hAl : gA.length = g.length + 1 := by simp [gA]
        have gw := KA.2 _ _ k5 id
        have hmap : (l.take (k + 1)).map sv0 = (l.take k).map sv0 ++ [⟨wh, 1, 0⟩] := by rw [take_snoc hy, List.map_append]; rfl
        let B : AObj := .cells [.int .i64 wh, .int .i64 1, .int .i64 0] true
        have K0 : ∀ c, Keep (fun q => q = w) h ((((gA ++ [B]) ++ [AObj.cells (svC [⟨wh, 1, 0⟩]) true]).set w (.cells c true))) := fun c =>
          ((k4.trans (KA.mono fun q _ e => e.elim)).trans ((Keep.push (fun q => q = w) _ _).trans (Keep.push _ _ _))).trans (Keep.set (fp := fun q => q = w) rfl _)
        rcases k6 with ⟨rfl, hnil⟩ | ⟨j, rfl, hj, hbj, hne⟩
        · -- the first
          have st := a_st (P := Try.prog) (s := .push (.push (.set (.push (.is g) (.cells [.int .i64 0, .slice none 0 0, .int .i64 0] true)) g.length (.cells [.int .i64 fn, av, .int .i64 wh] true)) B) (.cells (svC [⟨wh, 1, 0⟩]) true)) (i := w) (d := 6) (l := [.slice (some ⟨g.length + 2, 0, none⟩) 1 3]) (c' := nwCells s (.slice (some ⟨g.length + 2, 0, none⟩) 1 3))
            (get_push (get_push gw)) (by simp [nwCells]) rfl
          have ap : (Asm.appNil (.push (.set (.push (.is g) (.cells [.int .i64 0, .slice none 0 0, .int .i64 0] true)) g.length (.cells [.int .i64 fn, av, .int .i64 wh] true)) B) (g.length + 1) 0 1 0 3 24 (svC [⟨wh, 1, 0⟩]) (g.length + 2)).holds Try.prog :=
            a_app3n (l2 := [⟨wh, 1, 0⟩]) (get_new' _ (by simp [SH.den])) (by simp) (by simp) (by simp [SH.den])
          have ln : (Asm.len (.set (.push (.is g) (.cells [.int .i64 0, .slice none 0 0, .int .i64 0] true)) g.length (.cells [.int .i64 fn, av, .int .i64 wh] true)) (g.length + 1)).holds Try.prog := by simp [Asm.holds, SH.den]
          have out : ∀ E2, EnvLe [(29, .int .i64 ((k + 1 : Nat) : Int)), (28, .int .i64 (Int.ofNat l.length)), (27, .slice (some ⟨o, 0, none⟩) l.length 3), (5, .pointer (some ⟨w, 0, none⟩))] E2 →
              CRun Try.prog 47 false (loopN Try.f11 0) E g .normal E2 (((gA ++ [B]) ++ [AObj.cells (svC [⟨wh, 1, 0⟩]) true]).set w (.cells (nwCells s (.slice (some ⟨g.length + 2, 0, none⟩) 1 3)) true)) →
              ∃ m' E1 h1, m' < m ∧ CRun Try.prog 47 false (loopN Try.f11 0) E g .normal E1 h1 ∧ ∃ k v, k ≤ l.length ∧ m' = l.length - k ∧ EnvLe [(29, .int .i64 (k : Nat)), (28, .int .i64 (Int.ofNat l.length)), (27, .slice (some ⟨o, 0, none⟩) l.length 3), (5, .pointer (some ⟨w, 0, none⟩))] E1 ∧
                Keep (fun q => q = w) h h1 ∧ h1[w]? = some (.cells (nwCells s v) true) ∧ OrdAt h1 h.length v ((l.take k).map sv0) := fun E2 q1 q2 =>
            ⟨l.length - (k + 1), E2, _, by omega, q2, k + 1, _, by omega, rfl, q1, K0 _, get_set_eq (get_push (get_push gw)), .inr ⟨g.length + 2, by rw [hmap, hnil]; rfl, by
              rw [hmap, hnil]; exact get_set_ne (get_new' _ (by simp [hAl])) (by omega), by omega, by rw [hmap]; simp⟩⟩
          rcases x3 with ⟨rfl, hnil⟩ | ⟨a, rw', rfl, hao⟩
          · obtain ⟨E2, q1, q2⟩ := pvC 0 k3 (w15p.nwl_onen o l.length w (k * 3) g.length (g.length + 1) (g.length + 2) k ((k + 1 : Nat) : Int) fn wh (nwCells s (.slice (some ⟨g.length + 2, 0, none⟩) 1 3)) (svC [⟨wh, 1, 0⟩]) g)
              ⟨pre1, pre2, pre3, rfl, a_st (get_new g _) (by simp) rfl, stat11, a_ld1 gw rfl, a_ld1 gx rfl, ln, ap, st, by simp only [Asm.holds, arithI, ak1], trivial⟩
            exact out E2 (.trans (.add (.add (.add (.add (.nil _) rfl) rfl) rfl) rfl) q1) q2
          · obtain ⟨E2, q1, q2⟩ := pvC 0 k3 (w15p.nwl_ones o l.length w (k * 3) g.length (g.length + 1) (g.length + 2) k ((k + 1 : Nat) : Int) fn wh (nwCells s (.slice (some ⟨g.length + 2, 0, none⟩) 1 3)) (svC [⟨wh, 1, 0⟩]) g a args.length)
              ⟨pre1, pre2, pre3, rfl, a_st (get_new g _) (by simp) rfl, stat11, a_ld1 gw rfl, a_ld1 gx rfl, ln, ap, st, by simp only [Asm.holds, arithI, ak1], trivial⟩
            exact out E2 (.trans (.add (.add (.add (.add (.nil _) rfl) rfl) rfl) rfl) q1) q2
        · -- one more
          have hlen : ((l.take k).map sv0).length = k := by simp; omega
          have hjl := get_lt hj
          have hjw : j ≠ w := by
            rintro rfl
            rw [hj] at k5
            simp only [Option.some.injEq, AObj.cells.injEq] at k5
            have e1 := svC_len ((l.take k).map sv0)
            rw [k5.1, hlen] at e1
            simp [nwCells] at e1
            omega
          have gj := KA.2 _ _ hj id
          have gjB : ((gA ++ [B]).set j .dead ++ [AObj.cells (svC ((l.take k).map sv0 ++ [(⟨wh, 1, 0⟩ : Sv)])) true])[w]? = some (.cells (nwCells s (.slice (some ⟨j, 0, none⟩) ((l.take k).map sv0).length 3)) true) := get_push (get_set_ne (get_push gw) hjw)
          have st := a_st (P := Try.prog) (s := .push (.set (.push (.set (.push (.is g) (.cells [.int .i64 0, .slice none 0 0, .int .i64 0] true)) g.length (.cells [.int .i64 fn, av, .int .i64 wh] true)) B) j .dead) (.cells (svC ((l.take k).map sv0 ++ [(⟨wh, 1, 0⟩ : Sv)])) true)) (i := w) (d := 6)
            (l := [.slice (some ⟨g.length + 2, 0, none⟩) (((l.take k).map sv0).length + 1) 3]) (c' := nwCells s (.slice (some ⟨g.length + 2, 0, none⟩) (((l.take k).map sv0).length + 1) 3)) gjB (by simp [nwCells]) rfl
          have ap : (Asm.app (.push (.set (.push (.is g) (.cells [.int .i64 0, .slice none 0 0, .int .i64 0] true)) g.length (.cells [.int .i64 fn, av, .int .i64 wh] true)) B) j 0 ((l.take k).map sv0).length (g.length + 1) 0 1 0 3 24 (svC ((l.take k).map sv0 ++ [(⟨wh, 1, 0⟩ : Sv)])) (svC [(⟨wh, 1, 0⟩ : Sv)]) (g.length + 2)).holds Try.prog :=
            a_app3 (l1 := (l.take k).map sv0) (l2 := [(⟨wh, 1, 0⟩ : Sv)]) (get_push gj) (get_new' _ (by simp [SH.den])) (by simp) (by simp; omega) (by simp [SH.den])
          have ln : (Asm.len (.set (.push (.is g) (.cells [.int .i64 0, .slice none 0 0, .int .i64 0] true)) g.length (.cells [.int .i64 fn, av, .int .i64 wh] true)) (g.length + 1)).holds Try.prog := by simp [Asm.holds, SH.den]
          have K1 : ∀ c, Keep (fun q => q = w) h ((((gA ++ [B]).set j .dead) ++ [AObj.cells (svC ((l.take k).map sv0 ++ [⟨wh, 1, 0⟩])) true]).set w (.cells c true)) := fun c =>
            (k4.trans (KA.mono fun q _ e => e.elim)).trans_new ((((Keep.push (fun q => q = w ∨ q = j) _ _).trans (Keep.set (fp := fun q => q = w ∨ q = j) (.inr rfl) _)).trans (Keep.push _ _ _)).trans (Keep.set (fp := fun q => q = w ∨ q = j) (.inl rfl) _)) (fun q hq e => by omega)
          have out : ∀ E2, EnvLe [(29, .int .i64 ((k + 1 : Nat) : Int)), (28, .int .i64 (Int.ofNat l.length)), (27, .slice (some ⟨o, 0, none⟩) l.length 3), (5, .pointer (some ⟨w, 0, none⟩))] E2 →
              CRun Try.prog 47 false (loopN Try.f11 0) E g .normal E2 ((((gA ++ [B]).set j .dead) ++ [AObj.cells (svC ((l.take k).map sv0 ++ [⟨wh, 1, 0⟩])) true]).set w (.cells (nwCells s (.slice (some ⟨g.length + 2, 0, none⟩) (((l.take k).map sv0).length + 1) 3)) true)) →
              ∃ m' E1 h1, m' < m ∧ CRun Try.prog 47 false (loopN Try.f11 0) E g .normal E1 h1 ∧ ∃ k v, k ≤ l.length ∧ m' = l.length - k ∧ EnvLe [(29, .int .i64 (k : Nat)), (28, .int .i64 (Int.ofNat l.length)), (27, .slice (some ⟨o, 0, none⟩) l.length 3), (5, .pointer (some ⟨w, 0, none⟩))] E1 ∧
                Keep (fun q => q = w) h h1 ∧ h1[w]? = some (.cells (nwCells s v) true) ∧ OrdAt h1 h.length v ((l.take k).map sv0) := fun E2 q1 q2 =>
            ⟨l.length - (k + 1), E2, _, by omega, q2, k + 1, _, by omega, rfl, q1, K1 _, get_set_eq gjB, .inr ⟨g.length + 2, by rw [hmap]; simp, by
              rw [hmap]; exact get_set_ne (get_new' _ (by simp [hAl])) (by omega), by omega, by rw [hmap]; simp⟩⟩
          rcases x3 with ⟨rfl, hnil⟩ | ⟨a, rw', rfl, hao⟩
          · obtain ⟨E2, q1, q2⟩ := pvC 0 k3 (w15p.nwl_moren o l.length w (k * 3) g.length (g.length + 1) (g.length + 2) j ((l.take k).map sv0).length k ((k + 1 : Nat) : Int) fn wh (svC ((l.take k).map sv0 ++ [⟨wh, 1, 0⟩])) (nwCells s (.slice (some ⟨g.length + 2, 0, none⟩) (((l.take k).map sv0).length + 1) 3)) (svC [⟨wh, 1, 0⟩]) g)
              ⟨pre1, pre2, pre3, rfl, a_st (get_new g _) (by simp) rfl, stat11, a_ld1 gw rfl, a_ld1 gx rfl, ln, ap, st, by simp only [Asm.holds, arithI, ak1], trivial⟩
            exact out E2 (.trans (.add (.add (.add (.add (.nil _) rfl) rfl) rfl) rfl) q1) q2
          · obtain ⟨E2, q1, q2⟩ := pvC 0 k3 (w15p.nwl_mores o l.length w (k * 3) g.length (g.length + 1) (g.length + 2) j ((l.take k).map sv0).length k ((k + 1 : Nat) : Int) fn wh (svC ((l.take k).map sv0 ++ [⟨wh, 1, 0⟩])) (nwCells s (.slice (some ⟨g.length + 2, 0, none⟩) (((l.take k).map sv0).length + 1) 3)) (svC [⟨wh, 1, 0⟩]) g a args.length)
              ⟨pre1, pre2, pre3, rfl, a_st (get_new g _) (by simp) rfl, stat11, a_ld1 gw rfl, a_ld1 gx rfl, ln, ap, st, by simp only [Asm.holds, arithI, ak1], trivial⟩
            exact out E2 (.trans (.add (.add (.add (.add (.nil _) rfl) rfl) rfl) rfl) q1) q2)
    l.length [(29, .int .i64 ((0 : Nat) : Int)), (28, .int .i64 (Int.ofNat l.length)), (27, .slice (some ⟨o, 0, none⟩) l.length 3), (5, .pointer (some ⟨w, 0, none⟩))] h ⟨0, .slice none 0 0, by omega, rfl, EnvLe.refl _, .refl _ _, hw, .inl ⟨rfl, rfl⟩⟩
  exact ⟨E1, h1, v, q1, hl1, q2, q3, q4⟩

theorem new_run {v : Value} {l : List SvV} (s : SpecV) (a : SlAt h v l) :
    (checkF s l ≠ 0 ∧ ∃ h', Run Try.prog 11 [.agg (s.cells v).toArray] h (.tuple #[.pointer none, .int .i64 (checkF s l)]) h' ∧ Keep (fun _ => False) h h') ∨
    (checkF s l = 0 ∧ ∃ i j h', Run Try.prog 11 [.agg (s.cells v).toArray] h (.tuple #[.pointer (some ⟨i, 0, none⟩), .int .i64 0]) h' ∧ Keep (fun _ => False) h h' ∧ WAt h' i j none (newW s l) ∧ h.length ≤ i ∧ h.length ≤ j) := by
  obtain ⟨r, m, wi, ba, ca⟩ := s
  have K0 : Keep (fun _ => False) h (h ++ [.cells (SpecV.cells ⟨r, m, wi, ba, ca⟩ v) true]) := Keep.push _ _ _
  have g0 : (h ++ [AObj.cells (SpecV.cells ⟨r, m, wi, ba, ca⟩ v) true])[h.length]? = some (.cells (SpecV.cells ⟨r, m, wi, ba, ca⟩ v) true) := get_new h _
  obtain ⟨g2, hc, K2⟩ := check_run ⟨r, m, wi, ba, ca⟩ (a.keep K0)
  by_cases e : checkF ⟨r, m, wi, ba, ca⟩ l = 0
  · right
    refine ⟨e, ?_⟩
    have hh : headOk ⟨r, m, wi, ba, ca⟩ l.length := by
      unfold checkF at e
      split at e
      · rename_i hx; exact hx.1
      · cases e
    rw [e] at hc
    rcases a with ⟨rfl, rfl⟩ | ⟨o, rw, xs, rfl, ho, ha⟩
    · simp [headOk] at hh
    · have ge := K2.2 _ _ g0 id
      have KW : Keep (fun _ => False) g2 (g2 ++ [AObj.cells (nwCells ⟨r, m, wi, ba, ca⟩ (.slice none 0 0)) true]) := Keep.push _ _ _
      have hol := get_lt ho
      have hg2 := K2.1
      simp at hg2
      obtain ⟨E1, h1, v, e1, hl1, K3, hw, hO⟩ := new_loop ⟨r, m, wi, ba, ca⟩ (KW.2 _ _ (K2.2 _ _ (K0.2 _ _ ho id) id) id) (((ha.keep K0).keep K2).keep KW) (by have := hh; unfold headOk at this; omega) (get_new g2 _) (by omega)
      have pl : plainC (loopN Try.f11 0) = true := by kernel_rfl
      rcases hO with ⟨rfl, hnil⟩ | ⟨j, rfl, hj, hbj, hne⟩
      · have : l.length = 0 := by simpa using congrArg List.length hnil
        rw [this] at hh; simp [headOk] at hh
      · simp at hbj
        have hw' := hw
        have hml : (l.map sv0).length = l.length := by simp
        refine ⟨g2.length, j, h1, pvF 0 Try.func11 (w15p.nw_ok h.length o l.length g2.length r m wi ba ca 0 [] h g2 h1)
          ⟨rfl, a_ldn g0 (by simp [SpecV.cells]) rfl, hc, by simp [Asm.holds, cmpB], a_ld1 ge rfl, a_ld1 ge rfl, a_ld1 ge rfl, a_ld1 ge rfl, a_ld1 ge rfl, rfl, a_ld1 (KW.2 _ _ ge id) rfl,
            a_loop pl (.add (.add (.add (.add (.nil _) rfl) rfl) rfl) rfl) e1 hl1, trivial⟩, ((K0.trans K2).trans KW).trans_new K3 (fun q hq e => by omega), ⟨hw, hj, .inl ⟨rfl, rfl⟩, by omega⟩, by omega, by omega⟩
  · left
    refine ⟨e, g2, ?_, K0.trans K2⟩
    rcases a with ⟨rfl, rfl⟩ | ⟨o, rw, xs, rfl, ho, ha⟩
    · exact pvF 0 Try.func11 (w15p.nw_non h.length r m wi ba ca _ h g2) ⟨rfl, a_ldn g0 (by simp [SpecV.cells]) rfl, hc, by simpa [Asm.holds, cmpB] using e, trivial⟩
    · exact pvF 0 Try.func11 (w15p.nw_nos h.length r m wi ba ca _ h g2 o l.length) ⟨rfl, a_ldn g0 (by simp [SpecV.cells]) rfl, hc, by simpa [Asm.holds, cmpB] using e, trivial⟩

theorem newW_ok {s : SpecV} {l : List SvV} (e : checkF s l = 0) : WOk (newW s l) ∧ (newW s l).svs.length = l.length ∧ headOk s l.length ∧ l.all svOk = true := by
  unfold checkF at e
  split at e
  · rename_i hx
    obtain ⟨hh, hs⟩ := hx
    have hh' := hh
    unfold headOk at hh'
    refine ⟨⟨?_, ?_, ?_, ?_, ?_, ?_, ?_, ?_, ?_, ?_⟩, ?_, hh, hs⟩ <;> simp [newW] <;> omega
  · cases e

end Go.Proofs.Ytkkhokgpcifckaa.wd
