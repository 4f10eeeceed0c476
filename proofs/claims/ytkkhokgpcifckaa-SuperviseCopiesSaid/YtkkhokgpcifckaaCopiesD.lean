import Derived.Test.YtkkhokgpcifckaaCopiesC
import Derived.Test.YtkkhokgpcifckaaProg
import Derived.KernelRfl
set_option linter.unusedVariables false
-- printed by wip/tools/pvgen.py; each is checked by the kernel
namespace Go.Proofs.Ytkkhokgpcifckaa.w5p
open Go Go.Ev
set_option maxRecDepth 100000
set_option linter.unusedVariables false

theorem gu_end (i j len : Nat) (k : Int) (h : Hp) : pvCode Try.prog (pvCall Try.prog 0) 51 false ((loopN Try.f46 0)) [(23, .int .i64 k), (22, .int .i64 (Int.ofNat len)), (21, .slice (some ⟨j, 0, none⟩) len 3), (0, .pointer (some ⟨i, 0, none⟩))] (.is h) [.bit false] =
    some (Ex.exit 0, [(24, Value.bool false), (23, Value.int IntKind.i64 k), (22, Value.int IntKind.i64 (Int.ofNat len)), (21, Value.slice (some { block := j, off := 0 }) len 3), (0, Value.pointer (some { block := i, off := 0 }))], SH.is h, [], [Asm.cmp BinOp.lss k (Int.ofNat len) false]) := by kernel_rfl
theorem gu_off (i j len : Nat) (k : Int) (h : Hp) (q b : Nat) (x s a k1 : Int) (c : List Value) : pvCode Try.prog (pvCall Try.prog 0) 51 false ((loopN Try.f46 0)) [(23, .int .i64 k), (22, .int .i64 (Int.ofNat len)), (21, .slice (some ⟨j, 0, none⟩) len 3), (0, .pointer (some ⟨i, 0, none⟩))] (.is h) [.bit true, .offs q, .cells [.int .i64 x, .int .i64 s, .int .i64 a], .idx b, .cells [.int .i64 x, .int .i64 s, .int .i64 a], .val (.int .i64 s), .bit true, .val (.slice (some ⟨j, 0, none⟩) len 3), .val (.int .i64 x), .offs q, .cells c, .num k1] =
    some (Ex.normal, [(23, Value.int IntKind.i64 k1), (45, Value.int IntKind.i64 k1), (44, Value.pointer (some { block := j, off := q })), (43, Value.agg { toList := [Value.int IntKind.i64 x, Value.int IntKind.i64 5, Value.int IntKind.i64 0] }), (42, Value.int IntKind.i64 x), (41, Value.pointer (some { block := b, off := 0 })), (40, Value.int IntKind.i64 k), (39, Value.slice (some { block := j, off := 0 }) len 3), (38, Value.pointer (some { block := i, off := 6 })), (37, Value.pointer (some { block := i, off := 0 })), (36, Value.pointer (some { block := i, off := 0 })), (35, Value.bool true), (34, Value.tuple { toList := [] }), (33, Value.tuple { toList := [] }), (32, Value.tuple { toList := [] }), (31, Value.bool true), (30, Value.bool true), (29, Value.int IntKind.i64 s), (28, Value.pointer (some { block := b, off := 1 })), (5, Value.int IntKind.i64 k), (6, Value.pointer (some { block := b, off := 0 })), (27, Value.agg { toList := [Value.int IntKind.i64 x, Value.int IntKind.i64 s, Value.int IntKind.i64 a] }), (26, Value.pointer (some { block := j, off := q })), (25, Value.int IntKind.i64 k), (24, Value.bool true), (23, Value.int IntKind.i64 k), (22, Value.int IntKind.i64 (Int.ofNat len)), (21, Value.slice (some { block := j, off := 0 }) len 3), (0, Value.pointer (some { block := i, off := 0 }))], SH.set (SH.set (SH.push (SH.is h) (AObj.cells [Value.int IntKind.i64 0, Value.int IntKind.i64 0, Value.int IntKind.i64 0] true)) b (AObj.cells [Value.int IntKind.i64 x, Value.int IntKind.i64 s, Value.int IntKind.i64 a] true)) j (AObj.cells c true), [], [Asm.cmp BinOp.lss k (Int.ofNat len) true, Asm.off q 0 k len 3, Asm.ldn (SH.is h) j q 3 [Value.int IntKind.i64 x, Value.int IntKind.i64 s, Value.int IntKind.i64 a], Asm.len (SH.is h) b, Asm.st (SH.push (SH.is h) (AObj.cells [Value.int IntKind.i64 0, Value.int IntKind.i64 0, Value.int IntKind.i64 0] true)) b 0 [Value.int IntKind.i64 x, Value.int IntKind.i64 s, Value.int IntKind.i64 a] [Value.int IntKind.i64 x, Value.int IntKind.i64 s, Value.int IntKind.i64 a], Asm.ld1 (SH.set (SH.push (SH.is h) (AObj.cells [Value.int IntKind.i64 0, Value.int IntKind.i64 0, Value.int IntKind.i64 0] true)) b (AObj.cells [Value.int IntKind.i64 x, Value.int IntKind.i64 s, Value.int IntKind.i64 a] true)) b 1 (Value.int IntKind.i64 s), Asm.cmp BinOp.eql s 3 true, Asm.stat (drawN Try.f46 0), Asm.ld1 (SH.set (SH.push (SH.is h) (AObj.cells [Value.int IntKind.i64 0, Value.int IntKind.i64 0, Value.int IntKind.i64 0] true)) b (AObj.cells [Value.int IntKind.i64 x, Value.int IntKind.i64 s, Value.int IntKind.i64 a] true)) i 6 (Value.slice (some { block := j, off := 0 }) len 3), Asm.ld1 (SH.set (SH.push (SH.is h) (AObj.cells [Value.int IntKind.i64 0, Value.int IntKind.i64 0, Value.int IntKind.i64 0] true)) b (AObj.cells [Value.int IntKind.i64 x, Value.int IntKind.i64 s, Value.int IntKind.i64 a] true)) b 0 (Value.int IntKind.i64 x), Asm.off q 0 k len 3, Asm.st (SH.set (SH.push (SH.is h) (AObj.cells [Value.int IntKind.i64 0, Value.int IntKind.i64 0, Value.int IntKind.i64 0] true)) b (AObj.cells [Value.int IntKind.i64 x, Value.int IntKind.i64 s, Value.int IntKind.i64 a] true)) j q [Value.int IntKind.i64 x, Value.int IntKind.i64 5, Value.int IntKind.i64 0] c, Asm.arith BinOp.add IntKind.i64 k 1 k1]) := by kernel_rfl
theorem gu_due (i j len : Nat) (k : Int) (h : Hp) (q b : Nat) (x s a k1 : Int) (c : List Value) : pvCode Try.prog (pvCall Try.prog 0) 51 false ((loopN Try.f46 0)) [(23, .int .i64 k), (22, .int .i64 (Int.ofNat len)), (21, .slice (some ⟨j, 0, none⟩) len 3), (0, .pointer (some ⟨i, 0, none⟩))] (.is h) [.bit true, .offs q, .cells [.int .i64 x, .int .i64 s, .int .i64 a], .idx b, .cells [.int .i64 x, .int .i64 s, .int .i64 a], .val (.int .i64 s), .bit false, .val (.int .i64 s), .bit true, .val (.slice (some ⟨j, 0, none⟩) len 3), .val (.int .i64 x), .offs q, .cells c, .num k1] =
    some (Ex.normal, [(23, Value.int IntKind.i64 k1), (45, Value.int IntKind.i64 k1), (44, Value.pointer (some { block := j, off := q })), (43, Value.agg { toList := [Value.int IntKind.i64 x, Value.int IntKind.i64 5, Value.int IntKind.i64 0] }), (42, Value.int IntKind.i64 x), (41, Value.pointer (some { block := b, off := 0 })), (40, Value.int IntKind.i64 k), (39, Value.slice (some { block := j, off := 0 }) len 3), (38, Value.pointer (some { block := i, off := 6 })), (37, Value.pointer (some { block := i, off := 0 })), (36, Value.pointer (some { block := i, off := 0 })), (35, Value.bool true), (34, Value.bool true), (33, Value.int IntKind.i64 s), (32, Value.pointer (some { block := b, off := 1 })), (31, Value.bool false), (30, Value.bool false), (29, Value.int IntKind.i64 s), (28, Value.pointer (some { block := b, off := 1 })), (5, Value.int IntKind.i64 k), (6, Value.pointer (some { block := b, off := 0 })), (27, Value.agg { toList := [Value.int IntKind.i64 x, Value.int IntKind.i64 s, Value.int IntKind.i64 a] }), (26, Value.pointer (some { block := j, off := q })), (25, Value.int IntKind.i64 k), (24, Value.bool true), (23, Value.int IntKind.i64 k), (22, Value.int IntKind.i64 (Int.ofNat len)), (21, Value.slice (some { block := j, off := 0 }) len 3), (0, Value.pointer (some { block := i, off := 0 }))], SH.set (SH.set (SH.push (SH.is h) (AObj.cells [Value.int IntKind.i64 0, Value.int IntKind.i64 0, Value.int IntKind.i64 0] true)) b (AObj.cells [Value.int IntKind.i64 x, Value.int IntKind.i64 s, Value.int IntKind.i64 a] true)) j (AObj.cells c true), [], [Asm.cmp BinOp.lss k (Int.ofNat len) true, Asm.off q 0 k len 3, Asm.ldn (SH.is h) j q 3 [Value.int IntKind.i64 x, Value.int IntKind.i64 s, Value.int IntKind.i64 a], Asm.len (SH.is h) b, Asm.st (SH.push (SH.is h) (AObj.cells [Value.int IntKind.i64 0, Value.int IntKind.i64 0, Value.int IntKind.i64 0] true)) b 0 [Value.int IntKind.i64 x, Value.int IntKind.i64 s, Value.int IntKind.i64 a] [Value.int IntKind.i64 x, Value.int IntKind.i64 s, Value.int IntKind.i64 a], Asm.ld1 (SH.set (SH.push (SH.is h) (AObj.cells [Value.int IntKind.i64 0, Value.int IntKind.i64 0, Value.int IntKind.i64 0] true)) b (AObj.cells [Value.int IntKind.i64 x, Value.int IntKind.i64 s, Value.int IntKind.i64 a] true)) b 1 (Value.int IntKind.i64 s), Asm.cmp BinOp.eql s 3 false, Asm.ld1 (SH.set (SH.push (SH.is h) (AObj.cells [Value.int IntKind.i64 0, Value.int IntKind.i64 0, Value.int IntKind.i64 0] true)) b (AObj.cells [Value.int IntKind.i64 x, Value.int IntKind.i64 s, Value.int IntKind.i64 a] true)) b 1 (Value.int IntKind.i64 s), Asm.cmp BinOp.eql s 4 true, Asm.stat (drawN Try.f46 0), Asm.ld1 (SH.set (SH.push (SH.is h) (AObj.cells [Value.int IntKind.i64 0, Value.int IntKind.i64 0, Value.int IntKind.i64 0] true)) b (AObj.cells [Value.int IntKind.i64 x, Value.int IntKind.i64 s, Value.int IntKind.i64 a] true)) i 6 (Value.slice (some { block := j, off := 0 }) len 3), Asm.ld1 (SH.set (SH.push (SH.is h) (AObj.cells [Value.int IntKind.i64 0, Value.int IntKind.i64 0, Value.int IntKind.i64 0] true)) b (AObj.cells [Value.int IntKind.i64 x, Value.int IntKind.i64 s, Value.int IntKind.i64 a] true)) b 0 (Value.int IntKind.i64 x), Asm.off q 0 k len 3, Asm.st (SH.set (SH.push (SH.is h) (AObj.cells [Value.int IntKind.i64 0, Value.int IntKind.i64 0, Value.int IntKind.i64 0] true)) b (AObj.cells [Value.int IntKind.i64 x, Value.int IntKind.i64 s, Value.int IntKind.i64 a] true)) j q [Value.int IntKind.i64 x, Value.int IntKind.i64 5, Value.int IntKind.i64 0] c, Asm.arith BinOp.add IntKind.i64 k 1 k1]) := by kernel_rfl
theorem gu_no (i j len : Nat) (k : Int) (h : Hp) (q b : Nat) (x s a k1 : Int) : pvCode Try.prog (pvCall Try.prog 0) 51 false ((loopN Try.f46 0)) [(23, .int .i64 k), (22, .int .i64 (Int.ofNat len)), (21, .slice (some ⟨j, 0, none⟩) len 3), (0, .pointer (some ⟨i, 0, none⟩))] (.is h) [.bit true, .offs q, .cells [.int .i64 x, .int .i64 s, .int .i64 a], .idx b, .cells [.int .i64 x, .int .i64 s, .int .i64 a], .val (.int .i64 s), .bit false, .val (.int .i64 s), .bit false, .num k1] =
    some (Ex.normal, [(23, Value.int IntKind.i64 k1), (45, Value.int IntKind.i64 k1), (35, Value.bool false), (34, Value.bool false), (33, Value.int IntKind.i64 s), (32, Value.pointer (some { block := b, off := 1 })), (31, Value.bool false), (30, Value.bool false), (29, Value.int IntKind.i64 s), (28, Value.pointer (some { block := b, off := 1 })), (5, Value.int IntKind.i64 k), (6, Value.pointer (some { block := b, off := 0 })), (27, Value.agg { toList := [Value.int IntKind.i64 x, Value.int IntKind.i64 s, Value.int IntKind.i64 a] }), (26, Value.pointer (some { block := j, off := q })), (25, Value.int IntKind.i64 k), (24, Value.bool true), (23, Value.int IntKind.i64 k), (22, Value.int IntKind.i64 (Int.ofNat len)), (21, Value.slice (some { block := j, off := 0 }) len 3), (0, Value.pointer (some { block := i, off := 0 }))], SH.set (SH.push (SH.is h) (AObj.cells [Value.int IntKind.i64 0, Value.int IntKind.i64 0, Value.int IntKind.i64 0] true)) b (AObj.cells [Value.int IntKind.i64 x, Value.int IntKind.i64 s, Value.int IntKind.i64 a] true), [], [Asm.cmp BinOp.lss k (Int.ofNat len) true, Asm.off q 0 k len 3, Asm.ldn (SH.is h) j q 3 [Value.int IntKind.i64 x, Value.int IntKind.i64 s, Value.int IntKind.i64 a], Asm.len (SH.is h) b, Asm.st (SH.push (SH.is h) (AObj.cells [Value.int IntKind.i64 0, Value.int IntKind.i64 0, Value.int IntKind.i64 0] true)) b 0 [Value.int IntKind.i64 x, Value.int IntKind.i64 s, Value.int IntKind.i64 a] [Value.int IntKind.i64 x, Value.int IntKind.i64 s, Value.int IntKind.i64 a], Asm.ld1 (SH.set (SH.push (SH.is h) (AObj.cells [Value.int IntKind.i64 0, Value.int IntKind.i64 0, Value.int IntKind.i64 0] true)) b (AObj.cells [Value.int IntKind.i64 x, Value.int IntKind.i64 s, Value.int IntKind.i64 a] true)) b 1 (Value.int IntKind.i64 s), Asm.cmp BinOp.eql s 3 false, Asm.ld1 (SH.set (SH.push (SH.is h) (AObj.cells [Value.int IntKind.i64 0, Value.int IntKind.i64 0, Value.int IntKind.i64 0] true)) b (AObj.cells [Value.int IntKind.i64 x, Value.int IntKind.i64 s, Value.int IntKind.i64 a] true)) b 1 (Value.int IntKind.i64 s), Asm.cmp BinOp.eql s 4 false, Asm.arith BinOp.add IntKind.i64 k 1 k1]) := by kernel_rfl
theorem gu0 (i j len q b : Nat) (n n1 : Int) (c1 c2 : List Value) (h h2 h3 : Hp) : pvFn Try.prog (pvCall Try.prog 0) Try.f46 [.pointer (some ⟨i, 0, none⟩), .int .i64 n] (.is h) [.cells c1, .val (.slice (some ⟨j, 0, none⟩) len 3), .num n1, .offs q, .cells c2, .val (.slice (some ⟨j, 0, none⟩) len 3), .loop (.exit 0) [(0, .pointer (some ⟨i, 0, none⟩))] (.is h2), .idx b, .ret (.slice none 0 0) (.is h3), .app0] =
    some (Value.slice (some { block := b, off := 0 }) 1 3, SH.is h3, [], [Asm.st (SH.is h) i 10 [Value.bool true] c1, Asm.ld1 (SH.set (SH.is h) i (AObj.cells c1 true)) i 6 (Value.slice (some { block := j, off := 0 }) len 3), Asm.arith BinOp.sub IntKind.i64 n 1 n1, Asm.off q 0 n1 len 3, Asm.st (SH.set (SH.is h) i (AObj.cells c1 true)) j (Nat.succ q) [Value.int IntKind.i64 5] c2, Asm.ld1 (SH.set (SH.set (SH.is h) i (AObj.cells c1 true)) j (AObj.cells c2 true)) i 6 (Value.slice (some { block := j, off := 0 }) len 3), Asm.loop 51 false (loopN Try.f46 0) [(23, Value.int IntKind.i64 0), (22, Value.int IntKind.i64 (Int.ofNat len)), (21, Value.slice (some { block := j, off := 0 }) len 3), (20, Value.pointer (some { block := i, off := 6 })), (19, Value.pointer (some { block := i, off := 0 })), (18, Value.pointer (some { block := i, off := 0 })), (17, Value.pointer (some { block := j, off := Nat.succ q })), (16, Value.pointer (some { block := j, off := q })), (15, Value.int IntKind.i64 n1), (14, Value.int IntKind.i64 n), (13, Value.slice (some { block := j, off := 0 }) len 3), (12, Value.pointer (some { block := i, off := 6 })), (11, Value.pointer (some { block := i, off := 0 })), (10, Value.pointer (some { block := i, off := 0 })), (9, Value.pointer (some { block := i, off := 10 })), (8, Value.pointer (some { block := i, off := 0 })), (7, Value.pointer (some { block := i, off := 0 })), (4, Value.slice none 0 0), (0, Value.pointer (some { block := i, off := 0 })), (1, Value.int IntKind.i64 n)] (SH.set (SH.set (SH.is h) i (AObj.cells c1 true)) j (AObj.cells c2 true)) (Ex.exit 0) [(0, Value.pointer (some { block := i, off := 0 }))] (SH.is h2), Asm.len (SH.is h2) b, Asm.call 49 [Value.pointer (some { block := i, off := 0 }), Value.func (Fn.func 60) { toList := [] } { toList := [] }] (SH.push (SH.is h2) (AObj.cells [Value.int IntKind.i64 3, Value.int IntKind.i64 0, Value.int IntKind.i64 0] true)) (Value.slice none 0 0) (SH.is h3)]) := by kernel_rfl
theorem gu1 (i j len q b : Nat) (n n1 : Int) (c1 c2 : List Value) (h h2 h3 : Hp) (o m m' d : Nat) (cs news : List Value) : pvFn Try.prog (pvCall Try.prog 0) Try.f46 [.pointer (some ⟨i, 0, none⟩), .int .i64 n] (.is h) [.cells c1, .val (.slice (some ⟨j, 0, none⟩) len 3), .num n1, .offs q, .cells c2, .val (.slice (some ⟨j, 0, none⟩) len 3), .loop (.exit 0) [(0, .pointer (some ⟨i, 0, none⟩))] (.is h2), .idx b, .ret (.slice (some ⟨o, 0, none⟩) m 3) (.is h3), .app cs news m' d] =
    some (Value.slice (some { block := d, off := 0 }) (1 + m) 3, SH.push (SH.set (SH.is h3) b AObj.dead) (AObj.cells cs true), [], [Asm.st (SH.is h) i 10 [Value.bool true] c1, Asm.ld1 (SH.set (SH.is h) i (AObj.cells c1 true)) i 6 (Value.slice (some { block := j, off := 0 }) len 3), Asm.arith BinOp.sub IntKind.i64 n 1 n1, Asm.off q 0 n1 len 3, Asm.st (SH.set (SH.is h) i (AObj.cells c1 true)) j (Nat.succ q) [Value.int IntKind.i64 5] c2, Asm.ld1 (SH.set (SH.set (SH.is h) i (AObj.cells c1 true)) j (AObj.cells c2 true)) i 6 (Value.slice (some { block := j, off := 0 }) len 3), Asm.loop 51 false (loopN Try.f46 0) [(23, Value.int IntKind.i64 0), (22, Value.int IntKind.i64 (Int.ofNat len)), (21, Value.slice (some { block := j, off := 0 }) len 3), (20, Value.pointer (some { block := i, off := 6 })), (19, Value.pointer (some { block := i, off := 0 })), (18, Value.pointer (some { block := i, off := 0 })), (17, Value.pointer (some { block := j, off := Nat.succ q })), (16, Value.pointer (some { block := j, off := q })), (15, Value.int IntKind.i64 n1), (14, Value.int IntKind.i64 n), (13, Value.slice (some { block := j, off := 0 }) len 3), (12, Value.pointer (some { block := i, off := 6 })), (11, Value.pointer (some { block := i, off := 0 })), (10, Value.pointer (some { block := i, off := 0 })), (9, Value.pointer (some { block := i, off := 10 })), (8, Value.pointer (some { block := i, off := 0 })), (7, Value.pointer (some { block := i, off := 0 })), (4, Value.slice none 0 0), (0, Value.pointer (some { block := i, off := 0 })), (1, Value.int IntKind.i64 n)] (SH.set (SH.set (SH.is h) i (AObj.cells c1 true)) j (AObj.cells c2 true)) (Ex.exit 0) [(0, Value.pointer (some { block := i, off := 0 }))] (SH.is h2), Asm.len (SH.is h2) b, Asm.call 49 [Value.pointer (some { block := i, off := 0 }), Value.func (Fn.func 60) { toList := [] } { toList := [] }] (SH.push (SH.is h2) (AObj.cells [Value.int IntKind.i64 3, Value.int IntKind.i64 0, Value.int IntKind.i64 0] true)) (Value.slice (some { block := o, off := 0 }) m 3) (SH.is h3), Asm.app (SH.is h3) b 0 1 o 0 m m' 3 24 cs news d]) := by kernel_rfl
theorem group1 (h : Hp) : pvFn Try.prog (pvCall Try.prog 0) Try.f47 [.int .i64 1] (.is h) [] =
    some (Value.func (Fn.func 61) { toList := [] } { toList := [] }, SH.is h, [], []) := by kernel_rfl
theorem group2 (h : Hp) : pvFn Try.prog (pvCall Try.prog 0) Try.f47 [.int .i64 2] (.is h) [] =
    some (Value.func (Fn.func 62) { toList := [] } { toList := [] }, SH.is h, [], []) := by kernel_rfl
theorem group3 (h : Hp) : pvFn Try.prog (pvCall Try.prog 0) Try.f47 [.int .i64 3] (.is h) [] =
    some (Value.func (Fn.func 63) { toList := [] } { toList := [] }, SH.is h, [], []) := by kernel_rfl
theorem g1 (a b : Int) (h : Hp) : pvFn Try.prog (pvCall Try.prog 0) Try.f61 [.int .i64 a, .int .i64 b] (.is h) [] =
    some (Value.bool false, SH.is h, [], []) := by kernel_rfl
theorem g2 (a b : Int) (h : Hp) : pvFn Try.prog (pvCall Try.prog 0) Try.f62 [.int .i64 a, .int .i64 b] (.is h) [] =
    some (Value.bool true, SH.is h, [], []) := by kernel_rfl
theorem g3 (a b : Int) (h : Hp) (z : Bool) : pvFn Try.prog (pvCall Try.prog 0) Try.f63 [.int .i64 a, .int .i64 b] (.is h) [.bit z] =
    some (Value.bool z, SH.is h, [], [Asm.cmp BinOp.gtr b a z]) := by kernel_rfl
theorem all (a : Int) (h : Hp) : pvFn Try.prog (pvCall Try.prog 0) Try.f60 [.int .i64 a] (.is h) [] =
    some (Value.bool true, SH.is h, [], []) := by kernel_rfl
theorem named_no (b3 b7 : Nat) (k n n1 : Int) (h : Hp) : pvFn Try.prog (pvCall Try.prog 0) Try.f48 [.int .i64 k, .pointer (some ⟨b3, 0, none⟩), .pointer (some ⟨b7, 0, none⟩)] (.is h) [.val (.int .i64 n), .num n1, .bit false] =
    some (Value.bool false, SH.is h, [], [Asm.ld1 (SH.is h) b3 0 (Value.int IntKind.i64 n), Asm.arith BinOp.sub IntKind.i64 n 1 n1, Asm.cmp BinOp.neq k n1 false]) := by kernel_rfl
theorem named (b3 b7 : Nat) (k n n1 : Int) (f : FuncId) (z : Bool) (h : Hp) : pvFn Try.prog (pvCall Try.prog 0) Try.f48 [.int .i64 k, .pointer (some ⟨b3, 0, none⟩), .pointer (some ⟨b7, 0, none⟩)] (.is h) [.val (.int .i64 n), .num n1, .bit true, .val (.func (.func f) #[] #[]), .val (.int .i64 n), .num n1, .ret (.bool z) (.is h)] =
    some (Value.bool z, SH.is h, [], [Asm.ld1 (SH.is h) b3 0 (Value.int IntKind.i64 n), Asm.arith BinOp.sub IntKind.i64 n 1 n1, Asm.cmp BinOp.neq k n1 true, Asm.ld1 (SH.is h) b7 0 (Value.func (Fn.func f) { toList := [] } { toList := [] }), Asm.ld1 (SH.is h) b3 0 (Value.int IntKind.i64 n), Asm.arith BinOp.sub IntKind.i64 n 1 n1, Asm.call f [Value.int IntKind.i64 n1, Value.int IntKind.i64 k] (SH.is h) (Value.bool z) (SH.is h)]) := by kernel_rfl
theorem du_end (i b3 : Nat) (k m d : Int) (h : Hp) : pvCode Try.prog (pvCall Try.prog 0) 118 false ((loopN Try.f33 0)) [(48, .int .i64 k), (47, .int .i64 m), (6, .int .i64 d), (3, .pointer (some ⟨b3, 0, none⟩)), (0, .pointer (some ⟨i, 0, none⟩))] (.is h) [.bit false] =
    some (Ex.exit 0, [(49, Value.bool false), (48, Value.int IntKind.i64 k), (47, Value.int IntKind.i64 m), (6, Value.int IntKind.i64 d), (3, Value.pointer (some { block := b3, off := 0 })), (0, Value.pointer (some { block := i, off := 0 }))], SH.is h, [], [Asm.cmp BinOp.lss k m false]) := by kernel_rfl
theorem du_go (i b3 : Nat) (k m d d2 cp d3 k1 : Int) (h : Hp) : pvCode Try.prog (pvCall Try.prog 0) 118 false ((loopN Try.f33 0)) [(48, .int .i64 k), (47, .int .i64 m), (6, .int .i64 d), (3, .pointer (some ⟨b3, 0, none⟩)), (0, .pointer (some ⟨i, 0, none⟩))] (.is h) [.bit true, .num d2, .val (.int .i64 cp), .num d3, .num k1] =
    some (Ex.normal, [(48, Value.int IntKind.i64 k1), (58, Value.int IntKind.i64 k1), (6, Value.int IntKind.i64 d3), (57, Value.int IntKind.i64 d3), (56, Value.int IntKind.i64 cp), (55, Value.pointer (some { block := i, off := 4 })), (54, Value.pointer (some { block := i, off := 0 })), (53, Value.pointer (some { block := i, off := 0 })), (52, Value.pointer (some { block := i, off := 0 })), (51, Value.int IntKind.i64 d2), (50, Value.int IntKind.i64 d), (49, Value.bool true), (48, Value.int IntKind.i64 k), (47, Value.int IntKind.i64 m), (6, Value.int IntKind.i64 d), (3, Value.pointer (some { block := b3, off := 0 })), (0, Value.pointer (some { block := i, off := 0 }))], SH.is h, [], [Asm.cmp BinOp.lss k m true, Asm.arith BinOp.mul IntKind.i64 2 d d2, Asm.ld1 (SH.is h) i 4 (Value.int IntKind.i64 cp), Asm.mm false d2 cp d3, Asm.arith BinOp.add IntKind.i64 k 1 k1]) := by kernel_rfl
theorem of_end (i j len b3 b7 : Nat) (v9 : Value) (k : Int) (h : Hp) : pvCode Try.prog (pvCall Try.prog 0) 118 false ((loopN Try.f33 1)) [(91, .int .i64 k), (90, .int .i64 (Int.ofNat len)), (89, .slice (some ⟨j, 0, none⟩) len 3), (8, .func (.func 48) #[] #[.pointer (some ⟨b3, 0, none⟩), .pointer (some ⟨b7, 0, none⟩)]), (9, v9), (0, .pointer (some ⟨i, 0, none⟩))] (.is h) [.bit false] =
    some (Ex.exit 2, [(92, Value.bool false), (91, Value.int IntKind.i64 k), (90, Value.int IntKind.i64 (Int.ofNat len)), (89, Value.slice (some { block := j, off := 0 }) len 3), (8, Value.func (Fn.func 48) { toList := [] } { toList := [Value.pointer (some { block := b3, off := 0 }), Value.pointer (some { block := b7, off := 0 })] }), (9, v9), (0, Value.pointer (some { block := i, off := 0 }))], SH.is h, [], [Asm.cmp BinOp.lss k (Int.ofNat len) false]) := by kernel_rfl
theorem of_no1 (i j len b3 b7 : Nat) (v9 : Value) (k : Int) (h : Hp) (q b : Nat) (x s a k1 : Int) : pvCode Try.prog (pvCall Try.prog 0) 118 false ((loopN Try.f33 1)) [(91, .int .i64 k), (90, .int .i64 (Int.ofNat len)), (89, .slice (some ⟨j, 0, none⟩) len 3), (8, .func (.func 48) #[] #[.pointer (some ⟨b3, 0, none⟩), .pointer (some ⟨b7, 0, none⟩)]), (9, v9), (0, .pointer (some ⟨i, 0, none⟩))] (.is h) [.bit true, .offs q, .cells [.int .i64 x, .int .i64 s, .int .i64 a], .idx b, .cells [.int .i64 x, .int .i64 s, .int .i64 a], .val (.int .i64 s), .bit false, .num k1] =
    some (Ex.normal, [(91, Value.int IntKind.i64 k1), (113, Value.int IntKind.i64 k1), (103, Value.bool false), (102, Value.tuple { toList := [] }), (101, Value.tuple { toList := [] }), (100, Value.tuple { toList := [] }), (99, Value.bool false), (98, Value.bool false), (97, Value.int IntKind.i64 s), (96, Value.pointer (some { block := b, off := 1 })), (10, Value.int IntKind.i64 k), (11, Value.pointer (some { block := b, off := 0 })), (95, Value.agg { toList := [Value.int IntKind.i64 x, Value.int IntKind.i64 s, Value.int IntKind.i64 a] }), (94, Value.pointer (some { block := j, off := q })), (93, Value.int IntKind.i64 k), (92, Value.bool true), (91, Value.int IntKind.i64 k), (90, Value.int IntKind.i64 (Int.ofNat len)), (89, Value.slice (some { block := j, off := 0 }) len 3), (8, Value.func (Fn.func 48) { toList := [] } { toList := [Value.pointer (some { block := b3, off := 0 }), Value.pointer (some { block := b7, off := 0 })] }), (9, v9), (0, Value.pointer (some { block := i, off := 0 }))], SH.set (SH.push (SH.is h) (AObj.cells [Value.int IntKind.i64 0, Value.int IntKind.i64 0, Value.int IntKind.i64 0] true)) b (AObj.cells [Value.int IntKind.i64 x, Value.int IntKind.i64 s, Value.int IntKind.i64 a] true), [], [Asm.cmp BinOp.lss k (Int.ofNat len) true, Asm.off q 0 k len 3, Asm.ldn (SH.is h) j q 3 [Value.int IntKind.i64 x, Value.int IntKind.i64 s, Value.int IntKind.i64 a], Asm.len (SH.is h) b, Asm.st (SH.push (SH.is h) (AObj.cells [Value.int IntKind.i64 0, Value.int IntKind.i64 0, Value.int IntKind.i64 0] true)) b 0 [Value.int IntKind.i64 x, Value.int IntKind.i64 s, Value.int IntKind.i64 a] [Value.int IntKind.i64 x, Value.int IntKind.i64 s, Value.int IntKind.i64 a], Asm.ld1 (SH.set (SH.push (SH.is h) (AObj.cells [Value.int IntKind.i64 0, Value.int IntKind.i64 0, Value.int IntKind.i64 0] true)) b (AObj.cells [Value.int IntKind.i64 x, Value.int IntKind.i64 s, Value.int IntKind.i64 a] true)) b 1 (Value.int IntKind.i64 s), Asm.cmp BinOp.eql s 4 false, Asm.arith BinOp.add IntKind.i64 k 1 k1]) := by kernel_rfl
theorem of_no2 (i j len b3 b7 : Nat) (v9 : Value) (k : Int) (h : Hp) (q b : Nat) (x s a k1 : Int) (h' : Hp) : pvCode Try.prog (pvCall Try.prog 0) 118 false ((loopN Try.f33 1)) [(91, .int .i64 k), (90, .int .i64 (Int.ofNat len)), (89, .slice (some ⟨j, 0, none⟩) len 3), (8, .func (.func 48) #[] #[.pointer (some ⟨b3, 0, none⟩), .pointer (some ⟨b7, 0, none⟩)]), (9, v9), (0, .pointer (some ⟨i, 0, none⟩))] (.is h) [.bit true, .offs q, .cells [.int .i64 x, .int .i64 s, .int .i64 a], .idx b, .cells [.int .i64 x, .int .i64 s, .int .i64 a], .val (.int .i64 s), .bit true, .ret (.bool false) (.is h'), .num k1] =
    some (Ex.normal, [(91, Value.int IntKind.i64 k1), (113, Value.int IntKind.i64 k1), (103, Value.bool false), (102, Value.bool false), (101, Value.int IntKind.i64 k), (100, Value.func (Fn.func 48) { toList := [] } { toList := [Value.pointer (some { block := b3, off := 0 }), Value.pointer (some { block := b7, off := 0 })] }), (99, Value.bool true), (98, Value.bool true), (97, Value.int IntKind.i64 s), (96, Value.pointer (some { block := b, off := 1 })), (10, Value.int IntKind.i64 k), (11, Value.pointer (some { block := b, off := 0 })), (95, Value.agg { toList := [Value.int IntKind.i64 x, Value.int IntKind.i64 s, Value.int IntKind.i64 a] }), (94, Value.pointer (some { block := j, off := q })), (93, Value.int IntKind.i64 k), (92, Value.bool true), (91, Value.int IntKind.i64 k), (90, Value.int IntKind.i64 (Int.ofNat len)), (89, Value.slice (some { block := j, off := 0 }) len 3), (8, Value.func (Fn.func 48) { toList := [] } { toList := [Value.pointer (some { block := b3, off := 0 }), Value.pointer (some { block := b7, off := 0 })] }), (9, v9), (0, Value.pointer (some { block := i, off := 0 }))], SH.is h', [], [Asm.cmp BinOp.lss k (Int.ofNat len) true, Asm.off q 0 k len 3, Asm.ldn (SH.is h) j q 3 [Value.int IntKind.i64 x, Value.int IntKind.i64 s, Value.int IntKind.i64 a], Asm.len (SH.is h) b, Asm.st (SH.push (SH.is h) (AObj.cells [Value.int IntKind.i64 0, Value.int IntKind.i64 0, Value.int IntKind.i64 0] true)) b 0 [Value.int IntKind.i64 x, Value.int IntKind.i64 s, Value.int IntKind.i64 a] [Value.int IntKind.i64 x, Value.int IntKind.i64 s, Value.int IntKind.i64 a], Asm.ld1 (SH.set (SH.push (SH.is h) (AObj.cells [Value.int IntKind.i64 0, Value.int IntKind.i64 0, Value.int IntKind.i64 0] true)) b (AObj.cells [Value.int IntKind.i64 x, Value.int IntKind.i64 s, Value.int IntKind.i64 a] true)) b 1 (Value.int IntKind.i64 s), Asm.cmp BinOp.eql s 4 true, Asm.call 48 [Value.int IntKind.i64 k, Value.pointer (some { block := b3, off := 0 }), Value.pointer (some { block := b7, off := 0 })] (SH.set (SH.push (SH.is h) (AObj.cells [Value.int IntKind.i64 0, Value.int IntKind.i64 0, Value.int IntKind.i64 0] true)) b (AObj.cells [Value.int IntKind.i64 x, Value.int IntKind.i64 s, Value.int IntKind.i64 a] true)) (Value.bool false) (SH.is h'), Asm.arith BinOp.add IntKind.i64 k 1 k1]) := by kernel_rfl
theorem of_yes (i j len b3 b7 : Nat) (v9 : Value) (k : Int) (h : Hp) (q b : Nat) (x s a k1 : Int) (c : List Value) (h' : Hp) : pvCode Try.prog (pvCall Try.prog 0) 118 false ((loopN Try.f33 1)) [(91, .int .i64 k), (90, .int .i64 (Int.ofNat len)), (89, .slice (some ⟨j, 0, none⟩) len 3), (8, .func (.func 48) #[] #[.pointer (some ⟨b3, 0, none⟩), .pointer (some ⟨b7, 0, none⟩)]), (9, v9), (0, .pointer (some ⟨i, 0, none⟩))] (.is h) [.bit true, .offs q, .cells [.int .i64 x, .int .i64 s, .int .i64 a], .idx b, .cells [.int .i64 x, .int .i64 s, .int .i64 a], .val (.int .i64 s), .bit true, .ret (.bool true) (.is h'), .val (.slice (some ⟨j, 0, none⟩) len 3), .val (.int .i64 x), .offs q, .cells c, .num k1] =
    some (Ex.normal, [(91, Value.int IntKind.i64 k1), (113, Value.int IntKind.i64 k1), (112, Value.pointer (some { block := j, off := q })), (111, Value.agg { toList := [Value.int IntKind.i64 x, Value.int IntKind.i64 3, Value.int IntKind.i64 0] }), (110, Value.int IntKind.i64 x), (109, Value.pointer (some { block := b, off := 0 })), (108, Value.int IntKind.i64 k), (107, Value.slice (some { block := j, off := 0 }) len 3), (106, Value.pointer (some { block := i, off := 6 })), (105, Value.pointer (some { block := i, off := 0 })), (104, Value.pointer (some { block := i, off := 0 })), (103, Value.bool true), (102, Value.bool true), (101, Value.int IntKind.i64 k), (100, Value.func (Fn.func 48) { toList := [] } { toList := [Value.pointer (some { block := b3, off := 0 }), Value.pointer (some { block := b7, off := 0 })] }), (99, Value.bool true), (98, Value.bool true), (97, Value.int IntKind.i64 s), (96, Value.pointer (some { block := b, off := 1 })), (10, Value.int IntKind.i64 k), (11, Value.pointer (some { block := b, off := 0 })), (95, Value.agg { toList := [Value.int IntKind.i64 x, Value.int IntKind.i64 s, Value.int IntKind.i64 a] }), (94, Value.pointer (some { block := j, off := q })), (93, Value.int IntKind.i64 k), (92, Value.bool true), (91, Value.int IntKind.i64 k), (90, Value.int IntKind.i64 (Int.ofNat len)), (89, Value.slice (some { block := j, off := 0 }) len 3), (8, Value.func (Fn.func 48) { toList := [] } { toList := [Value.pointer (some { block := b3, off := 0 }), Value.pointer (some { block := b7, off := 0 })] }), (9, v9), (0, Value.pointer (some { block := i, off := 0 }))], SH.set (SH.is h') j (AObj.cells c true), [], [Asm.cmp BinOp.lss k (Int.ofNat len) true, Asm.off q 0 k len 3, Asm.ldn (SH.is h) j q 3 [Value.int IntKind.i64 x, Value.int IntKind.i64 s, Value.int IntKind.i64 a], Asm.len (SH.is h) b, Asm.st (SH.push (SH.is h) (AObj.cells [Value.int IntKind.i64 0, Value.int IntKind.i64 0, Value.int IntKind.i64 0] true)) b 0 [Value.int IntKind.i64 x, Value.int IntKind.i64 s, Value.int IntKind.i64 a] [Value.int IntKind.i64 x, Value.int IntKind.i64 s, Value.int IntKind.i64 a], Asm.ld1 (SH.set (SH.push (SH.is h) (AObj.cells [Value.int IntKind.i64 0, Value.int IntKind.i64 0, Value.int IntKind.i64 0] true)) b (AObj.cells [Value.int IntKind.i64 x, Value.int IntKind.i64 s, Value.int IntKind.i64 a] true)) b 1 (Value.int IntKind.i64 s), Asm.cmp BinOp.eql s 4 true, Asm.call 48 [Value.int IntKind.i64 k, Value.pointer (some { block := b3, off := 0 }), Value.pointer (some { block := b7, off := 0 })] (SH.set (SH.push (SH.is h) (AObj.cells [Value.int IntKind.i64 0, Value.int IntKind.i64 0, Value.int IntKind.i64 0] true)) b (AObj.cells [Value.int IntKind.i64 x, Value.int IntKind.i64 s, Value.int IntKind.i64 a] true)) (Value.bool true) (SH.is h'), Asm.stat (drawN Try.f33 2), Asm.ld1 (SH.is h') i 6 (Value.slice (some { block := j, off := 0 }) len 3), Asm.ld1 (SH.is h') b 0 (Value.int IntKind.i64 x), Asm.off q 0 k len 3, Asm.st (SH.is h') j q [Value.int IntKind.i64 x, Value.int IntKind.i64 3, Value.int IntKind.i64 0] c, Asm.arith BinOp.add IntKind.i64 k 1 k1]) := by kernel_rfl
theorem ag_head0 (i b3 b2 d : Nat) (n now k : Int) (c : List Value) (h : Hp) : pvCode Try.prog (pvCall Try.prog 0) 118 false ((.seq (partC Try.f33 [0]) (.seq (partC Try.f33 [1, 0]) (partC Try.f33 [1, 1, 0])))) (enterE 0 [.pointer (some ⟨i, 0, none⟩), .int .i64 n]) (.is h) [.idx b3, .val (.int .i64 now), .ret (.int .i64 k) (.push (.is h) (.cells [.int .i64 n] true)), .val (.slice none 0 0), .val (.int .i64 now), .idx b2, .app [] [.int .i64 now] 0 d, .cells c] =
    some (Ex.normal, [(30, Value.pointer (some { block := i, off := 8 })), (29, Value.pointer (some { block := i, off := 0 })), (28, Value.slice (some { block := d, off := 0 }) 1 1), (27, Value.slice (some { block := b2, off := 0 }) 1 1), (26, Value.int IntKind.i64 now), (25, Value.pointer (some { block := i, off := 7 })), (24, Value.pointer (some { block := i, off := 0 })), (23, Value.pointer (some { block := i, off := 0 })), (22, Value.slice none 0 0), (21, Value.pointer (some { block := i, off := 8 })), (20, Value.pointer (some { block := i, off := 0 })), (19, Value.pointer (some { block := i, off := 0 })), (18, Value.pointer (some { block := i, off := 0 })), (5, Value.int IntKind.i64 k), (17, Value.int IntKind.i64 k), (16, Value.int IntKind.i64 now), (15, Value.pointer (some { block := i, off := 7 })), (14, Value.pointer (some { block := i, off := 0 })), (13, Value.pointer (some { block := i, off := 0 })), (12, Value.pointer (some { block := i, off := 0 })), (4, Value.slice none 0 0), (3, Value.pointer (some { block := b3, off := 0 })), (0, Value.pointer (some { block := i, off := 0 })), (1, Value.int IntKind.i64 n)], SH.set (SH.push (SH.push (SH.push (SH.is h) (AObj.cells [Value.int IntKind.i64 n] true)) (AObj.cells [Value.int IntKind.i64 now] true)) (AObj.cells [Value.int IntKind.i64 now] true)) i (AObj.cells c true), [], [Asm.len (SH.is h) b3, Asm.ld1 (SH.push (SH.is h) (AObj.cells [Value.int IntKind.i64 n] true)) i 7 (Value.int IntKind.i64 now), Asm.call 45 [Value.pointer (some { block := i, off := 0 }), Value.int IntKind.i64 now] (SH.push (SH.is h) (AObj.cells [Value.int IntKind.i64 n] true)) (Value.int IntKind.i64 k) (SH.push (SH.is h) (AObj.cells [Value.int IntKind.i64 n] true)), Asm.stat (drawN Try.f33 0), Asm.ld1 (SH.push (SH.is h) (AObj.cells [Value.int IntKind.i64 n] true)) i 8 (Value.slice none 0 0), Asm.ld1 (SH.push (SH.is h) (AObj.cells [Value.int IntKind.i64 n] true)) i 7 (Value.int IntKind.i64 now), Asm.len (SH.push (SH.is h) (AObj.cells [Value.int IntKind.i64 n] true)) b2, Asm.appNil (SH.push (SH.push (SH.is h) (AObj.cells [Value.int IntKind.i64 n] true)) (AObj.cells [Value.int IntKind.i64 now] true)) b2 0 1 0 1 8 [Value.int IntKind.i64 now] d, Asm.st (SH.push (SH.push (SH.push (SH.is h) (AObj.cells [Value.int IntKind.i64 n] true)) (AObj.cells [Value.int IntKind.i64 now] true)) (AObj.cells [Value.int IntKind.i64 now] true)) i 8 [Value.slice (some { block := d, off := 0 }) 1 1] c]) := by kernel_rfl
theorem ag_head1 (i b3 b2 t m d : Nat) (n now k : Int) (c cs : List Value) (h : Hp) : pvCode Try.prog (pvCall Try.prog 0) 118 false ((.seq (partC Try.f33 [0]) (.seq (partC Try.f33 [1, 0]) (partC Try.f33 [1, 1, 0])))) (enterE 0 [.pointer (some ⟨i, 0, none⟩), .int .i64 n]) (.is h) [.idx b3, .val (.int .i64 now), .ret (.int .i64 k) (.push (.is h) (.cells [.int .i64 n] true)), .val (.slice (some ⟨t, 0, none⟩) m 1), .val (.int .i64 now), .idx b2, .app cs [.int .i64 now] 0 d, .cells c] =
    some (Ex.normal, [(30, Value.pointer (some { block := i, off := 8 })), (29, Value.pointer (some { block := i, off := 0 })), (28, Value.slice (some { block := d, off := 0 }) (Nat.succ m) 1), (27, Value.slice (some { block := b2, off := 0 }) 1 1), (26, Value.int IntKind.i64 now), (25, Value.pointer (some { block := i, off := 7 })), (24, Value.pointer (some { block := i, off := 0 })), (23, Value.pointer (some { block := i, off := 0 })), (22, Value.slice (some { block := t, off := 0 }) m 1), (21, Value.pointer (some { block := i, off := 8 })), (20, Value.pointer (some { block := i, off := 0 })), (19, Value.pointer (some { block := i, off := 0 })), (18, Value.pointer (some { block := i, off := 0 })), (5, Value.int IntKind.i64 k), (17, Value.int IntKind.i64 k), (16, Value.int IntKind.i64 now), (15, Value.pointer (some { block := i, off := 7 })), (14, Value.pointer (some { block := i, off := 0 })), (13, Value.pointer (some { block := i, off := 0 })), (12, Value.pointer (some { block := i, off := 0 })), (4, Value.slice none 0 0), (3, Value.pointer (some { block := b3, off := 0 })), (0, Value.pointer (some { block := i, off := 0 })), (1, Value.int IntKind.i64 n)], SH.set (SH.push (SH.set (SH.push (SH.push (SH.is h) (AObj.cells [Value.int IntKind.i64 n] true)) (AObj.cells [Value.int IntKind.i64 now] true)) t AObj.dead) (AObj.cells cs true)) i (AObj.cells c true), [], [Asm.len (SH.is h) b3, Asm.ld1 (SH.push (SH.is h) (AObj.cells [Value.int IntKind.i64 n] true)) i 7 (Value.int IntKind.i64 now), Asm.call 45 [Value.pointer (some { block := i, off := 0 }), Value.int IntKind.i64 now] (SH.push (SH.is h) (AObj.cells [Value.int IntKind.i64 n] true)) (Value.int IntKind.i64 k) (SH.push (SH.is h) (AObj.cells [Value.int IntKind.i64 n] true)), Asm.stat (drawN Try.f33 0), Asm.ld1 (SH.push (SH.is h) (AObj.cells [Value.int IntKind.i64 n] true)) i 8 (Value.slice (some { block := t, off := 0 }) m 1), Asm.ld1 (SH.push (SH.is h) (AObj.cells [Value.int IntKind.i64 n] true)) i 7 (Value.int IntKind.i64 now), Asm.len (SH.push (SH.is h) (AObj.cells [Value.int IntKind.i64 n] true)) b2, Asm.app (SH.push (SH.push (SH.is h) (AObj.cells [Value.int IntKind.i64 n] true)) (AObj.cells [Value.int IntKind.i64 now] true)) t 0 m b2 0 1 0 1 8 cs [Value.int IntKind.i64 now] d, Asm.st (SH.push (SH.set (SH.push (SH.push (SH.is h) (AObj.cells [Value.int IntKind.i64 n] true)) (AObj.cells [Value.int IntKind.i64 now] true)) t AObj.dead) (AObj.cells cs true)) i 8 [Value.slice (some { block := d, off := 0 }) (Nat.succ m) 1] c]) := by kernel_rfl
theorem ag_up (i b3 : Nat) (n k k1 most : Int) (v : Value) (h h' : Hp) : pvCode Try.prog (pvCall Try.prog 0) 118 false ((partC Try.f33 [1, 1, 1])) [(5, .int .i64 k), (3, .pointer (some ⟨b3, 0, none⟩)), (0, .pointer (some ⟨i, 0, none⟩))] (.is h) [.num k1, .val (.int .i64 most), .bit true, .val (.int .i64 n), .ret v (.is h')] =
    some (Ex.ret, [(4, v), (41, v), (40, Value.int IntKind.i64 n), (39, Value.pointer (some { block := i, off := 0 })), (38, Value.bool true), (37, Value.int IntKind.i64 most), (36, Value.pointer (some { block := i, off := 1 })), (35, Value.pointer (some { block := i, off := 0 })), (34, Value.pointer (some { block := i, off := 0 })), (33, Value.pointer (some { block := i, off := 0 })), (32, Value.int IntKind.i64 k1), (31, Value.int IntKind.i64 k), (5, Value.int IntKind.i64 k), (3, Value.pointer (some { block := b3, off := 0 })), (0, Value.pointer (some { block := i, off := 0 }))], SH.is h', [], [Asm.arith BinOp.add IntKind.i64 k 1 k1, Asm.ld1 (SH.is h) i 1 (Value.int IntKind.i64 most), Asm.cmp BinOp.gtr k1 most true, Asm.ld1 (SH.is h) b3 0 (Value.int IntKind.i64 n), Asm.call 46 [Value.pointer (some { block := i, off := 0 }), Value.int IntKind.i64 n] (SH.is h) v (SH.is h')]) := by kernel_rfl
theorem ag_00 (i j b3 b7 q len : Nat) (n k k1 most base d dl mx n1 rule : Int) (f : FuncId) (c1 c2 : List Value) (h h2 h3 h4 : Hp) : pvCode Try.prog (pvCall Try.prog 0) 118 false ((partC Try.f33 [1, 1, 1])) [(5, .int .i64 k), (3, .pointer (some ⟨b3, 0, none⟩)), (0, .pointer (some ⟨i, 0, none⟩))] (.is h) [.num k1, .val (.int .i64 most), .bit false, .val (.int .i64 base), .loop (.exit 0) [(6, .int .i64 d), (3, .pointer (some ⟨b3, 0, none⟩)), (0, .pointer (some ⟨i, 0, none⟩))] (.is h), .val (.int .i64 dl), .num mx, .cells c1, .val (.slice (some ⟨j, 0, none⟩) len 3), .val (.int .i64 n), .num n1, .offs q, .cells c2, .val (.int .i64 rule), .ret (.func (.func f) #[] #[]) (.set (.set (.is h) i (.cells c1 true)) j (.cells c2 true)), .idx b7, .cells [.func (.func f) #[] #[]], .ret (.slice none 0 0) (.is h2), .val (.slice (some ⟨j, 0, none⟩) len 3), .loop (.exit 2) [(9, .slice none 0 0), (0, .pointer (some ⟨i, 0, none⟩))] (.is h3), .ret (.slice none 0 0) (.is h4), .app0] =
    some (Ex.ret, [(4, Value.slice none 0 0), (117, Value.slice none 0 0), (116, Value.slice none 0 0), (115, Value.pointer (some { block := i, off := 0 })), (114, Value.slice none 0 0), (9, Value.slice none 0 0), (0, Value.pointer (some { block := i, off := 0 }))], SH.is h4, [], [Asm.arith BinOp.add IntKind.i64 k 1 k1, Asm.ld1 (SH.is h) i 1 (Value.int IntKind.i64 most), Asm.cmp BinOp.gtr k1 most false, Asm.ld1 (SH.is h) i 3 (Value.int IntKind.i64 base), Asm.loop 118 false (loopN Try.f33 0) [(48, Value.int IntKind.i64 0), (47, Value.int IntKind.i64 k), (6, Value.int IntKind.i64 base), (46, Value.int IntKind.i64 base), (45, Value.pointer (some { block := i, off := 3 })), (44, Value.pointer (some { block := i, off := 0 })), (43, Value.pointer (some { block := i, off := 0 })), (42, Value.pointer (some { block := i, off := 0 })), (38, Value.bool false), (37, Value.int IntKind.i64 most), (36, Value.pointer (some { block := i, off := 1 })), (35, Value.pointer (some { block := i, off := 0 })), (34, Value.pointer (some { block := i, off := 0 })), (33, Value.pointer (some { block := i, off := 0 })), (32, Value.int IntKind.i64 k1), (31, Value.int IntKind.i64 k), (5, Value.int IntKind.i64 k), (3, Value.pointer (some { block := b3, off := 0 })), (0, Value.pointer (some { block := i, off := 0 }))] (SH.is h) (Ex.exit 0) [(6, Value.int IntKind.i64 d), (3, Value.pointer (some { block := b3, off := 0 })), (0, Value.pointer (some { block := i, off := 0 }))] (SH.is h), Asm.ld1 (SH.is h) i 9 (Value.int IntKind.i64 dl), Asm.mm true dl d mx, Asm.st (SH.is h) i 9 [Value.int IntKind.i64 mx] c1, Asm.stat (drawN Try.f33 1), Asm.ld1 (SH.set (SH.is h) i (AObj.cells c1 true)) i 6 (Value.slice (some { block := j, off := 0 }) len 3), Asm.ld1 (SH.set (SH.is h) i (AObj.cells c1 true)) b3 0 (Value.int IntKind.i64 n), Asm.arith BinOp.sub IntKind.i64 n 1 n1, Asm.off q 0 n1 len 3, Asm.st (SH.set (SH.is h) i (AObj.cells c1 true)) j (Nat.succ q) [Value.int IntKind.i64 3] c2, Asm.ld1 (SH.set (SH.set (SH.is h) i (AObj.cells c1 true)) j (AObj.cells c2 true)) i 0 (Value.int IntKind.i64 rule), Asm.call 47 [Value.int IntKind.i64 rule] (SH.set (SH.set (SH.is h) i (AObj.cells c1 true)) j (AObj.cells c2 true)) (Value.func (Fn.func f) { toList := [] } { toList := [] }) (SH.set (SH.set (SH.is h) i (AObj.cells c1 true)) j (AObj.cells c2 true)), Asm.len (SH.set (SH.set (SH.is h) i (AObj.cells c1 true)) j (AObj.cells c2 true)) b7, Asm.st (SH.push (SH.set (SH.set (SH.is h) i (AObj.cells c1 true)) j (AObj.cells c2 true)) (AObj.cells [Value.nilFunc] true)) b7 0 [Value.func (Fn.func f) { toList := [] } { toList := [] }] [Value.func (Fn.func f) { toList := [] } { toList := [] }], Asm.call 49 [Value.pointer (some { block := i, off := 0 }), Value.func (Fn.func 48) { toList := [] } { toList := [Value.pointer (some { block := b3, off := 0 }), Value.pointer (some { block := b7, off := 0 })] }] (SH.set (SH.push (SH.set (SH.set (SH.is h) i (AObj.cells c1 true)) j (AObj.cells c2 true)) (AObj.cells [Value.nilFunc] true)) b7 (AObj.cells [Value.func (Fn.func f) { toList := [] } { toList := [] }] true)) (Value.slice none 0 0) (SH.is h2), Asm.ld1 (SH.is h2) i 6 (Value.slice (some { block := j, off := 0 }) len 3), Asm.loop 118 false (loopN Try.f33 1) [(91, Value.int IntKind.i64 0), (90, Value.int IntKind.i64 (Int.ofNat len)), (89, Value.slice (some { block := j, off := 0 }) len 3), (88, Value.pointer (some { block := i, off := 6 })), (87, Value.pointer (some { block := i, off := 0 })), (86, Value.pointer (some { block := i, off := 0 })), (9, Value.slice none 0 0), (85, Value.slice none 0 0), (84, Value.func (Fn.func 48) { toList := [] } { toList := [Value.pointer (some { block := b3, off := 0 }), Value.pointer (some { block := b7, off := 0 })] }), (83, Value.pointer (some { block := i, off := 0 })), (8, Value.func (Fn.func 48) { toList := [] } { toList := [Value.pointer (some { block := b3, off := 0 }), Value.pointer (some { block := b7, off := 0 })] }), (82, Value.func (Fn.func 48) { toList := [] } { toList := [Value.pointer (some { block := b3, off := 0 }), Value.pointer (some { block := b7, off := 0 })] }), (7, Value.pointer (some { block := b7, off := 0 })), (81, Value.func (Fn.func f) { toList := [] } { toList := [] }), (80, Value.int IntKind.i64 rule), (79, Value.pointer (some { block := i, off := 0 })), (78, Value.pointer (some { block := i, off := 0 })), (77, Value.pointer (some { block := i, off := 0 })), (76, Value.pointer (some { block := i, off := 0 })), (75, Value.pointer (some { block := j, off := Nat.succ q })), (74, Value.pointer (some { block := j, off := q })), (73, Value.int IntKind.i64 n1), (72, Value.int IntKind.i64 n), (71, Value.slice (some { block := j, off := 0 }) len 3), (70, Value.pointer (some { block := i, off := 6 })), (69, Value.pointer (some { block := i, off := 0 })), (68, Value.pointer (some { block := i, off := 0 })), (67, Value.pointer (some { block := i, off := 9 })), (66, Value.pointer (some { block := i, off := 0 })), (65, Value.int IntKind.i64 mx), (64, Value.int IntKind.i64 d), (63, Value.int IntKind.i64 dl), (62, Value.pointer (some { block := i, off := 9 })), (61, Value.pointer (some { block := i, off := 0 })), (60, Value.pointer (some { block := i, off := 0 })), (59, Value.pointer (some { block := i, off := 0 })), (6, Value.int IntKind.i64 d), (3, Value.pointer (some { block := b3, off := 0 })), (0, Value.pointer (some { block := i, off := 0 }))] (SH.is h2) (Ex.exit 2) [(9, Value.slice none 0 0), (0, Value.pointer (some { block := i, off := 0 }))] (SH.is h3), Asm.call 32 [Value.pointer (some { block := i, off := 0 })] (SH.is h3) (Value.slice none 0 0) (SH.is h4)]) := by kernel_rfl
theorem ag_10 (i j b3 b7 q len : Nat) (n k k1 most base d dl mx n1 rule : Int) (f : FuncId) (c1 c2 : List Value) (h h2 h3 h4 : Hp) (o m : Nat) : pvCode Try.prog (pvCall Try.prog 0) 118 false ((partC Try.f33 [1, 1, 1])) [(5, .int .i64 k), (3, .pointer (some ⟨b3, 0, none⟩)), (0, .pointer (some ⟨i, 0, none⟩))] (.is h) [.num k1, .val (.int .i64 most), .bit false, .val (.int .i64 base), .loop (.exit 0) [(6, .int .i64 d), (3, .pointer (some ⟨b3, 0, none⟩)), (0, .pointer (some ⟨i, 0, none⟩))] (.is h), .val (.int .i64 dl), .num mx, .cells c1, .val (.slice (some ⟨j, 0, none⟩) len 3), .val (.int .i64 n), .num n1, .offs q, .cells c2, .val (.int .i64 rule), .ret (.func (.func f) #[] #[]) (.set (.set (.is h) i (.cells c1 true)) j (.cells c2 true)), .idx b7, .cells [.func (.func f) #[] #[]], .ret (.slice (some ⟨o, 0, none⟩) m 3) (.is h2), .val (.slice (some ⟨j, 0, none⟩) len 3), .loop (.exit 2) [(9, .slice (some ⟨o, 0, none⟩) m 3), (0, .pointer (some ⟨i, 0, none⟩))] (.is h3), .ret (.slice none 0 0) (.is h4), .app0] =
    some (Ex.ret, [(4, Value.slice (some { block := o, off := 0 }) m 3), (117, Value.slice (some { block := o, off := 0 }) m 3), (116, Value.slice none 0 0), (115, Value.pointer (some { block := i, off := 0 })), (114, Value.slice (some { block := o, off := 0 }) m 3), (9, Value.slice (some { block := o, off := 0 }) m 3), (0, Value.pointer (some { block := i, off := 0 }))], SH.is h4, [], [Asm.arith BinOp.add IntKind.i64 k 1 k1, Asm.ld1 (SH.is h) i 1 (Value.int IntKind.i64 most), Asm.cmp BinOp.gtr k1 most false, Asm.ld1 (SH.is h) i 3 (Value.int IntKind.i64 base), Asm.loop 118 false (loopN Try.f33 0) [(48, Value.int IntKind.i64 0), (47, Value.int IntKind.i64 k), (6, Value.int IntKind.i64 base), (46, Value.int IntKind.i64 base), (45, Value.pointer (some { block := i, off := 3 })), (44, Value.pointer (some { block := i, off := 0 })), (43, Value.pointer (some { block := i, off := 0 })), (42, Value.pointer (some { block := i, off := 0 })), (38, Value.bool false), (37, Value.int IntKind.i64 most), (36, Value.pointer (some { block := i, off := 1 })), (35, Value.pointer (some { block := i, off := 0 })), (34, Value.pointer (some { block := i, off := 0 })), (33, Value.pointer (some { block := i, off := 0 })), (32, Value.int IntKind.i64 k1), (31, Value.int IntKind.i64 k), (5, Value.int IntKind.i64 k), (3, Value.pointer (some { block := b3, off := 0 })), (0, Value.pointer (some { block := i, off := 0 }))] (SH.is h) (Ex.exit 0) [(6, Value.int IntKind.i64 d), (3, Value.pointer (some { block := b3, off := 0 })), (0, Value.pointer (some { block := i, off := 0 }))] (SH.is h), Asm.ld1 (SH.is h) i 9 (Value.int IntKind.i64 dl), Asm.mm true dl d mx, Asm.st (SH.is h) i 9 [Value.int IntKind.i64 mx] c1, Asm.stat (drawN Try.f33 1), Asm.ld1 (SH.set (SH.is h) i (AObj.cells c1 true)) i 6 (Value.slice (some { block := j, off := 0 }) len 3), Asm.ld1 (SH.set (SH.is h) i (AObj.cells c1 true)) b3 0 (Value.int IntKind.i64 n), Asm.arith BinOp.sub IntKind.i64 n 1 n1, Asm.off q 0 n1 len 3, Asm.st (SH.set (SH.is h) i (AObj.cells c1 true)) j (Nat.succ q) [Value.int IntKind.i64 3] c2, Asm.ld1 (SH.set (SH.set (SH.is h) i (AObj.cells c1 true)) j (AObj.cells c2 true)) i 0 (Value.int IntKind.i64 rule), Asm.call 47 [Value.int IntKind.i64 rule] (SH.set (SH.set (SH.is h) i (AObj.cells c1 true)) j (AObj.cells c2 true)) (Value.func (Fn.func f) { toList := [] } { toList := [] }) (SH.set (SH.set (SH.is h) i (AObj.cells c1 true)) j (AObj.cells c2 true)), Asm.len (SH.set (SH.set (SH.is h) i (AObj.cells c1 true)) j (AObj.cells c2 true)) b7, Asm.st (SH.push (SH.set (SH.set (SH.is h) i (AObj.cells c1 true)) j (AObj.cells c2 true)) (AObj.cells [Value.nilFunc] true)) b7 0 [Value.func (Fn.func f) { toList := [] } { toList := [] }] [Value.func (Fn.func f) { toList := [] } { toList := [] }], Asm.call 49 [Value.pointer (some { block := i, off := 0 }), Value.func (Fn.func 48) { toList := [] } { toList := [Value.pointer (some { block := b3, off := 0 }), Value.pointer (some { block := b7, off := 0 })] }] (SH.set (SH.push (SH.set (SH.set (SH.is h) i (AObj.cells c1 true)) j (AObj.cells c2 true)) (AObj.cells [Value.nilFunc] true)) b7 (AObj.cells [Value.func (Fn.func f) { toList := [] } { toList := [] }] true)) (Value.slice (some { block := o, off := 0 }) m 3) (SH.is h2), Asm.ld1 (SH.is h2) i 6 (Value.slice (some { block := j, off := 0 }) len 3), Asm.loop 118 false (loopN Try.f33 1) [(91, Value.int IntKind.i64 0), (90, Value.int IntKind.i64 (Int.ofNat len)), (89, Value.slice (some { block := j, off := 0 }) len 3), (88, Value.pointer (some { block := i, off := 6 })), (87, Value.pointer (some { block := i, off := 0 })), (86, Value.pointer (some { block := i, off := 0 })), (9, Value.slice (some { block := o, off := 0 }) m 3), (85, Value.slice (some { block := o, off := 0 }) m 3), (84, Value.func (Fn.func 48) { toList := [] } { toList := [Value.pointer (some { block := b3, off := 0 }), Value.pointer (some { block := b7, off := 0 })] }), (83, Value.pointer (some { block := i, off := 0 })), (8, Value.func (Fn.func 48) { toList := [] } { toList := [Value.pointer (some { block := b3, off := 0 }), Value.pointer (some { block := b7, off := 0 })] }), (82, Value.func (Fn.func 48) { toList := [] } { toList := [Value.pointer (some { block := b3, off := 0 }), Value.pointer (some { block := b7, off := 0 })] }), (7, Value.pointer (some { block := b7, off := 0 })), (81, Value.func (Fn.func f) { toList := [] } { toList := [] }), (80, Value.int IntKind.i64 rule), (79, Value.pointer (some { block := i, off := 0 })), (78, Value.pointer (some { block := i, off := 0 })), (77, Value.pointer (some { block := i, off := 0 })), (76, Value.pointer (some { block := i, off := 0 })), (75, Value.pointer (some { block := j, off := Nat.succ q })), (74, Value.pointer (some { block := j, off := q })), (73, Value.int IntKind.i64 n1), (72, Value.int IntKind.i64 n), (71, Value.slice (some { block := j, off := 0 }) len 3), (70, Value.pointer (some { block := i, off := 6 })), (69, Value.pointer (some { block := i, off := 0 })), (68, Value.pointer (some { block := i, off := 0 })), (67, Value.pointer (some { block := i, off := 9 })), (66, Value.pointer (some { block := i, off := 0 })), (65, Value.int IntKind.i64 mx), (64, Value.int IntKind.i64 d), (63, Value.int IntKind.i64 dl), (62, Value.pointer (some { block := i, off := 9 })), (61, Value.pointer (some { block := i, off := 0 })), (60, Value.pointer (some { block := i, off := 0 })), (59, Value.pointer (some { block := i, off := 0 })), (6, Value.int IntKind.i64 d), (3, Value.pointer (some { block := b3, off := 0 })), (0, Value.pointer (some { block := i, off := 0 }))] (SH.is h2) (Ex.exit 2) [(9, Value.slice (some { block := o, off := 0 }) m 3), (0, Value.pointer (some { block := i, off := 0 }))] (SH.is h3), Asm.call 32 [Value.pointer (some { block := i, off := 0 })] (SH.is h3) (Value.slice none 0 0) (SH.is h4)]) := by kernel_rfl
theorem ag_01 (i j b3 b7 q len : Nat) (n k k1 most base d dl mx n1 rule : Int) (f : FuncId) (c1 c2 : List Value) (h h2 h3 h4 : Hp) (o2 m2 m' e : Nat) (news : List Value) : pvCode Try.prog (pvCall Try.prog 0) 118 false ((partC Try.f33 [1, 1, 1])) [(5, .int .i64 k), (3, .pointer (some ⟨b3, 0, none⟩)), (0, .pointer (some ⟨i, 0, none⟩))] (.is h) [.num k1, .val (.int .i64 most), .bit false, .val (.int .i64 base), .loop (.exit 0) [(6, .int .i64 d), (3, .pointer (some ⟨b3, 0, none⟩)), (0, .pointer (some ⟨i, 0, none⟩))] (.is h), .val (.int .i64 dl), .num mx, .cells c1, .val (.slice (some ⟨j, 0, none⟩) len 3), .val (.int .i64 n), .num n1, .offs q, .cells c2, .val (.int .i64 rule), .ret (.func (.func f) #[] #[]) (.set (.set (.is h) i (.cells c1 true)) j (.cells c2 true)), .idx b7, .cells [.func (.func f) #[] #[]], .ret (.slice none 0 0) (.is h2), .val (.slice (some ⟨j, 0, none⟩) len 3), .loop (.exit 2) [(9, .slice none 0 0), (0, .pointer (some ⟨i, 0, none⟩))] (.is h3), .ret (.slice (some ⟨o2, 0, none⟩) m2 3) (.is h4), .app [] news m' e] =
    some (Ex.ret, [(4, Value.slice (some { block := e, off := 0 }) m2 3), (117, Value.slice (some { block := e, off := 0 }) m2 3), (116, Value.slice (some { block := o2, off := 0 }) m2 3), (115, Value.pointer (some { block := i, off := 0 })), (114, Value.slice none 0 0), (9, Value.slice none 0 0), (0, Value.pointer (some { block := i, off := 0 }))], SH.push (SH.is h4) (AObj.cells news true), [], [Asm.arith BinOp.add IntKind.i64 k 1 k1, Asm.ld1 (SH.is h) i 1 (Value.int IntKind.i64 most), Asm.cmp BinOp.gtr k1 most false, Asm.ld1 (SH.is h) i 3 (Value.int IntKind.i64 base), Asm.loop 118 false (loopN Try.f33 0) [(48, Value.int IntKind.i64 0), (47, Value.int IntKind.i64 k), (6, Value.int IntKind.i64 base), (46, Value.int IntKind.i64 base), (45, Value.pointer (some { block := i, off := 3 })), (44, Value.pointer (some { block := i, off := 0 })), (43, Value.pointer (some { block := i, off := 0 })), (42, Value.pointer (some { block := i, off := 0 })), (38, Value.bool false), (37, Value.int IntKind.i64 most), (36, Value.pointer (some { block := i, off := 1 })), (35, Value.pointer (some { block := i, off := 0 })), (34, Value.pointer (some { block := i, off := 0 })), (33, Value.pointer (some { block := i, off := 0 })), (32, Value.int IntKind.i64 k1), (31, Value.int IntKind.i64 k), (5, Value.int IntKind.i64 k), (3, Value.pointer (some { block := b3, off := 0 })), (0, Value.pointer (some { block := i, off := 0 }))] (SH.is h) (Ex.exit 0) [(6, Value.int IntKind.i64 d), (3, Value.pointer (some { block := b3, off := 0 })), (0, Value.pointer (some { block := i, off := 0 }))] (SH.is h), Asm.ld1 (SH.is h) i 9 (Value.int IntKind.i64 dl), Asm.mm true dl d mx, Asm.st (SH.is h) i 9 [Value.int IntKind.i64 mx] c1, Asm.stat (drawN Try.f33 1), Asm.ld1 (SH.set (SH.is h) i (AObj.cells c1 true)) i 6 (Value.slice (some { block := j, off := 0 }) len 3), Asm.ld1 (SH.set (SH.is h) i (AObj.cells c1 true)) b3 0 (Value.int IntKind.i64 n), Asm.arith BinOp.sub IntKind.i64 n 1 n1, Asm.off q 0 n1 len 3, Asm.st (SH.set (SH.is h) i (AObj.cells c1 true)) j (Nat.succ q) [Value.int IntKind.i64 3] c2, Asm.ld1 (SH.set (SH.set (SH.is h) i (AObj.cells c1 true)) j (AObj.cells c2 true)) i 0 (Value.int IntKind.i64 rule), Asm.call 47 [Value.int IntKind.i64 rule] (SH.set (SH.set (SH.is h) i (AObj.cells c1 true)) j (AObj.cells c2 true)) (Value.func (Fn.func f) { toList := [] } { toList := [] }) (SH.set (SH.set (SH.is h) i (AObj.cells c1 true)) j (AObj.cells c2 true)), Asm.len (SH.set (SH.set (SH.is h) i (AObj.cells c1 true)) j (AObj.cells c2 true)) b7, Asm.st (SH.push (SH.set (SH.set (SH.is h) i (AObj.cells c1 true)) j (AObj.cells c2 true)) (AObj.cells [Value.nilFunc] true)) b7 0 [Value.func (Fn.func f) { toList := [] } { toList := [] }] [Value.func (Fn.func f) { toList := [] } { toList := [] }], Asm.call 49 [Value.pointer (some { block := i, off := 0 }), Value.func (Fn.func 48) { toList := [] } { toList := [Value.pointer (some { block := b3, off := 0 }), Value.pointer (some { block := b7, off := 0 })] }] (SH.set (SH.push (SH.set (SH.set (SH.is h) i (AObj.cells c1 true)) j (AObj.cells c2 true)) (AObj.cells [Value.nilFunc] true)) b7 (AObj.cells [Value.func (Fn.func f) { toList := [] } { toList := [] }] true)) (Value.slice none 0 0) (SH.is h2), Asm.ld1 (SH.is h2) i 6 (Value.slice (some { block := j, off := 0 }) len 3), Asm.loop 118 false (loopN Try.f33 1) [(91, Value.int IntKind.i64 0), (90, Value.int IntKind.i64 (Int.ofNat len)), (89, Value.slice (some { block := j, off := 0 }) len 3), (88, Value.pointer (some { block := i, off := 6 })), (87, Value.pointer (some { block := i, off := 0 })), (86, Value.pointer (some { block := i, off := 0 })), (9, Value.slice none 0 0), (85, Value.slice none 0 0), (84, Value.func (Fn.func 48) { toList := [] } { toList := [Value.pointer (some { block := b3, off := 0 }), Value.pointer (some { block := b7, off := 0 })] }), (83, Value.pointer (some { block := i, off := 0 })), (8, Value.func (Fn.func 48) { toList := [] } { toList := [Value.pointer (some { block := b3, off := 0 }), Value.pointer (some { block := b7, off := 0 })] }), (82, Value.func (Fn.func 48) { toList := [] } { toList := [Value.pointer (some { block := b3, off := 0 }), Value.pointer (some { block := b7, off := 0 })] }), (7, Value.pointer (some { block := b7, off := 0 })), (81, Value.func (Fn.func f) { toList := [] } { toList := [] }), (80, Value.int IntKind.i64 rule), (79, Value.pointer (some { block := i, off := 0 })), (78, Value.pointer (some { block := i, off := 0 })), (77, Value.pointer (some { block := i, off := 0 })), (76, Value.pointer (some { block := i, off := 0 })), (75, Value.pointer (some { block := j, off := Nat.succ q })), (74, Value.pointer (some { block := j, off := q })), (73, Value.int IntKind.i64 n1), (72, Value.int IntKind.i64 n), (71, Value.slice (some { block := j, off := 0 }) len 3), (70, Value.pointer (some { block := i, off := 6 })), (69, Value.pointer (some { block := i, off := 0 })), (68, Value.pointer (some { block := i, off := 0 })), (67, Value.pointer (some { block := i, off := 9 })), (66, Value.pointer (some { block := i, off := 0 })), (65, Value.int IntKind.i64 mx), (64, Value.int IntKind.i64 d), (63, Value.int IntKind.i64 dl), (62, Value.pointer (some { block := i, off := 9 })), (61, Value.pointer (some { block := i, off := 0 })), (60, Value.pointer (some { block := i, off := 0 })), (59, Value.pointer (some { block := i, off := 0 })), (6, Value.int IntKind.i64 d), (3, Value.pointer (some { block := b3, off := 0 })), (0, Value.pointer (some { block := i, off := 0 }))] (SH.is h2) (Ex.exit 2) [(9, Value.slice none 0 0), (0, Value.pointer (some { block := i, off := 0 }))] (SH.is h3), Asm.call 32 [Value.pointer (some { block := i, off := 0 })] (SH.is h3) (Value.slice (some { block := o2, off := 0 }) m2 3) (SH.is h4), Asm.appNil (SH.is h4) o2 0 m2 m' 3 24 news e]) := by kernel_rfl
theorem ag_11 (i j b3 b7 q len : Nat) (n k k1 most base d dl mx n1 rule : Int) (f : FuncId) (c1 c2 : List Value) (h h2 h3 h4 : Hp) (o m o2 m2 m' e : Nat) (cs news : List Value) : pvCode Try.prog (pvCall Try.prog 0) 118 false ((partC Try.f33 [1, 1, 1])) [(5, .int .i64 k), (3, .pointer (some ⟨b3, 0, none⟩)), (0, .pointer (some ⟨i, 0, none⟩))] (.is h) [.num k1, .val (.int .i64 most), .bit false, .val (.int .i64 base), .loop (.exit 0) [(6, .int .i64 d), (3, .pointer (some ⟨b3, 0, none⟩)), (0, .pointer (some ⟨i, 0, none⟩))] (.is h), .val (.int .i64 dl), .num mx, .cells c1, .val (.slice (some ⟨j, 0, none⟩) len 3), .val (.int .i64 n), .num n1, .offs q, .cells c2, .val (.int .i64 rule), .ret (.func (.func f) #[] #[]) (.set (.set (.is h) i (.cells c1 true)) j (.cells c2 true)), .idx b7, .cells [.func (.func f) #[] #[]], .ret (.slice (some ⟨o, 0, none⟩) m 3) (.is h2), .val (.slice (some ⟨j, 0, none⟩) len 3), .loop (.exit 2) [(9, .slice (some ⟨o, 0, none⟩) m 3), (0, .pointer (some ⟨i, 0, none⟩))] (.is h3), .ret (.slice (some ⟨o2, 0, none⟩) m2 3) (.is h4), .app cs news m' e] =
    some (Ex.ret, [(4, Value.slice (some { block := e, off := 0 }) (m + m2) 3), (117, Value.slice (some { block := e, off := 0 }) (m + m2) 3), (116, Value.slice (some { block := o2, off := 0 }) m2 3), (115, Value.pointer (some { block := i, off := 0 })), (114, Value.slice (some { block := o, off := 0 }) m 3), (9, Value.slice (some { block := o, off := 0 }) m 3), (0, Value.pointer (some { block := i, off := 0 }))], SH.push (SH.set (SH.is h4) o AObj.dead) (AObj.cells cs true), [], [Asm.arith BinOp.add IntKind.i64 k 1 k1, Asm.ld1 (SH.is h) i 1 (Value.int IntKind.i64 most), Asm.cmp BinOp.gtr k1 most false, Asm.ld1 (SH.is h) i 3 (Value.int IntKind.i64 base), Asm.loop 118 false (loopN Try.f33 0) [(48, Value.int IntKind.i64 0), (47, Value.int IntKind.i64 k), (6, Value.int IntKind.i64 base), (46, Value.int IntKind.i64 base), (45, Value.pointer (some { block := i, off := 3 })), (44, Value.pointer (some { block := i, off := 0 })), (43, Value.pointer (some { block := i, off := 0 })), (42, Value.pointer (some { block := i, off := 0 })), (38, Value.bool false), (37, Value.int IntKind.i64 most), (36, Value.pointer (some { block := i, off := 1 })), (35, Value.pointer (some { block := i, off := 0 })), (34, Value.pointer (some { block := i, off := 0 })), (33, Value.pointer (some { block := i, off := 0 })), (32, Value.int IntKind.i64 k1), (31, Value.int IntKind.i64 k), (5, Value.int IntKind.i64 k), (3, Value.pointer (some { block := b3, off := 0 })), (0, Value.pointer (some { block := i, off := 0 }))] (SH.is h) (Ex.exit 0) [(6, Value.int IntKind.i64 d), (3, Value.pointer (some { block := b3, off := 0 })), (0, Value.pointer (some { block := i, off := 0 }))] (SH.is h), Asm.ld1 (SH.is h) i 9 (Value.int IntKind.i64 dl), Asm.mm true dl d mx, Asm.st (SH.is h) i 9 [Value.int IntKind.i64 mx] c1, Asm.stat (drawN Try.f33 1), Asm.ld1 (SH.set (SH.is h) i (AObj.cells c1 true)) i 6 (Value.slice (some { block := j, off := 0 }) len 3), Asm.ld1 (SH.set (SH.is h) i (AObj.cells c1 true)) b3 0 (Value.int IntKind.i64 n), Asm.arith BinOp.sub IntKind.i64 n 1 n1, Asm.off q 0 n1 len 3, Asm.st (SH.set (SH.is h) i (AObj.cells c1 true)) j (Nat.succ q) [Value.int IntKind.i64 3] c2, Asm.ld1 (SH.set (SH.set (SH.is h) i (AObj.cells c1 true)) j (AObj.cells c2 true)) i 0 (Value.int IntKind.i64 rule), Asm.call 47 [Value.int IntKind.i64 rule] (SH.set (SH.set (SH.is h) i (AObj.cells c1 true)) j (AObj.cells c2 true)) (Value.func (Fn.func f) { toList := [] } { toList := [] }) (SH.set (SH.set (SH.is h) i (AObj.cells c1 true)) j (AObj.cells c2 true)), Asm.len (SH.set (SH.set (SH.is h) i (AObj.cells c1 true)) j (AObj.cells c2 true)) b7, Asm.st (SH.push (SH.set (SH.set (SH.is h) i (AObj.cells c1 true)) j (AObj.cells c2 true)) (AObj.cells [Value.nilFunc] true)) b7 0 [Value.func (Fn.func f) { toList := [] } { toList := [] }] [Value.func (Fn.func f) { toList := [] } { toList := [] }], Asm.call 49 [Value.pointer (some { block := i, off := 0 }), Value.func (Fn.func 48) { toList := [] } { toList := [Value.pointer (some { block := b3, off := 0 }), Value.pointer (some { block := b7, off := 0 })] }] (SH.set (SH.push (SH.set (SH.set (SH.is h) i (AObj.cells c1 true)) j (AObj.cells c2 true)) (AObj.cells [Value.nilFunc] true)) b7 (AObj.cells [Value.func (Fn.func f) { toList := [] } { toList := [] }] true)) (Value.slice (some { block := o, off := 0 }) m 3) (SH.is h2), Asm.ld1 (SH.is h2) i 6 (Value.slice (some { block := j, off := 0 }) len 3), Asm.loop 118 false (loopN Try.f33 1) [(91, Value.int IntKind.i64 0), (90, Value.int IntKind.i64 (Int.ofNat len)), (89, Value.slice (some { block := j, off := 0 }) len 3), (88, Value.pointer (some { block := i, off := 6 })), (87, Value.pointer (some { block := i, off := 0 })), (86, Value.pointer (some { block := i, off := 0 })), (9, Value.slice (some { block := o, off := 0 }) m 3), (85, Value.slice (some { block := o, off := 0 }) m 3), (84, Value.func (Fn.func 48) { toList := [] } { toList := [Value.pointer (some { block := b3, off := 0 }), Value.pointer (some { block := b7, off := 0 })] }), (83, Value.pointer (some { block := i, off := 0 })), (8, Value.func (Fn.func 48) { toList := [] } { toList := [Value.pointer (some { block := b3, off := 0 }), Value.pointer (some { block := b7, off := 0 })] }), (82, Value.func (Fn.func 48) { toList := [] } { toList := [Value.pointer (some { block := b3, off := 0 }), Value.pointer (some { block := b7, off := 0 })] }), (7, Value.pointer (some { block := b7, off := 0 })), (81, Value.func (Fn.func f) { toList := [] } { toList := [] }), (80, Value.int IntKind.i64 rule), (79, Value.pointer (some { block := i, off := 0 })), (78, Value.pointer (some { block := i, off := 0 })), (77, Value.pointer (some { block := i, off := 0 })), (76, Value.pointer (some { block := i, off := 0 })), (75, Value.pointer (some { block := j, off := Nat.succ q })), (74, Value.pointer (some { block := j, off := q })), (73, Value.int IntKind.i64 n1), (72, Value.int IntKind.i64 n), (71, Value.slice (some { block := j, off := 0 }) len 3), (70, Value.pointer (some { block := i, off := 6 })), (69, Value.pointer (some { block := i, off := 0 })), (68, Value.pointer (some { block := i, off := 0 })), (67, Value.pointer (some { block := i, off := 9 })), (66, Value.pointer (some { block := i, off := 0 })), (65, Value.int IntKind.i64 mx), (64, Value.int IntKind.i64 d), (63, Value.int IntKind.i64 dl), (62, Value.pointer (some { block := i, off := 9 })), (61, Value.pointer (some { block := i, off := 0 })), (60, Value.pointer (some { block := i, off := 0 })), (59, Value.pointer (some { block := i, off := 0 })), (6, Value.int IntKind.i64 d), (3, Value.pointer (some { block := b3, off := 0 })), (0, Value.pointer (some { block := i, off := 0 }))] (SH.is h2) (Ex.exit 2) [(9, Value.slice (some { block := o, off := 0 }) m 3), (0, Value.pointer (some { block := i, off := 0 }))] (SH.is h3), Asm.call 32 [Value.pointer (some { block := i, off := 0 })] (SH.is h3) (Value.slice (some { block := o2, off := 0 }) m2 3) (SH.is h4), Asm.app (SH.is h4) o 0 m o2 0 m2 m' 3 24 cs news e]) := by kernel_rfl
end Go.Proofs.Ytkkhokgpcifckaa.w5p

-- printed by wip/tools/pvgen.py; each is checked by the kernel
namespace Go.Proofs.Ytkkhokgpcifckaa.w4p
open Go Go.Ev
set_option maxRecDepth 100000
set_option linter.unusedVariables false

theorem st_pre (i j n b2 b3 b5 bb : Nat) (fv : Value) (c5 : List Value) (h : Hp) : pvCode Try.prog (pvCall Try.prog 1) 37 false ((.seq (partC Try.f49 [0]) (.seq (partC Try.f49 [1, 0]) (partC Try.f49 [1, 1, 0, 0])))) (enterE 0 [.pointer (some ⟨i, 0, none⟩), fv]) (.is h) [.idx b2, .idx b3, .idx b5, .val (.pointer (some ⟨i, 0, none⟩)), .val (.slice (some ⟨j, 0, none⟩) n 3), .inl, .idx bb] =
    some (Ex.normal, [(12, Value.func (Fn.func 71) { toList := [] } { toList := [Value.pointer (some { block := bb, off := 0 })] }), (11, Value.slice (some { block := j, off := 0 }) n 3), (10, Value.pointer (some { block := i, off := 6 })), (9, Value.pointer (some { block := i, off := 0 })), (8, Value.pointer (some { block := i, off := 0 })), (5, Value.pointer (some { block := b5, off := 0 })), (4, Value.slice none 0 0), (3, Value.pointer (some { block := b3, off := 0 })), (2, Value.pointer (some { block := b2, off := 0 })), (0, Value.pointer (some { block := i, off := 0 })), (1, fv)], SH.push (SH.push (SH.push (SH.push (SH.is h) (AObj.cells [Value.pointer (some { block := i, off := 0 })] true)) (AObj.cells (Array.toList (Value.cells fv)) true)) (AObj.cells [Value.slice none 0 0] true)) (AObj.cells [Value.slice (some { block := j, off := 0 }) n 3] true), [], [Asm.len (SH.is h) b2, Asm.len (SH.push (SH.is h) (AObj.cells [Value.pointer (some { block := i, off := 0 })] true)) b3, Asm.len (SH.push (SH.push (SH.is h) (AObj.cells [Value.pointer (some { block := i, off := 0 })] true)) (AObj.cells (Array.toList (Value.cells fv)) true)) b5, Asm.ld1 (SH.push (SH.push (SH.push (SH.is h) (AObj.cells [Value.pointer (some { block := i, off := 0 })] true)) (AObj.cells (Array.toList (Value.cells fv)) true)) (AObj.cells [Value.slice none 0 0] true)) b2 0 (Value.pointer (some { block := i, off := 0 })), Asm.ld1 (SH.push (SH.push (SH.push (SH.is h) (AObj.cells [Value.pointer (some { block := i, off := 0 })] true)) (AObj.cells (Array.toList (Value.cells fv)) true)) (AObj.cells [Value.slice none 0 0] true)) i 6 (Value.slice (some { block := j, off := 0 }) n 3), Asm.len (SH.push (SH.push (SH.push (SH.is h) (AObj.cells [Value.pointer (some { block := i, off := 0 })] true)) (AObj.cells (Array.toList (Value.cells fv)) true)) (AObj.cells [Value.slice none 0 0] true)) bb]) := by kernel_rfl
theorem st_as (b2 b3 b5 q : Nat) (k x s a : Int) (g : Hp) : pvCode Try.prog (pvCall Try.prog 0) 37 true ((partC Try.f49 [1, 1, 0, 1, 0, 0])) [(14, .agg #[.int .i64 x, .int .i64 s, .int .i64 a]), (13, .int .i64 k), (2, .pointer (some ⟨b2, 0, none⟩)), (3, .pointer (some ⟨b3, 0, none⟩)), (5, .pointer (some ⟨b5, 0, none⟩))] (.is g) [.idx q, .cells [.int .i64 x, .int .i64 s, .int .i64 a]] =
    some (Ex.normal, [(7, Value.pointer (some { block := q, off := 0 })), (6, Value.int IntKind.i64 k), (14, Value.agg { toList := [Value.int IntKind.i64 x, Value.int IntKind.i64 s, Value.int IntKind.i64 a] }), (13, Value.int IntKind.i64 k), (2, Value.pointer (some { block := b2, off := 0 })), (3, Value.pointer (some { block := b3, off := 0 })), (5, Value.pointer (some { block := b5, off := 0 }))], SH.set (SH.push (SH.is g) (AObj.cells [Value.int IntKind.i64 0, Value.int IntKind.i64 0, Value.int IntKind.i64 0] true)) q (AObj.cells [Value.int IntKind.i64 x, Value.int IntKind.i64 s, Value.int IntKind.i64 a] true), [], [Asm.len (SH.is g) q, Asm.st (SH.push (SH.is g) (AObj.cells [Value.int IntKind.i64 0, Value.int IntKind.i64 0, Value.int IntKind.i64 0] true)) q 0 [Value.int IntKind.i64 x, Value.int IntKind.i64 s, Value.int IntKind.i64 a] [Value.int IntKind.i64 x, Value.int IntKind.i64 s, Value.int IntKind.i64 a]]) := by kernel_rfl
theorem st_no1 (b2 b3 b5 q : Nat) (k s : Int) (g : Hp) : pvCode Try.prog (pvCall Try.prog 0) 37 true ((partC Try.f49 [1, 1, 0, 1, 0, 1])) [(6, .int .i64 k), (7, .pointer (some ⟨q, 0, none⟩)), (2, .pointer (some ⟨b2, 0, none⟩)), (3, .pointer (some ⟨b3, 0, none⟩)), (5, .pointer (some ⟨b5, 0, none⟩))] (.is g) [.val (.int .i64 s), .bit false] =
    some (Ex.normal, [(22, Value.bool false), (21, Value.tuple { toList := [] }), (20, Value.tuple { toList := [] }), (19, Value.tuple { toList := [] }), (18, Value.bool false), (17, Value.bool false), (16, Value.int IntKind.i64 s), (15, Value.pointer (some { block := q, off := 1 })), (6, Value.int IntKind.i64 k), (7, Value.pointer (some { block := q, off := 0 })), (2, Value.pointer (some { block := b2, off := 0 })), (3, Value.pointer (some { block := b3, off := 0 })), (5, Value.pointer (some { block := b5, off := 0 }))], SH.is g, [], [Asm.ld1 (SH.is g) q 1 (Value.int IntKind.i64 s), Asm.cmp BinOp.eql s 1 false]) := by kernel_rfl
theorem st_no2 (b2 b3 b5 q : Nat) (k s : Int) (fo : FuncId) (cl : List Value) (g : Hp) : pvCode Try.prog (pvCall Try.prog 0) 37 true ((partC Try.f49 [1, 1, 0, 1, 0, 1])) [(6, .int .i64 k), (7, .pointer (some ⟨q, 0, none⟩)), (2, .pointer (some ⟨b2, 0, none⟩)), (3, .pointer (some ⟨b3, 0, none⟩)), (5, .pointer (some ⟨b5, 0, none⟩))] (.is g) [.val (.int .i64 s), .bit true, .val (.func (.func fo) #[] ⟨cl⟩), .ret (.bool false) (.is g)] =
    some (Ex.normal, [(22, Value.bool false), (21, Value.bool false), (20, Value.int IntKind.i64 k), (19, Value.func (Fn.func fo) { toList := [] } { toList := cl }), (18, Value.bool true), (17, Value.bool true), (16, Value.int IntKind.i64 s), (15, Value.pointer (some { block := q, off := 1 })), (6, Value.int IntKind.i64 k), (7, Value.pointer (some { block := q, off := 0 })), (2, Value.pointer (some { block := b2, off := 0 })), (3, Value.pointer (some { block := b3, off := 0 })), (5, Value.pointer (some { block := b5, off := 0 }))], SH.is g, [], [Asm.ld1 (SH.is g) q 1 (Value.int IntKind.i64 s), Asm.cmp BinOp.eql s 1 true, Asm.ld1 (SH.is g) b3 0 (Value.func (Fn.func fo) { toList := [] } { toList := cl }), Asm.call fo (Value.int IntKind.i64 k :: cl) (SH.is g) (Value.bool false) (SH.is g)]) := by kernel_rfl
theorem st_yes0 (i j n b2 b3 b5 q p d e : Nat) (k k1 s : Int) (fo : FuncId) (cl c cs : List Value) (g : Hp) : pvCode Try.prog (pvCall Try.prog 0) 37 true ((partC Try.f49 [1, 1, 0, 1, 0, 1])) [(6, .int .i64 k), (7, .pointer (some ⟨q, 0, none⟩)), (2, .pointer (some ⟨b2, 0, none⟩)), (3, .pointer (some ⟨b3, 0, none⟩)), (5, .pointer (some ⟨b5, 0, none⟩))] (.is g) [.val (.int .i64 s), .bit true, .val (.func (.func fo) #[] ⟨cl⟩), .ret (.bool true) (.is g), .val (.pointer (some ⟨i, 0, none⟩)), .val (.slice (some ⟨j, 0, none⟩) n 3), .offs p, .cells c, .val (.slice none 0 0), .num k1, .idx d, .app cs [.int .i64 1, .int .i64 k1, .int .i64 0] 0 e, .cells [.slice (some ⟨e, 0, none⟩) 1 3]] =
    some (Ex.normal, [(35, Value.slice (some { block := e, off := 0 }) 1 3), (34, Value.slice (some { block := d, off := 0 }) 1 3), (33, Value.agg { toList := [Value.int IntKind.i64 1, Value.int IntKind.i64 k1, Value.int IntKind.i64 0] }), (32, Value.int IntKind.i64 k1), (31, Value.int IntKind.i64 k), (30, Value.slice none 0 0), (29, Value.pointer (some { block := j, off := Nat.succ p })), (28, Value.pointer (some { block := j, off := p })), (27, Value.int IntKind.i64 k), (26, Value.slice (some { block := j, off := 0 }) n 3), (25, Value.pointer (some { block := i, off := 6 })), (24, Value.pointer (some { block := i, off := 0 })), (23, Value.pointer (some { block := i, off := 0 })), (22, Value.bool true), (21, Value.bool true), (20, Value.int IntKind.i64 k), (19, Value.func (Fn.func fo) { toList := [] } { toList := cl }), (18, Value.bool true), (17, Value.bool true), (16, Value.int IntKind.i64 s), (15, Value.pointer (some { block := q, off := 1 })), (6, Value.int IntKind.i64 k), (7, Value.pointer (some { block := q, off := 0 })), (2, Value.pointer (some { block := b2, off := 0 })), (3, Value.pointer (some { block := b3, off := 0 })), (5, Value.pointer (some { block := b5, off := 0 }))], SH.set (SH.push (SH.push (SH.set (SH.is g) j (AObj.cells c true)) (AObj.cells [Value.int IntKind.i64 1, Value.int IntKind.i64 k1, Value.int IntKind.i64 0] true)) (AObj.cells [Value.int IntKind.i64 1, Value.int IntKind.i64 k1, Value.int IntKind.i64 0] true)) b5 (AObj.cells [Value.slice (some { block := e, off := 0 }) 1 3] true), [], [Asm.ld1 (SH.is g) q 1 (Value.int IntKind.i64 s), Asm.cmp BinOp.eql s 1 true, Asm.ld1 (SH.is g) b3 0 (Value.func (Fn.func fo) { toList := [] } { toList := cl }), Asm.call fo (Value.int IntKind.i64 k :: cl) (SH.is g) (Value.bool true) (SH.is g), Asm.ld1 (SH.is g) b2 0 (Value.pointer (some { block := i, off := 0 })), Asm.ld1 (SH.is g) i 6 (Value.slice (some { block := j, off := 0 }) n 3), Asm.off p 0 k n 3, Asm.st (SH.is g) j (Nat.succ p) [Value.int IntKind.i64 2] c, Asm.ld1 (SH.set (SH.is g) j (AObj.cells c true)) b5 0 (Value.slice none 0 0), Asm.arith BinOp.add IntKind.i64 k 1 k1, Asm.len (SH.set (SH.is g) j (AObj.cells c true)) d, Asm.appNil (SH.push (SH.set (SH.is g) j (AObj.cells c true)) (AObj.cells [Value.int IntKind.i64 1, Value.int IntKind.i64 k1, Value.int IntKind.i64 0] true)) d 0 1 0 3 24 [Value.int IntKind.i64 1, Value.int IntKind.i64 k1, Value.int IntKind.i64 0] e, Asm.st (SH.push (SH.push (SH.set (SH.is g) j (AObj.cells c true)) (AObj.cells [Value.int IntKind.i64 1, Value.int IntKind.i64 k1, Value.int IntKind.i64 0] true)) (AObj.cells [Value.int IntKind.i64 1, Value.int IntKind.i64 k1, Value.int IntKind.i64 0] true)) b5 0 [Value.slice (some { block := e, off := 0 }) 1 3] [Value.slice (some { block := e, off := 0 }) 1 3]]) := by kernel_rfl
theorem st_yes1 (o m i j n b2 b3 b5 q p d e : Nat) (k k1 s : Int) (fo : FuncId) (cl c cs : List Value) (g : Hp) : pvCode Try.prog (pvCall Try.prog 0) 37 true ((partC Try.f49 [1, 1, 0, 1, 0, 1])) [(6, .int .i64 k), (7, .pointer (some ⟨q, 0, none⟩)), (2, .pointer (some ⟨b2, 0, none⟩)), (3, .pointer (some ⟨b3, 0, none⟩)), (5, .pointer (some ⟨b5, 0, none⟩))] (.is g) [.val (.int .i64 s), .bit true, .val (.func (.func fo) #[] ⟨cl⟩), .ret (.bool true) (.is g), .val (.pointer (some ⟨i, 0, none⟩)), .val (.slice (some ⟨j, 0, none⟩) n 3), .offs p, .cells c, .val (.slice (some ⟨o, 0, none⟩) m 3), .num k1, .idx d, .app cs [.int .i64 1, .int .i64 k1, .int .i64 0] 0 e, .cells [.slice (some ⟨e, 0, none⟩) (m + 1) 3]] =
    some (Ex.normal, [(35, Value.slice (some { block := e, off := 0 }) (Nat.succ m) 3), (34, Value.slice (some { block := d, off := 0 }) 1 3), (33, Value.agg { toList := [Value.int IntKind.i64 1, Value.int IntKind.i64 k1, Value.int IntKind.i64 0] }), (32, Value.int IntKind.i64 k1), (31, Value.int IntKind.i64 k), (30, Value.slice (some { block := o, off := 0 }) m 3), (29, Value.pointer (some { block := j, off := Nat.succ p })), (28, Value.pointer (some { block := j, off := p })), (27, Value.int IntKind.i64 k), (26, Value.slice (some { block := j, off := 0 }) n 3), (25, Value.pointer (some { block := i, off := 6 })), (24, Value.pointer (some { block := i, off := 0 })), (23, Value.pointer (some { block := i, off := 0 })), (22, Value.bool true), (21, Value.bool true), (20, Value.int IntKind.i64 k), (19, Value.func (Fn.func fo) { toList := [] } { toList := cl }), (18, Value.bool true), (17, Value.bool true), (16, Value.int IntKind.i64 s), (15, Value.pointer (some { block := q, off := 1 })), (6, Value.int IntKind.i64 k), (7, Value.pointer (some { block := q, off := 0 })), (2, Value.pointer (some { block := b2, off := 0 })), (3, Value.pointer (some { block := b3, off := 0 })), (5, Value.pointer (some { block := b5, off := 0 }))], SH.set (SH.push (SH.set (SH.push (SH.set (SH.is g) j (AObj.cells c true)) (AObj.cells [Value.int IntKind.i64 1, Value.int IntKind.i64 k1, Value.int IntKind.i64 0] true)) o AObj.dead) (AObj.cells cs true)) b5 (AObj.cells [Value.slice (some { block := e, off := 0 }) (Nat.succ m) 3] true), [], [Asm.ld1 (SH.is g) q 1 (Value.int IntKind.i64 s), Asm.cmp BinOp.eql s 1 true, Asm.ld1 (SH.is g) b3 0 (Value.func (Fn.func fo) { toList := [] } { toList := cl }), Asm.call fo (Value.int IntKind.i64 k :: cl) (SH.is g) (Value.bool true) (SH.is g), Asm.ld1 (SH.is g) b2 0 (Value.pointer (some { block := i, off := 0 })), Asm.ld1 (SH.is g) i 6 (Value.slice (some { block := j, off := 0 }) n 3), Asm.off p 0 k n 3, Asm.st (SH.is g) j (Nat.succ p) [Value.int IntKind.i64 2] c, Asm.ld1 (SH.set (SH.is g) j (AObj.cells c true)) b5 0 (Value.slice (some { block := o, off := 0 }) m 3), Asm.arith BinOp.add IntKind.i64 k 1 k1, Asm.len (SH.set (SH.is g) j (AObj.cells c true)) d, Asm.app (SH.push (SH.set (SH.is g) j (AObj.cells c true)) (AObj.cells [Value.int IntKind.i64 1, Value.int IntKind.i64 k1, Value.int IntKind.i64 0] true)) o 0 m d 0 1 0 3 24 cs [Value.int IntKind.i64 1, Value.int IntKind.i64 k1, Value.int IntKind.i64 0] e, Asm.st (SH.push (SH.set (SH.push (SH.set (SH.is g) j (AObj.cells c true)) (AObj.cells [Value.int IntKind.i64 1, Value.int IntKind.i64 k1, Value.int IntKind.i64 0] true)) o AObj.dead) (AObj.cells cs true)) b5 0 [Value.slice (some { block := e, off := 0 }) (Nat.succ m) 3] [Value.slice (some { block := e, off := 0 }) (Nat.succ m) 3]]) := by kernel_rfl
theorem st_post (b5 : Nat) (v : Value) (g : Hp) : pvCode Try.prog (pvCall Try.prog 0) 37 false ((partC Try.f49 [1, 1, 1])) [(5, .pointer (some ⟨b5, 0, none⟩))] (.is g) [.val v] =
    some (Ex.ret, [(4, v), (36, v), (5, Value.pointer (some { block := b5, off := 0 }))], SH.is g, [], [Asm.ld1 (SH.is g) b5 0 v]) := by kernel_rfl
theorem bk_r0 (bb j n L : Nat) (n1 : Int) (g : Hp) : pvCode Try.prog (pvCall Try.prog 0) 19 false ((partC Try.f71 [0])) (enterE 0 [.func (.yield L) #[] #[], .pointer (some ⟨bb, 0, none⟩)]) (.is g) [.val (.slice (some ⟨j, 0, none⟩) n 3), .num n1] =
    some (Ex.normal, [(3, Value.int IntKind.i64 n1), (6, Value.int IntKind.i64 n1), (5, Value.int IntKind.i64 (Int.ofNat n)), (4, Value.slice (some { block := j, off := 0 }) n 3), (0, Value.func (Fn.yield L) { toList := [] } { toList := [] }), (1, Value.pointer (some { block := bb, off := 0 }))], SH.is g, [], [Asm.ld1 (SH.is g) bb 0 (Value.slice (some { block := j, off := 0 }) n 3), Asm.arith BinOp.sub IntKind.i64 (Int.ofNat n) 1 n1]) := by kernel_rfl
theorem bk_end (bb L : Nat) (k : Int) (g : Hp) : pvCode Try.prog (pvCall Try.prog 0) 19 false ((loopN Try.f71 0)) [(3, .int .i64 k), (1, .pointer (some ⟨bb, 0, none⟩)), (0, .func (.yield L) #[] #[])] (.is g) [.bit false] =
    some (Ex.exit 0, [(8, Value.bool false), (7, Value.int IntKind.i64 k), (3, Value.int IntKind.i64 k), (1, Value.pointer (some { block := bb, off := 0 })), (0, Value.func (Fn.yield L) { toList := [] } { toList := [] })], SH.is g, [], [Asm.cmp BinOp.geq k 0 false]) := by kernel_rfl
theorem bk_go (bb j n L q : Nat) (k k1 x s a : Int) (g g' : Hp) : pvCode Try.prog (pvCall Try.prog 0) 19 false ((loopN Try.f71 0)) [(3, .int .i64 k), (1, .pointer (some ⟨bb, 0, none⟩)), (0, .func (.yield L) #[] #[])] (.is g) [.bit true, .val (.slice (some ⟨j, 0, none⟩) n 3), .offs q, .cells [.int .i64 x, .int .i64 s, .int .i64 a], .ret (.bool true) (.is g'), .num k1] =
    some (Ex.normal, [(3, Value.int IntKind.i64 k1), (10, Value.int IntKind.i64 k1), (9, Value.int IntKind.i64 k), (18, Value.bool false), (17, Value.bool true), (16, Value.agg { toList := [Value.int IntKind.i64 x, Value.int IntKind.i64 s, Value.int IntKind.i64 a] }), (15, Value.pointer (some { block := j, off := q })), (14, Value.int IntKind.i64 k), (13, Value.slice (some { block := j, off := 0 }) n 3), (12, Value.int IntKind.i64 k), (11, Value.func (Fn.yield L) { toList := [] } { toList := [] }), (8, Value.bool true), (7, Value.int IntKind.i64 k), (3, Value.int IntKind.i64 k), (1, Value.pointer (some { block := bb, off := 0 })), (0, Value.func (Fn.yield L) { toList := [] } { toList := [] })], SH.is g', [], [Asm.cmp BinOp.geq k 0 true, Asm.ld1 (SH.is g) bb 0 (Value.slice (some { block := j, off := 0 }) n 3), Asm.off q 0 k n 3, Asm.ldn (SH.is g) j q 3 [Value.int IntKind.i64 x, Value.int IntKind.i64 s, Value.int IntKind.i64 a], Asm.yld L [Value.int IntKind.i64 k, Value.agg { toList := [Value.int IntKind.i64 x, Value.int IntKind.i64 s, Value.int IntKind.i64 a] }] (SH.is g) (Value.bool true) (SH.is g'), Asm.arith BinOp.sub IntKind.i64 k 1 k1]) := by kernel_rfl
end Go.Proofs.Ytkkhokgpcifckaa.w4p

-- printed by wip/tools/pvgen.py; each is checked by the kernel
namespace Go.Proofs.Ytkkhokgpcifckaa.w3p
open Go Go.Ev
set_option maxRecDepth 100000
set_option linter.unusedVariables false

theorem re_end (i o len : Nat) (now k n : Int) (h : Hp) : pvCode Try.prog (pvCall Try.prog 0) 30 false ((loopN Try.f45 0)) [(13, .int .i64 k), (12, .int .i64 (Int.ofNat len)), (11, .slice (some ⟨o, 0, none⟩) len 1), (5, .int .i64 n), (1, .int .i64 now), (0, .pointer (some ⟨i, 0, none⟩))] (.is h) [.bit false] =
    some (Ex.exit 0, [(14, Value.bool false), (13, Value.int IntKind.i64 k), (12, Value.int IntKind.i64 (Int.ofNat len)), (11, Value.slice (some { block := o, off := 0 }) len 1), (5, Value.int IntKind.i64 n), (1, Value.int IntKind.i64 now), (0, Value.pointer (some { block := i, off := 0 }))], SH.is h, [], [Asm.cmp BinOp.lss k (Int.ofNat len) false]) := by kernel_rfl
theorem re_in (i o len : Nat) (now k n : Int) (h : Hp) (y wi d n1 k1 : Int) : pvCode Try.prog (pvCall Try.prog 0) 30 false ((loopN Try.f45 0)) [(13, .int .i64 k), (12, .int .i64 (Int.ofNat len)), (11, .slice (some ⟨o, 0, none⟩) len 1), (5, .int .i64 n), (1, .int .i64 now), (0, .pointer (some ⟨i, 0, none⟩))] (.is h) [.bit true, .offs k.toNat, .val (.int .i64 y), .val (.int .i64 wi), .num d, .bit true, .num n1, .num k1] =
    some (Ex.normal, [(13, Value.int IntKind.i64 k1), (28, Value.int IntKind.i64 k1), (5, Value.int IntKind.i64 n1), (27, Value.int IntKind.i64 n1), (26, Value.int IntKind.i64 n), (25, Value.bool true), (24, Value.int IntKind.i64 d), (23, Value.int IntKind.i64 wi), (22, Value.pointer (some { block := i, off := 2 })), (21, Value.pointer (some { block := i, off := 0 })), (20, Value.pointer (some { block := i, off := 0 })), (19, Value.pointer (some { block := i, off := 0 })), (18, Value.int IntKind.i64 now), (17, Value.int IntKind.i64 y), (7, Value.int IntKind.i64 y), (16, Value.int IntKind.i64 y), (15, Value.pointer (some { block := o, off := Int.toNat k })), (14, Value.bool true), (13, Value.int IntKind.i64 k), (12, Value.int IntKind.i64 (Int.ofNat len)), (11, Value.slice (some { block := o, off := 0 }) len 1), (5, Value.int IntKind.i64 n), (1, Value.int IntKind.i64 now), (0, Value.pointer (some { block := i, off := 0 }))], SH.is h, [], [Asm.cmp BinOp.lss k (Int.ofNat len) true, Asm.off (Int.toNat k) 0 k len 1, Asm.ld1 (SH.is h) o (Int.toNat k) (Value.int IntKind.i64 y), Asm.ld1 (SH.is h) i 2 (Value.int IntKind.i64 wi), Asm.arith BinOp.sub IntKind.i64 now wi d, Asm.cmp BinOp.gtr y d true, Asm.arith BinOp.add IntKind.i64 n 1 n1, Asm.arith BinOp.add IntKind.i64 k 1 k1]) := by kernel_rfl
theorem re_out (i o len : Nat) (now k n : Int) (h : Hp) (y wi d k1 : Int) : pvCode Try.prog (pvCall Try.prog 0) 30 false ((loopN Try.f45 0)) [(13, .int .i64 k), (12, .int .i64 (Int.ofNat len)), (11, .slice (some ⟨o, 0, none⟩) len 1), (5, .int .i64 n), (1, .int .i64 now), (0, .pointer (some ⟨i, 0, none⟩))] (.is h) [.bit true, .offs k.toNat, .val (.int .i64 y), .val (.int .i64 wi), .num d, .bit false, .num k1] =
    some (Ex.normal, [(13, Value.int IntKind.i64 k1), (28, Value.int IntKind.i64 k1), (25, Value.bool false), (24, Value.int IntKind.i64 d), (23, Value.int IntKind.i64 wi), (22, Value.pointer (some { block := i, off := 2 })), (21, Value.pointer (some { block := i, off := 0 })), (20, Value.pointer (some { block := i, off := 0 })), (19, Value.pointer (some { block := i, off := 0 })), (18, Value.int IntKind.i64 now), (17, Value.int IntKind.i64 y), (7, Value.int IntKind.i64 y), (16, Value.int IntKind.i64 y), (15, Value.pointer (some { block := o, off := Int.toNat k })), (14, Value.bool true), (13, Value.int IntKind.i64 k), (12, Value.int IntKind.i64 (Int.ofNat len)), (11, Value.slice (some { block := o, off := 0 }) len 1), (5, Value.int IntKind.i64 n), (1, Value.int IntKind.i64 now), (0, Value.pointer (some { block := i, off := 0 }))], SH.is h, [], [Asm.cmp BinOp.lss k (Int.ofNat len) true, Asm.off (Int.toNat k) 0 k len 1, Asm.ld1 (SH.is h) o (Int.toNat k) (Value.int IntKind.i64 y), Asm.ld1 (SH.is h) i 2 (Value.int IntKind.i64 wi), Asm.arith BinOp.sub IntKind.i64 now wi d, Asm.cmp BinOp.gtr y d false, Asm.arith BinOp.add IntKind.i64 k 1 k1]) := by kernel_rfl
theorem re0 (i : Nat) (now : Int) (h : Hp) : pvFn Try.prog (pvCall Try.prog 0) Try.f45 [.pointer (some ⟨i, 0, none⟩), .int .i64 now] (.is h) [.val (.slice none 0 0), .unr 1, .bit false] =
    some (Value.int IntKind.i64 0, SH.is h, [], [Asm.ld1 (SH.is h) i 8 (Value.slice none 0 0), Asm.cmp BinOp.lss 0 0 false]) := by kernel_rfl
theorem re1 (i o len : Nat) (now r : Int) (h : Hp) : pvFn Try.prog (pvCall Try.prog 0) Try.f45 [.pointer (some ⟨i, 0, none⟩), .int .i64 now] (.is h) [.val (.slice (some ⟨o, 0, none⟩) len 1), .loop (.exit 0) [(5, .int .i64 r)] (.is h)] =
    some (Value.int IntKind.i64 r, SH.is h, [], [Asm.ld1 (SH.is h) i 8 (Value.slice (some { block := o, off := 0 }) len 1), Asm.loop 30 false (loopN Try.f45 0) [(13, Value.int IntKind.i64 0), (12, Value.int IntKind.i64 (Int.ofNat len)), (11, Value.slice (some { block := o, off := 0 }) len 1), (10, Value.pointer (some { block := i, off := 8 })), (9, Value.pointer (some { block := i, off := 0 })), (8, Value.pointer (some { block := i, off := 0 })), (5, Value.int IntKind.i64 0), (4, Value.int IntKind.i64 0), (0, Value.pointer (some { block := i, off := 0 })), (1, Value.int IntKind.i64 now)] (SH.is h) (Ex.exit 0) [(5, Value.int IntKind.i64 r)] (SH.is h)]) := by kernel_rfl
theorem bg_end (i j len : Nat) (v : Value) (at' k : Int) (h : Hp) : pvCode Try.prog (pvCall Try.prog 0) 64 false ((loopN Try.f32 0)) [(37, .int .i64 k), (36, .int .i64 (Int.ofNat len)), (35, .slice (some ⟨j, 0, none⟩) len 3), (4, v), (3, .int .i64 at'), (0, .pointer (some ⟨i, 0, none⟩))] (.is h) [.bit false] =
    some (Ex.exit 0, [(38, Value.bool false), (37, Value.int IntKind.i64 k), (36, Value.int IntKind.i64 (Int.ofNat len)), (35, Value.slice (some { block := j, off := 0 }) len 3), (4, v), (3, Value.int IntKind.i64 at'), (0, Value.pointer (some { block := i, off := 0 }))], SH.is h, [], [Asm.cmp BinOp.lss k (Int.ofNat len) false]) := by kernel_rfl
theorem bg_skip (i j len : Nat) (v : Value) (at' k : Int) (h : Hp) (q b : Nat) (x s a k1 : Int) : pvCode Try.prog (pvCall Try.prog 0) 64 false ((loopN Try.f32 0)) [(37, .int .i64 k), (36, .int .i64 (Int.ofNat len)), (35, .slice (some ⟨j, 0, none⟩) len 3), (4, v), (3, .int .i64 at'), (0, .pointer (some ⟨i, 0, none⟩))] (.is h) [.bit true, .offs q, .cells [.int .i64 x, .int .i64 s, .int .i64 a], .idx b, .cells [.int .i64 x, .int .i64 s, .int .i64 a], .val (.int .i64 s), .bit false, .num k1] =
    some (Ex.normal, [(37, Value.int IntKind.i64 k1), (62, Value.int IntKind.i64 k1), (44, Value.bool false), (43, Value.int IntKind.i64 s), (42, Value.pointer (some { block := b, off := 1 })), (5, Value.int IntKind.i64 k), (6, Value.pointer (some { block := b, off := 0 })), (41, Value.agg { toList := [Value.int IntKind.i64 x, Value.int IntKind.i64 s, Value.int IntKind.i64 a] }), (40, Value.pointer (some { block := j, off := q })), (39, Value.int IntKind.i64 k), (38, Value.bool true), (37, Value.int IntKind.i64 k), (36, Value.int IntKind.i64 (Int.ofNat len)), (35, Value.slice (some { block := j, off := 0 }) len 3), (4, v), (3, Value.int IntKind.i64 at'), (0, Value.pointer (some { block := i, off := 0 }))], SH.set (SH.push (SH.is h) (AObj.cells [Value.int IntKind.i64 0, Value.int IntKind.i64 0, Value.int IntKind.i64 0] true)) b (AObj.cells [Value.int IntKind.i64 x, Value.int IntKind.i64 s, Value.int IntKind.i64 a] true), [], [Asm.cmp BinOp.lss k (Int.ofNat len) true, Asm.off q 0 k len 3, Asm.ldn (SH.is h) j q 3 [Value.int IntKind.i64 x, Value.int IntKind.i64 s, Value.int IntKind.i64 a], Asm.len (SH.is h) b, Asm.st (SH.push (SH.is h) (AObj.cells [Value.int IntKind.i64 0, Value.int IntKind.i64 0, Value.int IntKind.i64 0] true)) b 0 [Value.int IntKind.i64 x, Value.int IntKind.i64 s, Value.int IntKind.i64 a] [Value.int IntKind.i64 x, Value.int IntKind.i64 s, Value.int IntKind.i64 a], Asm.ld1 (SH.set (SH.push (SH.is h) (AObj.cells [Value.int IntKind.i64 0, Value.int IntKind.i64 0, Value.int IntKind.i64 0] true)) b (AObj.cells [Value.int IntKind.i64 x, Value.int IntKind.i64 s, Value.int IntKind.i64 a] true)) b 1 (Value.int IntKind.i64 s), Asm.cmp BinOp.eql s 3 false, Asm.arith BinOp.add IntKind.i64 k 1 k1]) := by kernel_rfl
theorem bg_go0 (i j len : Nat) (at' k : Int) (h : Hp) (q b b2 d : Nat) (x s a k1 n1 : Int) (c cs : List Value) : pvCode Try.prog (pvCall Try.prog 0) 64 false ((loopN Try.f32 0)) [(37, .int .i64 k), (36, .int .i64 (Int.ofNat len)), (35, .slice (some ⟨j, 0, none⟩) len 3), (4, .slice none 0 0), (3, .int .i64 at'), (0, .pointer (some ⟨i, 0, none⟩))] (.is h) [.bit true, .offs q, .cells [.int .i64 x, .int .i64 s, .int .i64 a], .idx b, .cells [.int .i64 x, .int .i64 s, .int .i64 a], .val (.int .i64 s), .bit true, .val (.slice (some ⟨j, 0, none⟩) len 3), .val (.int .i64 x), .offs q, .cells c, .num n1, .idx b2, .app cs [.int .i64 2, .int .i64 n1, .int .i64 at'] 0 d, .num k1] =
    some (Ex.normal, [(37, Value.int IntKind.i64 k1), (62, Value.int IntKind.i64 k1), (4, Value.slice (some { block := d, off := 0 }) 1 3), (61, Value.slice (some { block := d, off := 0 }) 1 3), (60, Value.slice (some { block := b2, off := 0 }) 1 3), (59, Value.agg { toList := [Value.int IntKind.i64 2, Value.int IntKind.i64 n1, Value.int IntKind.i64 at'] }), (58, Value.int IntKind.i64 at'), (57, Value.int IntKind.i64 n1), (56, Value.int IntKind.i64 k), (55, Value.slice none 0 0), (54, Value.pointer (some { block := j, off := q })), (53, Value.agg { toList := [Value.int IntKind.i64 x, Value.int IntKind.i64 4, Value.int IntKind.i64 at'] }), (52, Value.int IntKind.i64 at'), (51, Value.int IntKind.i64 x), (50, Value.pointer (some { block := b, off := 0 })), (49, Value.int IntKind.i64 k), (48, Value.slice (some { block := j, off := 0 }) len 3), (47, Value.pointer (some { block := i, off := 6 })), (46, Value.pointer (some { block := i, off := 0 })), (45, Value.pointer (some { block := i, off := 0 })), (44, Value.bool true), (43, Value.int IntKind.i64 s), (42, Value.pointer (some { block := b, off := 1 })), (5, Value.int IntKind.i64 k), (6, Value.pointer (some { block := b, off := 0 })), (41, Value.agg { toList := [Value.int IntKind.i64 x, Value.int IntKind.i64 s, Value.int IntKind.i64 a] }), (40, Value.pointer (some { block := j, off := q })), (39, Value.int IntKind.i64 k), (38, Value.bool true), (37, Value.int IntKind.i64 k), (36, Value.int IntKind.i64 (Int.ofNat len)), (35, Value.slice (some { block := j, off := 0 }) len 3), (4, Value.slice none 0 0), (3, Value.int IntKind.i64 at'), (0, Value.pointer (some { block := i, off := 0 }))], SH.push (SH.push (SH.set (SH.set (SH.push (SH.is h) (AObj.cells [Value.int IntKind.i64 0, Value.int IntKind.i64 0, Value.int IntKind.i64 0] true)) b (AObj.cells [Value.int IntKind.i64 x, Value.int IntKind.i64 s, Value.int IntKind.i64 a] true)) j (AObj.cells c true)) (AObj.cells [Value.int IntKind.i64 2, Value.int IntKind.i64 n1, Value.int IntKind.i64 at'] true)) (AObj.cells [Value.int IntKind.i64 2, Value.int IntKind.i64 n1, Value.int IntKind.i64 at'] true), [], [Asm.cmp BinOp.lss k (Int.ofNat len) true, Asm.off q 0 k len 3, Asm.ldn (SH.is h) j q 3 [Value.int IntKind.i64 x, Value.int IntKind.i64 s, Value.int IntKind.i64 a], Asm.len (SH.is h) b, Asm.st (SH.push (SH.is h) (AObj.cells [Value.int IntKind.i64 0, Value.int IntKind.i64 0, Value.int IntKind.i64 0] true)) b 0 [Value.int IntKind.i64 x, Value.int IntKind.i64 s, Value.int IntKind.i64 a] [Value.int IntKind.i64 x, Value.int IntKind.i64 s, Value.int IntKind.i64 a], Asm.ld1 (SH.set (SH.push (SH.is h) (AObj.cells [Value.int IntKind.i64 0, Value.int IntKind.i64 0, Value.int IntKind.i64 0] true)) b (AObj.cells [Value.int IntKind.i64 x, Value.int IntKind.i64 s, Value.int IntKind.i64 a] true)) b 1 (Value.int IntKind.i64 s), Asm.cmp BinOp.eql s 3 true, Asm.stat (drawN Try.f32 2), Asm.ld1 (SH.set (SH.push (SH.is h) (AObj.cells [Value.int IntKind.i64 0, Value.int IntKind.i64 0, Value.int IntKind.i64 0] true)) b (AObj.cells [Value.int IntKind.i64 x, Value.int IntKind.i64 s, Value.int IntKind.i64 a] true)) i 6 (Value.slice (some { block := j, off := 0 }) len 3), Asm.ld1 (SH.set (SH.push (SH.is h) (AObj.cells [Value.int IntKind.i64 0, Value.int IntKind.i64 0, Value.int IntKind.i64 0] true)) b (AObj.cells [Value.int IntKind.i64 x, Value.int IntKind.i64 s, Value.int IntKind.i64 a] true)) b 0 (Value.int IntKind.i64 x), Asm.off q 0 k len 3, Asm.st (SH.set (SH.push (SH.is h) (AObj.cells [Value.int IntKind.i64 0, Value.int IntKind.i64 0, Value.int IntKind.i64 0] true)) b (AObj.cells [Value.int IntKind.i64 x, Value.int IntKind.i64 s, Value.int IntKind.i64 a] true)) j q [Value.int IntKind.i64 x, Value.int IntKind.i64 4, Value.int IntKind.i64 at'] c, Asm.arith BinOp.add IntKind.i64 k 1 n1, Asm.len (SH.set (SH.set (SH.push (SH.is h) (AObj.cells [Value.int IntKind.i64 0, Value.int IntKind.i64 0, Value.int IntKind.i64 0] true)) b (AObj.cells [Value.int IntKind.i64 x, Value.int IntKind.i64 s, Value.int IntKind.i64 a] true)) j (AObj.cells c true)) b2, Asm.appNil (SH.push (SH.set (SH.set (SH.push (SH.is h) (AObj.cells [Value.int IntKind.i64 0, Value.int IntKind.i64 0, Value.int IntKind.i64 0] true)) b (AObj.cells [Value.int IntKind.i64 x, Value.int IntKind.i64 s, Value.int IntKind.i64 a] true)) j (AObj.cells c true)) (AObj.cells [Value.int IntKind.i64 2, Value.int IntKind.i64 n1, Value.int IntKind.i64 at'] true)) b2 0 1 0 3 24 [Value.int IntKind.i64 2, Value.int IntKind.i64 n1, Value.int IntKind.i64 at'] d, Asm.arith BinOp.add IntKind.i64 k 1 k1]) := by kernel_rfl
theorem bg_go1 (i j len : Nat) (o m : Nat) (at' k : Int) (h : Hp) (q b b2 d : Nat) (x s a k1 n1 : Int) (c cs : List Value) : pvCode Try.prog (pvCall Try.prog 0) 64 false ((loopN Try.f32 0)) [(37, .int .i64 k), (36, .int .i64 (Int.ofNat len)), (35, .slice (some ⟨j, 0, none⟩) len 3), (4, .slice (some ⟨o, 0, none⟩) m 3), (3, .int .i64 at'), (0, .pointer (some ⟨i, 0, none⟩))] (.is h) [.bit true, .offs q, .cells [.int .i64 x, .int .i64 s, .int .i64 a], .idx b, .cells [.int .i64 x, .int .i64 s, .int .i64 a], .val (.int .i64 s), .bit true, .val (.slice (some ⟨j, 0, none⟩) len 3), .val (.int .i64 x), .offs q, .cells c, .num n1, .idx b2, .app cs [.int .i64 2, .int .i64 n1, .int .i64 at'] 0 d, .num k1] =
    some (Ex.normal, [(37, Value.int IntKind.i64 k1), (62, Value.int IntKind.i64 k1), (4, Value.slice (some { block := d, off := 0 }) (Nat.succ m) 3), (61, Value.slice (some { block := d, off := 0 }) (Nat.succ m) 3), (60, Value.slice (some { block := b2, off := 0 }) 1 3), (59, Value.agg { toList := [Value.int IntKind.i64 2, Value.int IntKind.i64 n1, Value.int IntKind.i64 at'] }), (58, Value.int IntKind.i64 at'), (57, Value.int IntKind.i64 n1), (56, Value.int IntKind.i64 k), (55, Value.slice (some { block := o, off := 0 }) m 3), (54, Value.pointer (some { block := j, off := q })), (53, Value.agg { toList := [Value.int IntKind.i64 x, Value.int IntKind.i64 4, Value.int IntKind.i64 at'] }), (52, Value.int IntKind.i64 at'), (51, Value.int IntKind.i64 x), (50, Value.pointer (some { block := b, off := 0 })), (49, Value.int IntKind.i64 k), (48, Value.slice (some { block := j, off := 0 }) len 3), (47, Value.pointer (some { block := i, off := 6 })), (46, Value.pointer (some { block := i, off := 0 })), (45, Value.pointer (some { block := i, off := 0 })), (44, Value.bool true), (43, Value.int IntKind.i64 s), (42, Value.pointer (some { block := b, off := 1 })), (5, Value.int IntKind.i64 k), (6, Value.pointer (some { block := b, off := 0 })), (41, Value.agg { toList := [Value.int IntKind.i64 x, Value.int IntKind.i64 s, Value.int IntKind.i64 a] }), (40, Value.pointer (some { block := j, off := q })), (39, Value.int IntKind.i64 k), (38, Value.bool true), (37, Value.int IntKind.i64 k), (36, Value.int IntKind.i64 (Int.ofNat len)), (35, Value.slice (some { block := j, off := 0 }) len 3), (4, Value.slice (some { block := o, off := 0 }) m 3), (3, Value.int IntKind.i64 at'), (0, Value.pointer (some { block := i, off := 0 }))], SH.push (SH.set (SH.push (SH.set (SH.set (SH.push (SH.is h) (AObj.cells [Value.int IntKind.i64 0, Value.int IntKind.i64 0, Value.int IntKind.i64 0] true)) b (AObj.cells [Value.int IntKind.i64 x, Value.int IntKind.i64 s, Value.int IntKind.i64 a] true)) j (AObj.cells c true)) (AObj.cells [Value.int IntKind.i64 2, Value.int IntKind.i64 n1, Value.int IntKind.i64 at'] true)) o AObj.dead) (AObj.cells cs true), [], [Asm.cmp BinOp.lss k (Int.ofNat len) true, Asm.off q 0 k len 3, Asm.ldn (SH.is h) j q 3 [Value.int IntKind.i64 x, Value.int IntKind.i64 s, Value.int IntKind.i64 a], Asm.len (SH.is h) b, Asm.st (SH.push (SH.is h) (AObj.cells [Value.int IntKind.i64 0, Value.int IntKind.i64 0, Value.int IntKind.i64 0] true)) b 0 [Value.int IntKind.i64 x, Value.int IntKind.i64 s, Value.int IntKind.i64 a] [Value.int IntKind.i64 x, Value.int IntKind.i64 s, Value.int IntKind.i64 a], Asm.ld1 (SH.set (SH.push (SH.is h) (AObj.cells [Value.int IntKind.i64 0, Value.int IntKind.i64 0, Value.int IntKind.i64 0] true)) b (AObj.cells [Value.int IntKind.i64 x, Value.int IntKind.i64 s, Value.int IntKind.i64 a] true)) b 1 (Value.int IntKind.i64 s), Asm.cmp BinOp.eql s 3 true, Asm.stat (drawN Try.f32 2), Asm.ld1 (SH.set (SH.push (SH.is h) (AObj.cells [Value.int IntKind.i64 0, Value.int IntKind.i64 0, Value.int IntKind.i64 0] true)) b (AObj.cells [Value.int IntKind.i64 x, Value.int IntKind.i64 s, Value.int IntKind.i64 a] true)) i 6 (Value.slice (some { block := j, off := 0 }) len 3), Asm.ld1 (SH.set (SH.push (SH.is h) (AObj.cells [Value.int IntKind.i64 0, Value.int IntKind.i64 0, Value.int IntKind.i64 0] true)) b (AObj.cells [Value.int IntKind.i64 x, Value.int IntKind.i64 s, Value.int IntKind.i64 a] true)) b 0 (Value.int IntKind.i64 x), Asm.off q 0 k len 3, Asm.st (SH.set (SH.push (SH.is h) (AObj.cells [Value.int IntKind.i64 0, Value.int IntKind.i64 0, Value.int IntKind.i64 0] true)) b (AObj.cells [Value.int IntKind.i64 x, Value.int IntKind.i64 s, Value.int IntKind.i64 a] true)) j q [Value.int IntKind.i64 x, Value.int IntKind.i64 4, Value.int IntKind.i64 at'] c, Asm.arith BinOp.add IntKind.i64 k 1 n1, Asm.len (SH.set (SH.set (SH.push (SH.is h) (AObj.cells [Value.int IntKind.i64 0, Value.int IntKind.i64 0, Value.int IntKind.i64 0] true)) b (AObj.cells [Value.int IntKind.i64 x, Value.int IntKind.i64 s, Value.int IntKind.i64 a] true)) j (AObj.cells c true)) b2, Asm.app (SH.push (SH.set (SH.set (SH.push (SH.is h) (AObj.cells [Value.int IntKind.i64 0, Value.int IntKind.i64 0, Value.int IntKind.i64 0] true)) b (AObj.cells [Value.int IntKind.i64 x, Value.int IntKind.i64 s, Value.int IntKind.i64 a] true)) j (AObj.cells c true)) (AObj.cells [Value.int IntKind.i64 2, Value.int IntKind.i64 n1, Value.int IntKind.i64 at'] true)) o 0 m b2 0 1 0 3 24 cs [Value.int IntKind.i64 2, Value.int IntKind.i64 n1, Value.int IntKind.i64 at'] d, Asm.arith BinOp.add IntKind.i64 k 1 k1]) := by kernel_rfl
theorem bg_busy (i b : Nat) (h h' : Hp) : pvFn Try.prog (pvCall Try.prog 0) Try.f32 [.pointer (some ⟨i, 0, none⟩)] (.is h) [.idx b, .ret (.bool true) (.is h')] =
    some (Value.slice none 0 0, SH.is h', [], [Asm.len (SH.is h) b, Asm.call 34 [Value.pointer (some { block := i, off := 0 }), Value.slice (some { block := b, off := 0 }) 1 1] (SH.push (SH.is h) (AObj.cells [Value.int IntKind.i64 2] true)) (Value.bool true) (SH.is h')]) := by kernel_rfl
theorem bg_near (i j b len : Nat) (dl nw sb ad : Int) (v : Value) (c : List Value) (h h' h2 : Hp) : pvFn Try.prog (pvCall Try.prog 0) Try.f32 [.pointer (some ⟨i, 0, none⟩)] (.is h) [.idx b, .ret (.bool false) (.is h'), .val (.int .i64 dl), .val (.int .i64 nw), .num sb, .bit true, .val (.int .i64 nw), .val (.int .i64 dl), .num ad, .cells c, .val (.slice (some ⟨j, 0, none⟩) len 3), .loop (.exit 0) [(4, v)] (.is h2)] =
    some (v, SH.is h2, [], [Asm.len (SH.is h) b, Asm.call 34 [Value.pointer (some { block := i, off := 0 }), Value.slice (some { block := b, off := 0 }) 1 1] (SH.push (SH.is h) (AObj.cells [Value.int IntKind.i64 2] true)) (Value.bool false) (SH.is h'), Asm.stat (drawN Try.f32 0), Asm.ld1 (SH.is h') i 9 (Value.int IntKind.i64 dl), Asm.ld1 (SH.is h') i 7 (Value.int IntKind.i64 nw), Asm.arith BinOp.sub IntKind.i64 1000000000000 nw sb, Asm.cmp BinOp.lss dl sb true, Asm.stat (drawN Try.f32 1), Asm.ld1 (SH.is h') i 7 (Value.int IntKind.i64 nw), Asm.ld1 (SH.is h') i 9 (Value.int IntKind.i64 dl), Asm.arith BinOp.add IntKind.i64 nw dl ad, Asm.st (SH.is h') i 9 [Value.int IntKind.i64 0] c, Asm.ld1 (SH.set (SH.is h') i (AObj.cells c true)) i 6 (Value.slice (some { block := j, off := 0 }) len 3), Asm.loop 64 false (loopN Try.f32 0) [(37, Value.int IntKind.i64 0), (36, Value.int IntKind.i64 (Int.ofNat len)), (35, Value.slice (some { block := j, off := 0 }) len 3), (34, Value.pointer (some { block := i, off := 6 })), (33, Value.pointer (some { block := i, off := 0 })), (32, Value.pointer (some { block := i, off := 0 })), (4, Value.slice none 0 0), (31, Value.pointer (some { block := i, off := 9 })), (30, Value.pointer (some { block := i, off := 0 })), (29, Value.pointer (some { block := i, off := 0 })), (3, Value.int IntKind.i64 ad), (28, Value.int IntKind.i64 ad), (27, Value.int IntKind.i64 dl), (26, Value.pointer (some { block := i, off := 9 })), (25, Value.pointer (some { block := i, off := 0 })), (24, Value.pointer (some { block := i, off := 0 })), (23, Value.int IntKind.i64 nw), (22, Value.pointer (some { block := i, off := 7 })), (21, Value.pointer (some { block := i, off := 0 })), (20, Value.pointer (some { block := i, off := 0 })), (19, Value.bool true), (18, Value.int IntKind.i64 sb), (17, Value.int IntKind.i64 nw), (16, Value.pointer (some { block := i, off := 7 })), (15, Value.pointer (some { block := i, off := 0 })), (14, Value.pointer (some { block := i, off := 0 })), (13, Value.int IntKind.i64 dl), (12, Value.pointer (some { block := i, off := 9 })), (11, Value.pointer (some { block := i, off := 0 })), (10, Value.pointer (some { block := i, off := 0 })), (3, Value.int IntKind.i64 1000000000000), (9, Value.bool false), (8, Value.slice (some { block := b, off := 0 }) 1 1), (7, Value.pointer (some { block := i, off := 0 })), (2, Value.slice none 0 0), (0, Value.pointer (some { block := i, off := 0 }))] (SH.set (SH.is h') i (AObj.cells c true)) (Ex.exit 0) [(4, v)] (SH.is h2)]) := by kernel_rfl
theorem bg_far (i j b len : Nat) (dl nw sb : Int) (v : Value) (c : List Value) (h h' h2 : Hp) : pvFn Try.prog (pvCall Try.prog 0) Try.f32 [.pointer (some ⟨i, 0, none⟩)] (.is h) [.idx b, .ret (.bool false) (.is h'), .val (.int .i64 dl), .val (.int .i64 nw), .num sb, .bit false, .cells c, .val (.slice (some ⟨j, 0, none⟩) len 3), .loop (.exit 0) [(4, v)] (.is h2)] =
    some (v, SH.is h2, [], [Asm.len (SH.is h) b, Asm.call 34 [Value.pointer (some { block := i, off := 0 }), Value.slice (some { block := b, off := 0 }) 1 1] (SH.push (SH.is h) (AObj.cells [Value.int IntKind.i64 2] true)) (Value.bool false) (SH.is h'), Asm.stat (drawN Try.f32 0), Asm.ld1 (SH.is h') i 9 (Value.int IntKind.i64 dl), Asm.ld1 (SH.is h') i 7 (Value.int IntKind.i64 nw), Asm.arith BinOp.sub IntKind.i64 1000000000000 nw sb, Asm.cmp BinOp.lss dl sb false, Asm.st (SH.is h') i 9 [Value.int IntKind.i64 0] c, Asm.ld1 (SH.set (SH.is h') i (AObj.cells c true)) i 6 (Value.slice (some { block := j, off := 0 }) len 3), Asm.loop 64 false (loopN Try.f32 0) [(37, Value.int IntKind.i64 0), (36, Value.int IntKind.i64 (Int.ofNat len)), (35, Value.slice (some { block := j, off := 0 }) len 3), (34, Value.pointer (some { block := i, off := 6 })), (33, Value.pointer (some { block := i, off := 0 })), (32, Value.pointer (some { block := i, off := 0 })), (4, Value.slice none 0 0), (31, Value.pointer (some { block := i, off := 9 })), (30, Value.pointer (some { block := i, off := 0 })), (29, Value.pointer (some { block := i, off := 0 })), (19, Value.bool false), (18, Value.int IntKind.i64 sb), (17, Value.int IntKind.i64 nw), (16, Value.pointer (some { block := i, off := 7 })), (15, Value.pointer (some { block := i, off := 0 })), (14, Value.pointer (some { block := i, off := 0 })), (13, Value.int IntKind.i64 dl), (12, Value.pointer (some { block := i, off := 9 })), (11, Value.pointer (some { block := i, off := 0 })), (10, Value.pointer (some { block := i, off := 0 })), (3, Value.int IntKind.i64 1000000000000), (9, Value.bool false), (8, Value.slice (some { block := b, off := 0 }) 1 1), (7, Value.pointer (some { block := i, off := 0 })), (2, Value.slice none 0 0), (0, Value.pointer (some { block := i, off := 0 }))] (SH.set (SH.is h') i (AObj.cells c true)) (Ex.exit 0) [(4, v)] (SH.is h2)]) := by kernel_rfl
end Go.Proofs.Ytkkhokgpcifckaa.w3p

-- printed by wip/tools/pvgen.py; each is checked by the kernel
namespace Go.Proofs.Ytkkhokgpcifckaa.w2p
open Go Go.Ev
set_option maxRecDepth 100000
set_option linter.unusedVariables false

theorem ix_end (o len : Nat) (x k : Int) (h : Hp) : pvCode Try.prog (pvCall Try.prog 0) 19 false ((loopN Try.f66 0)) [(8, .int .i64 k), (7, .int .i64 (Int.ofNat len)), (1, .int .i64 x), (0, .slice (some ⟨o, 0, none⟩) len 1)] (.is h) [.bit false] =
    some (Ex.exit 0, [(9, Value.bool false), (8, Value.int IntKind.i64 k), (7, Value.int IntKind.i64 (Int.ofNat len)), (1, Value.int IntKind.i64 x), (0, Value.slice (some { block := o, off := 0 }) len 1)], SH.is h, [], [Asm.cmp BinOp.lss k (Int.ofNat len) false]) := by kernel_rfl
theorem ix_hit (o len : Nat) (x k : Int) (h : Hp) (q : Nat) (y : Int) : pvCode Try.prog (pvCall Try.prog 0) 19 false ((loopN Try.f66 0)) [(8, .int .i64 k), (7, .int .i64 (Int.ofNat len)), (1, .int .i64 x), (0, .slice (some ⟨o, 0, none⟩) len 1)] (.is h) [.bit true, .offs q, .val (.int .i64 y), .bit true] =
    some (Ex.ret, [(4, Value.int IntKind.i64 k), (17, Value.int IntKind.i64 k), (16, Value.bool true), (15, Value.int IntKind.i64 y), (14, Value.pointer (some { block := o, off := q })), (13, Value.int IntKind.i64 k), (12, Value.slice (some { block := o, off := 0 }) len 1), (11, Value.int IntKind.i64 x), (5, Value.int IntKind.i64 k), (10, Value.int IntKind.i64 k), (9, Value.bool true), (8, Value.int IntKind.i64 k), (7, Value.int IntKind.i64 (Int.ofNat len)), (1, Value.int IntKind.i64 x), (0, Value.slice (some { block := o, off := 0 }) len 1)], SH.is h, [], [Asm.cmp BinOp.lss k (Int.ofNat len) true, Asm.off q 0 k len 1, Asm.ld1 (SH.is h) o q (Value.int IntKind.i64 y), Asm.cmp BinOp.eql x y true]) := by kernel_rfl
theorem ix_go (o len : Nat) (x k : Int) (h : Hp) (q : Nat) (y k1 : Int) : pvCode Try.prog (pvCall Try.prog 0) 19 false ((loopN Try.f66 0)) [(8, .int .i64 k), (7, .int .i64 (Int.ofNat len)), (1, .int .i64 x), (0, .slice (some ⟨o, 0, none⟩) len 1)] (.is h) [.bit true, .offs q, .val (.int .i64 y), .bit false, .num k1] =
    some (Ex.normal, [(8, Value.int IntKind.i64 k1), (18, Value.int IntKind.i64 k1), (16, Value.bool false), (15, Value.int IntKind.i64 y), (14, Value.pointer (some { block := o, off := q })), (13, Value.int IntKind.i64 k), (12, Value.slice (some { block := o, off := 0 }) len 1), (11, Value.int IntKind.i64 x), (5, Value.int IntKind.i64 k), (10, Value.int IntKind.i64 k), (9, Value.bool true), (8, Value.int IntKind.i64 k), (7, Value.int IntKind.i64 (Int.ofNat len)), (1, Value.int IntKind.i64 x), (0, Value.slice (some { block := o, off := 0 }) len 1)], SH.is h, [], [Asm.cmp BinOp.lss k (Int.ofNat len) true, Asm.off q 0 k len 1, Asm.ld1 (SH.is h) o q (Value.int IntKind.i64 y), Asm.cmp BinOp.eql x y false, Asm.arith BinOp.add IntKind.i64 k 1 k1]) := by kernel_rfl
theorem ix_none (o len : Nat) (x : Int) (h : Hp) : pvFn Try.prog (pvCall Try.prog 0) Try.f66 [.slice (some ⟨o, 0, none⟩) len 1, .int .i64 x] (.is h) [.loop (.exit 0) [] (.is h)] =
    some (Value.int IntKind.i64 (Int.negSucc 0), SH.is h, [], [Asm.loop 19 false (loopN Try.f66 0) [(8, Value.int IntKind.i64 0), (7, Value.int IntKind.i64 (Int.ofNat len)), (6, Value.slice (some { block := o, off := 0 }) len 1), (4, Value.int IntKind.i64 0), (0, Value.slice (some { block := o, off := 0 }) len 1), (1, Value.int IntKind.i64 x)] (SH.is h) (Ex.exit 0) [] (SH.is h)]) := by kernel_rfl
theorem ix_some (o len : Nat) (x k : Int) (h : Hp) : pvFn Try.prog (pvCall Try.prog 0) Try.f66 [.slice (some ⟨o, 0, none⟩) len 1, .int .i64 x] (.is h) [.loop .ret [(4, .int .i64 k)] (.is h)] =
    some (Value.int IntKind.i64 k, SH.is h, [], [Asm.loop 19 false (loopN Try.f66 0) [(8, Value.int IntKind.i64 0), (7, Value.int IntKind.i64 (Int.ofNat len)), (6, Value.slice (some { block := o, off := 0 }) len 1), (4, Value.int IntKind.i64 0), (0, Value.slice (some { block := o, off := 0 }) len 1), (1, Value.int IntKind.i64 x)] (SH.is h) Ex.ret [(4, Value.int IntKind.i64 k)] (SH.is h)]) := by kernel_rfl
theorem has (o len : Nat) (x r : Int) (h : Hp) (z : Bool) : pvFn Try.prog (pvCall Try.prog 0) Try.f52 [.slice (some ⟨o, 0, none⟩) len 1, .int .i64 x] (.is h) [.ret (.int .i64 r) (.is h), .bit z] =
    some (Value.bool z, SH.is h, [], [Asm.call 66 [Value.slice (some { block := o, off := 0 }) len 1, Value.int IntKind.i64 x] (SH.is h) (Value.int IntKind.i64 r) (SH.is h), Asm.cmp BinOp.geq r 0 z]) := by kernel_rfl
theorem any1 (c o len b : Nat) (w s a : Int) (h : Hp) (z : Bool) : pvFn Try.prog (pvCall Try.prog 0) Try.f51 [.agg #[.int .i64 w, .int .i64 s, .int .i64 a], .pointer (some ⟨c, 0, none⟩)] (.is h) [.idx b, .val (.slice (some ⟨o, 0, none⟩) len 1), .val (.int .i64 s), .ret (.bool z) (.push (.is h) (.cells [.int .i64 w, .int .i64 s, .int .i64 a] true))] =
    some (Value.bool z, SH.push (SH.is h) (AObj.cells [Value.int IntKind.i64 w, Value.int IntKind.i64 s, Value.int IntKind.i64 a] true), [], [Asm.len (SH.is h) b, Asm.ld1 (SH.push (SH.is h) (AObj.cells [Value.int IntKind.i64 w, Value.int IntKind.i64 s, Value.int IntKind.i64 a] true)) c 0 (Value.slice (some { block := o, off := 0 }) len 1), Asm.ld1 (SH.push (SH.is h) (AObj.cells [Value.int IntKind.i64 w, Value.int IntKind.i64 s, Value.int IntKind.i64 a] true)) b 1 (Value.int IntKind.i64 s), Asm.call 52 [Value.slice (some { block := o, off := 0 }) len 1, Value.int IntKind.i64 s] (SH.push (SH.is h) (AObj.cells [Value.int IntKind.i64 w, Value.int IntKind.i64 s, Value.int IntKind.i64 a] true)) (Value.bool z) (SH.push (SH.is h) (AObj.cells [Value.int IntKind.i64 w, Value.int IntKind.i64 s, Value.int IntKind.i64 a] true))]) := by kernel_rfl
theorem if_end (o len c : Nat) (f : FuncId) (k : Int) (h : Hp) : pvCode Try.prog (pvCall Try.prog 0) 19 false ((loopN Try.f65 0)) [(8, .int .i64 k), (7, .int .i64 (Int.ofNat len)), (1, .func (.func f) #[] #[.pointer (some ⟨c, 0, none⟩)]), (0, .slice (some ⟨o, 0, none⟩) len 3)] (.is h) [.bit false] =
    some (Ex.exit 0, [(9, Value.bool false), (8, Value.int IntKind.i64 k), (7, Value.int IntKind.i64 (Int.ofNat len)), (1, Value.func (Fn.func f) { toList := [] } { toList := [Value.pointer (some { block := c, off := 0 })] }), (0, Value.slice (some { block := o, off := 0 }) len 3)], SH.is h, [], [Asm.cmp BinOp.lss k (Int.ofNat len) false]) := by kernel_rfl
theorem if_hit (o len c : Nat) (f : FuncId) (k : Int) (h : Hp) (q : Nat) (a b d : Int) (h' : Hp) : pvCode Try.prog (pvCall Try.prog 0) 19 false ((loopN Try.f65 0)) [(8, .int .i64 k), (7, .int .i64 (Int.ofNat len)), (1, .func (.func f) #[] #[.pointer (some ⟨c, 0, none⟩)]), (0, .slice (some ⟨o, 0, none⟩) len 3)] (.is h) [.bit true, .offs q, .cells [.int .i64 a, .int .i64 b, .int .i64 d], .ret (.bool true) (.is h')] =
    some (Ex.ret, [(4, Value.int IntKind.i64 k), (17, Value.int IntKind.i64 k), (16, Value.bool true), (15, Value.agg { toList := [Value.int IntKind.i64 a, Value.int IntKind.i64 b, Value.int IntKind.i64 d] }), (14, Value.pointer (some { block := o, off := q })), (13, Value.int IntKind.i64 k), (12, Value.slice (some { block := o, off := 0 }) len 3), (11, Value.func (Fn.func f) { toList := [] } { toList := [Value.pointer (some { block := c, off := 0 })] }), (5, Value.int IntKind.i64 k), (10, Value.int IntKind.i64 k), (9, Value.bool true), (8, Value.int IntKind.i64 k), (7, Value.int IntKind.i64 (Int.ofNat len)), (1, Value.func (Fn.func f) { toList := [] } { toList := [Value.pointer (some { block := c, off := 0 })] }), (0, Value.slice (some { block := o, off := 0 }) len 3)], SH.is h', [], [Asm.cmp BinOp.lss k (Int.ofNat len) true, Asm.off q 0 k len 3, Asm.ldn (SH.is h) o q 3 [Value.int IntKind.i64 a, Value.int IntKind.i64 b, Value.int IntKind.i64 d], Asm.call f [Value.agg { toList := [Value.int IntKind.i64 a, Value.int IntKind.i64 b, Value.int IntKind.i64 d] }, Value.pointer (some { block := c, off := 0 })] (SH.is h) (Value.bool true) (SH.is h')]) := by kernel_rfl
theorem if_go (o len c : Nat) (f : FuncId) (k : Int) (h : Hp) (q : Nat) (a b d k1 : Int) (h' : Hp) : pvCode Try.prog (pvCall Try.prog 0) 19 false ((loopN Try.f65 0)) [(8, .int .i64 k), (7, .int .i64 (Int.ofNat len)), (1, .func (.func f) #[] #[.pointer (some ⟨c, 0, none⟩)]), (0, .slice (some ⟨o, 0, none⟩) len 3)] (.is h) [.bit true, .offs q, .cells [.int .i64 a, .int .i64 b, .int .i64 d], .ret (.bool false) (.is h'), .num k1] =
    some (Ex.normal, [(8, Value.int IntKind.i64 k1), (18, Value.int IntKind.i64 k1), (16, Value.bool false), (15, Value.agg { toList := [Value.int IntKind.i64 a, Value.int IntKind.i64 b, Value.int IntKind.i64 d] }), (14, Value.pointer (some { block := o, off := q })), (13, Value.int IntKind.i64 k), (12, Value.slice (some { block := o, off := 0 }) len 3), (11, Value.func (Fn.func f) { toList := [] } { toList := [Value.pointer (some { block := c, off := 0 })] }), (5, Value.int IntKind.i64 k), (10, Value.int IntKind.i64 k), (9, Value.bool true), (8, Value.int IntKind.i64 k), (7, Value.int IntKind.i64 (Int.ofNat len)), (1, Value.func (Fn.func f) { toList := [] } { toList := [Value.pointer (some { block := c, off := 0 })] }), (0, Value.slice (some { block := o, off := 0 }) len 3)], SH.is h', [], [Asm.cmp BinOp.lss k (Int.ofNat len) true, Asm.off q 0 k len 3, Asm.ldn (SH.is h) o q 3 [Value.int IntKind.i64 a, Value.int IntKind.i64 b, Value.int IntKind.i64 d], Asm.call f [Value.agg { toList := [Value.int IntKind.i64 a, Value.int IntKind.i64 b, Value.int IntKind.i64 d] }, Value.pointer (some { block := c, off := 0 })] (SH.is h) (Value.bool false) (SH.is h'), Asm.arith BinOp.add IntKind.i64 k 1 k1]) := by kernel_rfl
theorem if_none (o len c : Nat) (f : FuncId) (h h' : Hp) : pvFn Try.prog (pvCall Try.prog 0) Try.f65 [.slice (some ⟨o, 0, none⟩) len 3, .func (.func f) #[] #[.pointer (some ⟨c, 0, none⟩)]] (.is h) [.loop (.exit 0) [] (.is h')] =
    some (Value.int IntKind.i64 (Int.negSucc 0), SH.is h', [], [Asm.loop 19 false (loopN Try.f65 0) [(8, Value.int IntKind.i64 0), (7, Value.int IntKind.i64 (Int.ofNat len)), (6, Value.slice (some { block := o, off := 0 }) len 3), (4, Value.int IntKind.i64 0), (0, Value.slice (some { block := o, off := 0 }) len 3), (1, Value.func (Fn.func f) { toList := [] } { toList := [Value.pointer (some { block := c, off := 0 })] })] (SH.is h) (Ex.exit 0) [] (SH.is h')]) := by kernel_rfl
theorem if_some (o len c : Nat) (f : FuncId) (k : Int) (h h' : Hp) : pvFn Try.prog (pvCall Try.prog 0) Try.f65 [.slice (some ⟨o, 0, none⟩) len 3, .func (.func f) #[] #[.pointer (some ⟨c, 0, none⟩)]] (.is h) [.loop .ret [(4, .int .i64 k)] (.is h')] =
    some (Value.int IntKind.i64 k, SH.is h', [], [Asm.loop 19 false (loopN Try.f65 0) [(8, Value.int IntKind.i64 0), (7, Value.int IntKind.i64 (Int.ofNat len)), (6, Value.slice (some { block := o, off := 0 }) len 3), (4, Value.int IntKind.i64 0), (0, Value.slice (some { block := o, off := 0 }) len 3), (1, Value.func (Fn.func f) { toList := [] } { toList := [Value.pointer (some { block := c, off := 0 })] })] (SH.is h) Ex.ret [(4, Value.int IntKind.i64 k)] (SH.is h')]) := by kernel_rfl
theorem cf (o len c : Nat) (f : FuncId) (r : Int) (h h' : Hp) (z : Bool) : pvFn Try.prog (pvCall Try.prog 0) Try.f50 [.slice (some ⟨o, 0, none⟩) len 3, .func (.func f) #[] #[.pointer (some ⟨c, 0, none⟩)]] (.is h) [.ret (.int .i64 r) (.is h'), .bit z] =
    some (Value.bool z, SH.is h', [], [Asm.call 65 [Value.slice (some { block := o, off := 0 }) len 3, Value.func (Fn.func f) { toList := [] } { toList := [Value.pointer (some { block := c, off := 0 })] }] (SH.is h) (Value.int IntKind.i64 r) (SH.is h'), Asm.cmp BinOp.geq r 0 z]) := by kernel_rfl
theorem any (i j o m n b : Nat) (h h' : Hp) (z : Bool) : pvFn Try.prog (pvCall Try.prog 0) Try.f34 [.pointer (some ⟨i, 0, none⟩), .slice (some ⟨o, 0, none⟩) m 1] (.is h) [.idx b, .val (.slice (some ⟨j, 0, none⟩) n 3), .ret (.bool z) (.is h')] =
    some (Value.bool z, SH.is h', [], [Asm.len (SH.is h) b, Asm.ld1 (SH.push (SH.is h) (AObj.cells [Value.slice (some { block := o, off := 0 }) m 1] true)) i 6 (Value.slice (some { block := j, off := 0 }) n 3), Asm.call 50 [Value.slice (some { block := j, off := 0 }) n 3, Value.func (Fn.func 51) { toList := [] } { toList := [Value.pointer (some { block := b, off := 0 })] }] (SH.push (SH.is h) (AObj.cells [Value.slice (some { block := o, off := 0 }) m 1] true)) (Value.bool z) (SH.is h')]) := by kernel_rfl
theorem over (i o : Nat) (h h' : Hp) (z g : Bool) : pvFn Try.prog (pvCall Try.prog 0) Try.f16 [.pointer (some ⟨i, 0, none⟩)] (.is h) [.idx o, .ret (.bool z) (.is h'), .val (.bool g)] =
    some (Value.tuple { toList := [Value.bool !z, Value.bool g] }, SH.is h', [], [Asm.stat (drawN Try.f16 0), Asm.again (SH.is h') 4 (Value.pointer (some { block := i, off := 10 })) (Value.bool g), Asm.again (SH.push (SH.is h) (AObj.cells [Value.int IntKind.i64 1, Value.int IntKind.i64 2, Value.int IntKind.i64 3, Value.int IntKind.i64 4] true)) 4 (Value.pointer (some { block := i, off := 10 })) (Value.bool g), Asm.again (SH.is h') 4 (Value.pointer (some { block := i, off := 10 })) (Value.bool g), Asm.len (SH.is h) o, Asm.call 34 [Value.pointer (some { block := i, off := 0 }), Value.slice (some { block := o, off := 0 }) 4 1] (SH.push (SH.is h) (AObj.cells [Value.int IntKind.i64 1, Value.int IntKind.i64 2, Value.int IntKind.i64 3, Value.int IntKind.i64 4] true)) (Value.bool z) (SH.is h'), Asm.ld1 (SH.is h') i 10 (Value.bool g)]) := by kernel_rfl
end Go.Proofs.Ytkkhokgpcifckaa.w2p

-- printed by wip/tools/pvgen.py; each is checked by the kernel
namespace Go.Proofs.Ytkkhokgpcifckaa.w1p
open Go Go.Ev
set_option maxRecDepth 100000
set_option linter.unusedVariables false

theorem late1 (i : Nat) (now now0 : Int) (h : Hp) : pvFn Try.prog (pvCall Try.prog 0) Try.f30 [.pointer (some ⟨i, 0, none⟩), .int .i64 now] (.is h) [.val (.int .i64 now0), .bit true] =
    some (Value.bool true, SH.is h, [], [Asm.ld1 (SH.is h) i 7 (Value.int IntKind.i64 now0), Asm.cmp BinOp.lss now now0 true]) := by kernel_rfl
theorem late2 (i : Nat) (now now0 : Int) (h : Hp) (z : Bool) : pvFn Try.prog (pvCall Try.prog 0) Try.f30 [.pointer (some ⟨i, 0, none⟩), .int .i64 now] (.is h) [.val (.int .i64 now0), .bit false, .bit z] =
    some (Value.bool z, SH.is h, [], [Asm.ld1 (SH.is h) i 7 (Value.int IntKind.i64 now0), Asm.cmp BinOp.lss now now0 false, Asm.cmp BinOp.gtr now 1000000000000 z]) := by kernel_rfl
theorem state1 (i : Nat) (n : Int) (h : Hp) : pvFn Try.prog (pvCall Try.prog 0) Try.f18 [.pointer (some ⟨i, 0, none⟩), .int .i64 n] (.is h) [.bit true] =
    some (Value.tuple { toList := [Value.int IntKind.i64 0, Value.int IntKind.i64 0] }, SH.is h, [], [Asm.cmp BinOp.lss n 1 true]) := by kernel_rfl
theorem state2 (i : Nat) (n : Int) (h : Hp) (j len : Nat) : pvFn Try.prog (pvCall Try.prog 0) Try.f18 [.pointer (some ⟨i, 0, none⟩), .int .i64 n] (.is h) [.bit false, .val (.slice (some ⟨j, 0, none⟩) len 3), .bit true] =
    some (Value.tuple { toList := [Value.int IntKind.i64 0, Value.int IntKind.i64 0] }, SH.is h, [], [Asm.cmp BinOp.lss n 1 false, Asm.ld1 (SH.is h) i 6 (Value.slice (some { block := j, off := 0 }) len 3), Asm.cmp BinOp.gtr n (Int.ofNat len) true]) := by kernel_rfl
theorem state3 (i : Nat) (n n1 : Int) (h : Hp) (j len q : Nat) (s t : Int) : pvFn Try.prog (pvCall Try.prog 0) Try.f18 [.pointer (some ⟨i, 0, none⟩), .int .i64 n] (.is h) [.bit false, .val (.slice (some ⟨j, 0, none⟩) len 3), .bit false, .val (.slice (some ⟨j, 0, none⟩) len 3), .num n1, .offs q, .val (.int .i64 s), .val (.slice (some ⟨j, 0, none⟩) len 3), .num n1, .offs q, .val (.int .i64 t)] =
    some (Value.tuple { toList := [Value.int IntKind.i64 s, Value.int IntKind.i64 t] }, SH.is h, [], [Asm.cmp BinOp.lss n 1 false, Asm.ld1 (SH.is h) i 6 (Value.slice (some { block := j, off := 0 }) len 3), Asm.cmp BinOp.gtr n (Int.ofNat len) false, Asm.stat (drawN Try.f18 0), Asm.ld1 (SH.is h) i 6 (Value.slice (some { block := j, off := 0 }) len 3), Asm.arith BinOp.sub IntKind.i64 n 1 n1, Asm.off q 0 n1 len 3, Asm.ld1 (SH.is h) j (Nat.succ q) (Value.int IntKind.i64 s), Asm.ld1 (SH.is h) i 6 (Value.slice (some { block := j, off := 0 }) len 3), Asm.arith BinOp.sub IntKind.i64 n 1 n1, Asm.off q 0 n1 len 3, Asm.ld1 (SH.is h) j (Nat.succ (Nat.succ q)) (Value.int IntKind.i64 t)]) := by kernel_rfl
theorem restarts0 (i : Nat) (h : Hp) : pvFn Try.prog (pvCall Try.prog 0) Try.f13 [.pointer (some ⟨i, 0, none⟩)] (.is h) [.val (.slice none 0 0)] =
    some (Value.int IntKind.i64 0, SH.is h, [], [Asm.ld1 (SH.is h) i 8 (Value.slice none 0 0)]) := by kernel_rfl
theorem restarts1 (i t len : Nat) (h : Hp) : pvFn Try.prog (pvCall Try.prog 0) Try.f13 [.pointer (some ⟨i, 0, none⟩)] (.is h) [.val (.slice (some ⟨t, 0, none⟩) len 1)] =
    some (Value.int IntKind.i64 (Int.ofNat len), SH.is h, [], [Asm.ld1 (SH.is h) i 8 (Value.slice (some { block := t, off := 0 }) len 1)]) := by kernel_rfl
end Go.Proofs.Ytkkhokgpcifckaa.w1p

namespace Go.Proofs.Ytkkhokgpcifckaa.wd
open Go Go.Ev

/-! ### A warden's state -/

structure Sv where
  when : Int
  state : Int
  at' : Int

def Sv.cells (x : Sv) : List Value := [.int .i64 x.when, .int .i64 x.state, .int .i64 x.at']
def svC : List Sv → List Value
  | [] => []
  | x :: l => .int .i64 x.when :: .int .i64 x.state :: .int .i64 x.at' :: svC l

theorem svC_len : ∀ l : List Sv, (svC l).length = l.length * 3
  | [] => rfl
  | x :: l => by simp [svC, svC_len l]; omega

theorem svC_get : ∀ {l : List Sv} {k : Nat} {x : Sv}, l[k]? = some x → (svC l)[k * 3]? = some (.int .i64 x.when) ∧ (svC l)[k * 3 + 1]? = some (.int .i64 x.state) ∧ (svC l)[k * 3 + 2]? = some (.int .i64 x.at')
  | [], k, x, h => by simp at h
  | y :: l, 0, x, h => by simp at h; subst h; simp [svC]
  | y :: l, k + 1, x, h => by
    have := svC_get (l := l) (k := k) (x := x) (by simpa using h)
    rw [show (k + 1) * 3 = k * 3 + 3 by omega]
    simpa [svC] using this

theorem svC_cut : ∀ {l : List Sv} {k : Nat} {x : Sv}, l[k]? = some x → ((svC l).drop (k * 3)).take 3 = x.cells
  | [], k, x, h => by simp at h
  | y :: l, 0, x, h => by simp at h; subst h; simp [svC, Sv.cells]
  | y :: l, k + 1, x, h => by
    have := svC_cut (l := l) (k := k) (x := x) (by simpa using h)
    rw [show (k + 1) * 3 = k * 3 + 3 by omega]
    simpa [svC] using this

/-- One service written anew. -/
theorem svC_put : ∀ {l : List Sv} {k : Nat} {x : Sv} (y : Sv), l[k]? = some x → (svC l).take (k * 3) ++ y.cells ++ (svC l).drop (k * 3 + y.cells.length) = svC (l.set k y)
  | [], k, x, y, h => by simp at h
  | z :: l, 0, x, y, h => by simp [svC, Sv.cells]
  | z :: l, k + 1, x, y, h => by
    have := svC_put (l := l) (k := k) (x := x) y (by simpa using h)
    rw [show (k + 1) * 3 = k * 3 + 3 by omega]
    simp only [svC, List.set_cons_succ, ← this]
    rw [show k * 3 + 3 + y.cells.length = (k * 3 + y.cells.length) + 3 by omega]
    simp
/-- Its state alone. -/
theorem svC_state : ∀ {l : List Sv} {k : Nat} {x : Sv} (s : Int), l[k]? = some x → (svC l).take (k * 3 + 1) ++ [Value.int .i64 s] ++ (svC l).drop (k * 3 + 1 + 1) = svC (l.set k { x with state := s })
  | [], k, x, s, h => by simp at h
  | z :: l, 0, x, s, h => by simp at h; subst h; simp [svC]
  | z :: l, k + 1, x, s, h => by
    have := svC_state (l := l) (k := k) (x := x) s (by simpa using h)
    rw [show (k + 1) * 3 = k * 3 + 3 by omega]
    simp only [svC, List.set_cons_succ, ← this]
    rw [show k * 3 + 3 + 1 = (k * 3 + 1) + 3 by omega, show k * 3 + 1 + 3 + 1 = (k * 3 + 1 + 1) + 3 by omega]
    simp

structure WS where
  rule : Int
  most : Int
  within : Int
  base : Int
  cap : Int
  svs : List Sv
  now : Int
  times : List Int
  delay : Int
  given : Bool

def tvVal : Option Nat → Nat → Value
  | none, _ => .slice none 0 0
  | some t, n => .slice (some ⟨t, 0, none⟩) n 1

def wCells (w : WS) (j : Nat) (t : Option Nat) : List Value :=
  [.int .i64 w.rule, .int .i64 w.most, .int .i64 w.within, .int .i64 w.base, .int .i64 w.cap, .slice none 0 0, .slice (some ⟨j, 0, none⟩) w.svs.length 3, .int .i64 w.now, tvVal t w.times.length, .int .i64 w.delay, .bool w.given]

/-- A warden in the heap: its own object, its services, its times. -/
structure WAt (h : Hp) (i j : Nat) (t : Option Nat) (w : WS) : Prop where
  obj : h[i]? = some (.cells (wCells w j t) true)
  svs : h[j]? = some (.cells (svC w.svs) true)
  tms : (t = none ∧ w.times = []) ∨ ∃ q, t = some q ∧ h[q]? = some (.cells (w.times.map (.int .i64)) true) ∧ q ≠ i ∧ q ≠ j
  ne : i ≠ j

/-- What a warden takes. -/
def fpW (i j : Nat) (t : Option Nat) (q : Nat) : Prop := q = i ∨ q = j ∨ t = some q

theorem WAt.keep {h h' : Hp} {i j : Nat} {t : Option Nat} {w : WS} {fp : Nat → Prop} (a : WAt h i j t w) (k : Keep fp h h') (hf : ∀ q, q < h.length → fp q → ¬ fpW i j t q) : WAt h' i j t w := by
  refine ⟨k.2 _ _ a.obj fun hq => hf _ (get_lt a.obj) hq (.inl rfl), k.2 _ _ a.svs fun hq => hf _ (get_lt a.svs) hq (.inr (.inl rfl)), ?_, a.ne⟩
  rcases a.tms with h1 | ⟨q, h1, h2, h3⟩
  · exact .inl h1
  · exact .inr ⟨q, h1, k.2 _ _ h2 fun hq => hf _ (get_lt h2) hq (.inr (.inr h1)), h3⟩

/-- New services of the same number. -/
theorem WAt.put {h h' : Hp} {i j : Nat} {t : Option Nat} {w : WS} {fp : Nat → Prop} {l : List Sv} (a : WAt h i j t w) (k : Keep fp h h') (hf : ∀ q, q < h.length → fp q → q = j ∨ ¬ fpW i j t q)
    (hj : h'[j]? = some (.cells (svC l) true)) (hl : l.length = w.svs.length) : WAt h' i j t { w with svs := l } := by
  have ho : h'[i]? = some (.cells (wCells w j t) true) := k.2 _ _ a.obj fun hq => (hf _ (get_lt a.obj) hq).elim (fun e => a.ne e) fun e => e (.inl rfl)
  refine ⟨?_, hj, ?_, a.ne⟩
  · rw [ho]; simp only [wCells, hl]
  · rcases a.tms with h1 | ⟨q, h1, h2, h3, h4⟩
    · exact .inl h1
    · exact .inr ⟨q, h1, k.2 _ _ h2 fun hq => (hf _ (get_lt h2) hq).elim (fun e => h4 e) fun e => e (.inr (.inr h1)), h3, h4⟩

/-- The numbers of a warden are in their bounds. -/
structure WOk (w : WS) : Prop where
  n1 : 1 ≤ w.svs.length
  n8 : w.svs.length ≤ 8
  most : 0 ≤ w.most ∧ w.most ≤ 1000000
  within : 1 ≤ w.within ∧ w.within ≤ 1000000000000
  base : 0 ≤ w.base ∧ w.base ≤ w.cap
  cap : w.cap ≤ 1000000000000
  now : 0 ≤ w.now ∧ w.now ≤ 1000000000000
  delay : 0 ≤ w.delay ∧ w.delay ≤ 1000000000000
  times : w.times.length ≤ 10000
  rule : 1 ≤ w.rule ∧ w.rule ≤ 3

theorem wrap_id {x : Int} (h : -9223372036854775808 ≤ x) (k : x ≤ 9223372036854775807) : IntKind.i64.wrap x = x := by
  simp [IntKind.wrap, IntKind.signed, IntKind.bits]
  omega

/-! ### Reading it -/

variable {h : Hp} {i j : Nat} {t : Option Nat} {w : WS}

theorem late_run (a : WAt h i j t w) (now : Int) : Run Try.prog 30 [.pointer (some ⟨i, 0, none⟩), .int .i64 now] h (.bool (decide (now < w.now) || decide (now > 1000000000000))) h := by
  by_cases c : now < w.now
  · rw [decide_eq_true c]
    exact pvF 0 Try.func30 (w1p.late1 i now w.now h) ⟨a_ld1 a.obj rfl, by simpa [Asm.holds, cmpB] using c, trivial⟩
  · rw [decide_eq_false c, Bool.false_or]
    exact pvF 0 Try.func30 (w1p.late2 i now w.now h _) ⟨a_ld1 a.obj rfl, by simpa [Asm.holds, cmpB] using c, by simp [Asm.holds, cmpB], trivial⟩

def stateOf (w : WS) (n : Int) : Int × Int := if n < 1 ∨ n > w.svs.length then (0, 0) else match w.svs[(n - 1).toNat]? with
  | some x => (x.state, x.at')
  | none => (0, 0)

theorem stat18 : statOk (drawN Try.f18 0) = true := by kernel_rfl

theorem state_run (a : WAt h i j t w) (hw : WOk w) (n : Int) : Run Try.prog 18 [.pointer (some ⟨i, 0, none⟩), .int .i64 n] h (.tuple #[.int .i64 (stateOf w n).1, .int .i64 (stateOf w n).2]) h := by
  by_cases c : n < 1
  · have : stateOf w n = (0, 0) := by simp [stateOf, c]
    rw [this]
    exact pvF 0 Try.func18 (w1p.state1 i n h) ⟨by simpa [Asm.holds, cmpB] using c, trivial⟩
  · by_cases d : n > w.svs.length
    · have : stateOf w n = (0, 0) := by simp [stateOf, d]
      rw [this]
      exact pvF 0 Try.func18 (w1p.state2 i n h j w.svs.length) ⟨by simpa [Asm.holds, cmpB] using c, a_ld1 a.obj rfl, by simpa [Asm.holds, cmpB] using d, trivial⟩
    · have hk : (n - 1).toNat < w.svs.length := by omega
      have hx := List.getElem?_eq_getElem hk
      have : stateOf w n = ((w.svs[(n - 1).toNat]).state, (w.svs[(n - 1).toNat]).at') := by
        simp only [stateOf, c, d, or_self, if_false, hx]
      rw [this]
      obtain ⟨_, g2, g3⟩ := svC_get hx
      have n8 := hw.n8
      have ar : IntKind.i64.wrap (n - 1) = n - 1 := wrap_id (by omega) (by omega)
      exact pvF 0 Try.func18 (w1p.state3 i n (n - 1) h j w.svs.length ((n - 1).toNat * 3) _ _) ⟨by simpa [Asm.holds, cmpB] using c, a_ld1 a.obj rfl, by simpa [Asm.holds, cmpB] using d, stat18, a_ld1 a.obj rfl,
        by simp [Asm.holds, arithI, ar], ⟨by omega, by omega, by omega⟩, a_ld1 a.svs g2, a_ld1 a.obj rfl, by simp [Asm.holds, arithI, ar], ⟨by omega, by omega, by omega⟩, a_ld1 a.svs g3, trivial⟩

theorem restarts_run (a : WAt h i j t w) : Run Try.prog 13 [.pointer (some ⟨i, 0, none⟩)] h (.int .i64 w.times.length) h := by
  rcases a.tms with ⟨rfl, e⟩ | ⟨q, rfl, _⟩
  · rw [e]
    exact pvF 0 Try.func13 (w1p.restarts0 i h) ⟨a_ld1 a.obj rfl, trivial⟩
  · exact pvF 0 Try.func13 (w1p.restarts1 i q w.times.length h) ⟨a_ld1 a.obj rfl, trivial⟩

end Go.Proofs.Ytkkhokgpcifckaa.wd

namespace Go.Proofs.Ytkkhokgpcifckaa.wd
open Go Go.Ev

variable {h : Hp} {i j : Nat} {t : Option Nat} {w : WS}

/-- The numbers of a slice. -/
def iC (l : List Int) : List Value := l.map (.int .i64)
theorem iC_get {l : List Int} {k : Nat} {x : Int} (h : l[k]? = some x) : (iC l)[k]? = some (.int .i64 x) := by simp [iC, h]
theorem iC_len (l : List Int) : (iC l).length = l.length := by simp [iC]

theorem add1 {k : Nat} (h : k < 1000000000000) : IntKind.i64.wrap ((k : Int) + 1) = ((k + 1 : Nat) : Int) := by
  rw [wrap_id (by omega) (by omega)]; omega

/-- 'slices.Index' of ints. -/
theorem index_run {o : Nat} {l : List Int} {rw : Bool} (ho : h[o]? = some (.cells (iC l) rw)) (hl : l.length ≤ 1000000000) (x : Int) :
    ∃ r : Int, Run Try.prog 66 [.slice (some ⟨o, 0, none⟩) l.length 1, .int .i64 x] h (.int .i64 r) h ∧ decide (r ≥ 0) = l.contains x := by
  by_cases hx : x ∈ l
  · -- found
    obtain ⟨k0, hk0, hlt, hmin⟩ : ∃ k0, l[k0]? = some x ∧ k0 < l.length ∧ ∀ m y, m < k0 → l[m]? = some y → x ≠ y := by
      refine ⟨l.idxOf x, ?_, List.idxOf_lt_length_of_mem hx, fun m y hm hy e => ?_⟩
      · rw [List.getElem?_eq_getElem (List.idxOf_lt_length_of_mem hx)]; simp
      · subst e
        have h1 := List.not_of_lt_findIdx (p := (· == x)) (xs := l) (i := m) hm
        rw [List.getElem?_eq_getElem (by have := List.idxOf_lt_length_of_mem hx; omega)] at hy
        simp only [Option.some.injEq] at hy
        simp [hy] at h1
    refine ⟨k0, pvF 0 Try.func66 (w2p.ix_some o l.length x k0 h) ⟨fun E0 hE => ?_, trivial⟩, by simp [hx]⟩
    obtain ⟨x', E1, h1, hl1, rfl, hE1, rfl⟩ := loop_inv (P := Try.prog) (n := 19) (rd := false) (b := loopN Try.f66 0) (Q := fun x' E1 h1 => x' = .ret ∧ EnvLe [(4, .int .i64 k0)] E1 ∧ h = h1)
      (fun m E g => ∃ k : Nat, k ≤ k0 ∧ m = k0 - k ∧ EnvLe [(8, .int .i64 k), (7, .int .i64 (Int.ofNat l.length)), (1, .int .i64 x), (0, .slice (some ⟨o, 0, none⟩) l.length 1)] E ∧ h = g)
      (fun m E g ⟨k, k1, k2, k3, k4⟩ => by
        subst k4
        by_cases e : k = k0
        · subst e
          right
          obtain ⟨E2, q1, q2⟩ := pvC 0 k3 (w2p.ix_hit o l.length x k h k x) ⟨by simp [Asm.holds, cmpB]; omega, ⟨by omega, by omega, by simp⟩, a_ld1 ho (iC_get hk0), by simp [Asm.holds, cmpB], trivial⟩
          exact ⟨_, E2, _, by simp, q2, rfl, .trans (.add (.nil _) rfl) q1, rfl⟩
        · left
          obtain ⟨y, hy⟩ : ∃ y, l[k]? = some y := ⟨_, List.getElem?_eq_getElem (by omega)⟩
          have ne := hmin k y (by omega) hy
          obtain ⟨E2, q1, q2⟩ := pvC 0 k3 (w2p.ix_go o l.length x k h k y ((k + 1 : Nat) : Int)) ⟨by simp [Asm.holds, cmpB]; omega, ⟨by omega, by omega, by simp⟩, a_ld1 ho (iC_get hy), by simpa [Asm.holds, cmpB] using ne,
            by simp only [Asm.holds, arithI, add1 (show k < 1000000000000 by omega)], trivial⟩
          exact ⟨k0 - (k + 1), E2, _, by omega, q2, k + 1, by omega, rfl, .trans (.add (.add (.add (.add (.nil _) rfl) rfl) rfl) rfl) q1, rfl⟩)
      k0 E0 h ⟨0, by omega, rfl, .trans (.add (.add (.add (.add (.nil _) rfl) rfl) rfl) rfl) hE, rfl⟩
    exact ⟨E1, hE1, hl1⟩
  · refine ⟨Int.negSucc 0, pvF 0 Try.func66 (w2p.ix_none o l.length x h) ⟨fun E0 hE => ?_, trivial⟩, by simp [hx]⟩
    obtain ⟨x', E1, h1, hl1, rfl, rfl⟩ := loop_inv (P := Try.prog) (n := 19) (rd := false) (b := loopN Try.f66 0) (Q := fun x' E1 h1 => x' = .exit 0 ∧ h = h1)
      (fun m E g => ∃ k : Nat, k ≤ l.length ∧ m = l.length - k ∧ EnvLe [(8, .int .i64 k), (7, .int .i64 (Int.ofNat l.length)), (1, .int .i64 x), (0, .slice (some ⟨o, 0, none⟩) l.length 1)] E ∧ h = g)
      (fun m E g ⟨k, k1, k2, k3, k4⟩ => by
        subst k4
        by_cases e : k = l.length
        · subst e
          right
          obtain ⟨E2, q1, q2⟩ := pvC 0 k3 (w2p.ix_end o l.length x l.length h) ⟨by simp [Asm.holds, cmpB], trivial⟩
          exact ⟨_, E2, _, by simp, q2, rfl, rfl⟩
        · left
          obtain ⟨y, hy⟩ : ∃ y, l[k]? = some y := ⟨_, List.getElem?_eq_getElem (by omega)⟩
          have ne : x ≠ y := fun e => hx (by subst e; exact List.mem_of_getElem? hy)
          obtain ⟨E2, q1, q2⟩ := pvC 0 k3 (w2p.ix_go o l.length x k h k y ((k + 1 : Nat) : Int)) ⟨by simp [Asm.holds, cmpB]; omega, ⟨by omega, by omega, by simp⟩, a_ld1 ho (iC_get hy), by simpa [Asm.holds, cmpB] using ne,
            by simp only [Asm.holds, arithI, add1 (show k < 1000000000000 by omega)], trivial⟩
          exact ⟨l.length - (k + 1), E2, _, by omega, q2, k + 1, by omega, rfl, .trans (.add (.add (.add (.add (.nil _) rfl) rfl) rfl) rfl) q1, rfl⟩)
      l.length E0 h ⟨0, by omega, rfl, .trans (.add (.add (.add (.add (.nil _) rfl) rfl) rfl) rfl) hE, rfl⟩
    exact ⟨E1, .nil _, hl1⟩

/-- 'slices.Contains' of ints. -/
theorem contains_run {o : Nat} {l : List Int} {rw : Bool} (ho : h[o]? = some (.cells (iC l) rw)) (hl : l.length ≤ 1000000000) (x : Int) :
    Run Try.prog 52 [.slice (some ⟨o, 0, none⟩) l.length 1, .int .i64 x] h (.bool (l.contains x)) h := by
  obtain ⟨r, h1, h2⟩ := index_run ho hl x
  exact pvF 0 Try.func52 (w2p.has o l.length x r h _) ⟨h1, by simp only [Asm.holds, cmpB, h2], trivial⟩

/-- What 'any' asks of one service. -/
theorem any1_run {c o : Nat} {l : List Int} {rw rw' : Bool} (hc : h[c]? = some (.cells [.slice (some ⟨o, 0, none⟩) l.length 1] rw')) (ho : h[o]? = some (.cells (iC l) rw)) (hl : l.length ≤ 1000000000) (x : Sv) :
    Run Try.prog 51 [.agg x.cells.toArray, .pointer (some ⟨c, 0, none⟩)] h (.bool (l.contains x.state)) (h ++ [.cells x.cells true]) :=
  pvF 0 Try.func51 (w2p.any1 c o l.length h.length x.when x.state x.at' h _) ⟨rfl, a_ld1 (get_push hc) rfl, a_ld1 (get_new h _) rfl, contains_run (get_push ho) hl _, trivial⟩

/-- The boxes that a walk over services leaves. -/
def boxes (l : List Sv) : Hp := l.map fun x => .cells x.cells true

theorem get_app {h os : Hp} {q : Nat} {o : AObj} (hq : h[q]? = some o) : (h ++ os)[q]? = some o := by rw [List.getElem?_append_left (get_lt hq)]; exact hq

theorem boxes_take {l : List Sv} {k : Nat} {x : Sv} (hx : l[k]? = some x) (h : Hp) : h ++ boxes (l.take k) ++ [.cells x.cells true] = h ++ boxes (l.take (k + 1)) := by
  have : l.take (k + 1) = l.take k ++ [x] := by rw [List.take_add_one, hx]; rfl
  rw [this, boxes, boxes, List.map_append, List.append_assoc]; rfl

/-- 'slices.IndexFunc' over services, of a test that only leaves a box. -/
theorem indexFunc_run {s c : Nat} {sv : List Sv} {rw : Bool} (hs : h[s]? = some (.cells (svC sv) rw)) (hn : sv.length ≤ 1000000) (f : FuncId) (p : Sv → Bool)
    (hf : ∀ os x, Run Try.prog f [.agg x.cells.toArray, .pointer (some ⟨c, 0, none⟩)] (h ++ os) (.bool (p x)) (h ++ os ++ [.cells x.cells true])) :
    ∃ (r : Int) (os : Hp), Run Try.prog 65 [.slice (some ⟨s, 0, none⟩) sv.length 3, .func (.func f) #[] #[.pointer (some ⟨c, 0, none⟩)]] h (.int .i64 r) (h ++ os) ∧ decide (r ≥ 0) = sv.any p := by
  have body : ∀ (k : Nat) (x : Sv) (E : Env), sv[k]? = some x → EnvLe [(8, .int .i64 k), (7, .int .i64 (Int.ofNat sv.length)), (1, .func (.func f) #[] #[.pointer (some ⟨c, 0, none⟩)]), (0, .slice (some ⟨s, 0, none⟩) sv.length 3)] E →
      (p x = true → ∃ E1, EnvLe [(4, .int .i64 k)] E1 ∧ CRun Try.prog 19 false (loopN Try.f65 0) E (h ++ boxes (sv.take k)) .ret E1 (h ++ boxes (sv.take (k + 1)))) ∧
      (p x = false → ∃ E1, EnvLe [(8, .int .i64 ((k + 1 : Nat) : Int)), (7, .int .i64 (Int.ofNat sv.length)), (1, .func (.func f) #[] #[.pointer (some ⟨c, 0, none⟩)]), (0, .slice (some ⟨s, 0, none⟩) sv.length 3)] E1 ∧
        CRun Try.prog 19 false (loopN Try.f65 0) E (h ++ boxes (sv.take k)) .normal E1 (h ++ boxes (sv.take (k + 1)))) := by
    intro k x E hx hE
    have hk := get_lt' hx
    have hcall := hf (boxes (sv.take k)) x
    rw [boxes_take hx] at hcall
    have hld : (svC sv).length = sv.length * 3 := svC_len _
    refine ⟨fun hp => ?_, fun hp => ?_⟩ <;> rw [hp] at hcall
    · obtain ⟨E2, q1, q2⟩ := pvC 0 hE (w2p.if_hit s sv.length c f k (h ++ boxes (sv.take k)) (k * 3) x.when x.state x.at' (h ++ boxes (sv.take (k + 1)))) ⟨by simp [Asm.holds, cmpB]; omega, ⟨by omega, by omega, by simp⟩,
        a_ldn (get_app hs) (by omega) (svC_cut hx), hcall, trivial⟩
      exact ⟨E2, .trans (.add (.nil _) rfl) q1, q2⟩
    · obtain ⟨E2, q1, q2⟩ := pvC 0 hE (w2p.if_go s sv.length c f k (h ++ boxes (sv.take k)) (k * 3) x.when x.state x.at' ((k + 1 : Nat) : Int) (h ++ boxes (sv.take (k + 1)))) ⟨by simp [Asm.holds, cmpB]; omega, ⟨by omega, by omega, by simp⟩,
        a_ldn (get_app hs) (by omega) (svC_cut hx), hcall, by simp only [Asm.holds, arithI, add1 (show k < 1000000000000 by omega)], trivial⟩
      exact ⟨E2, .trans (.add (.add (.add (.add (.nil _) rfl) rfl) rfl) rfl) q1, q2⟩
  by_cases hx : sv.any p = true
  · obtain ⟨k0, x0, hk0, hp0, hmin⟩ : ∃ k0 x0, sv[k0]? = some x0 ∧ p x0 = true ∧ ∀ m y, m < k0 → sv[m]? = some y → p y = false := by
      have hlt : sv.findIdx p < sv.length := List.findIdx_lt_length.2 (List.any_eq_true.1 hx)
      refine ⟨sv.findIdx p, _, List.getElem?_eq_getElem hlt, List.findIdx_getElem (w := hlt), fun m y hm hy => ?_⟩
      have h1 := List.not_of_lt_findIdx hm
      rw [List.getElem?_eq_getElem (by omega)] at hy
      simp only [Option.some.injEq] at hy
      rw [hy] at h1
      simpa using h1
    have hk := get_lt' hk0
    refine ⟨k0, boxes (sv.take (k0 + 1)), pvF 0 Try.func65 (w2p.if_some s sv.length c f k0 h (h ++ boxes (sv.take (k0 + 1)))) ⟨fun E0 hE => ?_, trivial⟩, by simp [hx]⟩
    obtain ⟨x', E1, h1, hl1, rfl, hE1, rfl⟩ := loop_inv (P := Try.prog) (n := 19) (rd := false) (b := loopN Try.f65 0) (Q := fun x' E1 h1 => x' = .ret ∧ EnvLe [(4, .int .i64 k0)] E1 ∧ h ++ boxes (sv.take (k0 + 1)) = h1)
      (fun m E g => ∃ k : Nat, k ≤ k0 ∧ m = k0 - k ∧ EnvLe [(8, .int .i64 k), (7, .int .i64 (Int.ofNat sv.length)), (1, .func (.func f) #[] #[.pointer (some ⟨c, 0, none⟩)]), (0, .slice (some ⟨s, 0, none⟩) sv.length 3)] E ∧ h ++ boxes (sv.take k) = g)
      (fun m E g ⟨k, k1, k2, k3, k4⟩ => by
        subst k4
        by_cases e : k = k0
        · subst e
          right
          obtain ⟨E2, q1, q2⟩ := (body k x0 E hk0 k3).1 hp0
          exact ⟨_, E2, _, by simp, q2, rfl, q1, rfl⟩
        · left
          obtain ⟨y, hy⟩ : ∃ y, sv[k]? = some y := ⟨_, List.getElem?_eq_getElem (by omega)⟩
          obtain ⟨E2, q1, q2⟩ := (body k y E hy k3).2 (hmin k y (by omega) hy)
          exact ⟨k0 - (k + 1), E2, _, by omega, q2, k + 1, by omega, rfl, q1, rfl⟩)
      k0 E0 h ⟨0, by omega, rfl, .trans (.add (.add (.add (.add (.nil _) rfl) rfl) rfl) rfl) hE, by simp [boxes]⟩
    exact ⟨E1, hE1, hl1⟩
  · have hn' : ∀ m y, sv[m]? = some y → p y = false := fun m y hy => by
      cases hp : p y with
      | false => rfl
      | true => exact absurd (List.any_eq_true.2 ⟨y, List.mem_of_getElem? hy, hp⟩) hx
    refine ⟨Int.negSucc 0, boxes sv, pvF 0 Try.func65 (w2p.if_none s sv.length c f h (h ++ boxes sv)) ⟨fun E0 hE => ?_, trivial⟩, by simp [hx]⟩
    obtain ⟨x', E1, h1, hl1, rfl, rfl⟩ := loop_inv (P := Try.prog) (n := 19) (rd := false) (b := loopN Try.f65 0) (Q := fun x' E1 h1 => x' = .exit 0 ∧ h ++ boxes sv = h1)
      (fun m E g => ∃ k : Nat, k ≤ sv.length ∧ m = sv.length - k ∧ EnvLe [(8, .int .i64 k), (7, .int .i64 (Int.ofNat sv.length)), (1, .func (.func f) #[] #[.pointer (some ⟨c, 0, none⟩)]), (0, .slice (some ⟨s, 0, none⟩) sv.length 3)] E ∧ h ++ boxes (sv.take k) = g)
      (fun m E g ⟨k, k1, k2, k3, k4⟩ => by
        subst k4
        by_cases e : k = sv.length
        · subst e
          right
          obtain ⟨E2, q1, q2⟩ := pvC 0 k3 (w2p.if_end s sv.length c f sv.length (h ++ boxes (sv.take sv.length))) ⟨by simp [Asm.holds, cmpB], trivial⟩
          exact ⟨_, E2, _, by simp, q2, rfl, by simp [SH.den]⟩
        · left
          obtain ⟨y, hy⟩ : ∃ y, sv[k]? = some y := ⟨_, List.getElem?_eq_getElem (by omega)⟩
          obtain ⟨E2, q1, q2⟩ := (body k y E hy k3).2 (hn' k y hy)
          exact ⟨sv.length - (k + 1), E2, _, by omega, q2, k + 1, by omega, rfl, q1, rfl⟩)
      sv.length E0 h ⟨0, by omega, rfl, .trans (.add (.add (.add (.add (.nil _) rfl) rfl) rfl) rfl) hE, by simp [boxes]⟩
    exact ⟨E1, .nil _, hl1⟩

/-- 'slices.ContainsFunc', of the same. -/
theorem cf_run {h' : Hp} {s c n : Nat} {f : FuncId} {r : Int} {z : Bool} (h1 : Run Try.prog 65 [.slice (some ⟨s, 0, none⟩) n 3, .func (.func f) #[] #[.pointer (some ⟨c, 0, none⟩)]] h (.int .i64 r) h') (h2 : decide (r ≥ 0) = z) :
    Run Try.prog 50 [.slice (some ⟨s, 0, none⟩) n 3, .func (.func f) #[] #[.pointer (some ⟨c, 0, none⟩)]] h (.bool z) h' :=
  pvF 0 Try.func50 (w2p.cf s n c f r h h' z) ⟨h1, by simp only [Asm.holds, cmpB, h2], trivial⟩

/-- 'any': whether some service has one of these states. -/
theorem any_run (a : WAt h i j t w) (hw : WOk w) {o : Nat} {l : List Int} {rw : Bool} (ho : h[o]? = some (.cells (iC l) rw)) (hl : l.length ≤ 1000000000) :
    ∃ os, Run Try.prog 34 [.pointer (some ⟨i, 0, none⟩), .slice (some ⟨o, 0, none⟩) l.length 1] h (.bool (w.svs.any fun x => l.contains x.state)) (h ++ os) := by
  have n8 := hw.n8
  obtain ⟨r, os, h1, h2⟩ := indexFunc_run (h := h ++ [.cells [.slice (some ⟨o, 0, none⟩) l.length 1] true]) (c := h.length) (get_push a.svs) (by omega) 51 (fun x => l.contains x.state)
    (fun os x => any1_run (get_app (get_new h _)) (get_app (get_push ho)) hl x)
  refine ⟨[.cells [.slice (some ⟨o, 0, none⟩) l.length 1] true] ++ os, ?_⟩
  rw [← List.append_assoc]
  exact pvF 0 Try.func34 (w2p.any i j o l.length w.svs.length h.length h _ _) ⟨rfl, a_ld1 (get_push a.obj) rfl, cf_run h1 h2, trivial⟩

def overOf (w : WS) : Bool := !(w.svs.any fun x => [1, 2, 3, 4].contains x.state)

end Go.Proofs.Ytkkhokgpcifckaa.wd

namespace Go.Proofs.Ytkkhokgpcifckaa.wd
open Go Go.Ev

variable {h : Hp} {i j : Nat} {t : Option Nat} {w : WS}

/-! ### recent -/

/-- How many times lie above a time. -/
def cnt (a : Int) : List Int → Nat
  | [] => 0
  | y :: l => (if y > a then 1 else 0) + cnt a l

theorem cnt_app (a : Int) : ∀ (l : List Int) (y : Int), cnt a (l ++ [y]) = cnt a l + (if y > a then 1 else 0)
  | [], y => by simp [cnt]
  | z :: l, y => by simp only [List.cons_append, cnt, cnt_app a l y]; omega
theorem cnt_le (a : Int) : ∀ l : List Int, cnt a l ≤ l.length
  | [] => by simp [cnt]
  | z :: l => by have := cnt_le a l; simp only [cnt, List.length_cons]; split <;> omega
theorem take_snoc {α : Type} {l : List α} {k : Nat} {x : α} (hx : l[k]? = some x) : l.take (k + 1) = l.take k ++ [x] := by rw [List.take_add_one, hx]; rfl

theorem recent_run (a : WAt h i j t w) (hw : WOk w) (now : Int) (hn : 0 ≤ now ∧ now ≤ 1000000000000) : Run Try.prog 45 [.pointer (some ⟨i, 0, none⟩), .int .i64 now] h (.int .i64 (cnt (now - w.within) w.times : Nat)) h := by
  rcases a.tms with ⟨rfl, e⟩ | ⟨o, rfl, ho, _⟩
  · rw [e]
    have obj := a.obj
    rw [wCells, e] at obj
    exact pvF 0 Try.func45 (w3p.re0 i now h) ⟨a_ld1 obj rfl, by simp [Asm.holds, cmpB], trivial⟩
  · have hl := hw.times
    refine pvF 0 Try.func45 (w3p.re1 i o w.times.length now (cnt (now - w.within) w.times : Nat) h) ⟨a_ld1 a.obj rfl, fun E0 hE => ?_, trivial⟩
    obtain ⟨x', E1, h1, hl1, rfl, hE1, rfl⟩ := loop_inv (P := Try.prog) (n := 30) (rd := false) (b := loopN Try.f45 0) (Q := fun x' E1 h1 => x' = .exit 0 ∧ EnvLe [(5, .int .i64 (cnt (now - w.within) w.times : Nat))] E1 ∧ h = h1)
      (fun m E g => ∃ k : Nat, k ≤ w.times.length ∧ m = w.times.length - k ∧ EnvLe [(13, .int .i64 k), (12, .int .i64 (Int.ofNat w.times.length)), (11, .slice (some ⟨o, 0, none⟩) w.times.length 1), (5, .int .i64 (cnt (now - w.within) (w.times.take k) : Nat)), (1, .int .i64 now), (0, .pointer (some ⟨i, 0, none⟩))] E ∧ h = g)
      (fun m E g ⟨k, k1, k2, k3, k4⟩ => by
        subst k4
        by_cases e : k = w.times.length
        · right
          obtain ⟨E2, q1, q2⟩ := pvC 0 k3 (w3p.re_end i o w.times.length now k _ h) ⟨by simp [Asm.holds, cmpB]; omega, trivial⟩
          refine ⟨_, E2, _, by simp, q2, rfl, .trans (.add (.nil _) ?_) q1, rfl⟩
          rw [e, List.take_length]; rfl
        · left
          obtain ⟨y, hy⟩ : ∃ y, w.times[k]? = some y := ⟨_, List.getElem?_eq_getElem (by omega)⟩
          have hwn := hw.within
          have ar : IntKind.i64.wrap (now - w.within) = now - w.within := wrap_id (by omega) (by omega)
          have hc := cnt_le (now - w.within) (w.times.take k)
          have hcl : (w.times.take k).length ≤ k := by simp; omega
          by_cases hy' : y > now - w.within
          · obtain ⟨E2, q1, q2⟩ := pvC 0 k3 (w3p.re_in i o w.times.length now k (cnt (now - w.within) (w.times.take k) : Nat) h y w.within (now - w.within) ((cnt (now - w.within) (w.times.take k) + 1 : Nat) : Int) ((k + 1 : Nat) : Int))
              ⟨by simp [Asm.holds, cmpB]; omega, ⟨by omega, by omega, by simp⟩, a_ld1 ho (by simp [hy]), a_ld1 a.obj rfl, by simp [Asm.holds, arithI, ar], by simpa [Asm.holds, cmpB] using hy', by simp only [Asm.holds, arithI, add1 (show cnt (now - w.within) (w.times.take k) < 1000000000000 by omega)],
                by simp only [Asm.holds, arithI, add1 (show k < 1000000000000 by omega)], trivial⟩
            refine ⟨w.times.length - (k + 1), E2, _, by omega, q2, k + 1, by omega, rfl, ?_, rfl⟩
            rw [take_snoc hy, cnt_app, if_pos hy']
            exact .trans (.add (.add (.add (.add (.add (.add (.nil _) rfl) rfl) rfl) rfl) rfl) rfl) q1
          · obtain ⟨E2, q1, q2⟩ := pvC 0 k3 (w3p.re_out i o w.times.length now k (cnt (now - w.within) (w.times.take k) : Nat) h y w.within (now - w.within) ((k + 1 : Nat) : Int))
              ⟨by simp [Asm.holds, cmpB]; omega, ⟨by omega, by omega, by simp⟩, a_ld1 ho (by simp [hy]), a_ld1 a.obj rfl, by simp [Asm.holds, arithI, ar], by simpa [Asm.holds, cmpB] using hy',
                by simp only [Asm.holds, arithI, add1 (show k < 1000000000000 by omega)], trivial⟩
            refine ⟨w.times.length - (k + 1), E2, _, by omega, q2, k + 1, by omega, rfl, ?_, rfl⟩
            rw [take_snoc hy, cnt_app, if_neg hy', Nat.add_zero]
            exact .trans (.add (.add (.add (.add (.add (.add (.nil _) rfl) rfl) rfl) rfl) rfl) rfl) q1)
      w.times.length E0 h ⟨0, by omega, rfl, .trans (.add (.add (.add (.add (.add (.add (.nil _) rfl) rfl) rfl) rfl) rfl) rfl) hE, rfl⟩
    exact ⟨E1, hE1, hl1⟩

/-! ### Orders -/

/-- A list of orders (three numbers each, as a service). -/
def OrdAt (h : Hp) (b : Nat) (v : Value) (l : List Sv) : Prop := (v = .slice none 0 0 ∧ l = []) ∨ ∃ o, v = .slice (some ⟨o, 0, none⟩) l.length 3 ∧ h[o]? = some (.cells (svC l) true) ∧ b ≤ o ∧ l ≠ []

theorem OrdAt.keep {h h' : Hp} {b : Nat} {v : Value} {l : List Sv} {fp : Nat → Prop} (a : OrdAt h b v l) (k : Keep fp h h') (hf : ∀ q, b ≤ q → q < h.length → ¬ fp q) : OrdAt h' b v l := by
  rcases a with h1 | ⟨o, h1, h2, h3, h4⟩
  · exact .inl h1
  · exact .inr ⟨o, h1, k.2 _ _ h2 (hf o h3 (get_lt h2)), h3, h4⟩

theorem svC_app : ∀ l m : List Sv, svC (l ++ m) = svC l ++ svC m
  | [], m => rfl
  | x :: l, m => by simp [svC, svC_app l m]
theorem svC_ones : ∀ l : List Sv, (svC l).all Value.oneCell' = true
  | [] => rfl
  | x :: l => by simp only [svC, List.all_cons, svC_ones l]; rfl
theorem OrdAt.base {h : Hp} {b b' : Nat} {v : Value} {l : List Sv} (a : OrdAt h b v l) (hb : b' ≤ b) : OrdAt h b' v l := by
  rcases a with h1 | ⟨o, h1, h2, h3, h4⟩
  · exact .inl h1
  · exact .inr ⟨o, h1, h2, by omega, h4⟩
/-- One list of orders behind another. -/
theorem a_app3 {P : Program} {s : SH} {o1 o2 d : Nat} {l1 l2 : List Sv} {rw : Bool} (h1 : s.den[o1]? = some (.cells (svC l1) true)) (h2 : s.den[o2]? = some (.cells (svC l2) rw)) (hn : l2 ≠ []) (hb : l1.length + l2.length ≤ 1000) (hd : s.den.length = d) :
    (Asm.app s o1 0 l1.length o2 0 l2.length (l2.length - 1) 3 24 (svC (l1 ++ l2)) (svC l2) d).holds P := by
  have e1 := svC_len l1
  have e2 := svC_len l2
  have : l2.length ≠ 0 := fun e => hn (List.length_eq_zero_iff.1 e)
  refine ⟨by omega, ⟨_, cells_of h2, by omega, ?_⟩, svC_ones l2, by omega, by omega, ⟨_, own_of h1, by omega, ?_⟩, hd⟩
  · rw [List.drop_zero, List.take_of_length_le (by omega)]
  · rw [List.drop_zero, List.take_of_length_le (by omega), svC_app]
theorem a_app3n {P : Program} {s : SH} {o2 d : Nat} {l2 : List Sv} {rw : Bool} (h2 : s.den[o2]? = some (.cells (svC l2) rw)) (hn : l2 ≠ []) (hb : l2.length ≤ 1000) (hd : s.den.length = d) :
    (Asm.appNil s o2 0 l2.length (l2.length - 1) 3 24 (svC l2) d).holds P := by
  have e2 := svC_len l2
  have : l2.length ≠ 0 := fun e => hn (List.length_eq_zero_iff.1 e)
  refine ⟨by omega, ⟨_, cells_of h2, by omega, ?_⟩, svC_ones l2, by omega, by omega, hd⟩
  rw [List.drop_zero, List.take_of_length_le (by omega)]
/-! ### begin -/

def bgStep (at' : Int) (x : Sv) : Sv := if x.state = 3 then ⟨x.when, 4, at'⟩ else x
def bgO (at' : Int) : Nat → List Sv → List Sv
  | _, [] => []
  | n, x :: l => if x.state = 3 then ⟨2, ((n + 1 : Nat) : Int), at'⟩ :: bgO at' (n + 1) l else bgO at' (n + 1) l
theorem bgO_app (at' : Int) : ∀ (n : Nat) (l : List Sv) (x : Sv), bgO at' n (l ++ [x]) = bgO at' n l ++ (if x.state = 3 then [⟨2, ((n + l.length + 1 : Nat) : Int), at'⟩] else [])
  | n, [], x => by simp [bgO]
  | n, y :: l, x => by
    have := bgO_app at' (n + 1) l x
    simp only [List.cons_append, bgO, this, List.length_cons]
    rw [show n + 1 + l.length + 1 = n + (l.length + 1) + 1 by omega]
    split <;> simp
theorem bgO_len (at' : Int) : ∀ (n : Nat) (l : List Sv), (bgO at' n l).length ≤ l.length
  | n, [] => by simp [bgO]
  | n, y :: l => by have := bgO_len at' (n + 1) l; simp only [bgO]; split <;> simp <;> omega

theorem front_step {α : Type} {l : List α} {k : Nat} {x : α} (f : α → α) (hx : l[k]? = some x) : ((l.take k).map f ++ l.drop k)[k]? = some x ∧ ((l.take k).map f ++ l.drop k).set k (f x) = (l.take (k + 1)).map f ++ l.drop (k + 1) := by
  have hk := get_lt' hx
  have hl : ((l.take k).map f).length = k := by simp; omega
  have hd : l.drop k = x :: l.drop (k + 1) := by rw [List.drop_eq_getElem_cons hk]; rw [List.getElem?_eq_getElem hk] at hx; cases hx; rfl
  refine ⟨?_, ?_⟩
  · rw [List.getElem?_append_right (by omega), hl, Nat.sub_self, hd]; rfl
  · rw [List.set_append_right _ _ (by omega), hl, Nat.sub_self, hd, List.set_cons_zero, take_snoc hx, List.map_append, List.append_assoc]; rfl

theorem stat32 : statOk (drawN Try.f32 0) = true ∧ statOk (drawN Try.f32 1) = true ∧ statOk (drawN Try.f32 2) = true := ⟨by kernel_rfl, by kernel_rfl, by kernel_rfl⟩

/-- The rounds of 'begin': from a heap h on. -/
theorem begin_loop (a : WAt h i j t w) (hw : WOk w) (at' : Int) (E0 : Env)
    (hE : EnvLe [(37, .int .i64 0), (36, .int .i64 (Int.ofNat w.svs.length)), (35, .slice (some ⟨j, 0, none⟩) w.svs.length 3), (4, .slice none 0 0), (3, .int .i64 at'), (0, .pointer (some ⟨i, 0, none⟩))] E0) :
    ∃ E1 v h1, EnvLe [(4, v)] E1 ∧ LRun Try.prog 64 false (loopN Try.f32 0) E0 h (.exit 0) E1 h1 ∧ WAt h1 i j t { w with svs := w.svs.map (bgStep at') } ∧ OrdAt h1 h.length v (bgO at' 0 w.svs) ∧ Keep (· = j) h h1 := by
  have n8 := hw.n8
  obtain ⟨x', E1, h1, hl1, rfl, v, q1, q2, q3, q4⟩ := loop_inv (P := Try.prog) (n := 64) (rd := false) (b := loopN Try.f32 0)
    (Q := fun x' E1 h1 => x' = .exit 0 ∧ ∃ v, EnvLe [(4, v)] E1 ∧ WAt h1 i j t { w with svs := w.svs.map (bgStep at') } ∧ OrdAt h1 h.length v (bgO at' 0 w.svs) ∧ Keep (· = j) h h1)
    (fun m E g => ∃ k v, k ≤ w.svs.length ∧ m = w.svs.length - k ∧ EnvLe [(37, .int .i64 (k : Nat)), (36, .int .i64 (Int.ofNat w.svs.length)), (35, .slice (some ⟨j, 0, none⟩) w.svs.length 3), (4, v), (3, .int .i64 at'), (0, .pointer (some ⟨i, 0, none⟩))] E ∧
      WAt g i j t { w with svs := (w.svs.take k).map (bgStep at') ++ w.svs.drop k } ∧ OrdAt g h.length v (bgO at' 0 (w.svs.take k)) ∧ Keep (· = j) h g)
    (fun m E g ⟨k, v, k1, k2, k3, k4, k5, k6⟩ => by
      by_cases e : k = w.svs.length
      · right
        subst e
        obtain ⟨E2, q1, q2⟩ := pvC 0 k3 (w3p.bg_end i j w.svs.length v at' w.svs.length g) ⟨by simp [Asm.holds, cmpB], trivial⟩
        refine ⟨_, E2, _, by simp, q2, rfl, v, .trans (.add (.nil _) rfl) q1, ?_, ?_, k6⟩
        · simpa [SH.den] using k4
        · simpa [SH.den] using k5
      · left
        obtain ⟨x, hx⟩ : ∃ x, w.svs[k]? = some x := ⟨_, List.getElem?_eq_getElem (by omega)⟩
        obtain ⟨f1, f2⟩ := front_step (bgStep at') hx
        have hsv := k4.svs
        have hobj := k4.obj
        have hll : (svC ((w.svs.take k).map (bgStep at') ++ w.svs.drop k)).length = w.svs.length * 3 := by rw [svC_len]; simp; omega
        have hwl : wCells { w with svs := (w.svs.take k).map (bgStep at') ++ w.svs.drop k } j t = wCells w j t := by
          simp only [wCells]; rw [show ((w.svs.take k).map (bgStep at') ++ w.svs.drop k).length = w.svs.length by simp; omega]
        simp only [] at hsv
        rw [hwl] at hobj
        have hgj := get_lt hsv
        have hgi := get_lt hobj
        have hne := a.ne
        have ak1 : IntKind.i64.wrap ((k : Int) + 1) = ((k + 1 : Nat) : Int) := add1 (by omega)
        by_cases hs : x.state = 3
        · -- due
          have hst : bgStep at' x = ⟨x.when, 4, at'⟩ := by simp [bgStep, hs]
          rw [hst] at f2
          have hgo : ∀ {q : Nat} {o y : AObj}, g[q]? = some o → ((g ++ [AObj.cells [.int .i64 0, .int .i64 0, .int .i64 0] true]).set g.length y)[q]? = some o := fun hq => get_set_ne (get_push hq) (by have := get_lt hq; omega)
          have pre1 : (Asm.cmp .lss (k : Int) (Int.ofNat w.svs.length) true).holds Try.prog := by simp [Asm.holds, cmpB]; omega
          have hput := svC_put (⟨x.when, 4, at'⟩ : Sv) f1
          rw [f2] at hput
          rcases k5 with ⟨rfl, hnil⟩ | ⟨o, rfl, ho, hbo, _⟩
          · obtain ⟨E2, q1, q2⟩ := pvC 0 k3 (w3p.bg_go0 i j w.svs.length at' k g (k * 3) g.length (g.length + 1) (g.length + 2) x.when x.state x.at' ((k + 1 : Nat) : Int) ((k + 1 : Nat) : Int) (svC ((w.svs.take (k + 1)).map (bgStep at') ++ w.svs.drop (k + 1))) [])
              ⟨pre1, ⟨by omega, by omega, by simp⟩, a_ldn hsv (by omega) (svC_cut f1), rfl, a_st (get_new g _) (by simp) rfl, a_ld1 (get_set_eq (get_new g _)) rfl, by simpa [Asm.holds, cmpB] using hs, stat32.2.2,
                a_ld1 (hgo hobj) rfl, a_ld1 (get_set_eq (get_new g _)) rfl, ⟨by omega, by omega, by simp⟩, a_st (hgo hsv) (by rw [hll]; simp; omega) hput, by simp only [Asm.holds, arithI, ak1], by simp [Asm.holds, SH.den],
                ⟨rfl, ⟨_, cells_of (get_new' _ (by simp [SH.den])), by simp, rfl⟩, rfl, by omega, by omega, by simp [SH.den]⟩, by simp only [Asm.holds, arithI, ak1], trivial⟩
            have hK : Keep (fun q => q = j ∨ g.length ≤ q) g (((((g ++ [AObj.cells [.int .i64 0, .int .i64 0, .int .i64 0] true]).set g.length (.cells x.cells true)).set j (.cells (svC ((w.svs.take (k + 1)).map (bgStep at') ++ w.svs.drop (k + 1))) true)) ++
                [.cells [.int .i64 2, .int .i64 ((k + 1 : Nat) : Int), .int .i64 at'] true]) ++ [.cells [.int .i64 2, .int .i64 ((k + 1 : Nat) : Int), .int .i64 at'] true]) :=
              ((((Keep.push (fun q => q = j ∨ g.length ≤ q) _ _).trans (Keep.set (fp := fun q => q = j ∨ g.length ≤ q) (.inr (Nat.le_refl _)) _)).trans (Keep.set (fp := fun q => q = j ∨ g.length ≤ q) (.inl rfl) _)).trans (Keep.push _ _ _)).trans (Keep.push _ _ _)
            refine ⟨w.svs.length - (k + 1), E2, _, by omega, q2, k + 1, _, by omega, rfl, .trans (.add (.add (.add (.add (.add (.add (.nil _) rfl) rfl) rfl) rfl) rfl) rfl) q1, ?_, ?_, ?_⟩
            · refine k4.put hK (fun q hq e => ?_) (get_push (get_push (get_set_eq (hgo hsv)))) (by simp; omega)
              rcases e with e | e
              · exact .inl e
              · omega
            · right
              refine ⟨g.length + 2, ?_, ?_, by have := k6.1; omega, by rw [take_snoc hx, bgO_app, if_pos hs]; simp⟩
              · rw [take_snoc hx, bgO_app, if_pos hs, hnil]; rfl
              · rw [take_snoc hx, bgO_app, if_pos hs, hnil]
                have : (w.svs.take k).length = k := by simp; omega
                simp only [this, Nat.zero_add]
                exact get_new' _ (by simp [SH.den])
            · refine k6.trans_new hK (fun q hq e => ?_)
              rcases e with e | e
              · exact e
              · have := k6.1; omega
          · have hlo : (svC (bgO at' 0 (w.svs.take k))).length = (bgO at' 0 (w.svs.take k)).length * 3 := svC_len _
            have hno : (bgO at' 0 (w.svs.take k)).length ≤ 8 := by have := bgO_len at' 0 (w.svs.take k); simp at this; omega
            have hgo' := get_lt ho
            have noj : o ≠ j := by have := get_lt a.svs; omega
            have hcs : (svC (bgO at' 0 (w.svs.take k))).take ((bgO at' 0 (w.svs.take k)).length * 3) ++ [.int .i64 2, .int .i64 ((k + 1 : Nat) : Int), .int .i64 at'] = svC (bgO at' 0 (w.svs.take (k + 1))) := by
              rw [take_snoc hx, bgO_app, if_pos hs, svC_app, List.take_of_length_le (by omega)]
              have : (w.svs.take k).length = k := by simp; omega
              simp only [this, Nat.zero_add]
              rfl
            obtain ⟨E2, q1, q2⟩ := pvC 0 k3 (w3p.bg_go1 i j w.svs.length o (bgO at' 0 (w.svs.take k)).length at' k g (k * 3) g.length (g.length + 1) (g.length + 2) x.when x.state x.at' ((k + 1 : Nat) : Int) ((k + 1 : Nat) : Int)
                (svC ((w.svs.take (k + 1)).map (bgStep at') ++ w.svs.drop (k + 1))) (svC (bgO at' 0 (w.svs.take (k + 1)))))
              ⟨pre1, ⟨by omega, by omega, by simp⟩, a_ldn hsv (by omega) (svC_cut f1), rfl, a_st (get_new g _) (by simp) rfl, a_ld1 (get_set_eq (get_new g _)) rfl, by simpa [Asm.holds, cmpB] using hs, stat32.2.2,
                a_ld1 (hgo hobj) rfl, a_ld1 (get_set_eq (get_new g _)) rfl, ⟨by omega, by omega, by simp⟩, a_st (hgo hsv) (by rw [hll]; simp; omega) hput, by simp only [Asm.holds, arithI, ak1], by simp [Asm.holds, SH.den],
                ⟨rfl, ⟨_, cells_of (get_new' _ (by simp [SH.den])), by simp, rfl⟩, rfl, by omega, by omega, ⟨_, own_of (get_push (get_set_ne (hgo ho) (Ne.symm noj))), by omega, hcs⟩, by simp [SH.den]⟩, by simp only [Asm.holds, arithI, ak1], trivial⟩
            have hK : Keep (fun q => q = j ∨ g.length ≤ q ∨ q = o) g ((((((g ++ [AObj.cells [.int .i64 0, .int .i64 0, .int .i64 0] true]).set g.length (.cells x.cells true)).set j (.cells (svC ((w.svs.take (k + 1)).map (bgStep at') ++ w.svs.drop (k + 1))) true)) ++
                [AObj.cells [.int .i64 2, .int .i64 ((k + 1 : Nat) : Int), .int .i64 at'] true]).set o .dead) ++ [.cells (svC (bgO at' 0 (w.svs.take (k + 1)))) true]) :=
              (((((Keep.push (fun q => q = j ∨ g.length ≤ q ∨ q = o) _ _).trans (Keep.set (fp := fun q => q = j ∨ g.length ≤ q ∨ q = o) (.inr (.inl (Nat.le_refl _))) _)).trans (Keep.set (fp := fun q => q = j ∨ g.length ≤ q ∨ q = o) (.inl rfl) _)).trans (Keep.push _ _ _)).trans
                (Keep.set (fp := fun q => q = j ∨ g.length ≤ q ∨ q = o) (.inr (.inr rfl)) _)).trans (Keep.push _ _ _)
            refine ⟨w.svs.length - (k + 1), E2, _, by omega, q2, k + 1, _, by omega, rfl, .trans (.add (.add (.add (.add (.add (.add (.nil _) rfl) rfl) rfl) rfl) rfl) rfl) q1, ?_, ?_, ?_⟩
            · refine k4.put hK (fun q hq e => ?_) (get_push (get_set_ne (get_push (get_set_eq (hgo hsv))) noj)) (by simp; omega)
              rcases e with e | e | e
              · exact .inl e
              · omega
              · right
                rintro (r | r | r)
                · have := get_lt a.obj; omega
                · omega
                · rcases a.tms with ⟨r2, _⟩ | ⟨p, r1, r2, _⟩
                  · rw [r2] at r; cases r
                  · rw [r1] at r; cases r; have := get_lt r2; omega
            · right
              refine ⟨g.length + 2, ?_, ?_, by have := k6.1; omega, by rw [take_snoc hx, bgO_app, if_pos hs]; simp⟩
              · rw [take_snoc hx, bgO_app, if_pos hs]; simp
              · exact get_new' _ (by simp [SH.den])
            · refine k6.trans_new hK (fun q hq e => ?_)
              rcases e with e | e | e
              · exact e
              · have := k6.1; omega
              · omega
        · obtain ⟨E2, q1, q2⟩ := pvC 0 k3 (w3p.bg_skip i j w.svs.length v at' k g (k * 3) g.length x.when x.state x.at' ((k + 1 : Nat) : Int))
            ⟨by simp [Asm.holds, cmpB]; omega, ⟨by omega, by omega, by simp⟩, a_ldn hsv (by omega) (svC_cut f1), rfl, a_st (get_new g _) (by simp) rfl, a_ld1 (get_set_eq (get_new g _)) rfl, by simpa [Asm.holds, cmpB] using hs,
              by simp only [Asm.holds, arithI, ak1], trivial⟩
          have hK : Keep (fun q => q = g.length) g ((g ++ [AObj.cells [.int .i64 0, .int .i64 0, .int .i64 0] true]).set g.length (.cells x.cells true)) := (Keep.push (fun q => q = g.length) _ _).trans (Keep.set (fp := fun q => q = g.length) rfl _)
          have hst : bgStep at' x = x := by simp [bgStep, hs]
          rw [hst] at f2
          have f2' : ((w.svs.take k).map (bgStep at') ++ w.svs.drop k).set k x = (w.svs.take k).map (bgStep at') ++ w.svs.drop k := by
            obtain ⟨hb, he⟩ := List.getElem?_eq_some_iff.1 f1
            rw [← he]; exact List.set_getElem_self hb
          refine ⟨w.svs.length - (k + 1), E2, _, by omega, q2, k + 1, v, by omega, rfl, .trans (.add (.add (.add (.add (.add (.add (.nil _) rfl) rfl) rfl) rfl) rfl) rfl) q1, ?_, ?_, ?_⟩
          · rw [← f2]
            refine k4.put hK (fun q hq e => by omega) ?_ (by simp)
            have := hK.2 _ _ hsv (by omega)
            rw [f2']; exact this
          · rw [take_snoc hx, bgO_app, if_neg hs, List.append_nil]
            exact k5.keep hK (fun q _ hq e => by omega)
          · exact k6.trans_new hK (fun q hq e => by have := k6.1; omega))
    w.svs.length E0 h ⟨0, .slice none 0 0, by omega, rfl, hE, by simpa using a, .inl ⟨rfl, rfl⟩, .refl _ _⟩
  exact ⟨E1, v, h1, q1, hl1, q2, q3, q4⟩

def atOf (w : WS) : Int := if w.delay < 1000000000000 - w.now then w.now + w.delay else 1000000000000
def beginF (w : WS) : WS × List Sv := if (w.svs.any fun x => [2].contains x.state) = true then (w, []) else ({ w with delay := 0, svs := w.svs.map (bgStep (atOf w)) }, bgO (atOf w) 0 w.svs)

theorem WAt.lts {h : Hp} (a : WAt h i j t w) : ∀ p : Nat, fpW i j t p → p < h.length := by
  rintro q (r | r | r)
  · subst r; exact get_lt a.obj
  · subst r; exact get_lt a.svs
  · rcases a.tms with ⟨r2, _⟩ | ⟨p, r1, r2, _⟩
    · rw [r2] at r; cases r
    · rw [r1] at r; cases r; exact get_lt r2

theorem WAt.app {h : Hp} (a : WAt h i j t w) (os : Hp) : WAt (h ++ os) i j t w := a.keep (Keep.app (fun _ => False) h os) (fun q _ hq => hq.elim)

theorem begin_run (a : WAt h i j t w) (hw : WOk w) : ∃ v h', Run Try.prog 32 [.pointer (some ⟨i, 0, none⟩)] h v h' ∧ WAt h' i j t (beginF w).1 ∧ OrdAt h' h.length v (beginF w).2 ∧ Keep (fun q => q = i ∨ q = j) h h' := by
  have ho : (h ++ [.cells (iC [2]) true])[h.length]? = some (.cells (iC [2]) true) := get_new h _
  obtain ⟨os, h1⟩ := any_run (a.app [.cells (iC [2]) true]) hw ho (by simp)
  have K1 : Keep (fun q => q = i ∨ q = j) h (h ++ [AObj.cells (iC [2]) true] ++ os) := (Keep.push _ _ _).trans (Keep.app _ _ _)
  have a1 := (a.app [.cells (iC [2]) true]).app os
  unfold beginF
  by_cases hb : (w.svs.any fun x => [2].contains x.state) = true
  · rw [if_pos hb]
    rw [hb] at h1
    exact ⟨_, _, pvF 0 Try.func32 (w3p.bg_busy i h.length h _) ⟨rfl, h1, trivial⟩, a1, .inl ⟨rfl, rfl⟩, K1⟩
  · rw [if_neg hb]
    rw [Bool.eq_false_iff.2 hb] at h1
    have hd := hw.delay
    have hnow := hw.now
    -- the delay is spent
    have a2 : WAt ((h ++ [AObj.cells (iC [2]) true] ++ os).set i (.cells (wCells { w with delay := 0 } j t) true)) i j t { w with delay := 0 } :=
      ⟨get_set_eq a1.obj, get_set_ne a1.svs a1.ne, by
        rcases a1.tms with q1 | ⟨q, q1, q2, q3, q4⟩
        · exact .inl q1
        · exact .inr ⟨q, q1, get_set_ne q2 (Ne.symm q3), q3, q4⟩, a1.ne⟩
    have K2 : Keep (fun q => q = i ∨ q = j) h ((h ++ [AObj.cells (iC [2]) true] ++ os).set i (.cells (wCells { w with delay := 0 } j t) true)) := K1.trans (Keep.set (.inl rfl) _)
    have hw2 : WOk { w with delay := 0 } := ⟨hw.n1, hw.n8, hw.most, hw.within, hw.base, hw.cap, hw.now, by simp, hw.times, hw.rule⟩
    have sb : IntKind.i64.wrap (1000000000000 - w.now) = 1000000000000 - w.now := wrap_id (by omega) (by omega)
    have ad : IntKind.i64.wrap (w.now + w.delay) = w.now + w.delay := wrap_id (by omega) (by omega)
    obtain ⟨E1, v, h2, hE1, hl, b1, b2, b3⟩ := begin_loop a2 hw2 (atOf w) _ (EnvLe.refl _)
    have K3 : Keep (fun q => q = i ∨ q = j) h h2 := K2.trans (b3.mono fun q _ e => .inr e)
    have hlen : h.length ≤ (h ++ [AObj.cells (iC [2]) true] ++ os).length := K1.1
    have b2' : OrdAt h2 h.length v (bgO (atOf w) 0 w.svs) := by
      rcases b2 with q | ⟨o, q1, q2, q3, q4⟩
      · exact .inl q
      · exact .inr ⟨o, q1, q2, by simp at q3 hlen ⊢; omega, q4⟩
    refine ⟨v, h2, ?_, b1, b2', K3⟩
    have pl : plainC (loopN Try.f32 0) = true := by kernel_rfl
    have st1 := a_st (P := Try.prog) (s := .is (h ++ [AObj.cells (iC [2]) true] ++ os)) (d := 9) (l := [.int .i64 0]) (c' := wCells { w with delay := 0 } j t) a1.obj (by simp [wCells]) rfl
    by_cases hc : w.delay < 1000000000000 - w.now
    · have hat : atOf w = w.now + w.delay := by simp [atOf, hc]
      rw [hat] at hl
      exact pvF 0 Try.func32 (w3p.bg_near i j h.length w.svs.length w.delay w.now (1000000000000 - w.now) (w.now + w.delay) v (wCells { w with delay := 0 } j t) h _ h2) ⟨rfl, h1, stat32.1, a_ld1 a1.obj rfl, a_ld1 a1.obj rfl, by simp only [Asm.holds, arithI, sb], by simpa [Asm.holds, cmpB] using hc, stat32.2.1,
        a_ld1 a1.obj rfl, a_ld1 a1.obj rfl, by simp only [Asm.holds, arithI, ad], st1, a_ld1 a2.obj rfl,
        a_loop pl (.add (.add (.add (.add (.add (.add (.nil _) rfl) rfl) rfl) rfl) rfl) rfl) hE1 hl, trivial⟩
    · have hat : atOf w = 1000000000000 := by simp [atOf, hc]
      rw [hat] at hl
      exact pvF 0 Try.func32 (w3p.bg_far i j h.length w.svs.length w.delay w.now (1000000000000 - w.now) v (wCells { w with delay := 0 } j t) h _ h2) ⟨rfl, h1, stat32.1, a_ld1 a1.obj rfl, a_ld1 a1.obj rfl, by simp only [Asm.holds, arithI, sb], by simpa [Asm.holds, cmpB] using hc,
        st1, a_ld1 a2.obj rfl, a_loop pl (.add (.add (.add (.add (.add (.add (.nil _) rfl) rfl) rfl) rfl) rfl) rfl) hE1 hl, trivial⟩

end Go.Proofs.Ytkkhokgpcifckaa.wd

namespace Go.Proofs.Ytkkhokgpcifckaa.wd
open Go Go.Ev

variable {h : Hp} {i j : Nat} {t : Option Nat} {w : WS}

/-! ### stop -/

def stStep (p : Nat → Bool) (n : Nat) (x : Sv) : Sv := if x.state = 1 ∧ p n = true then { x with state := 2 } else x
/-- The services from a place on, stopped. -/
def stS (p : Nat → Bool) : Nat → List Sv → List Sv
  | _, [] => []
  | n, x :: l => stStep p n x :: stS p (n + 1) l
/-- The orders for them, the last first. -/
def stO (p : Nat → Bool) : Nat → List Sv → List Sv
  | _, [] => []
  | n, x :: l => stO p (n + 1) l ++ (if x.state = 1 ∧ p n = true then [⟨1, ((n + 1 : Nat) : Int), 0⟩] else [])

theorem stS_len (p : Nat → Bool) : ∀ (n : Nat) (l : List Sv), (stS p n l).length = l.length
  | _, [] => rfl
  | n, x :: l => by simp [stS, stS_len p (n + 1) l]
theorem stO_len (p : Nat → Bool) : ∀ (n : Nat) (l : List Sv), (stO p n l).length ≤ l.length
  | _, [] => by simp [stO]
  | n, x :: l => by have := stO_len p (n + 1) l; simp only [stO, List.length_append, List.length_cons]; split <;> simp <;> omega

theorem drop_cons {α : Type} {l : List α} {k : Nat} {x : α} (hx : l[k]? = some x) : l.drop k = x :: l.drop (k + 1) := by
  have hk := get_lt' hx
  rw [List.drop_eq_getElem_cons hk]; rw [List.getElem?_eq_getElem hk] at hx; cases hx; rfl

/-- The services when all from k on are done. -/
def stL (p : Nat → Bool) (l : List Sv) (k : Nat) : List Sv := l.take k ++ stS p k (l.drop k)
theorem stL_len (p : Nat → Bool) (l : List Sv) (k : Nat) : (stL p l k).length = l.length := by simp [stL, stS_len]; omega
theorem stL_step (p : Nat → Bool) {l : List Sv} {k : Nat} {x : Sv} (hx : l[k]? = some x) : (stL p l (k + 1))[k]? = some x ∧ (stL p l (k + 1)).set k (stStep p k x) = stL p l k := by
  have hk := get_lt' hx
  have hl : (l.take k).length = k := by simp; omega
  unfold stL
  rw [take_snoc hx, List.append_assoc]
  refine ⟨?_, ?_⟩
  · rw [List.getElem?_append_right (by omega), hl, Nat.sub_self]; rfl
  · rw [List.set_append_right _ _ (by omega), hl, Nat.sub_self, drop_cons hx]; rfl

noncomputable def AS49 : Code := partC Try.f49 [1, 1, 0, 1, 0, 0]
noncomputable def BD49 : Code := partC Try.f49 [1, 1, 0, 1, 0, 1]

/-- Where the rounds of 'stop' stand, when all from k on are done. -/
structure SI (h : Hp) (i j : Nat) (t : Option Nat) (w : WS) (fv : Value) (p : Nat → Bool) (E0 : Env) (k : Nat) (g : Hp) : Prop where
  wat : WAt g i j t { w with svs := stL p w.svs k }
  bw : g[h.length]? = some (.cells [.pointer (some ⟨i, 0, none⟩)] true)
  bf : g[h.length + 1]? = some (.cells [fv] true)
  bo : ∃ v, g[h.length + 2]? = some (.cells [v] true) ∧ OrdAt g (h.length + 5) v (stO p k (w.svs.drop k))
  bs : g[h.length + 3]? = some (.cells [.slice (some ⟨j, 0, none⟩) w.svs.length 3] true)
  lp : g[h.length + 4]? = some (.loop .ready none E0 37 #[13, 14] AS49 BD49)
  kp : Keep (· = j) h g

theorem SI.next {fv : Value} {p : Nat → Bool} {E0 : Env} {k k' : Nat} {g g' : Hp} {v : Value} (a : WAt h i j t w) (s : SI h i j t w fv p E0 k g) {fp : Nat → Prop} (K : Keep fp g g')
    (hf : ∀ q, fp q → q = j ∨ q = h.length + 2 ∨ h.length + 4 ≤ q) (hj : g'[j]? = some (.cells (svC (stL p w.svs k')) true))
    (h2 : g'[h.length + 2]? = some (.cells [v] true)) (ho : OrdAt g' (h.length + 5) v (stO p k' (w.svs.drop k'))) (hl : g'[h.length + 4]? = some (.loop .ready none E0 37 #[13, 14] AS49 BD49)) : SI h i j t w fv p E0 k' g' := by
  have hjl := a.lts j (.inr (.inl rfl))
  refine ⟨?_, K.2 _ _ s.bw fun e => ?_, K.2 _ _ s.bf fun e => ?_, ⟨v, h2, ho⟩, K.2 _ _ s.bs fun e => ?_, hl, ?_⟩
  · refine s.wat.put K (fun q _ e => ?_) hj (by simp [stL_len])
    rcases hf q e with e | e | e
    · exact .inl e
    · right; intro hq; have := a.lts q hq; omega
    · right; intro hq; have := a.lts q hq; omega
  · rcases hf _ e with e | e | e <;> omega
  · rcases hf _ e with e | e | e <;> omega
  · rcases hf _ e with e | e | e <;> omega
  · refine s.kp.trans_new K (fun q hq e => ?_)
    rcases hf q e with e | e | e
    · exact e
    · omega
    · omega

/-- One round of 'stop'. -/
theorem stop_round (a : WAt h i j t w) (hw : WOk w) {fo : FuncId} {cl : List Value} {p : Nat → Bool} {E0 : Env} (hE : EnvLe [(2, .pointer (some ⟨h.length, 0, none⟩)), (3, .pointer (some ⟨h.length + 1, 0, none⟩)), (5, .pointer (some ⟨h.length + 2, 0, none⟩))] E0)
    (hof : ∀ g, Keep (· = j) h g → ∀ k : Nat, k < w.svs.length → Run Try.prog fo (.int .i64 k :: cl) g (.bool (p k)) g) {k : Nat} {x : Sv} (hx : w.svs[k]? = some x) {g : Hp} (s : SI h i j t w (.func (.func fo) #[] ⟨cl⟩) p E0 (k + 1) g) :
    ∃ g', RunR Try.prog (h.length + 4) [.int .i64 k, .agg x.cells.toArray] g (.bool true) g' ∧ SI h i j t w (.func (.func fo) #[] ⟨cl⟩) p E0 k g' := by
  have n8 := hw.n8
  have hk := get_lt' hx
  obtain ⟨v, hv, hov⟩ := s.bo
  have hLg := get_lt s.lp
  have hjl := a.lts j (.inr (.inl rfl))
  have hil := a.lts i (.inl rfl)
  obtain ⟨f1, f2⟩ := stL_step p hx
  have hsv := s.wat.svs
  simp only [] at hsv
  have hll : (svC (stL p w.svs (k + 1))).length = w.svs.length * 3 := by rw [svC_len, stL_len]
  -- the variables of the round
  obtain ⟨E2, e1, c1⟩ := pvC 0 ((hE.cons 13 (.int .i64 k)).cons 14 (.agg #[.int .i64 x.when, .int .i64 x.state, .int .i64 x.at'])) (w4p.st_as h.length (h.length + 1) (h.length + 2) g.length k x.when x.state x.at' g) ⟨rfl, a_st (get_new g _) (by simp) rfl, trivial⟩
  -- the heap of the body
  let g1 : Hp := (g ++ [AObj.cells [.int .i64 0, .int .i64 0, .int .i64 0] true]).set g.length (.cells x.cells true)
  let gb : Hp := g1.set (h.length + 4) (.loop .busy none E0 37 #[13, 14] AS49 BD49)
  have keep1 : ∀ {q : Nat} {o : AObj}, g[q]? = some o → g1[q]? = some o := fun hq => get_set_ne (get_push hq) (by have := get_lt hq; omega)
  have keepb : ∀ {q : Nat} {o : AObj}, g[q]? = some o → q ≠ h.length + 4 → gb[q]? = some o := fun hq hn => get_set_ne (keep1 hq) (Ne.symm hn)
  have hq1 : gb[g.length]? = some (.cells x.cells true) := get_set_ne (get_set_eq (get_new g _)) (by omega)
  have hL1 : gb[h.length + 4]? = some (.loop .busy none E0 37 #[13, 14] AS49 BD49) := get_set_eq (keep1 s.lp)
  have Kb : Keep (fun q => q = h.length + 4 ∨ g.length ≤ q) g gb := ((Keep.push (fun q => q = h.length + 4 ∨ g.length ≤ q) _ _).trans (Keep.set (fp := fun q => q = h.length + 4 ∨ g.length ≤ q) (.inr (Nat.le_refl _)) _)).trans (Keep.set (fp := fun q => q = h.length + 4 ∨ g.length ≤ q) (.inl rfl) _)
  have Kj : Keep (· = j) h gb := s.kp.trans_new Kb (fun q hq e => by rcases e with e | e <;> have := s.kp.1 <;> omega)
  have hEB : EnvLe [(6, .int .i64 k), (7, .pointer (some ⟨g.length, 0, none⟩)), (2, .pointer (some ⟨h.length, 0, none⟩)), (3, .pointer (some ⟨h.length + 1, 0, none⟩)), (5, .pointer (some ⟨h.length + 2, 0, none⟩))] E2 :=
    .trans (.add (.add (.add (.add (.add (.nil _) rfl) rfl) rfl) rfl) rfl) e1
  have hcall := hof gb Kj k hk
  have fin : ∀ {E4 : Env} {h4 : Hp}, CRun Try.prog 37 true BD49 E2 gb .normal E4 h4 → h4[h.length + 4]? = some (.loop .busy none E0 37 #[13, 14] AS49 BD49) →
      RunR Try.prog (h.length + 4) [.int .i64 k, .agg x.cells.toArray] g (.bool true) (h4.set (h.length + 4) (.loop .ready none E0 37 #[13, 14] AS49 BD49)) := fun hb h4 =>
    RunR.go s.lp rfl rfl c1 (keep1 s.lp) hb h4 rfl
  have no : stStep p k x = x → ¬ (x.state = 1 ∧ p k = true) → SI h i j t w (.func (.func fo) #[] ⟨cl⟩) p E0 k (gb.set (h.length + 4) (.loop .ready none E0 37 #[13, 14] AS49 BD49)) := by
    intro hst hsel
    have K : Keep (fun q => q = h.length + 4 ∨ g.length ≤ q) g (gb.set (h.length + 4) (.loop .ready none E0 37 #[13, 14] AS49 BD49)) := Kb.trans (Keep.set (fp := fun q => q = h.length + 4 ∨ g.length ≤ q) (.inl rfl) _)
    rw [hst] at f2
    have f2' : stL p w.svs (k + 1) = stL p w.svs k := by
      obtain ⟨hb, he⟩ := List.getElem?_eq_some_iff.1 f1
      rw [← f2, ← he, List.set_getElem_self hb]
    have hord : stO p k (w.svs.drop k) = stO p (k + 1) (w.svs.drop (k + 1)) := by rw [drop_cons hx]; simp only [stO, if_neg hsel, List.append_nil]
    refine s.next a K (fun q e => ?_) ?_ (K.2 _ _ hv (by omega)) ?_ (get_set_eq hL1)
    · omega
    · rw [← f2']; exact K.2 _ _ hsv (by omega)
    · rw [hord]; exact hov.keep K (fun q h1 h2 => by omega)
  by_cases hs : x.state = 1
  · by_cases hp : p k = true
    · -- it stops
      rw [hp] at hcall
      have hst : stStep p k x = { x with state := 2 } := by simp [stStep, hs, hp]
      rw [hst] at f2
      have hput := svC_state 2 f1
      rw [f2] at hput
      have ak1 : IntKind.i64.wrap ((k : Int) + 1) = ((k + 1 : Nat) : Int) := add1 (by omega)
      have hord : stO p k (w.svs.drop k) = stO p (k + 1) (w.svs.drop (k + 1)) ++ [⟨1, ((k + 1 : Nat) : Int), 0⟩] := by rw [drop_cons hx]; simp [stO, hs, hp]
      have n1 : h.length + 2 ≠ j := by omega
      have n2 : h.length + 4 ≠ j := by omega
      have hobj : gb[i]? = some (.cells (wCells { w with svs := stL p w.svs (k + 1) } j t) true) := keepb s.wat.obj (by omega)
      have hwc : (wCells { w with svs := stL p w.svs (k + 1) } j t)[6]? = some (.slice (some ⟨j, 0, none⟩) w.svs.length 3) := by simp [wCells, stL_len]
      have hjb := keepb hsv (by omega)
      have hgb : gb.length = g.length + 1 := by simp [gb, g1]
      rcases hov with ⟨rfl, hnil⟩ | ⟨o, rfl, ho, hbo, _⟩
      · obtain ⟨E4, q1, q2⟩ := pvC 0 hEB (w4p.st_yes0 i j w.svs.length h.length (h.length + 1) (h.length + 2) g.length (k * 3) (g.length + 1) (g.length + 2) k ((k + 1 : Nat) : Int) x.state fo cl (svC (stL p w.svs k)) [] gb)
          ⟨a_ld1 hq1 rfl, by simpa [Asm.holds, cmpB] using hs, a_ld1 (keepb s.bf (by omega)) rfl, hcall, a_ld1 (keepb s.bw (by omega)) rfl, a_ld1 hobj hwc, ⟨by omega, by omega, by simp⟩, a_st hjb (by rw [hll]; simp; omega) hput,
            a_ld1 (get_set_ne (keepb hv (by omega)) (Ne.symm n1)) rfl, by simp only [Asm.holds, arithI, ak1], by simp [Asm.holds, SH.den, hgb], ⟨rfl, ⟨_, cells_of (get_new' _ (by simp [SH.den, hgb])), by simp, rfl⟩, rfl, by omega, by omega, by simp [SH.den, hgb]⟩,
            a_st (get_push (get_push (get_set_ne (keepb hv (by omega)) (Ne.symm n1)))) (by simp) rfl, trivial⟩
        refine ⟨_, fin q2 (get_set_ne (get_push (get_push (get_set_ne hL1 (Ne.symm n2)))) (by omega)), ?_⟩
        have K : Keep (fun q => q = h.length + 4 ∨ g.length ≤ q ∨ q = j ∨ q = h.length + 2) g (((((gb.set j (.cells (svC (stL p w.svs k)) true)) ++ [AObj.cells [.int .i64 1, .int .i64 ((k + 1 : Nat) : Int), .int .i64 0] true]) ++
            [AObj.cells [.int .i64 1, .int .i64 ((k + 1 : Nat) : Int), .int .i64 0] true]).set (h.length + 2) (.cells [.slice (some ⟨g.length + 2, 0, none⟩) 1 3] true)).set (h.length + 4) (.loop .ready none E0 37 #[13, 14] AS49 BD49)) :=
          (((((Kb.mono (fp' := fun q => q = h.length + 4 ∨ g.length ≤ q ∨ q = j ∨ q = h.length + 2) (fun q _ e => by omega)).trans (Keep.set (fp := fun q => q = h.length + 4 ∨ g.length ≤ q ∨ q = j ∨ q = h.length + 2) (.inr (.inr (.inl rfl))) _)).trans (Keep.push _ _ _)).trans (Keep.push _ _ _)).trans
            (Keep.set (fp := fun q => q = h.length + 4 ∨ g.length ≤ q ∨ q = j ∨ q = h.length + 2) (.inr (.inr (.inr rfl))) _)).trans (Keep.set (fp := fun q => q = h.length + 4 ∨ g.length ≤ q ∨ q = j ∨ q = h.length + 2) (.inl rfl) _)
        refine s.next a K (fun q e => by omega) (get_set_ne (get_set_ne (get_push (get_push (get_set_eq hjb))) n1) n2) (get_set_ne (get_set_eq (get_push (get_push (get_set_ne (keepb hv (by omega)) (Ne.symm n1))))) (by omega)) ?_
          (get_set_eq (get_set_ne (get_push (get_push (get_set_ne hL1 (Ne.symm n2)))) (by omega)))
        refine .inr ⟨g.length + 2, by rw [hord, hnil]; rfl, ?_, by omega, by rw [hord]; simp⟩
        rw [hord, hnil]
        exact get_set_ne (get_set_ne (get_new' _ (by simp [SH.den, hgb])) (by omega)) (by omega)
      · have hlo := svC_len (stO p (k + 1) (w.svs.drop (k + 1)))
        have hno : (stO p (k + 1) (w.svs.drop (k + 1))).length ≤ 8 := by have := stO_len p (k + 1) (w.svs.drop (k + 1)); simp at this; omega
        have hgo' := get_lt ho
        have noj : o ≠ j := by omega
        have hcs : (svC (stO p (k + 1) (w.svs.drop (k + 1)))).take ((stO p (k + 1) (w.svs.drop (k + 1))).length * 3) ++ [.int .i64 1, .int .i64 ((k + 1 : Nat) : Int), .int .i64 0] = svC (stO p k (w.svs.drop k)) := by
          rw [hord, svC_app, List.take_of_length_le (by omega)]; rfl
        obtain ⟨E4, q1, q2⟩ := pvC 0 hEB (w4p.st_yes1 o (stO p (k + 1) (w.svs.drop (k + 1))).length i j w.svs.length h.length (h.length + 1) (h.length + 2) g.length (k * 3) (g.length + 1) (g.length + 2) k ((k + 1 : Nat) : Int) x.state fo cl (svC (stL p w.svs k)) (svC (stO p k (w.svs.drop k))) gb)
          ⟨a_ld1 hq1 rfl, by simpa [Asm.holds, cmpB] using hs, a_ld1 (keepb s.bf (by omega)) rfl, hcall, a_ld1 (keepb s.bw (by omega)) rfl, a_ld1 hobj hwc, ⟨by omega, by omega, by simp⟩, a_st hjb (by rw [hll]; simp; omega) hput,
            a_ld1 (get_set_ne (keepb hv (by omega)) (Ne.symm n1)) rfl, by simp only [Asm.holds, arithI, ak1], by simp [Asm.holds, SH.den, hgb], ⟨rfl, ⟨_, cells_of (get_new' _ (by simp [SH.den, hgb])), by simp, rfl⟩, rfl, by omega, by omega, ⟨_, own_of (get_push (get_set_ne (keepb ho (by omega)) (Ne.symm noj))), by omega, hcs⟩, by simp [SH.den, hgb]⟩,
            a_st (get_push (get_set_ne (get_push (get_set_ne (keepb hv (by omega)) (Ne.symm n1))) (by omega))) (by simp) rfl, trivial⟩
        refine ⟨_, fin q2 (get_set_ne (get_push (get_set_ne (get_push (get_set_ne hL1 (Ne.symm n2))) (by omega))) (by omega)), ?_⟩
        have K : Keep (fun q => q = h.length + 4 ∨ g.length ≤ q ∨ q = j ∨ q = h.length + 2 ∨ q = o) g ((((((gb.set j (.cells (svC (stL p w.svs k)) true)) ++ [AObj.cells [.int .i64 1, .int .i64 ((k + 1 : Nat) : Int), .int .i64 0] true]).set o .dead) ++
            [AObj.cells (svC (stO p k (w.svs.drop k))) true]).set (h.length + 2) (.cells [.slice (some ⟨g.length + 2, 0, none⟩) ((stO p (k + 1) (w.svs.drop (k + 1))).length + 1) 3] true)).set (h.length + 4) (.loop .ready none E0 37 #[13, 14] AS49 BD49)) :=
          ((((((Kb.mono (fp' := fun q => q = h.length + 4 ∨ g.length ≤ q ∨ q = j ∨ q = h.length + 2 ∨ q = o) (fun q _ e => by omega)).trans (Keep.set (fp := fun q => q = h.length + 4 ∨ g.length ≤ q ∨ q = j ∨ q = h.length + 2 ∨ q = o) (.inr (.inr (.inl rfl))) _)).trans (Keep.push _ _ _)).trans
            (Keep.set (fp := fun q => q = h.length + 4 ∨ g.length ≤ q ∨ q = j ∨ q = h.length + 2 ∨ q = o) (.inr (.inr (.inr (.inr rfl)))) _)).trans (Keep.push _ _ _)).trans
            (Keep.set (fp := fun q => q = h.length + 4 ∨ g.length ≤ q ∨ q = j ∨ q = h.length + 2 ∨ q = o) (.inr (.inr (.inr (.inl rfl)))) _)).trans (Keep.set (fp := fun q => q = h.length + 4 ∨ g.length ≤ q ∨ q = j ∨ q = h.length + 2 ∨ q = o) (.inl rfl) _)
        refine s.next a K (fun q e => by omega) (get_set_ne (get_set_ne (get_push (get_set_ne (get_push (get_set_eq hjb)) noj)) n1) n2)
          (get_set_ne (get_set_eq (get_push (get_set_ne (get_push (get_set_ne (keepb hv (by omega)) (Ne.symm n1))) (by omega)))) (by omega)) ?_
          (get_set_eq (get_set_ne (get_push (get_set_ne (get_push (get_set_ne hL1 (Ne.symm n2))) (by omega))) (by omega)))
        refine .inr ⟨g.length + 2, by rw [hord]; simp, ?_, by omega, by rw [hord]; simp⟩
        exact get_set_ne (get_set_ne (get_new' _ (by simp [SH.den, hgb])) (by omega)) (by omega)
    · -- it is not named
      have hp' : p k = false := by simpa using hp
      rw [hp'] at hcall
      obtain ⟨E4, q1, q2⟩ := pvC 0 hEB (w4p.st_no2 h.length (h.length + 1) (h.length + 2) g.length k x.state fo cl gb) ⟨a_ld1 hq1 rfl, by simpa [Asm.holds, cmpB] using hs, a_ld1 (keepb s.bf (by omega)) rfl, hcall, trivial⟩
      exact ⟨_, fin q2 hL1, no (by simp [stStep, hp']) (fun e => hp e.2)⟩
  · -- it does not run
    obtain ⟨E4, q1, q2⟩ := pvC 0 hEB (w4p.st_no1 h.length (h.length + 1) (h.length + 2) g.length k x.state gb) ⟨a_ld1 hq1 rfl, by simpa [Asm.holds, cmpB] using hs, trivial⟩
    exact ⟨_, fin q2 hL1, no (by simp [stStep, hs]) (fun e => hs e.1)⟩

theorem body71 : Try.f71.body = some (.seq (partC Try.f71 [0]) (.block 0 (.loop (loopN Try.f71 0)))) := by kernel_rfl
theorem body49 : Try.f49.body = some (.seq (partC Try.f49 [0]) (.seq (partC Try.f49 [1, 0]) (.seq (.seq (partC Try.f49 [1, 1, 0, 0]) (.block 0 (.rangeFunc (.tmp 12) #[13, 14] AS49 BD49))) (partC Try.f49 [1, 1, 1])))) := by kernel_rfl
theorem sub1 {k : Nat} (h : k < 1000000000000) : IntKind.i64.wrap ((k : Int) - 1) = (k : Int) - 1 := wrap_id (by omega) (by omega)

/-- The walk from the last service to the first. -/
theorem backward_run (a : WAt h i j t w) (hw : WOk w) {fo : FuncId} {cl : List Value} {p : Nat → Bool} {E0 : Env} (hE : EnvLe [(2, .pointer (some ⟨h.length, 0, none⟩)), (3, .pointer (some ⟨h.length + 1, 0, none⟩)), (5, .pointer (some ⟨h.length + 2, 0, none⟩))] E0)
    (hof : ∀ g, Keep (· = j) h g → ∀ k : Nat, k < w.svs.length → Run Try.prog fo (.int .i64 k :: cl) g (.bool (p k)) g) {g : Hp} (s : SI h i j t w (.func (.func fo) #[] ⟨cl⟩) p E0 w.svs.length g) :
    ∃ g', Run Try.prog 71 [.func (.yield (h.length + 4)) #[] #[], .pointer (some ⟨h.length + 3, 0, none⟩)] g (.tuple #[]) g' ∧ SI h i j t w (.func (.func fo) #[] ⟨cl⟩) p E0 0 g' := by
  have n8 := hw.n8
  obtain ⟨E1, e1, c1⟩ := pvC 0 (EnvLe.refl _) (w4p.bk_r0 (h.length + 3) j w.svs.length (h.length + 4) ((w.svs.length : Int) - 1) g) ⟨a_ld1 s.bs rfl, by simp only [Asm.holds, arithI]; exact congrArg some (sub1 (by omega)), trivial⟩
  obtain ⟨x', E2, g2, hl, rfl, hs⟩ := loop_inv (P := Try.prog) (n := 19) (rd := false) (b := loopN Try.f71 0) (Q := fun x' _ g' => x' = .exit 0 ∧ SI h i j t w (.func (.func fo) #[] ⟨cl⟩) p E0 0 g')
    (fun m E g => m ≤ w.svs.length ∧ EnvLe [(3, .int .i64 ((m : Int) - 1)), (1, .pointer (some ⟨h.length + 3, 0, none⟩)), (0, .func (.yield (h.length + 4)) #[] #[])] E ∧ SI h i j t w (.func (.func fo) #[] ⟨cl⟩) p E0 m g)
    (fun m E g ⟨k1, k2, k3⟩ => by
      cases m with
      | zero =>
        right
        obtain ⟨E2, q1, q2⟩ := pvC 0 k2 (w4p.bk_end (h.length + 3) (h.length + 4) (((0 : Nat) : Int) - 1) g) ⟨by simp [Asm.holds, cmpB], trivial⟩
        exact ⟨_, E2, _, by simp, q2, rfl, k3⟩
      | succ k =>
        left
        obtain ⟨x, hx⟩ : ∃ x, w.svs[k]? = some x := ⟨_, List.getElem?_eq_getElem (by omega)⟩
        obtain ⟨g', r1, r2⟩ := stop_round a hw hE hof hx k3
        have hsv := k3.wat.svs
        simp only [] at hsv
        have hll : (svC (stL p w.svs (k + 1))).length = w.svs.length * 3 := by rw [svC_len, stL_len]
        rw [show ((k + 1 : Nat) : Int) - 1 = (k : Int) by omega] at k2
        obtain ⟨E2, q1, q2⟩ := pvC 0 k2 (w4p.bk_go (h.length + 3) j w.svs.length (h.length + 4) (k * 3) k ((k : Int) - 1) x.when x.state x.at' g g')
          ⟨by simp [Asm.holds, cmpB], a_ld1 k3.bs rfl, ⟨by omega, by omega, by simp⟩, a_ldn hsv (by omega) (svC_cut (stL_step p hx).1), r1, by simp only [Asm.holds, arithI]; exact congrArg some (sub1 (by omega)), trivial⟩
        exact ⟨k, E2, _, by omega, q2, by omega, .trans (.add (.add (.add (.nil _) rfl) rfl) rfl) q1, r2⟩)
    w.svs.length E1 g ⟨Nat.le_refl _, .trans (.add (.add (.add (.nil _) rfl) rfl) rfl) e1, s⟩
  exact ⟨g2, Run.code Try.func71 body71 (.inl rfl) (c1.seq (CRun.block 0 (.of_loop hl))) rfl, hs⟩

/-- 'stop': those that run and are named are told to stop. -/
theorem stop_run (a : WAt h i j t w) (hw : WOk w) {fo : FuncId} {cl : List Value} {p : Nat → Bool}
    (hof : ∀ g, Keep (· = j) h g → ∀ k : Nat, k < w.svs.length → Run Try.prog fo (.int .i64 k :: cl) g (.bool (p k)) g) :
    ∃ v h', Run Try.prog 49 [.pointer (some ⟨i, 0, none⟩), .func (.func fo) #[] ⟨cl⟩] h v h' ∧ WAt h' i j t { w with svs := stS p 0 w.svs } ∧ OrdAt h' h.length v (stO p 0 w.svs) ∧ Keep (· = j) h h' := by
  have n8 := hw.n8
  obtain ⟨E1, e1, c1⟩ := pvC 1 (EnvLe.refl _) (w4p.st_pre i j w.svs.length h.length (h.length + 1) (h.length + 2) (h.length + 3) (.func (.func fo) #[] ⟨cl⟩) [] h)
    ⟨rfl, by simp [Asm.holds, SH.den], by simp [Asm.holds, SH.den], a_ld1 (get_push (get_push (get_new h _))) rfl, a_ld1 (get_push (get_push (get_push a.obj))) rfl, by simp [Asm.holds, SH.den], trivial⟩
  let h4 : Hp := h ++ [AObj.cells [.pointer (some ⟨i, 0, none⟩)] true] ++ [AObj.cells [.func (.func fo) #[] ⟨cl⟩] true] ++ [AObj.cells [.slice none 0 0] true] ++ [AObj.cells [.slice (some ⟨j, 0, none⟩) w.svs.length 3] true]
  have hl4 : h4.length = h.length + 4 := by simp [h4]
  have hE1 : EnvLe [(2, .pointer (some ⟨h.length, 0, none⟩)), (3, .pointer (some ⟨h.length + 1, 0, none⟩)), (5, .pointer (some ⟨h.length + 2, 0, none⟩))] E1 := .trans (.add (.add (.add (.nil _) rfl) rfl) rfl) e1
  let g0 : Hp := h4 ++ [.loop .ready none E1 37 #[13, 14] AS49 BD49]
  have K0 : Keep (· = j) h g0 := ((((Keep.push _ _ _).trans (Keep.push _ _ _)).trans (Keep.push _ _ _)).trans (Keep.push _ _ _)).trans (Keep.push _ _ _)
  have K0' : Keep (fun _ => False) h g0 := ((((Keep.push _ _ _).trans (Keep.push _ _ _)).trans (Keep.push _ _ _)).trans (Keep.push _ _ _)).trans (Keep.push _ _ _)
  have s0 : SI h i j t w (.func (.func fo) #[] ⟨cl⟩) p E1 w.svs.length g0 := by
    have hw0 : ({ w with svs := stL p w.svs w.svs.length } : WS) = w := by simp [stL, stS]
    refine ⟨by rw [hw0]; exact a.keep K0' (fun q _ hq => hq.elim), ?_, ?_, ⟨.slice none 0 0, ?_, .inl ⟨rfl, by simp [stO]⟩⟩, ?_, ?_, K0⟩
    · exact get_push (get_push (get_push (get_push (get_new h _))))
    · exact get_push (get_push (get_push (get_new' _ (by simp))))
    · exact get_push (get_push (get_new' _ (by simp)))
    · exact get_push (get_new' _ (by simp))
    · exact get_new' _ hl4
  obtain ⟨g1, hr, s1⟩ := backward_run a hw hE1 hof s0
  have hg : evalO E1 (.tmp 12) = some (.func (.func 71) #[] #[.pointer (some ⟨h.length + 3, 0, none⟩)]) := e1 12 _ rfl
  have hr' : Run Try.prog 71 ([.func (.yield h4.length) #[] #[]] ++ (#[.pointer (some ⟨h.length + 3, 0, none⟩)] : Array Value).toList) (h4 ++ [.loop .ready none E1 37 #[13, 14] AS49 BD49]) (.tuple #[]) g1 := by rw [hl4]; exact hr
  have c2 : CRun Try.prog 37 false (.rangeFunc (.tmp 12) #[13, 14] AS49 BD49) E1 h4 .normal E1 (g1.set h4.length .dead) := CRun.range (pend := none) hg hr' (by rw [hl4]; exact s1.lp) rfl
  rw [hl4] at c2
  obtain ⟨v, hv, hov⟩ := s1.bo
  have Kd : Keep (fun q => q = h.length + 4) g1 (g1.set (h.length + 4) .dead) := Keep.set (fp := fun q => q = h.length + 4) rfl _
  obtain ⟨E3, e3, c3⟩ := pvC 0 (.trans (.add (.nil _) rfl) hE1) (w4p.st_post (h.length + 2) v (g1.set (h.length + 4) .dead)) ⟨a_ld1 (Kd.2 _ _ hv (by omega)) rfl, trivial⟩
  have hfin : stL p w.svs 0 = stS p 0 w.svs := by simp [stL]
  refine ⟨v, g1.set (h.length + 4) .dead, ?_, ?_, ?_, ?_⟩
  · refine Run.code Try.func49 body49 (.inr rfl) (CRun.pre3 c1 (CRun.blockN 0 c2) c3) ?_
    have h4' := e3 4 v rfl
    exact evResults_one rfl h4'
  · have := s1.wat.keep Kd (fun q hq e hf => by have := a.lts q hf; omega)
    rw [hfin] at this; exact this
  · have := hov.keep Kd (fun q h1 h2 => by omega)
    exact this.base (by omega)
  · exact s1.kp.trans_new Kd (fun q hq e => by omega)

end Go.Proofs.Ytkkhokgpcifckaa.wd

namespace Go.Proofs.Ytkkhokgpcifckaa.wd
open Go Go.Ev

variable {h : Hp} {i j : Nat} {t : Option Nat} {w : WS}

/-! ### Rounds over the services that rewrite them in place -/

def mS (f : Nat → Sv → Sv) : Nat → List Sv → List Sv
  | _, [] => []
  | n, x :: l => f n x :: mS f (n + 1) l
theorem mS_len (f : Nat → Sv → Sv) : ∀ (n : Nat) (l : List Sv), (mS f n l).length = l.length
  | _, [] => rfl
  | n, x :: l => by simp [mS, mS_len f (n + 1) l]
theorem mS_snoc (f : Nat → Sv → Sv) : ∀ (n : Nat) (l : List Sv) (x : Sv), mS f n (l ++ [x]) = mS f n l ++ [f (n + l.length) x]
  | n, [], x => rfl
  | n, y :: l, x => by
    simp only [List.cons_append, mS, mS_snoc f (n + 1) l x, List.length_cons]
    rw [show n + 1 + l.length = n + (l.length + 1) by omega]

def mL (f : Nat → Sv → Sv) (l : List Sv) (k : Nat) : List Sv := mS f 0 (l.take k) ++ l.drop k
theorem mL_len (f : Nat → Sv → Sv) (l : List Sv) (k : Nat) : (mL f l k).length = l.length := by simp [mL, mS_len]; omega
theorem mL_step (f : Nat → Sv → Sv) {l : List Sv} {k : Nat} {x : Sv} (hx : l[k]? = some x) : (mL f l k)[k]? = some x ∧ (mL f l k).set k (f k x) = mL f l (k + 1) := by
  have hk := get_lt' hx
  have hl : (mS f 0 (l.take k)).length = k := by rw [mS_len]; simp; omega
  unfold mL
  refine ⟨?_, ?_⟩
  · rw [List.getElem?_append_right (by omega), hl, Nat.sub_self, drop_cons hx]; rfl
  · have : (l.take k).length = k := by simp; omega
    rw [List.set_append_right _ _ (by omega), hl, Nat.sub_self, drop_cons hx, List.set_cons_zero, take_snoc hx, mS_snoc, this, Nat.zero_add, List.append_assoc]; rfl

theorem map_loop {nn : Nat} {b : Code} (Ek : Nat → Env) (E' : Env) (id : Nat) (f : Nat → Sv → Sv) (a : WAt h i j t w)
    (hend : ∀ E g, EnvLe (Ek w.svs.length) E → ∃ E1, EnvLe E' E1 ∧ CRun Try.prog nn false b E g (.exit id) E1 g)
    (hround : ∀ k x E g, w.svs[k]? = some x → EnvLe (Ek k) E → WAt g i j t { w with svs := mL f w.svs k } → (mL f w.svs k)[k]? = some x → Keep (· = j) h g →
      ∃ E1 g1, EnvLe (Ek (k + 1)) E1 ∧ CRun Try.prog nn false b E g .normal E1 g1 ∧ g1[j]? = some (.cells (svC (mL f w.svs (k + 1))) true) ∧ Keep (fun q => q = j ∨ g.length ≤ q) g g1)
    {E0 : Env} (hE : EnvLe (Ek 0) E0) : ∃ E1 h1, EnvLe E' E1 ∧ LRun Try.prog nn false b E0 h (.exit id) E1 h1 ∧ WAt h1 i j t { w with svs := mS f 0 w.svs } ∧ Keep (· = j) h h1 := by
  obtain ⟨x', E1, h1, hl1, rfl, q1, q2, q3⟩ := loop_inv (P := Try.prog) (n := nn) (rd := false) (b := b)
    (Q := fun x' E1 h1 => x' = .exit id ∧ EnvLe E' E1 ∧ WAt h1 i j t { w with svs := mS f 0 w.svs } ∧ Keep (· = j) h h1)
    (fun m E g => ∃ k, k ≤ w.svs.length ∧ m = w.svs.length - k ∧ EnvLe (Ek k) E ∧ WAt g i j t { w with svs := mL f w.svs k } ∧ Keep (· = j) h g)
    (fun m E g ⟨k, k1, k2, k3, k4, k5⟩ => by
      by_cases e : k = w.svs.length
      · right
        subst e
        obtain ⟨E1, r1, r2⟩ := hend E g k3
        refine ⟨_, E1, g, by simp, r2, rfl, r1, ?_, k5⟩
        have : mL f w.svs w.svs.length = mS f 0 w.svs := by simp [mL]
        rw [← this]; exact k4
      · left
        obtain ⟨x, hx⟩ : ∃ x, w.svs[k]? = some x := ⟨_, List.getElem?_eq_getElem (by omega)⟩
        obtain ⟨E1, g1, r1, r2, r3, r4⟩ := hround k x E g hx k3 k4 (mL_step f hx).1 k5
        refine ⟨w.svs.length - (k + 1), E1, g1, by omega, r2, k + 1, by omega, rfl, r1, ?_, ?_⟩
        · refine k4.put r4 (fun q hq e => ?_) r3 (by simp [mL_len])
          rcases e with e | e
          · exact .inl e
          · omega
        · exact k5.trans_new r4 (fun q hq e => by rcases e with e | e <;> have := k5.1 <;> omega))
    w.svs.length E0 h ⟨0, by omega, rfl, hE, by simpa [mL, mS] using a, .refl _ _⟩
  exact ⟨E1, h1, q1, hl1, q2, q3⟩

/-! ### giveUp -/

def gvStep (_ : Nat) (x : Sv) : Sv := if x.state = 3 ∨ x.state = 4 then ⟨x.when, 5, 0⟩ else x

theorem stat46 : statOk (drawN Try.f46 0) = true := by kernel_rfl

theorem svC_same {l : List Sv} {k : Nat} {x : Sv} (hx : l[k]? = some x) : l.set k x = l := by
  obtain ⟨hb, he⟩ := List.getElem?_eq_some_iff.1 hx
  rw [← he]; exact List.set_getElem_self hb

theorem gu_loop (a : WAt h i j t w) (hw : WOk w) : ∃ E1 h1, EnvLe [(0, .pointer (some ⟨i, 0, none⟩))] E1 ∧
    LRun Try.prog 51 false (loopN Try.f46 0) [(23, .int .i64 ((0 : Nat) : Int)), (22, .int .i64 (Int.ofNat w.svs.length)), (21, .slice (some ⟨j, 0, none⟩) w.svs.length 3), (0, .pointer (some ⟨i, 0, none⟩))] h (.exit 0) E1 h1 ∧
    WAt h1 i j t { w with svs := mS gvStep 0 w.svs } ∧ Keep (· = j) h h1 := by
  have n8 := hw.n8
  refine map_loop (fun k => [(23, .int .i64 (k : Nat)), (22, .int .i64 (Int.ofNat w.svs.length)), (21, .slice (some ⟨j, 0, none⟩) w.svs.length 3), (0, .pointer (some ⟨i, 0, none⟩))]) _ 0 gvStep a ?_ ?_ (EnvLe.refl _)
  · intro E g hE
    obtain ⟨E2, q1, q2⟩ := pvC 0 hE (w5p.gu_end i j w.svs.length w.svs.length g) ⟨by simp [Asm.holds, cmpB], trivial⟩
    exact ⟨E2, .trans (.add (.nil _) rfl) q1, q2⟩
  · intro k x E g hx hE hwa f1 hk
    have hkl := get_lt' hx
    have hsv := hwa.svs
    have hobj := hwa.obj
    simp only [] at hsv
    have hll : (svC (mL gvStep w.svs k)).length = w.svs.length * 3 := by rw [svC_len, mL_len]
    have hwc : (wCells { w with svs := mL gvStep w.svs k } j t)[6]? = some (.slice (some ⟨j, 0, none⟩) w.svs.length 3) := by simp [wCells, mL_len]
    have f2 := (mL_step gvStep hx).2
    have hgj := get_lt hsv
    have pre1 : (Asm.cmp .lss (k : Int) (Int.ofNat w.svs.length) true).holds Try.prog := by simp [Asm.holds, cmpB]; omega
    have ak1 : IntKind.i64.wrap ((k : Int) + 1) = ((k + 1 : Nat) : Int) := add1 (by omega)
    have hgo : ∀ {q : Nat} {o y : AObj}, g[q]? = some o → ((g ++ [AObj.cells [.int .i64 0, .int .i64 0, .int .i64 0] true]).set g.length y)[q]? = some o := fun hq => get_set_ne (get_push hq) (by have := get_lt hq; omega)
    have K1 : Keep (fun q => q = j ∨ g.length ≤ q) g ((g ++ [AObj.cells [.int .i64 0, .int .i64 0, .int .i64 0] true]).set g.length (.cells x.cells true)) := (Keep.push (fun q => q = j ∨ g.length ≤ q) _ _).trans (Keep.set (fp := fun q => q = j ∨ g.length ≤ q) (.inr (Nat.le_refl _)) _)
    have K2 := fun c => K1.trans (Keep.set (fp := fun q => q = j ∨ g.length ≤ q) (i := j) (.inl rfl) c)
    by_cases h3 : x.state = 3
    · have hst : gvStep k x = ⟨x.when, 5, 0⟩ := by simp [gvStep, h3]
      have hput := svC_put (⟨x.when, 5, 0⟩ : Sv) f1
      rw [← hst, f2, hst] at hput
      obtain ⟨E2, q1, q2⟩ := pvC 0 hE (w5p.gu_off i j w.svs.length k g (k * 3) g.length x.when x.state x.at' ((k + 1 : Nat) : Int) (svC (mL gvStep w.svs (k + 1))))
        ⟨pre1, ⟨by omega, by omega, by simp⟩, a_ldn hsv (by omega) (svC_cut f1), rfl, a_st (get_new g _) (by simp) rfl, a_ld1 (get_set_eq (get_new g _)) rfl, by simpa [Asm.holds, cmpB] using h3, stat46, a_ld1 (hgo hobj) hwc, a_ld1 (get_set_eq (get_new g _)) rfl,
          ⟨by omega, by omega, by simp⟩, a_st (hgo hsv) (by rw [hll]; simp; omega) hput, by simp only [Asm.holds, arithI, ak1], trivial⟩
      exact ⟨E2, _, .trans (.add (.add (.add (.add (.nil _) rfl) rfl) rfl) rfl) q1, q2, get_set_eq (hgo hsv), K2 _⟩
    · by_cases h4 : x.state = 4
      · have hst : gvStep k x = ⟨x.when, 5, 0⟩ := by simp [gvStep, h4]
        have hput := svC_put (⟨x.when, 5, 0⟩ : Sv) f1
        rw [← hst, f2, hst] at hput
        obtain ⟨E2, q1, q2⟩ := pvC 0 hE (w5p.gu_due i j w.svs.length k g (k * 3) g.length x.when x.state x.at' ((k + 1 : Nat) : Int) (svC (mL gvStep w.svs (k + 1))))
          ⟨pre1, ⟨by omega, by omega, by simp⟩, a_ldn hsv (by omega) (svC_cut f1), rfl, a_st (get_new g _) (by simp) rfl, a_ld1 (get_set_eq (get_new g _)) rfl, by simpa [Asm.holds, cmpB] using h3, a_ld1 (get_set_eq (get_new g _)) rfl, by simpa [Asm.holds, cmpB] using h4, stat46,
            a_ld1 (hgo hobj) hwc, a_ld1 (get_set_eq (get_new g _)) rfl, ⟨by omega, by omega, by simp⟩, a_st (hgo hsv) (by rw [hll]; simp; omega) hput, by simp only [Asm.holds, arithI, ak1], trivial⟩
        exact ⟨E2, _, .trans (.add (.add (.add (.add (.nil _) rfl) rfl) rfl) rfl) q1, q2, get_set_eq (hgo hsv), K2 _⟩
      · have hst : gvStep k x = x := by simp [gvStep, h3, h4]
        rw [hst, svC_same f1] at f2
        obtain ⟨E2, q1, q2⟩ := pvC 0 hE (w5p.gu_no i j w.svs.length k g (k * 3) g.length x.when x.state x.at' ((k + 1 : Nat) : Int))
          ⟨pre1, ⟨by omega, by omega, by simp⟩, a_ldn hsv (by omega) (svC_cut f1), rfl, a_st (get_new g _) (by simp) rfl, a_ld1 (get_set_eq (get_new g _)) rfl, by simpa [Asm.holds, cmpB] using h3, a_ld1 (get_set_eq (get_new g _)) rfl, by simpa [Asm.holds, cmpB] using h4,
            by simp only [Asm.holds, arithI, ak1], trivial⟩
        refine ⟨E2, _, .trans (.add (.add (.add (.add (.nil _) rfl) rfl) rfl) rfl) q1, q2, ?_, K1⟩
        rw [← f2]; exact hgo hsv

def stopped (p : Nat → Bool) (w : WS) : WS := { w with svs := stS p 0 w.svs }

/-- Service n (from 1 on) in a state. -/
def setSt (l : List Sv) (n : Int) (s : Int) : List Sv := match l[(n - 1).toNat]? with
  | some x => l.set (n - 1).toNat { x with state := s }
  | none => l
theorem setSt_len (l : List Sv) (n s : Int) : (setSt l n s).length = l.length := by unfold setSt; split <;> simp

def gave (w : WS) (n : Int) : WS := { w with given := true, svs := mS gvStep 0 (setSt w.svs n 5) }
def giveUpF (w : WS) (n : Int) : WS × List Sv := (stopped (fun _ => true) (gave w n), ⟨3, 0, 0⟩ :: stO (fun _ => true) 0 (gave w n).svs)

theorem all_run (g : Hp) (k : Int) : Run Try.prog 60 [.int .i64 k] g (.bool true) g := pvF 0 Try.func60 (w5p.all k g) trivial

theorem giveUp_run (a : WAt h i j t w) (hw : WOk w) {n : Int} (hn : 1 ≤ n ∧ n ≤ w.svs.length) :
    ∃ v h', Run Try.prog 46 [.pointer (some ⟨i, 0, none⟩), .int .i64 n] h v h' ∧ WAt h' i j t (giveUpF w n).1 ∧ OrdAt h' h.length v (giveUpF w n).2 ∧ Keep (fun q => q = i ∨ q = j) h h' := by
  have n8 := hw.n8
  have hil := get_lt a.obj
  have hjl := get_lt a.svs
  have hk : (n - 1).toNat < w.svs.length := by omega
  have hx := List.getElem?_eq_getElem hk
  have ar : IntKind.i64.wrap (n - 1) = n - 1 := wrap_id (by omega) (by omega)
  -- given, and gone
  have a1 : WAt (h.set i (.cells (wCells { w with given := true } j t) true)) i j t { w with given := true } :=
    ⟨get_set_eq a.obj, get_set_ne a.svs a.ne, by
      rcases a.tms with q1 | ⟨q, q1, q2, q3, q4⟩
      · exact .inl q1
      · exact .inr ⟨q, q1, get_set_ne q2 (Ne.symm q3), q3, q4⟩, a.ne⟩
  have hss : setSt w.svs n 5 = w.svs.set (n - 1).toNat { w.svs[(n - 1).toNat] with state := 5 } := by simp only [setSt, hx]
  have K1 : Keep (fun q => q = i ∨ q = j) h ((h.set i (.cells (wCells { w with given := true } j t) true)).set j (.cells (svC (setSt w.svs n 5)) true)) := (Keep.set (fp := fun q => q = i ∨ q = j) (.inl rfl) _).trans (Keep.set (fp := fun q => q = i ∨ q = j) (.inr rfl) _)
  have a2 : WAt ((h.set i (.cells (wCells { w with given := true } j t) true)).set j (.cells (svC (setSt w.svs n 5)) true)) i j t { w with given := true, svs := setSt w.svs n 5 } :=
    a1.put (Keep.set (fp := fun q => q = j) rfl _) (fun q _ e => .inl e) (get_set_eq a1.svs) (setSt_len _ _ _)
  have hw2 : WOk { w with given := true, svs := setSt w.svs n 5 } := ⟨by simp only [setSt_len]; exact hw.n1, by simp only [setSt_len]; exact hw.n8, hw.most, hw.within, hw.base, hw.cap, hw.now, hw.delay, hw.times, hw.rule⟩
  obtain ⟨E1, h2, hE1, hl, a3, K3⟩ := gu_loop a2 hw2
  have hw3 : WOk (gave w n) := ⟨by simp only [gave, mS_len, setSt_len]; exact hw.n1, by simp only [gave, mS_len, setSt_len]; exact hw.n8, hw.most, hw.within, hw.base, hw.cap, hw.now, hw.delay, hw.times, hw.rule⟩
  -- the rest are told to stop
  have a4 : WAt (h2 ++ [AObj.cells [.int .i64 3, .int .i64 0, .int .i64 0] true]) i j t (gave w n) := a3.app _
  obtain ⟨v, h3, hr, a5, o5, K5⟩ := stop_run a4 hw3 (fo := 60) (cl := []) (p := fun _ => true) (fun g _ k _ => all_run g k)
  have Kall : Keep (fun q => q = i ∨ q = j) h h3 := ((K1.trans (K3.mono fun q _ e => .inr e)).trans (Keep.push _ _ _)).trans (K5.mono fun q _ e => .inr e)
  have hlen : h.length ≤ h2.length := (K1.trans (K3.mono fun q _ e => .inr e)).1
  have hb : h3[h2.length]? = some (.cells (svC [⟨3, 0, 0⟩]) true) := K5.2 _ _ (get_new h2 _) (by omega)
  have st1 := a_st (P := Try.prog) (s := .is h) (d := 10) (l := [.bool true]) (c' := wCells { w with given := true } j t) a.obj (by simp [wCells]) rfl
  have hput := svC_state 5 hx
  rw [← hss] at hput
  have hlc := svC_len w.svs
  have st2 := a_st (P := Try.prog) (s := .set (.is h) i (.cells (wCells { w with given := true } j t) true)) (d := (n - 1).toNat * 3 + 1) (l := [.int .i64 5]) (c' := svC (setSt w.svs n 5)) a1.svs (by simp; omega) hput
  have pl : plainC (loopN Try.f46 0) = true := by kernel_rfl
  simp only [setSt_len] at hl
  obtain ⟨L2, hL2⟩ : ∃ L2, stO (fun _ => true) 0 (gave w n).svs = L2 := ⟨_, rfl⟩
  have e2 : (giveUpF w n).2 = ⟨3, 0, 0⟩ :: L2 := by rw [← hL2]; rfl
  have hol : L2.length ≤ 8 := by have := stO_len (fun _ => true) 0 (gave w n).svs; have := hw3.n8; rw [hL2] at *; omega
  rw [e2]
  rw [hL2] at o5
  rcases o5 with ⟨rfl, hnil⟩ | ⟨o, rfl, ho, hbo, hne⟩
  · refine ⟨_, h3, pvF 0 Try.func46 (w5p.gu0 i j w.svs.length ((n - 1).toNat * 3) h2.length n (n - 1) (wCells { w with given := true } j t) (svC (setSt w.svs n 5)) h h2 h3)
      ⟨st1, a_ld1 a1.obj rfl, by simp only [Asm.holds, arithI, ar], ⟨by omega, by omega, by omega⟩, st2, a_ld1 (get_set_ne a1.obj (Ne.symm a.ne)) rfl, a_loop pl (.add (.add (.add (.add (.nil _) rfl) rfl) rfl) rfl) hE1 hl, rfl, hr, trivial⟩, a5, ?_, Kall⟩
    rw [hnil]
    exact .inr ⟨h2.length, rfl, hb, hlen, by simp⟩
  · have hbl : h2.length < h3.length := get_lt hb
    have hob : o ≠ h2.length := by simp at hbo; omega
    have hpath := w5p.gu1 i j w.svs.length ((n - 1).toNat * 3) h2.length n (n - 1) (wCells { w with given := true } j t) (svC (setSt w.svs n 5)) h h2 h3 o L2.length (L2.length - 1) h3.length (svC ([⟨3, 0, 0⟩] ++ L2)) (svC L2)
    have hrun := pvF 0 Try.func46 hpath
      ⟨st1, a_ld1 a1.obj rfl, by simp only [Asm.holds, arithI, ar], ⟨by omega, by omega, by omega⟩, st2, a_ld1 (get_set_ne a1.obj (Ne.symm a.ne)) rfl, a_loop pl (.add (.add (.add (.add (.nil _) rfl) rfl) rfl) rfl) hE1 hl, rfl, hr,
        a_app3 (s := .is h3) (o1 := h2.length) (o2 := o) (l1 := [⟨3, 0, 0⟩]) (l2 := L2) hb ho hne (by simp; omega) rfl, trivial⟩
    refine ⟨_, _, hrun, ?_, ?_, ?_⟩
    · have K : Keep (fun q => q = h2.length) h3 ((h3.set h2.length .dead) ++ [AObj.cells (svC ([⟨3, 0, 0⟩] ++ L2)) true]) := (Keep.set (fp := fun q => q = h2.length) rfl _).trans (Keep.push _ _ _)
      exact a5.keep K (fun q _ e hf => by have := a.lts q hf; omega)
    · refine .inr ⟨h3.length, ?_, get_new' _ (by simp [SH.den]), by omega, by simp⟩
      simp only [List.length_cons]; rw [Nat.add_comm]
    · exact Kall.trans_new ((Keep.set (fp := fun q => q = h2.length) rfl _).trans (Keep.push _ _ _)) (fun q hq e => by omega)

end Go.Proofs.Ytkkhokgpcifckaa.wd

namespace Go.Proofs.Ytkkhokgpcifckaa.wd
open Go Go.Ev

variable {h : Hp} {i j : Nat} {t : Option Nat} {w : WS}

/-! ### again -/

theorem stat33 : statOk (drawN Try.f33 0) = true ∧ statOk (drawN Try.f33 1) = true ∧ statOk (drawN Try.f33 2) = true := ⟨by kernel_rfl, by kernel_rfl, by kernel_rfl⟩

def counted (w : WS) : Nat := cnt (w.now - w.within) w.times
def timed (w : WS) : WS := { w with times := w.times ++ [w.now] }

noncomputable def HD33 : Code := .seq (partC Try.f33 [0]) (.seq (partC Try.f33 [1, 0]) (partC Try.f33 [1, 1, 0]))

theorem again_head (a : WAt h i j t w) (hw : WOk w) (ht : w.times.length < 10000) (n : Int) : ∃ E1 hA d, EnvLe [(5, .int .i64 (counted w : Nat)), (3, .pointer (some ⟨h.length, 0, none⟩)), (0, .pointer (some ⟨i, 0, none⟩))] E1 ∧
    CRun Try.prog 118 false HD33 (enterE 0 [.pointer (some ⟨i, 0, none⟩), .int .i64 n]) h .normal E1 hA ∧ WAt hA i j (some d) (timed w) ∧ hA[h.length]? = some (.cells [.int .i64 n] true) ∧ Keep (fpW i j t) h hA ∧ h.length ≤ d := by
  have hil := get_lt a.obj
  have hjl := get_lt a.svs
  have hnow := hw.now
  have hrec := recent_run (a.app [AObj.cells [.int .i64 n] true]) hw w.now hw.now
  rcases a.tms with ⟨rfl, hnil⟩ | ⟨q, rfl, hq, hqi, hqj⟩
  · have hobj := a.obj
    have hc8 : (wCells w j none)[8]? = some (.slice none 0 0) := rfl
    obtain ⟨E1, e1, c1⟩ := pvC 0 (EnvLe.refl _) (w5p.ag_head0 i h.length (h.length + 1) (h.length + 2) n w.now (counted w : Nat) (wCells (timed w) j (some (h.length + 2))) h)
      ⟨rfl, a_ld1 (get_push a.obj) rfl, hrec, stat33.1, a_ld1 (get_push a.obj) hc8, a_ld1 (get_push a.obj) rfl, by simp [Asm.holds, SH.den], ⟨rfl, ⟨_, cells_of (get_new' _ (by simp [SH.den])), by simp, rfl⟩, rfl, by omega, by omega, by simp [SH.den]⟩,
        a_st (get_push (get_push (get_push a.obj))) (by simp [wCells]) (by simp [wCells, timed, tvVal, hnil]), trivial⟩
    have K : Keep (fpW i j none) h ((((h ++ [AObj.cells [.int .i64 n] true]) ++ [AObj.cells [.int .i64 w.now] true]) ++ [AObj.cells [.int .i64 w.now] true]).set i (.cells (wCells (timed w) j (some (h.length + 2))) true)) :=
      (((Keep.push _ _ _).trans (Keep.push _ _ _)).trans (Keep.push _ _ _)).trans (Keep.set (fp := fpW i j none) (.inl rfl) _)
    refine ⟨E1, _, h.length + 2, .trans (.add (.add (.add (.nil _) rfl) rfl) rfl) e1, c1, ⟨get_set_eq (get_push (get_push (get_push a.obj))), get_set_ne (get_push (get_push (get_push a.svs))) a.ne, .inr ⟨_, rfl, ?_, by omega, by omega⟩, a.ne⟩, get_set_ne (get_push (get_push (get_new h _))) (by omega), K, by omega⟩
    have : (timed w).times.map (Value.int .i64) = [.int .i64 w.now] := by simp [timed, hnil]
    rw [this]
    exact get_set_ne (get_new' _ (by simp [SH.den])) (by omega)
  · have hc8 : (wCells w j (some q))[8]? = some (.slice (some ⟨q, 0, none⟩) w.times.length 1) := rfl
    have hql := get_lt hq
    have hcs : ((w.times.map (Value.int .i64)).drop 0).take (w.times.length * 1) ++ [.int .i64 w.now] = (timed w).times.map (Value.int .i64) := by
      rw [List.drop_zero, List.take_of_length_le (by simp)]; simp [timed]
    obtain ⟨E1, e1, c1⟩ := pvC 0 (EnvLe.refl _) (w5p.ag_head1 i h.length (h.length + 1) q w.times.length (h.length + 2) n w.now (counted w : Nat) (wCells (timed w) j (some (h.length + 2))) ((timed w).times.map (Value.int .i64)) h)
      ⟨rfl, a_ld1 (get_push a.obj) rfl, hrec, stat33.1, a_ld1 (get_push a.obj) hc8, a_ld1 (get_push a.obj) rfl, by simp [Asm.holds, SH.den], ⟨rfl, ⟨_, cells_of (get_new' _ (by simp [SH.den])), by simp, rfl⟩, rfl, by omega, by omega, ⟨_, own_of (get_push (get_push hq)), by simp, hcs⟩, by simp [SH.den]⟩,
        a_st (get_push (get_set_ne (get_push (get_push a.obj)) hqi)) (by simp [wCells]) (by simp [wCells, timed, tvVal]), trivial⟩
    have K : Keep (fpW i j (some q)) h (((((h ++ [AObj.cells [.int .i64 n] true]) ++ [AObj.cells [.int .i64 w.now] true]).set q .dead) ++ [AObj.cells ((timed w).times.map (Value.int .i64)) true]).set i (.cells (wCells (timed w) j (some (h.length + 2))) true)) :=
      ((((Keep.push _ _ _).trans (Keep.push _ _ _)).trans (Keep.set (fp := fpW i j (some q)) (.inr (.inr rfl)) _)).trans (Keep.push _ _ _)).trans (Keep.set (fp := fpW i j (some q)) (.inl rfl) _)
    refine ⟨E1, _, h.length + 2, .trans (.add (.add (.add (.nil _) rfl) rfl) rfl) e1, c1, ⟨get_set_eq (get_push (get_set_ne (get_push (get_push a.obj)) hqi)), get_set_ne (get_push (get_set_ne (get_push (get_push a.svs)) hqj)) a.ne, .inr ⟨_, rfl, ?_, by omega, by omega⟩, a.ne⟩,
      get_set_ne (get_push (get_set_ne (get_push (get_new h _)) (by omega))) (by omega), K, by omega⟩
    exact get_set_ne (get_new' _ (by simp [SH.den])) (by omega)

/-- The delay, doubled. -/
def dbl (cp : Int) : Nat → Int → Int
  | 0, d => d
  | k + 1, d => dbl cp k (if cp < 2 * d then cp else 2 * d)

theorem dbl_succ (cp : Int) : ∀ (k : Nat) (d : Int), dbl cp (k + 1) d = if cp < 2 * dbl cp k d then cp else 2 * dbl cp k d
  | 0, d => rfl
  | k + 1, d => by rw [dbl, dbl_succ cp k]; rfl
theorem dbl_bounds {cp : Int} : ∀ (k : Nat) {d : Int}, 0 ≤ d → d ≤ cp → 0 ≤ dbl cp k d ∧ dbl cp k d ≤ cp
  | 0, d, h1, h2 => ⟨h1, h2⟩
  | k + 1, d, h1, h2 => by
    rw [dbl]
    split
    · exact dbl_bounds k (by omega) (by omega)
    · exact dbl_bounds k (by omega) (by omega)

theorem dbl_loop (a : WAt h i j t w) (hw : WOk w) (n : Nat) (hn : n ≤ 1000000) (b3 : Nat) : ∃ E1, EnvLe [(6, .int .i64 (dbl w.cap n w.base)), (3, .pointer (some ⟨b3, 0, none⟩)), (0, .pointer (some ⟨i, 0, none⟩))] E1 ∧
    LRun Try.prog 118 false (loopN Try.f33 0) [(48, .int .i64 ((0 : Nat) : Int)), (47, .int .i64 (n : Nat)), (6, .int .i64 w.base), (3, .pointer (some ⟨b3, 0, none⟩)), (0, .pointer (some ⟨i, 0, none⟩))] h (.exit 0) E1 h := by
  obtain ⟨x', E1, h1, hl1, rfl, q1, rfl⟩ := loop_inv (P := Try.prog) (n := 118) (rd := false) (b := loopN Try.f33 0)
    (Q := fun x' E1 h1 => x' = .exit 0 ∧ EnvLe [(6, .int .i64 (dbl w.cap n w.base)), (3, .pointer (some ⟨b3, 0, none⟩)), (0, .pointer (some ⟨i, 0, none⟩))] E1 ∧ h = h1)
    (fun m E g => ∃ k : Nat, k ≤ n ∧ m = n - k ∧ EnvLe [(48, .int .i64 (k : Nat)), (47, .int .i64 (n : Nat)), (6, .int .i64 (dbl w.cap k w.base)), (3, .pointer (some ⟨b3, 0, none⟩)), (0, .pointer (some ⟨i, 0, none⟩))] E ∧ h = g)
    (fun m E g ⟨k, k1, k2, k3, k4⟩ => by
      subst k4
      by_cases e : k = n
      · right
        subst e
        obtain ⟨E2, q1, q2⟩ := pvC 0 k3 (w5p.du_end i b3 k k (dbl w.cap k w.base) h) ⟨by simp [Asm.holds, cmpB], trivial⟩
        exact ⟨_, E2, _, by simp, q2, rfl, .trans (.add (.add (.add (.nil _) rfl) rfl) rfl) q1, rfl⟩
      · left
        have hb := hw.base
        have hc := hw.cap
        have hd := dbl_bounds k hb.1 hb.2
        have ar : IntKind.i64.wrap (2 * dbl w.cap k w.base) = 2 * dbl w.cap k w.base := wrap_id (by omega) (by omega)
        obtain ⟨E2, q1, q2⟩ := pvC 0 k3 (w5p.du_go i b3 k n (dbl w.cap k w.base) (2 * dbl w.cap k w.base) w.cap (dbl w.cap (k + 1) w.base) ((k + 1 : Nat) : Int) h)
          ⟨by simp [Asm.holds, cmpB]; omega, by simp only [Asm.holds, arithI, ar], a_ld1 a.obj rfl, .inr ⟨rfl, (dbl_succ _ _ _).symm⟩, by simp only [Asm.holds, arithI, add1 (show k < 1000000000000 by omega)], trivial⟩
        exact ⟨n - (k + 1), E2, _, by omega, q2, k + 1, by omega, rfl, .trans (.add (.add (.add (.add (.add (.nil _) rfl) rfl) rfl) rfl) rfl) q1, rfl⟩)
    n [(48, .int .i64 ((0 : Nat) : Int)), (47, .int .i64 (n : Nat)), (6, .int .i64 w.base), (3, .pointer (some ⟨b3, 0, none⟩)), (0, .pointer (some ⟨i, 0, none⟩))] h ⟨0, by omega, rfl, EnvLe.refl _, rfl⟩
  exact ⟨E1, q1, hl1⟩

/-- Which others a rule names. -/
def grp (f : FuncId) (a b : Int) : Bool := if f = 61 then false else if f = 62 then true else decide (b > a)
theorem grp_run {f : FuncId} (hf : f = 61 ∨ f = 62 ∨ f = 63) (a b : Int) (g : Hp) : Run Try.prog f [.int .i64 a, .int .i64 b] g (.bool (grp f a b)) g := by
  rcases hf with rfl | rfl | rfl
  · exact pvF 0 Try.func61 (w5p.g1 a b g) trivial
  · exact pvF 0 Try.func62 (w5p.g2 a b g) trivial
  · exact pvF 0 Try.func63 (w5p.g3 a b g _) ⟨by simp [Asm.holds, cmpB, grp], trivial⟩

def named (f : FuncId) (n k : Int) : Bool := decide (k ≠ n - 1) && grp f (n - 1) k
theorem named_run {f : FuncId} (hf : f = 61 ∨ f = 62 ∨ f = 63) {b3 b7 : Nat} {n : Int} (hn : 1 ≤ n ∧ n ≤ 8) {g : Hp} {r1 r2 : Bool} (h3 : g[b3]? = some (.cells [.int .i64 n] r1)) (h7 : g[b7]? = some (.cells [.func (.func f) #[] #[]] r2)) (k : Int) :
    Run Try.prog 48 [.int .i64 k, .pointer (some ⟨b3, 0, none⟩), .pointer (some ⟨b7, 0, none⟩)] g (.bool (named f n k)) g := by
  have ar : IntKind.i64.wrap (n - 1) = n - 1 := wrap_id (by omega) (by omega)
  by_cases e : k = n - 1
  · have : named f n k = false := by simp [named, e]
    rw [this]
    exact pvF 0 Try.func48 (w5p.named_no b3 b7 k n (n - 1) g) ⟨a_ld1 h3 rfl, by simp only [Asm.holds, arithI, ar], by simp [Asm.holds, cmpB, e], trivial⟩
  · have : named f n k = grp f (n - 1) k := by simp [named, e]
    rw [this]
    exact pvF 0 Try.func48 (w5p.named b3 b7 k n (n - 1) f _ g) ⟨a_ld1 h3 rfl, by simp only [Asm.holds, arithI, ar], by simpa [Asm.holds, cmpB] using e, a_ld1 h7 rfl, a_ld1 h3 rfl, by simp only [Asm.holds, arithI, ar], grp_run hf _ _ _, trivial⟩

def ofStep (p : Nat → Bool) (k : Nat) (x : Sv) : Sv := if x.state = 4 ∧ p k = true then ⟨x.when, 3, 0⟩ else x

theorem of_loop (a : WAt h i j t w) (hw : WOk w) {f : FuncId} (hf : f = 61 ∨ f = 62 ∨ f = 63) {b3 b7 : Nat} {n : Int} (hn : 1 ≤ n ∧ n ≤ 8) (h3 : h[b3]? = some (.cells [.int .i64 n] true)) (h7 : h[b7]? = some (.cells [.func (.func f) #[] #[]] true))
    (hb : b3 ≠ j ∧ b7 ≠ j) (v9 : Value) : ∃ E1 h1, EnvLe [(9, v9), (0, .pointer (some ⟨i, 0, none⟩))] E1 ∧
    LRun Try.prog 118 false (loopN Try.f33 1) [(91, .int .i64 ((0 : Nat) : Int)), (90, .int .i64 (Int.ofNat w.svs.length)), (89, .slice (some ⟨j, 0, none⟩) w.svs.length 3), (8, .func (.func 48) #[] #[.pointer (some ⟨b3, 0, none⟩), .pointer (some ⟨b7, 0, none⟩)]), (9, v9), (0, .pointer (some ⟨i, 0, none⟩))] h (.exit 2) E1 h1 ∧
    WAt h1 i j t { w with svs := mS (ofStep (fun k => named f n k)) 0 w.svs } ∧ Keep (· = j) h h1 := by
  have n8 := hw.n8
  refine map_loop (fun k => [(91, .int .i64 (k : Nat)), (90, .int .i64 (Int.ofNat w.svs.length)), (89, .slice (some ⟨j, 0, none⟩) w.svs.length 3), (8, .func (.func 48) #[] #[.pointer (some ⟨b3, 0, none⟩), .pointer (some ⟨b7, 0, none⟩)]), (9, v9), (0, .pointer (some ⟨i, 0, none⟩))]) _ 2
    (ofStep (fun k => named f n k)) a ?_ ?_ (EnvLe.refl _)
  · intro E g hE
    obtain ⟨E2, q1, q2⟩ := pvC 0 hE (w5p.of_end i j w.svs.length b3 b7 v9 w.svs.length g) ⟨by simp [Asm.holds, cmpB], trivial⟩
    exact ⟨E2, .trans (.add (.add (.nil _) rfl) rfl) q1, q2⟩
  · intro k x E g hx hE hwa f1 hk
    have hkl := get_lt' hx
    have hsv := hwa.svs
    have hobj := hwa.obj
    simp only [] at hsv
    have hll : (svC (mL (ofStep (fun k => named f n k)) w.svs k)).length = w.svs.length * 3 := by rw [svC_len, mL_len]
    have hwc : (wCells { w with svs := mL (ofStep (fun k => named f n k)) w.svs k } j t)[6]? = some (.slice (some ⟨j, 0, none⟩) w.svs.length 3) := by simp [wCells, mL_len]
    have f2 := (mL_step (ofStep (fun k => named f n k)) hx).2
    have hgj := get_lt hsv
    have g3 := hk.2 _ _ h3 hb.1
    have g7 := hk.2 _ _ h7 hb.2
    have pre1 : (Asm.cmp .lss (k : Int) (Int.ofNat w.svs.length) true).holds Try.prog := by simp [Asm.holds, cmpB]; omega
    have ak1 : IntKind.i64.wrap ((k : Int) + 1) = ((k + 1 : Nat) : Int) := add1 (by omega)
    have hgo : ∀ {q : Nat} {o y : AObj}, g[q]? = some o → ((g ++ [AObj.cells [.int .i64 0, .int .i64 0, .int .i64 0] true]).set g.length y)[q]? = some o := fun hq => get_set_ne (get_push hq) (by have := get_lt hq; omega)
    have K1 : Keep (fun q => q = j ∨ g.length ≤ q) g ((g ++ [AObj.cells [.int .i64 0, .int .i64 0, .int .i64 0] true]).set g.length (.cells x.cells true)) := (Keep.push (fun q => q = j ∨ g.length ≤ q) _ _).trans (Keep.set (fp := fun q => q = j ∨ g.length ≤ q) (.inr (Nat.le_refl _)) _)
    have K2 := fun c => K1.trans (Keep.set (fp := fun q => q = j ∨ g.length ≤ q) (i := j) (.inl rfl) c)
    by_cases h4 : x.state = 4
    · have hcall := named_run hf hn (hgo (y := .cells x.cells true) g3) (hgo (y := .cells x.cells true) g7) k
      by_cases hp : named f n k = true
      · rw [hp] at hcall
        have hst : ofStep (fun k => named f n k) k x = ⟨x.when, 3, 0⟩ := by simp [ofStep, h4, hp]
        have hput := svC_put (⟨x.when, 3, 0⟩ : Sv) f1
        rw [← hst, f2, hst] at hput
        obtain ⟨E2, q1, q2⟩ := pvC 0 hE (w5p.of_yes i j w.svs.length b3 b7 v9 k g (k * 3) g.length x.when x.state x.at' ((k + 1 : Nat) : Int) (svC (mL (ofStep (fun k => named f n k)) w.svs (k + 1))) _)
          ⟨pre1, ⟨by omega, by omega, by simp⟩, a_ldn hsv (by omega) (svC_cut f1), rfl, a_st (get_new g _) (by simp) rfl, a_ld1 (get_set_eq (get_new g _)) rfl, by simpa [Asm.holds, cmpB] using h4, hcall, stat33.2.2, a_ld1 (hgo hobj) hwc, a_ld1 (get_set_eq (get_new g _)) rfl,
            ⟨by omega, by omega, by simp⟩, a_st (hgo hsv) (by rw [hll]; simp; omega) hput, by simp only [Asm.holds, arithI, ak1], trivial⟩
        exact ⟨E2, _, .trans (.add (.add (.add (.add (.add (.add (.nil _) rfl) rfl) rfl) rfl) rfl) rfl) q1, q2, get_set_eq (hgo hsv), K2 _⟩
      · have hp' : named f n k = false := by simpa using hp
        rw [hp'] at hcall
        have hst : ofStep (fun k => named f n k) k x = x := by simp [ofStep, hp']
        rw [hst, svC_same f1] at f2
        obtain ⟨E2, q1, q2⟩ := pvC 0 hE (w5p.of_no2 i j w.svs.length b3 b7 v9 k g (k * 3) g.length x.when x.state x.at' ((k + 1 : Nat) : Int) _)
          ⟨pre1, ⟨by omega, by omega, by simp⟩, a_ldn hsv (by omega) (svC_cut f1), rfl, a_st (get_new g _) (by simp) rfl, a_ld1 (get_set_eq (get_new g _)) rfl, by simpa [Asm.holds, cmpB] using h4, hcall, by simp only [Asm.holds, arithI, ak1], trivial⟩
        refine ⟨E2, _, .trans (.add (.add (.add (.add (.add (.add (.nil _) rfl) rfl) rfl) rfl) rfl) rfl) q1, q2, ?_, K1⟩
        rw [← f2]; exact hgo hsv
    · have hst : ofStep (fun k => named f n k) k x = x := by simp [ofStep, h4]
      rw [hst, svC_same f1] at f2
      obtain ⟨E2, q1, q2⟩ := pvC 0 hE (w5p.of_no1 i j w.svs.length b3 b7 v9 k g (k * 3) g.length x.when x.state x.at' ((k + 1 : Nat) : Int))
        ⟨pre1, ⟨by omega, by omega, by simp⟩, a_ldn hsv (by omega) (svC_cut f1), rfl, a_st (get_new g _) (by simp) rfl, a_ld1 (get_set_eq (get_new g _)) rfl, by simpa [Asm.holds, cmpB] using h4, by simp only [Asm.holds, arithI, ak1], trivial⟩
      refine ⟨E2, _, .trans (.add (.add (.add (.add (.add (.add (.nil _) rfl) rfl) rfl) rfl) rfl) rfl) q1, q2, ?_, K1⟩
      rw [← f2]; exact hgo hsv

end Go.Proofs.Ytkkhokgpcifckaa.wd

namespace Go.Proofs.Ytkkhokgpcifckaa.wd
open Go Go.Ev

variable {h : Hp} {i j : Nat} {t : Option Nat} {w : WS}

theorem body33 : Try.f33.body = some (.seq (partC Try.f33 [0]) (.seq (partC Try.f33 [1, 0]) (.seq (partC Try.f33 [1, 1, 0]) (partC Try.f33 [1, 1, 1])))) := by kernel_rfl

def ruleF (w : WS) : FuncId := (60 + w.rule).toNat
theorem ruleF_or (hw : WOk w) : ruleF w = 61 ∨ ruleF w = 62 ∨ ruleF w = 63 := by
  have := hw.rule
  rcases (by omega : w.rule = 1 ∨ w.rule = 2 ∨ w.rule = 3) with e | e | e <;> simp [ruleF, e]
theorem group_run (hw : WOk w) (g : Hp) : Run Try.prog 47 [.int .i64 w.rule] g (.func (.func (ruleF w)) #[] #[]) g := by
  have := hw.rule
  rcases (by omega : w.rule = 1 ∨ w.rule = 2 ∨ w.rule = 3) with e | e | e
  · have e2 : ruleF w = 61 := by simp [ruleF, e]
    rw [e, e2]; exact pvF 0 Try.func47 (w5p.group1 g) trivial
  · have e2 : ruleF w = 62 := by simp [ruleF, e]
    rw [e, e2]; exact pvF 0 Try.func47 (w5p.group2 g) trivial
  · have e2 : ruleF w = 63 := by simp [ruleF, e]
    rw [e, e2]; exact pvF 0 Try.func47 (w5p.group3 g) trivial

def maxI (a b : Int) : Int := if b > a then b else a
def waits (w : WS) : Int := maxI w.delay (dbl w.cap (counted w) w.base)
/-- The restart, but for the others. -/
def off1 (w : WS) (n : Int) : WS := { timed w with delay := waits w, svs := setSt w.svs n 3 }
def nameP (w : WS) (n : Int) (k : Nat) : Bool := named (ruleF w) n k
def off2 (w : WS) (n : Int) : WS := stopped (nameP w n) (off1 w n)
def off3 (w : WS) (n : Int) : WS := { off2 w n with svs := mS (ofStep (nameP w n)) 0 (off2 w n).svs }

def againF (w : WS) (n : Int) : WS × List Sv :=
  if (counted w : Int) + 1 > w.most then giveUpF (timed w) n else ((beginF (off3 w n)).1, stO (nameP w n) 0 (off1 w n).svs ++ (beginF (off3 w n)).2)

theorem WOk.timed (hw : WOk w) (ht : w.times.length < 10000) : WOk (timed w) := ⟨hw.n1, hw.n8, hw.most, hw.within, hw.base, hw.cap, hw.now, hw.delay, by simp [wd.timed]; omega, hw.rule⟩
theorem waits_ok (hw : WOk w) : 0 ≤ waits w ∧ waits w ≤ 1000000000000 := by
  have h1 := dbl_bounds (counted w) hw.base.1 hw.base.2
  have h2 := hw.delay
  have h3 := hw.cap
  unfold waits maxI
  split <;> omega
theorem WOk.off1 (hw : WOk w) (ht : w.times.length < 10000) (n : Int) : WOk (off1 w n) :=
  ⟨by simp only [wd.off1, setSt_len]; exact hw.n1, by simp only [wd.off1, setSt_len]; exact hw.n8, hw.most, hw.within, hw.base, hw.cap, hw.now, waits_ok hw, (hw.timed ht).times, hw.rule⟩
theorem WOk.off2 (hw : WOk w) (ht : w.times.length < 10000) (n : Int) : WOk (off2 w n) := by
  have h := hw.off1 ht n
  exact ⟨by simp only [wd.off2, stopped, stS_len]; exact h.n1, by simp only [wd.off2, stopped, stS_len]; exact h.n8, h.most, h.within, h.base, h.cap, h.now, h.delay, h.times, h.rule⟩
theorem WOk.off3 (hw : WOk w) (ht : w.times.length < 10000) (n : Int) : WOk (off3 w n) := by
  have h := hw.off2 ht n
  exact ⟨by simp only [wd.off3, mS_len]; exact h.n1, by simp only [wd.off3, mS_len]; exact h.n8, h.most, h.within, h.base, h.cap, h.now, h.delay, h.times, h.rule⟩
theorem off1_len (w : WS) (n : Int) : (off1 w n).svs.length = w.svs.length := by simp [off1, setSt_len]
theorem off2_len (w : WS) (n : Int) : (off2 w n).svs.length = w.svs.length := by simp [off2, stopped, stS_len, off1_len]
theorem off3_len (w : WS) (n : Int) : (off3 w n).svs.length = w.svs.length := by simp [off3, mS_len, off2_len]

theorem beginF_len (w : WS) : (beginF w).2.length ≤ w.svs.length := by
  unfold beginF
  split
  · simp
  · exact bgO_len _ _ _

theorem again_run (a : WAt h i j t w) (hw : WOk w) (ht : w.times.length < 10000) {n : Int} (hn : 1 ≤ n ∧ n ≤ w.svs.length) :
    ∃ v h' t', Run Try.prog 33 [.pointer (some ⟨i, 0, none⟩), .int .i64 n] h v h' ∧ WAt h' i j t' (againF w n).1 ∧ (∃ b, h.length ≤ b ∧ (∀ q, t' = some q → q < b) ∧ OrdAt h' b v (againF w n).2) ∧ Keep (fpW i j t) h h' ∧ (∀ q, t' = some q → h.length ≤ q) := by
  have n8 := hw.n8
  have hil := get_lt a.obj
  have hjl := get_lt a.svs
  have hcl : counted w ≤ 10000 := Nat.le_trans (cnt_le _ _) hw.times
  obtain ⟨E1, hA, d, hE1, c1, aA, hb3, KA, hd⟩ := again_head a hw ht n
  have hwA := hw.timed ht
  have ak : IntKind.i64.wrap ((counted w : Int) + 1) = (counted w : Int) + 1 := wrap_id (by omega) (by omega)
  have hbA := get_lt hb3
  have hlA := KA.1
  have hdA : ∀ q, some d = some q → q < hA.length := fun q e => by cases e; exact aA.lts d (.inr (.inr rfl))
  unfold againF
  by_cases hm : (counted w : Int) + 1 > w.most
  · rw [if_pos hm]
    obtain ⟨v, h', hr, a', o', K'⟩ := giveUp_run aA hwA (n := n) hn
    obtain ⟨E2, e2, c2⟩ := pvC 0 hE1 (w5p.ag_up i h.length n (counted w : Nat) ((counted w : Int) + 1) w.most v hA h') ⟨by simp only [Asm.holds, arithI, ak], a_ld1 aA.obj rfl, by simpa [Asm.holds, cmpB] using hm, a_ld1 hb3 rfl, hr, trivial⟩
    refine ⟨v, h', some d, Run.code Try.func33 body33 (.inr rfl) (CRun.pre2 c1 c2) (evResults_one rfl (e2 4 v rfl)), a', ⟨hA.length, hlA, hdA, o'⟩, ?_, fun q e => by cases e; exact hd⟩
    exact KA.trans (K'.mono fun q _ e => by rcases e with e | e; exact .inl e; exact .inr (.inl e))
  · rw [if_neg hm]
    have hk : (n - 1).toNat < w.svs.length := by omega
    have hx := List.getElem?_eq_getElem hk
    have ar : IntKind.i64.wrap (n - 1) = n - 1 := wrap_id (by omega) (by omega)
    obtain ⟨E3, hE3, hl3⟩ := dbl_loop aA hwA (counted w) (by omega) h.length
    -- the delay, and the service that is off
    have a1 : WAt (hA.set i (.cells (wCells { timed w with delay := waits w } j (some d)) true)) i j (some d) { timed w with delay := waits w } :=
      ⟨get_set_eq aA.obj, get_set_ne aA.svs aA.ne, by
        rcases aA.tms with q1 | ⟨q, q1, q2, q3, q4⟩
        · exact .inl q1
        · exact .inr ⟨q, q1, get_set_ne q2 (Ne.symm q3), q3, q4⟩, aA.ne⟩
    have hss : setSt w.svs n 3 = w.svs.set (n - 1).toNat { w.svs[(n - 1).toNat] with state := 3 } := by simp only [setSt, hx]
    have hput := svC_state 3 hx
    rw [← hss] at hput
    have hlc := svC_len w.svs
    let hB : Hp := (hA.set i (.cells (wCells { timed w with delay := waits w } j (some d)) true)).set j (.cells (svC (setSt w.svs n 3)) true)
    have a2 : WAt hB i j (some d) (off1 w n) := a1.put (Keep.set (fp := fun q => q = j) rfl _) (fun q _ e => .inl e) (get_set_eq a1.svs) (setSt_len _ _ _)
    have KB : Keep (fun q => q = i ∨ q = j) hA hB := (Keep.set (fp := fun q => q = i ∨ q = j) (.inl rfl) _).trans (Keep.set (fp := fun q => q = i ∨ q = j) (.inr rfl) _)
    have hlB : hB.length = hA.length := by simp [hB]
    let hC : Hp := (hB ++ [AObj.cells [.nilFunc] true]).set hA.length (.cells [.func (.func (ruleF w)) #[] #[]] true)
    have KC : Keep (fun q => hA.length ≤ q) hB hC := (Keep.push _ _ _).trans (Keep.set (fp := fun q => hA.length ≤ q) (Nat.le_refl _) _)
    have a3 : WAt hC i j (some d) (off1 w n) := a2.keep KC (fun q hq e => by omega)
    have hb3B : hB[h.length]? = some (.cells [.int .i64 n] true) := KB.2 _ _ hb3 (by omega)
    have hb3C : hC[h.length]? = some (.cells [.int .i64 n] true) := KC.2 _ _ hb3B (by omega)
    have hb7C : hC[hA.length]? = some (.cells [.func (.func (ruleF w)) #[] #[]] true) := get_set_eq (get_new' _ hlB)
    have hn8 : 1 ≤ n ∧ n ≤ 8 := by omega
    obtain ⟨v1, h2, r1, a4, o4, K4⟩ := stop_run a3 (hw.off1 ht n) (fo := 48) (cl := [.pointer (some ⟨h.length, 0, none⟩), .pointer (some ⟨hA.length, 0, none⟩)]) (p := nameP w n)
      (fun g hg k _ => named_run (ruleF_or hw) hn8 (hg.2 _ _ hb3C (by omega)) (hg.2 _ _ hb7C (by omega)) k)
    have hb3D := K4.2 _ _ hb3C (by omega)
    have hb7D := K4.2 _ _ hb7C (by omega)
    obtain ⟨E5, h3, hE5, hl5, a5, K5⟩ := of_loop (w := off2 w n) a4 (hw.off2 ht n) (ruleF_or hw) hn8 hb3D hb7D ⟨by omega, by omega⟩ v1
    obtain ⟨v2, h4, r2, a6, o6, K6⟩ := begin_run (w := off3 w n) a5 (hw.off3 ht n)
    have Kall : Keep (fpW i j t) h h4 := ((((KA.trans (KB.mono fun q _ e => by rcases e with e | e; exact .inl e; exact .inr (.inl e))).trans_new KC (fun q hq e => by omega)).trans (K4.mono fun q _ e => .inr (.inl e))).trans (K5.mono fun q _ e => .inr (.inl e))).trans
      (K6.mono fun q _ e => by rcases e with e | e; exact .inl e; exact .inr (.inl e))
    obtain ⟨L1, hL1⟩ : ∃ L, stO (nameP w n) 0 (off1 w n).svs = L := ⟨_, rfl⟩
    obtain ⟨L2, hL2⟩ : ∃ L, (beginF (off3 w n)).2 = L := ⟨_, rfl⟩
    have n1 : L1.length ≤ 8 := by have := stO_len (nameP w n) 0 (off1 w n).svs; rw [hL1, off1_len] at this; omega
    have n2 : L2.length ≤ 8 := by have := beginF_len (off3 w n); rw [hL2, off3_len] at this; omega
    rw [hL1, hL2]
    rw [hL1] at o4
    rw [hL2] at o6
    have hlC : hC.length = hA.length + 1 := by simp [hC, hB]
    have hh2 : hC.length ≤ h2.length := K4.1
    have hh3 : h2.length ≤ h3.length := K5.1
    have hh4 : hA.length ≤ h4.length := by have := K6.1; omega
    have o4' : OrdAt h4 hC.length v1 L1 := (o4.keep K5 (fun q hq _ e => by omega)).keep K6 (fun q hq _ e => by rcases e with e | e <;> omega)
    have hb3a : (hA.set i (.cells (wCells { timed w with delay := waits w } j (some d)) true))[h.length]? = some (.cells [.int .i64 n] true) := get_set_ne hb3 (by omega)
    have pl0 : plainC (loopN Try.f33 0) = true := by kernel_rfl
    have pl1 : plainC (loopN Try.f33 1) = true := by kernel_rfl
    have st1 := a_st (P := Try.prog) (s := .is hA) (d := 9) (l := [.int .i64 (waits w)]) (c' := wCells { timed w with delay := waits w } j (some d)) aA.obj (by simp [wCells]) rfl
    have st2 := a_st (P := Try.prog) (s := .set (.is hA) i (.cells (wCells { timed w with delay := waits w } j (some d)) true)) (d := (n - 1).toNat * 3 + 1) (l := [.int .i64 3]) (c' := svC (setSt w.svs n 3)) a1.svs (by show _ ≤ (svC w.svs).length; simp; omega) hput
    have st3 := a_st (P := Try.prog) (s := .push (.set (.set (.is hA) i (.cells (wCells { timed w with delay := waits w } j (some d)) true)) j (.cells (svC (setSt w.svs n 3)) true)) (.cells [.nilFunc] true)) (i := hA.length) (d := 0) (l := [.func (.func (ruleF w)) #[] #[]])
      (c' := [.func (.func (ruleF w)) #[] #[]]) (get_new' _ hlB) (by simp) rfl
    have ld4 : (wCells (off2 w n) j (some d))[6]? = some (.slice (some ⟨j, 0, none⟩) w.svs.length 3) := by simp [wCells, off2_len]
    rw [off2_len] at hl5
    have hfin : ∀ {E6 : Env} {h' : Hp} {v : Value}, CRun Try.prog 118 false (partC Try.f33 [1, 1, 1]) E1 hA .ret E6 h' → Go.Ev.look E6 4 = some v → Run Try.prog 33 [.pointer (some ⟨i, 0, none⟩), .int .i64 n] h v h' := fun c6 e =>
      Run.code Try.func33 body33 (.inr rfl) (CRun.pre2 c1 c6) (evResults_one rfl e)
    have lp0 : ∀ {E : Env}, EnvLe [(48, .int .i64 ((0 : Nat) : Int)), (47, .int .i64 (counted w : Nat)), (6, .int .i64 w.base), (3, .pointer (some ⟨h.length, 0, none⟩)), (0, .pointer (some ⟨i, 0, none⟩))] E → (Asm.loop 118 false (loopN Try.f33 0) E (.is hA) (.exit 0) [(6, .int .i64 (dbl w.cap (counted w) w.base)), (3, .pointer (some ⟨h.length, 0, none⟩)), (0, .pointer (some ⟨i, 0, none⟩))] (.is hA)).holds Try.prog := fun hs => a_loop pl0 hs hE3 hl3
    have lp1 : ∀ {E : Env}, EnvLe [(91, .int .i64 ((0 : Nat) : Int)), (90, .int .i64 (Int.ofNat w.svs.length)), (89, .slice (some ⟨j, 0, none⟩) w.svs.length 3), (8, .func (.func 48) #[] #[.pointer (some ⟨h.length, 0, none⟩), .pointer (some ⟨hA.length, 0, none⟩)]), (9, v1), (0, .pointer (some ⟨i, 0, none⟩))] E →
      (Asm.loop 118 false (loopN Try.f33 1) E (.is h2) (.exit 2) [(9, v1), (0, .pointer (some ⟨i, 0, none⟩))] (.is h3)).holds Try.prog := fun hs => a_loop pl1 hs hE5 hl5
    rcases o4' with ⟨rfl, rfl⟩ | ⟨o, rfl, ho, hbo, hne⟩
    · rcases o6 with ⟨rfl, rfl⟩ | ⟨o2, rfl, ho2, hbo2, hne2⟩
      · obtain ⟨E6, e6, c6⟩ := pvC 0 hE1 (w5p.ag_00 i j h.length hA.length ((n - 1).toNat * 3) w.svs.length n (counted w : Nat) ((counted w : Int) + 1) w.most w.base (dbl w.cap (counted w) w.base) w.delay (waits w) (n - 1) w.rule (ruleF w) (wCells { timed w with delay := waits w } j (some d)) (svC (setSt w.svs n 3)) hA h2 h3 h4) ⟨by simp only [Asm.holds, arithI, ak], a_ld1 aA.obj rfl, by simpa [Asm.holds, cmpB] using hm, a_ld1 aA.obj rfl, lp0 (.add (.add (.add (.add (.add (.nil _) rfl) rfl) rfl) rfl) rfl), a_ld1 aA.obj rfl, .inl ⟨rfl, rfl⟩, st1, stat33.2.1, a_ld1 a1.obj rfl, a_ld1 hb3a rfl, by simp only [Asm.holds, arithI, ar], ⟨by omega, by omega, by omega⟩, st2, a_ld1 a2.obj rfl, group_run hw _, hlB, st3, r1, a_ld1 a4.obj ld4, lp1 (.add (.add (.add (.add (.add (.add (.nil _) rfl) rfl) rfl) rfl) rfl) rfl), r2, trivial⟩
        exact ⟨_, h4, some d, hfin c6 (e6 4 _ rfl), a6, ⟨hA.length, hlA, hdA, .inl ⟨rfl, rfl⟩⟩, Kall, fun q e => by cases e; exact hd⟩
      · obtain ⟨E6, e6, c6⟩ := pvC 0 hE1 (w5p.ag_01 i j h.length hA.length ((n - 1).toNat * 3) w.svs.length n (counted w : Nat) ((counted w : Int) + 1) w.most w.base (dbl w.cap (counted w) w.base) w.delay (waits w) (n - 1) w.rule (ruleF w) (wCells { timed w with delay := waits w } j (some d)) (svC (setSt w.svs n 3)) hA h2 h3 h4 o2 L2.length (L2.length - 1) h4.length (svC L2)) ⟨by simp only [Asm.holds, arithI, ak], a_ld1 aA.obj rfl, by simpa [Asm.holds, cmpB] using hm, a_ld1 aA.obj rfl, lp0 (.add (.add (.add (.add (.add (.nil _) rfl) rfl) rfl) rfl) rfl), a_ld1 aA.obj rfl, .inl ⟨rfl, rfl⟩, st1, stat33.2.1, a_ld1 a1.obj rfl, a_ld1 hb3a rfl, by simp only [Asm.holds, arithI, ar], ⟨by omega, by omega, by omega⟩, st2, a_ld1 a2.obj rfl, group_run hw _, hlB, st3, r1, a_ld1 a4.obj ld4, lp1 (.add (.add (.add (.add (.add (.add (.nil _) rfl) rfl) rfl) rfl) rfl) rfl), r2, a_app3n ho2 hne2 (by omega) rfl, trivial⟩
        refine ⟨_, _, some d, hfin c6 (e6 4 _ rfl), a6.app [AObj.cells (svC L2) true], ⟨hA.length, hlA, hdA, .inr ⟨h4.length, rfl, get_new h4 _, hh4, by simpa using hne2⟩⟩, Kall.trans (Keep.push _ _ _), fun q e => by cases e; exact hd⟩
    · have hol := get_lt ho
      have hKd : ∀ c, Keep (fun q => q = o) h4 ((h4.set o .dead) ++ [AObj.cells c true]) := fun c => (Keep.set (fp := fun q => q = o) rfl _).trans (Keep.push _ _ _)
      rcases o6 with ⟨rfl, rfl⟩ | ⟨o2, rfl, ho2, hbo2, hne2⟩
      · obtain ⟨E6, e6, c6⟩ := pvC 0 hE1 (w5p.ag_10 i j h.length hA.length ((n - 1).toNat * 3) w.svs.length n (counted w : Nat) ((counted w : Int) + 1) w.most w.base (dbl w.cap (counted w) w.base) w.delay (waits w) (n - 1) w.rule (ruleF w) (wCells { timed w with delay := waits w } j (some d)) (svC (setSt w.svs n 3)) hA h2 h3 h4 o L1.length) ⟨by simp only [Asm.holds, arithI, ak], a_ld1 aA.obj rfl, by simpa [Asm.holds, cmpB] using hm, a_ld1 aA.obj rfl, lp0 (.add (.add (.add (.add (.add (.nil _) rfl) rfl) rfl) rfl) rfl), a_ld1 aA.obj rfl, .inl ⟨rfl, rfl⟩, st1, stat33.2.1, a_ld1 a1.obj rfl, a_ld1 hb3a rfl, by simp only [Asm.holds, arithI, ar], ⟨by omega, by omega, by omega⟩, st2, a_ld1 a2.obj rfl, group_run hw _, hlB, st3, r1, a_ld1 a4.obj ld4, lp1 (.add (.add (.add (.add (.add (.add (.nil _) rfl) rfl) rfl) rfl) rfl) rfl), r2, trivial⟩
        refine ⟨_, h4, some d, hfin c6 (e6 4 _ rfl), a6, ⟨hA.length, hlA, hdA, .inr ⟨o, by rw [List.append_nil], by rw [List.append_nil]; exact ho, by omega, by rw [List.append_nil]; exact hne⟩⟩, Kall, fun q e => by cases e; exact hd⟩
      · obtain ⟨E6, e6, c6⟩ := pvC 0 hE1 (w5p.ag_11 i j h.length hA.length ((n - 1).toNat * 3) w.svs.length n (counted w : Nat) ((counted w : Int) + 1) w.most w.base (dbl w.cap (counted w) w.base) w.delay (waits w) (n - 1) w.rule (ruleF w) (wCells { timed w with delay := waits w } j (some d)) (svC (setSt w.svs n 3)) hA h2 h3 h4 o L1.length o2 L2.length (L2.length - 1) h4.length (svC (L1 ++ L2)) (svC L2)) ⟨by simp only [Asm.holds, arithI, ak], a_ld1 aA.obj rfl, by simpa [Asm.holds, cmpB] using hm, a_ld1 aA.obj rfl, lp0 (.add (.add (.add (.add (.add (.nil _) rfl) rfl) rfl) rfl) rfl), a_ld1 aA.obj rfl, .inl ⟨rfl, rfl⟩, st1, stat33.2.1, a_ld1 a1.obj rfl, a_ld1 hb3a rfl, by simp only [Asm.holds, arithI, ar], ⟨by omega, by omega, by omega⟩, st2, a_ld1 a2.obj rfl, group_run hw _, hlB, st3, r1, a_ld1 a4.obj ld4, lp1 (.add (.add (.add (.add (.add (.add (.nil _) rfl) rfl) rfl) rfl) rfl) rfl), r2, a_app3 ho ho2 hne2 (by omega) rfl, trivial⟩
        have hda := a5.lts
        refine ⟨_, _, some d, hfin c6 (e6 4 _ rfl), a6.keep (hKd _) (fun q _ e hf => ?_), ⟨hA.length, hlA, hdA, .inr ⟨h4.length, by rw [List.length_append], get_new' _ (by simp [SH.den]), hh4, by simp [hne]⟩⟩, Kall.trans_new (hKd _) (fun q hq e => by omega), fun q e => by cases e; exact hd⟩
        have := aA.lts q hf
        omega

end Go.Proofs.Ytkkhokgpcifckaa.wd

namespace Go.Proofs.Ytkkhokgpcifckaa.wd
open Go Go.Ev

variable {h : Hp} {i j : Nat} {t : Option Nat} {w : WS}

theorem WAt.nowSet {w : WS} (a : WAt h i j t w) (now : Int) : WAt (h.set i (.cells (wCells { w with now := now } j t) true)) i j t { w with now := now } :=
  ⟨get_set_eq a.obj, get_set_ne a.svs a.ne, by
    rcases a.tms with q1 | ⟨q, q1, q2, q3, q4⟩
    · exact .inl q1
    · exact .inr ⟨q, q1, get_set_ne q2 (Ne.symm q3), q3, q4⟩, a.ne⟩

/-! ### Started -/

def putSv (l : List Sv) (n : Int) (f : Sv → Sv) : List Sv := match l[(n - 1).toNat]? with
  | some x => l.set (n - 1).toNat (f x)
  | none => l
theorem putSv_len (l : List Sv) (n : Int) (f : Sv → Sv) : (putSv l n f).length = l.length := by unfold putSv; split <;> simp

def lateB (w : WS) (now : Int) : Bool := decide (now < w.now) || decide (now > 1000000000000)
def svAt (w : WS) (n : Int) : Option Sv := if 1 ≤ n ∧ n ≤ w.svs.length then w.svs[(n - 1).toNat]? else none

def startedF (w : WS) (n now : Int) : WS × Int :=
  if lateB w now = true then (w, 2) else match svAt w n with
    | none => (w, 6)
    | some x => if x.state = 4 then (if now < x.at' then (w, 22) else ({ w with now := now, svs := putSv w.svs n fun x => ⟨x.when, 1, 0⟩ }, 0)) else (w, 6)

theorem stat15 : statOk (drawN Try.f15 0) = true := by kernel_rfl

theorem started_run (a : WAt h i j t w) (hw : WOk w) (n now : Int) :
    ∃ h', Run Try.prog 15 [.pointer (some ⟨i, 0, none⟩), .int .i64 n, .int .i64 now] h (.int .i64 (startedF w n now).2) h' ∧ WAt h' i j t (startedF w n now).1 ∧ Keep (fun q => q = i ∨ q = j) h h' := by
  have n8 := hw.n8
  have hl := late_run a now
  have hlc := svC_len w.svs
  by_cases c : lateB w now = true
  · have e : startedF w n now = (w, 2) := by simp [startedF, c]
    rw [e]
    unfold lateB at c
    rw [c] at hl
    exact ⟨h, pvF 0 Try.func15 (w8p.sd_late i j 0 0 n 0 now 0 0 0 [] [] h) ⟨hl, trivial⟩, a, .refl _ _⟩
  · have c' : lateB w now = false := by simpa using c
    have c2 := c'
    unfold lateB at c2
    rw [c2] at hl
    by_cases d1 : n < 1
    · have e : startedF w n now = (w, 6) := by simp [startedF, c', svAt, show ¬ (1 ≤ n ∧ n ≤ w.svs.length) by omega]
      rw [e]
      exact ⟨h, pvF 0 Try.func15 (w8p.sd_low i j 0 0 n 0 now 0 0 0 [] [] h) ⟨hl, by simpa [Asm.holds, cmpB] using d1, trivial⟩, a, .refl _ _⟩
    · by_cases d2 : n > w.svs.length
      · have e : startedF w n now = (w, 6) := by simp [startedF, c', svAt, show ¬ (1 ≤ n ∧ n ≤ w.svs.length) by omega]
        rw [e]
        exact ⟨h, pvF 0 Try.func15 (w8p.sd_high i j w.svs.length 0 n 0 now 0 0 0 [] [] h) ⟨hl, by simpa [Asm.holds, cmpB] using d1, a_ld1 a.obj rfl, by simpa [Asm.holds, cmpB] using d2, trivial⟩, a, .refl _ _⟩
      · have hk : (n - 1).toNat < w.svs.length := by omega
        have hx := List.getElem?_eq_getElem hk
        obtain ⟨x, hxe⟩ : ∃ x, w.svs[(n - 1).toNat] = x := ⟨_, rfl⟩
        rw [hxe] at hx
        obtain ⟨g1, g2, g3⟩ := svC_get hx
        have ar : IntKind.i64.wrap (n - 1) = n - 1 := wrap_id (by omega) (by omega)
        have hsv : svAt w n = some x := by simp only [svAt, if_pos (show 1 ≤ n ∧ n ≤ (w.svs.length : Int) by omega), hx]
        have f1 : (Asm.cmp .lss n 1 false).holds Try.prog := by simpa [Asm.holds, cmpB] using d1
        have f2 : (Asm.cmp .gtr n (Int.ofNat w.svs.length) false).holds Try.prog := by simpa [Asm.holds, cmpB] using d2
        have f3 : (Asm.arith .sub .i64 n 1 (n - 1)).holds Try.prog := by simp only [Asm.holds, arithI, ar]
        have f4 : (Asm.off ((n - 1).toNat * 3) 0 (n - 1) w.svs.length 3).holds Try.prog := ⟨by omega, by omega, by omega⟩
        by_cases d3 : x.state = 4
        · by_cases d4 : now < x.at'
          · have e : startedF w n now = (w, 22) := by simp [startedF, c', hsv, d3, d4]
            rw [e]
            exact ⟨h, pvF 0 Try.func15 (w8p.sd_soon i j w.svs.length ((n - 1).toNat * 3) n (n - 1) now x.state x.at' 0 [] [] h) ⟨hl, f1, a_ld1 a.obj rfl, f2, a_ld1 a.obj rfl, f3, f4, a_ld1 a.svs g2, by simpa [Asm.holds, cmpB] using d3, a_ld1 a.obj rfl, f3, f4, a_ld1 a.svs g3,
              by simpa [Asm.holds, cmpB] using d4, trivial⟩, a, .refl _ _⟩
          · have e : startedF w n now = ({ w with now := now, svs := putSv w.svs n fun x => ⟨x.when, 1, 0⟩ }, 0) := by simp [startedF, c', hsv, d3, d4]
            rw [e]
            have a1 := a.nowSet now
            have hput := svC_put (⟨x.when, 1, 0⟩ : Sv) hx
            have hps : putSv w.svs n (fun x => ⟨x.when, 1, 0⟩) = w.svs.set (n - 1).toNat ⟨x.when, 1, 0⟩ := by simp only [putSv, hx]
            rw [← hps] at hput
            have st1 := a_st (P := Try.prog) (s := .is h) (d := 7) (l := [.int .i64 now]) (c' := wCells { w with now := now } j t) a.obj (by simp [wCells]) rfl
            have st2 := a_st (P := Try.prog) (s := .set (.is h) i (.cells (wCells { w with now := now } j t) true)) (d := (n - 1).toNat * 3) (l := (⟨x.when, 1, 0⟩ : Sv).cells) (c' := svC (putSv w.svs n fun x => ⟨x.when, 1, 0⟩)) a1.svs (by show _ ≤ (svC w.svs).length; simp [Sv.cells]; omega) hput
            refine ⟨_, pvF 0 Try.func15 (w8p.sd_ok i j w.svs.length ((n - 1).toNat * 3) n (n - 1) now x.state x.at' x.when (wCells { w with now := now } j t) (svC (putSv w.svs n fun x => ⟨x.when, 1, 0⟩)) h)
              ⟨hl, f1, a_ld1 a.obj rfl, f2, a_ld1 a.obj rfl, f3, f4, a_ld1 a.svs g2, by simpa [Asm.holds, cmpB] using d3, a_ld1 a.obj rfl, f3, f4, a_ld1 a.svs g3, by simpa [Asm.holds, cmpB] using d4, st1, stat15, a_ld1 a1.obj rfl, f3, a_ld1 a1.obj rfl, f3, f4, a_ld1 a1.svs g1, f4, st2, trivial⟩, ?_, ?_⟩
            · exact a1.put (Keep.set (fp := fun q => q = j) rfl _) (fun q _ e => .inl e) (get_set_eq a1.svs) (putSv_len _ _ _)
            · exact (Keep.set (fp := fun q => q = i ∨ q = j) (.inl rfl) _).trans (Keep.set (fp := fun q => q = i ∨ q = j) (.inr rfl) _)
        · have e : startedF w n now = (w, 6) := by simp [startedF, c', hsv, d3]
          rw [e]
          exact ⟨h, pvF 0 Try.func15 (w8p.sd_none i j w.svs.length ((n - 1).toNat * 3) n (n - 1) now x.state 0 0 [] [] h) ⟨hl, f1, a_ld1 a.obj rfl, f2, a_ld1 a.obj rfl, f3, f4, a_ld1 a.svs g2, by simpa [Asm.holds, cmpB] using d3, trivial⟩, a, .refl _ _⟩

/-! ### Ended -/

def textB (s : ByteArray) : Bool := decide (s.size ≤ 60) && s.data.toList.all fun b => decide (32 ≤ b.toNat) && decide (b.toNat ≤ 126)
/-- What 'valid.Text' comes to: shown apart. -/
def TextRun : Prop := ∀ (g : Hp) (s : ByteArray), Run Try.prog 44 [.string s] g (.bool (textB s)) g

def faultB (fk : Int) (ft : ByteArray) : Bool := if fk = 0 ∨ fk = 2 then ft.toList == (⟨#[]⟩ : ByteArray).toList else if fk = 1 then textB ft else false

theorem fault_run (hT : TextRun) (g : Hp) (fk : Int) (ft : ByteArray) : Run Try.prog 31 [.agg #[.int .i64 fk, .string ft]] g (.bool (faultB fk ft)) (g ++ [.cells [.int .i64 fk, .string ft] true]) := by
  by_cases c0 : fk = 0
  · have e : faultB fk ft = (ft.toList == (⟨#[]⟩ : ByteArray).toList) := by simp [faultB, c0]
    rw [e]
    exact pvF 0 Try.func31 (w8p.fa_none g.length fk ft _ g) ⟨rfl, a_ld1 (get_new g _) rfl, by simpa [Asm.holds, cmpB] using c0, a_ld1 (get_new g _) rfl, .inl ⟨rfl, rfl⟩, trivial⟩
  · by_cases c2 : fk = 2
    · have e : faultB fk ft = (ft.toList == (⟨#[]⟩ : ByteArray).toList) := by simp [faultB, c2]
      rw [e]
      exact pvF 0 Try.func31 (w8p.fa_cancel g.length fk ft _ g) ⟨rfl, a_ld1 (get_new g _) rfl, by simpa [Asm.holds, cmpB] using c0, by simpa [Asm.holds, cmpB] using c2, a_ld1 (get_new g _) rfl, .inl ⟨rfl, rfl⟩, trivial⟩
    · by_cases c1 : fk = 1
      · have e : faultB fk ft = textB ft := by simp [faultB, c1]
        rw [e]
        exact pvF 0 Try.func31 (w8p.fa_throw g.length fk ft _ g _) ⟨rfl, a_ld1 (get_new g _) rfl, by simpa [Asm.holds, cmpB] using c0, by simpa [Asm.holds, cmpB] using c2, by simpa [Asm.holds, cmpB] using c1, a_ld1 (get_new g _) rfl, hT _ _, trivial⟩
      · have e : faultB fk ft = false := by simp [faultB, c0, c1, c2]
        rw [e]
        exact pvF 0 Try.func31 (w8p.fa_other g.length fk ft g) ⟨rfl, a_ld1 (get_new g _) rfl, by simpa [Asm.holds, cmpB] using c0, by simpa [Asm.holds, cmpB] using c2, by simpa [Asm.holds, cmpB] using c1, trivial⟩

/-- What becomes of a service that ended (x: as it was), and the orders. -/
def followF (w : WS) (n fk : Int) (x : Sv) : WS × List Sv :=
  if w.given = true then ({ w with svs := setSt w.svs n 5 }, []) else
  if x.state = 2 then beginF { w with svs := setSt w.svs n 3 } else
  if x.when = 3 ∨ (x.when = 2 ∧ fk ≠ 1) then ({ w with svs := setSt w.svs n 5 }, []) else againF w n

def doneF (r : WS × List Sv) : WS × List Sv := (r.1, if overOf r.1 = true then r.2 ++ [⟨4, 0, 0⟩] else r.2)

def endedF (w : WS) (n fk : Int) (ft : ByteArray) (now : Int) : WS × List Sv × Int :=
  if lateB w now = true ∨ faultB fk ft = false then (w, [], 2) else match svAt w n with
    | none => (w, [], 6)
    | some x => if x.state = 1 ∨ x.state = 2 then let r := doneF (followF { w with now := now } n fk x); (r.1, r.2, 0) else (w, [], 6)

theorem body14 : Try.f14.body = some (thenC (.seq (partC Try.f14 [0]) (.seq (partC Try.f14 [1, 0]) (.seq (partC Try.f14 [1, 1, 0]) (.seq (partC Try.f14 [1, 1, 1, 0]) (.seq (partC Try.f14 [1, 1, 1, 1, 0]) (partC Try.f14 [1, 1, 1, 1, 1, 0]))))))
    (.seq (partC Try.f14 [1, 1, 1, 1, 1, 1, 0]) (partC Try.f14 [1, 1, 1, 1, 1, 1, 1]))) := by kernel_rfl

theorem WOk.svs {l : List Sv} (hw : WOk w) (hl : l.length = w.svs.length) : WOk { w with svs := l } := ⟨by simp only [hl]; exact hw.n1, by simp only [hl]; exact hw.n8, hw.most, hw.within, hw.base, hw.cap, hw.now, hw.delay, hw.times, hw.rule⟩
theorem WOk.begin (hw : WOk w) : WOk (beginF w).1 ∧ (beginF w).1.svs.length = w.svs.length := by
  unfold beginF
  split
  · exact ⟨hw, rfl⟩
  · exact ⟨⟨by simp; exact hw.n1, by simp; exact hw.n8, hw.most, hw.within, hw.base, hw.cap, hw.now, by simp, hw.times, hw.rule⟩, by simp⟩
theorem WOk.giveUp (hw : WOk w) (n : Int) : WOk (giveUpF w n).1 ∧ (giveUpF w n).1.svs.length = w.svs.length := by
  have hl : (giveUpF w n).1.svs.length = w.svs.length := by simp [giveUpF, stopped, stS_len, gave, mS_len, setSt_len]
  exact ⟨⟨by rw [hl]; exact hw.n1, by rw [hl]; exact hw.n8, hw.most, hw.within, hw.base, hw.cap, hw.now, hw.delay, hw.times, hw.rule⟩, hl⟩
theorem WOk.again (hw : WOk w) (ht : w.times.length < 10000) (n : Int) : WOk (againF w n).1 ∧ (againF w n).1.svs.length = w.svs.length := by
  unfold againF
  split
  · exact (hw.timed ht).giveUp n
  · obtain ⟨h1, h2⟩ := (hw.off3 ht n).begin
    exact ⟨h1, by rw [h2, off3_len]⟩
theorem WOk.follow (hw : WOk w) (ht : w.times.length < 10000) (n fk : Int) (x : Sv) : WOk (followF w n fk x).1 ∧ (followF w n fk x).1.svs.length = w.svs.length := by
  unfold followF
  split
  · exact ⟨hw.svs (setSt_len _ _ _), setSt_len _ _ _⟩
  · split
    · obtain ⟨h1, h2⟩ := (hw.svs (setSt_len w.svs n 3)).begin
      exact ⟨h1, by rw [h2]; exact setSt_len _ _ _⟩
    · split
      · exact ⟨hw.svs (setSt_len _ _ _), setSt_len _ _ _⟩
      · exact hw.again ht n

/-- The switch: what follows. -/
theorem switch_run {g : Hp} (a : WAt g i j t w) (hw : WOk w) (ht : w.times.length < 10000) {n fk : Int} {ft : ByteArray} {b : Nat} (hn : 1 ≤ n ∧ n ≤ w.svs.length) {x : Sv} (hx : w.svs[(n - 1).toNat]? = some x) (hb : g[b]? = some (.cells [.int .i64 fk, .string ft] true)) (hbj : b ≠ j)
    {E : Env} (hE : EnvLe [(11, .slice none 0 0), (10, .pointer (some ⟨j, (n - 1).toNat * 3, none⟩)), (6, .pointer (some ⟨b, 0, none⟩)), (1, .int .i64 n), (0, .pointer (some ⟨i, 0, none⟩))] E) :
    ∃ E1 v g1 t1, EnvLe [(11, v), (0, .pointer (some ⟨i, 0, none⟩))] E1 ∧ CRun Try.prog 118 false (partC Try.f14 [1, 1, 1, 1, 1, 1, 0]) E g .normal E1 g1 ∧ WAt g1 i j t1 (followF w n fk x).1 ∧ (∃ b, g.length ≤ b ∧ (∀ q, t1 = some q → q < b) ∧ OrdAt g1 b v (followF w n fk x).2) ∧ Keep (fpW i j t) g g1 ∧
      (∀ q, t1 = some q → t = some q ∨ g.length ≤ q) := by
  have n8 := hw.n8
  have hlc := svC_len w.svs
  obtain ⟨g1, g2, g3⟩ := svC_get hx
  have hk := get_lt' hx
  have htl : ∀ q, t = some q → q < g.length := fun q e => a.lts q (.inr (.inr e))
  have hset : ∀ s : Int, setSt w.svs n s = w.svs.set (n - 1).toNat { x with state := s } := fun s => by simp only [setSt, hx]
  have aS : ∀ s : Int, WAt (g.set j (.cells (svC (setSt w.svs n s)) true)) i j t { w with svs := setSt w.svs n s } := fun s => a.put (Keep.set (fp := fun q => q = j) rfl _) (fun q _ e => .inl e) (get_set_eq a.svs) (setSt_len _ _ _)
  have KS : ∀ s : Int, Keep (fpW i j t) g (g.set j (.cells (svC (setSt w.svs n s)) true)) := fun s => Keep.set (fp := fpW i j t) (.inr (.inl rfl)) _
  have stS' : ∀ s : Int, (Asm.st (.is g) j ((n - 1).toNat * 3 + 1) [.int .i64 s] (svC (setSt w.svs n s))).holds Try.prog := fun s => a_st a.svs (by rw [hlc]; simp; omega) (by rw [hset]; exact svC_state s hx)
  have wS : ∀ s : Int, WOk { w with svs := setSt w.svs n s } := fun s => ⟨by simp only [setSt_len]; exact hw.n1, by simp only [setSt_len]; exact hw.n8, hw.most, hw.within, hw.base, hw.cap, hw.now, hw.delay, hw.times, hw.rule⟩
  unfold followF
  by_cases cg : w.given = true
  · rw [if_pos cg]
    have hgv : (wCells w j t)[10]? = some (.bool true) := by simp [wCells, cg]
    obtain ⟨E2, q1, q2⟩ := pvC 0 hE (w8p.sw_given i j b ((n - 1).toNat * 3) n 0 0 0 ft (svC (setSt w.svs n 5)) .nilFunc g g) ⟨a_ld1 a.obj hgv, stS' 5, trivial⟩
    exact ⟨E2, _, _, t, .trans (.add (.add (.nil _) rfl) rfl) q1, q2, aS 5, ⟨g.length, Nat.le_refl _, htl, .inl ⟨rfl, rfl⟩⟩, KS 5, fun q e => .inl e⟩
  · rw [if_neg cg]
    have hgv : (wCells w j t)[10]? = some (.bool false) := by simp [wCells, Bool.eq_false_iff.2 cg]
    by_cases c2 : x.state = 2
    · rw [if_pos c2]
      obtain ⟨v, h', r1, r2, r3, r4⟩ := begin_run (aS 3) (wS 3)
      obtain ⟨E2, q1, q2⟩ := pvC 0 hE (w8p.sw_stop i j b ((n - 1).toNat * 3) n x.state 0 0 ft (svC (setSt w.svs n 3)) v g h') ⟨a_ld1 a.obj hgv, a_ld1 a.svs g2, by simpa [Asm.holds, cmpB] using c2, stS' 3, r1, trivial⟩
      refine ⟨E2, v, h', t, .trans (.add (.add (.nil _) rfl) rfl) q1, q2, r2, ⟨g.length, Nat.le_refl _, htl, r3.base (by simp)⟩, (KS 3).trans (r4.mono fun q _ e => ?_), fun q e => .inl e⟩
      rcases e with e | e
      · exact .inl e
      · exact .inr (.inl e)
    · rw [if_neg c2]
      have f2 : (Asm.cmp .eql x.state 2 false).holds Try.prog := by simpa [Asm.holds, cmpB] using c2
      by_cases c3 : x.when = 3
      · rw [if_pos (.inl c3)]
        obtain ⟨E2, q1, q2⟩ := pvC 0 hE (w8p.sw_never i j b ((n - 1).toNat * 3) n x.state x.when 0 ft (svC (setSt w.svs n 5)) .nilFunc g g) ⟨a_ld1 a.obj hgv, a_ld1 a.svs g2, f2, a_ld1 a.svs g1, by simpa [Asm.holds, cmpB] using c3, stS' 5, trivial⟩
        exact ⟨E2, _, _, t, .trans (.add (.add (.nil _) rfl) rfl) q1, q2, aS 5, ⟨g.length, Nat.le_refl _, htl, .inl ⟨rfl, rfl⟩⟩, KS 5, fun q e => .inl e⟩
      · have f3 : (Asm.cmp .eql x.when 3 false).holds Try.prog := by simpa [Asm.holds, cmpB] using c3
        by_cases c4 : x.when = 2
        · have f4 : (Asm.cmp .eql x.when 2 true).holds Try.prog := by simpa [Asm.holds, cmpB] using c4
          by_cases c5 : fk = 1
          · rw [if_neg (by simp [c3, c5])]
            obtain ⟨v, h', t', r1, r2, r3, r4, r5⟩ := again_run a hw ht hn
            obtain ⟨E2, q1, q2⟩ := pvC 0 hE (w8p.sw_throw i j b ((n - 1).toNat * 3) n x.state x.when fk ft [] v g h') ⟨a_ld1 a.obj hgv, a_ld1 a.svs g2, f2, a_ld1 a.svs g1, f3, a_ld1 a.svs g1, f4, a_ld1 hb rfl, by simp [Asm.holds, cmpB, c5], r1, trivial⟩
            exact ⟨E2, v, h', t', .trans (.add (.add (.nil _) rfl) rfl) q1, q2, r2, r3, r4, fun q e => .inr (r5 q e)⟩
          · rw [if_pos (.inr ⟨c4, c5⟩)]
            obtain ⟨E2, q1, q2⟩ := pvC 0 hE (w8p.sw_fail i j b ((n - 1).toNat * 3) n x.state x.when fk ft (svC (setSt w.svs n 5)) .nilFunc g g) ⟨a_ld1 a.obj hgv, a_ld1 a.svs g2, f2, a_ld1 a.svs g1, f3, a_ld1 a.svs g1, f4, a_ld1 hb rfl, by simpa [Asm.holds, cmpB] using c5, stS' 5, trivial⟩
            exact ⟨E2, _, _, t, .trans (.add (.add (.nil _) rfl) rfl) q1, q2, aS 5, ⟨g.length, Nat.le_refl _, htl, .inl ⟨rfl, rfl⟩⟩, KS 5, fun q e => .inl e⟩
        · rw [if_neg (by simp [c3, c4])]
          obtain ⟨v, h', t', r1, r2, r3, r4, r5⟩ := again_run a hw ht hn
          obtain ⟨E2, q1, q2⟩ := pvC 0 hE (w8p.sw_again i j b ((n - 1).toNat * 3) n x.state x.when fk ft [] v g h') ⟨a_ld1 a.obj hgv, a_ld1 a.svs g2, f2, a_ld1 a.svs g1, f3, a_ld1 a.svs g1, by simpa [Asm.holds, cmpB] using c4, r1, trivial⟩
          exact ⟨E2, v, h', t', .trans (.add (.add (.nil _) rfl) rfl) q1, q2, r2, r3, r4, fun q e => .inr (r5 q e)⟩

theorem followF_len (hw : WOk w) (n fk : Int) (x : Sv) : (followF w n fk x).2.length ≤ 100 := by
  have n8 := hw.n8
  unfold followF
  split
  · simp
  · split
    · have := beginF_len { w with svs := setSt w.svs n 3 }
      simp only [setSt_len] at this
      omega
    · split
      · simp
      · unfold againF
        split
        · have := stO_len (fun _ => true) 0 (gave (timed w) n).svs
          have e : (gave (timed w) n).svs.length = w.svs.length := by simp [gave, mS_len, setSt_len, timed]
          simp only [giveUpF, List.length_cons]
          omega
        · have h1 := stO_len (nameP w n) 0 (off1 w n).svs
          have h2 := beginF_len (off3 w n)
          rw [off1_len] at h1
          rw [off3_len] at h2
          simp only [List.length_append]
          omega

theorem ended_run (hT : TextRun) (a : WAt h i j t w) (hw : WOk w) (ht : w.times.length < 10000) (n fk now : Int) (ft : ByteArray) :
    ∃ v h' t', Run Try.prog 14 [.pointer (some ⟨i, 0, none⟩), .int .i64 n, .agg #[.int .i64 fk, .string ft], .int .i64 now] h (.tuple #[v, .int .i64 (endedF w n fk ft now).2.2]) h' ∧ WAt h' i j t' (endedF w n fk ft now).1 ∧
      (∃ b, h.length ≤ b ∧ (∀ q, t' = some q → q < b) ∧ OrdAt h' b v (endedF w n fk ft now).2.1) ∧ Keep (fpW i j t) h h' ∧ (∀ q, t' = some q → t = some q ∨ h.length ≤ q) := by
  have n8 := hw.n8
  have hil := get_lt a.obj
  have hjl := get_lt a.svs
  have htl : ∀ q, t = some q → q < h.length := fun q e => a.lts q (.inr (.inr e))
  have a0 := a.app [AObj.cells [.int .i64 fk, .string ft] true]
  have hl := late_run a0 now
  have K0 : Keep (fpW i j t) h (h ++ [AObj.cells [.int .i64 fk, .string ft] true]) := Keep.push _ _ _
  by_cases c : lateB w now = true
  · have e : endedF w n fk ft now = (w, [], 2) := by simp [endedF, c]
    rw [e]
    unfold lateB at c
    rw [c] at hl
    exact ⟨_, _, t, pvF 0 Try.func14 (w8p.en_late i j 0 h.length 0 n 0 now fk 0 ft h h) ⟨rfl, hl, trivial⟩, a0, ⟨h.length, Nat.le_refl _, htl, .inl ⟨rfl, rfl⟩⟩, K0, fun q e => .inl e⟩
  · have c' : lateB w now = false := by simpa using c
    have c2 := c'
    unfold lateB at c2
    rw [c2] at hl
    have hf := fault_run hT (h ++ [AObj.cells [.int .i64 fk, .string ft] true]) fk ft
    have K1 : Keep (fpW i j t) h (h ++ [AObj.cells [.int .i64 fk, .string ft] true] ++ [AObj.cells [.int .i64 fk, .string ft] true]) := K0.trans (Keep.push _ _ _)
    have a1 := a0.app [AObj.cells [.int .i64 fk, .string ft] true]
    have ldb := a_ldn (P := Try.prog) (s := .push (.is h) (.cells [.int .i64 fk, .string ft] true)) (d := 0) (k := 2) (l := [.int .i64 fk, .string ft]) (get_new h _) (by simp) rfl
    by_cases cf : faultB fk ft = true
    · rw [cf] at hf
      by_cases d1 : n < 1
      · have e : endedF w n fk ft now = (w, [], 6) := by simp [endedF, c', cf, svAt, show ¬ (1 ≤ n ∧ n ≤ w.svs.length) by omega]
        rw [e]
        exact ⟨_, _, t, pvF 0 Try.func14 (w8p.en_low i j 0 h.length 0 n 0 now fk 0 ft h _) ⟨rfl, hl, ldb, hf, by simpa [Asm.holds, cmpB] using d1, trivial⟩, a1, ⟨h.length, Nat.le_refl _, htl, .inl ⟨rfl, rfl⟩⟩, K1, fun q e => .inl e⟩
      · have f1 : (Asm.cmp .lss n 1 false).holds Try.prog := by simpa [Asm.holds, cmpB] using d1
        by_cases d2 : n > w.svs.length
        · have e : endedF w n fk ft now = (w, [], 6) := by simp [endedF, c', cf, svAt, show ¬ (1 ≤ n ∧ n ≤ w.svs.length) by omega]
          rw [e]
          exact ⟨_, _, t, pvF 0 Try.func14 (w8p.en_high i j w.svs.length h.length 0 n 0 now fk 0 ft h _) ⟨rfl, hl, ldb, hf, f1, a_ld1 a1.obj rfl, by simpa [Asm.holds, cmpB] using d2, trivial⟩, a1, ⟨h.length, Nat.le_refl _, htl, .inl ⟨rfl, rfl⟩⟩, K1, fun q e => .inl e⟩
        · have hn : 1 ≤ n ∧ n ≤ w.svs.length := by omega
          have hk : (n - 1).toNat < w.svs.length := by omega
          obtain ⟨x, hx⟩ : ∃ x, w.svs[(n - 1).toNat]? = some x := ⟨_, List.getElem?_eq_getElem hk⟩
          obtain ⟨g1, g2, g3⟩ := svC_get hx
          have ar : IntKind.i64.wrap (n - 1) = n - 1 := wrap_id (by omega) (by omega)
          have hsv : svAt w n = some x := by simp only [svAt, if_pos hn, hx]
          have f2 : (Asm.cmp .gtr n (Int.ofNat w.svs.length) false).holds Try.prog := by simpa [Asm.holds, cmpB] using d2
          have f3 : (Asm.arith .sub .i64 n 1 (n - 1)).holds Try.prog := by simp only [Asm.holds, arithI, ar]
          have f4 : (Asm.off ((n - 1).toNat * 3) 0 (n - 1) w.svs.length 3).holds Try.prog := ⟨by omega, by omega, by omega⟩
          by_cases d3 : x.state = 1 ∨ x.state = 2
          · -- it ends
            have e : endedF w n fk ft now = ((doneF (followF { w with now := now } n fk x)).1, (doneF (followF { w with now := now } n fk x)).2, 0) := by simp [endedF, c', cf, hsv, d3]
            rw [e]
            have a2 := a1.nowSet now
            have hnw : 0 ≤ now ∧ now ≤ 1000000000000 := by
              simp [lateB] at c'; have := hw.now; omega
            have hwn : WOk { w with now := now } := ⟨hw.n1, hw.n8, hw.most, hw.within, hw.base, hw.cap, hnw, hw.delay, hw.times, hw.rule⟩
            have st1 := a_st (P := Try.prog) (s := .is (h ++ [AObj.cells [.int .i64 fk, .string ft] true] ++ [AObj.cells [.int .i64 fk, .string ft] true])) (d := 7) (l := [.int .i64 now]) (c' := wCells { w with now := now } j t) a1.obj (by simp [wCells]) rfl
            have hpre : ∃ E2, EnvLe [(11, .slice none 0 0), (10, .pointer (some ⟨j, (n - 1).toNat * 3, none⟩)), (6, .pointer (some ⟨h.length, 0, none⟩)), (1, .int .i64 n), (0, .pointer (some ⟨i, 0, none⟩))] E2 ∧
                CRun Try.prog 118 false (.seq (partC Try.f14 [0]) (.seq (partC Try.f14 [1, 0]) (.seq (partC Try.f14 [1, 1, 0]) (.seq (partC Try.f14 [1, 1, 1, 0]) (.seq (partC Try.f14 [1, 1, 1, 1, 0]) (partC Try.f14 [1, 1, 1, 1, 1, 0])))))) (enterE 0 [.pointer (some ⟨i, 0, none⟩), .int .i64 n, .agg #[.int .i64 fk, .string ft], .int .i64 now]) h .normal E2
                ((h ++ [AObj.cells [.int .i64 fk, .string ft] true] ++ [AObj.cells [.int .i64 fk, .string ft] true]).set i (.cells (wCells { w with now := now } j t) true)) := by
              by_cases d4 : x.state = 1
              · obtain ⟨E2, q1, q2⟩ := pvC 0 (EnvLe.refl _) (w8p.en_run i j w.svs.length h.length ((n - 1).toNat * 3) n (n - 1) now fk x.state ft h _ (wCells { w with now := now } j t))
                  ⟨rfl, hl, ldb, hf, f1, a_ld1 a1.obj rfl, f2, a_ld1 a1.obj rfl, f3, f4, a_ld1 a1.svs g2, by simpa [Asm.holds, cmpB] using d4, st1, a_ld1 a2.obj rfl, f3, f4, trivial⟩
                exact ⟨E2, .trans (.add (.add (.add (.add (.add (.nil _) rfl) rfl) rfl) rfl) rfl) q1, q2⟩
              · have d5 : x.state = 2 := by rcases d3 with d | d; exact absurd d d4; exact d
                obtain ⟨E2, q1, q2⟩ := pvC 0 (EnvLe.refl _) (w8p.en_stp i j w.svs.length h.length ((n - 1).toNat * 3) n (n - 1) now fk x.state ft h _ (wCells { w with now := now } j t))
                  ⟨rfl, hl, ldb, hf, f1, a_ld1 a1.obj rfl, f2, a_ld1 a1.obj rfl, f3, f4, a_ld1 a1.svs g2, by simpa [Asm.holds, cmpB] using d4, a_ld1 a1.obj rfl, f3, f4, a_ld1 a1.svs g2, by simpa [Asm.holds, cmpB] using d5, st1, a_ld1 a2.obj rfl, f3, f4, trivial⟩
                exact ⟨E2, .trans (.add (.add (.add (.add (.add (.nil _) rfl) rfl) rfl) rfl) rfl) q1, q2⟩
            obtain ⟨E2, hE2, c1⟩ := hpre
            have K2 : Keep (fpW i j t) h ((h ++ [AObj.cells [.int .i64 fk, .string ft] true] ++ [AObj.cells [.int .i64 fk, .string ft] true]).set i (.cells (wCells { w with now := now } j t) true)) := K1.trans (Keep.set (fp := fpW i j t) (.inl rfl) _)
            have hb : ((h ++ [AObj.cells [.int .i64 fk, .string ft] true] ++ [AObj.cells [.int .i64 fk, .string ft] true]).set i (.cells (wCells { w with now := now } j t) true))[h.length]? = some (.cells [.int .i64 fk, .string ft] true) := get_set_ne (get_push (get_new h _)) (by omega)
            obtain ⟨E3, v, g3', t3, hE3, c3, a3, ⟨bo, hbo1, hbo2, o3⟩, K3, ht3⟩ := switch_run a2 hwn ht hn hx hb (by omega) hE2
            have hw3 := (hwn.follow ht n fk x).1
            obtain ⟨W2, hW2⟩ : ∃ W2, followF { w with now := now } n fk x = W2 := ⟨_, rfl⟩
            have hlen := followF_len hwn n fk x
            rw [hW2] at a3 o3 hw3 hlen ⊢
            have ho : (g3' ++ [AObj.cells (iC [1, 2, 3, 4]) true])[g3'.length]? = some (.cells (iC [1, 2, 3, 4]) true) := get_new _ _
            obtain ⟨os, hany⟩ := any_run (a3.app [AObj.cells (iC [1, 2, 3, 4]) true]) hw3 ho (by simp)
            have K4 : Keep (fpW i j t) h (g3' ++ [AObj.cells (iC [1, 2, 3, 4]) true] ++ os) := ((K2.trans K3).trans (Keep.push _ _ _)).trans (Keep.app _ _ _)
            have hh3 : h.length ≤ ((h ++ [AObj.cells [.int .i64 fk, .string ft] true] ++ [AObj.cells [.int .i64 fk, .string ft] true]).set i (.cells (wCells { w with now := now } j t) true)).length := K2.1
            have a4 := (a3.app [AObj.cells (iC [1, 2, 3, 4]) true]).app os
            have Kn : Keep (fun _ => False) g3' (g3' ++ [AObj.cells (iC [1, 2, 3, 4]) true] ++ os) := (Keep.push _ _ _).trans (Keep.app _ _ _)
            have hbh : h.length ≤ bo := Nat.le_trans hh3 hbo1
            have o4 : OrdAt (g3' ++ [AObj.cells (iC [1, 2, 3, 4]) true] ++ os) bo v W2.2 := o3.keep Kn (fun q _ _ e => e)
            let h3l : Nat := g3'.length
            have hh3l : h.length ≤ h3l := (K2.trans K3).1
            have ht3l : ∀ q, t3 = some q → q < h3l := fun q e => a3.lts q (.inr (.inr e))
            have ht4 : ∀ q, t3 = some q → t = some q ∨ h.length ≤ q := fun q e => by rcases ht3 q e with e | e; exact .inl e; exact .inr (by omega)
            have fin : ∀ {E6 : Env} {h' : Hp} {v' : Value}, CRun Try.prog 118 false (partC Try.f14 [1, 1, 1, 1, 1, 1, 1]) E3 g3' .ret E6 h' → Go.Ev.look E6 8 = some v' → Go.Ev.look E6 9 = some (.int .i64 0) →
                Run Try.prog 14 [.pointer (some ⟨i, 0, none⟩), .int .i64 n, .agg #[.int .i64 fk, .string ft], .int .i64 now] h (.tuple #[v', .int .i64 0]) h' := fun c6 e8 e9 =>
              Run.code Try.func14 body14 (.inr rfl) (c1.thenC (c3.seq c6)) (evResults_two rfl e8 e9)
            by_cases z : (W2.1.svs.any fun x => [1, 2, 3, 4].contains x.state) = true
            · have hov : overOf W2.1 = false := by unfold overOf; rw [z]; rfl
              rw [z] at hany
              obtain ⟨E6, q1, q2⟩ := pvC 0 hE3 (w8p.tl_some i g3'.length v g3' _) ⟨rfl, hany, trivial⟩
              refine ⟨v, _, t3, fin q2 (q1 8 _ rfl) (q1 9 _ rfl), a4, ?_, K4, ht4⟩
              simp only [doneF, hov]; exact ⟨bo, hbh, hbo2, o4⟩
            · have hov : overOf W2.1 = true := by unfold overOf; rw [Bool.eq_false_iff.2 z]; rfl
              rw [Bool.eq_false_iff.2 z] at hany
              simp only [doneF, hov, if_true]
              rcases o4 with ⟨rfl, hnil⟩ | ⟨o, rfl, ho4, hbo, hne⟩
              · obtain ⟨E6, q1, q2⟩ := pvC 0 hE3 (w8p.tl_done0 i g3'.length _ _ g3' _) ⟨rfl, hany, rfl, a_app3n (l2 := [⟨4, 0, 0⟩]) (get_new _ _) (by simp) (by simp) rfl, trivial⟩
                rw [hnil]
                exact ⟨_, _, t3, fin q2 (q1 8 _ rfl) (q1 9 _ rfl), (a4.app _).app _, ⟨h3l, by omega, ht3l, .inr ⟨_, rfl, get_new _ _, by simp [SH.den, h3l], by simp⟩⟩, (K4.trans (Keep.push _ _ _)).trans (Keep.push _ _ _), ht4⟩
              · have hol := get_lt ho4
                obtain ⟨E6, q1, q2⟩ := pvC 0 hE3 (w8p.tl_done1 i g3'.length _ _ o W2.2.length (svC (W2.2 ++ [⟨4, 0, 0⟩])) g3' _) ⟨rfl, hany, rfl, a_app3 (l1 := W2.2) (l2 := [⟨4, 0, 0⟩]) (get_push ho4) (get_new _ _) (by simp) (by simp; omega) rfl, trivial⟩
                have hKd : Keep (fun q => q = o) (g3' ++ [AObj.cells (iC [1, 2, 3, 4]) true] ++ os ++ [AObj.cells [.int .i64 4, .int .i64 0, .int .i64 0] true]) (((g3' ++ [AObj.cells (iC [1, 2, 3, 4]) true] ++ os ++ [AObj.cells [.int .i64 4, .int .i64 0, .int .i64 0] true]).set o .dead) ++ [AObj.cells (svC (W2.2 ++ [⟨4, 0, 0⟩])) true]) :=
                  (Keep.set (fp := fun q => q = o) rfl _).trans (Keep.push _ _ _)
                have Kp : Keep (fpW i j t) h (g3' ++ [AObj.cells (iC [1, 2, 3, 4]) true] ++ os ++ [AObj.cells [.int .i64 4, .int .i64 0, .int .i64 0] true]) := K4.trans (Keep.push _ _ _)
                refine ⟨_, _, t3, fin q2 (q1 8 _ rfl) (q1 9 _ rfl), (a4.app [AObj.cells [.int .i64 4, .int .i64 0, .int .i64 0] true]).keep hKd (fun q _ e hf => ?_), ⟨h3l, by omega, ht3l, .inr ⟨(g3' ++ [AObj.cells (iC [1, 2, 3, 4]) true] ++ os).length + 1, by simp [SH.den], get_new' _ (by simp [SH.den]; omega), by simp [h3l]; omega, by simp⟩⟩, Kp.trans_new hKd (fun q hq e => by omega), ht4⟩
                subst e
                rcases hf with r | r | r
                · omega
                · omega
                · have := hbo2 _ r; omega
          · have e : endedF w n fk ft now = (w, [], 6) := by simp [endedF, c', cf, hsv, d3]
            rw [e]
            have d4 : ¬ x.state = 1 := fun e => d3 (.inl e)
            have d5 : ¬ x.state = 2 := fun e => d3 (.inr e)
            exact ⟨_, _, t, pvF 0 Try.func14 (w8p.en_none i j w.svs.length h.length ((n - 1).toNat * 3) n (n - 1) now fk x.state ft h _) ⟨rfl, hl, ldb, hf, f1, a_ld1 a1.obj rfl, f2, a_ld1 a1.obj rfl, f3, f4, a_ld1 a1.svs g2, by simpa [Asm.holds, cmpB] using d4,
              a_ld1 a1.obj rfl, f3, f4, a_ld1 a1.svs g2, by simpa [Asm.holds, cmpB] using d5, trivial⟩, a1, ⟨h.length, Nat.le_refl _, htl, .inl ⟨rfl, rfl⟩⟩, K1, fun q e => .inl e⟩
    · have cf' : faultB fk ft = false := by simpa using cf
      have e : endedF w n fk ft now = (w, [], 2) := by simp [endedF, cf']
      rw [e]
      rw [cf'] at hf
      exact ⟨_, _, t, pvF 0 Try.func14 (w8p.en_bad i j 0 h.length 0 n 0 now fk 0 ft h _) ⟨rfl, hl, ldb, hf, trivial⟩, a1, ⟨h.length, Nat.le_refl _, htl, .inl ⟨rfl, rfl⟩⟩, K1, fun q e => .inl e⟩

end Go.Proofs.Ytkkhokgpcifckaa.wd
