import Derived.Test.YtjhgmoaabflbfaaQuote
import Derived.Test.YtjhgmoaabflbfaaAlert3
/-! A set of labels as text, and its number: the program's, the document's. -/
set_option linter.unusedSimpArgs false
namespace Go.Proofs.Ytjhgmoaabflbfaa
open Go Go.Abs AbsSeat Ty

theorem u23 : type_of% (And.intro (show tagT Try.prog 27 = 0 from by kernel_rfl) (And.intro (show tagT Try.prog 82 = 165 from by kernel_rfl) (And.intro (show tagT Try.prog 59 = 0 from by kernel_rfl) (And.intro ag3 (And.intro sz3 (And.intro by3 (And.intro ze3 (And.intro Try.underlying3 (And.intro ag5 (And.intro sz5 (And.intro by5 (And.intro ze5 (And.intro Try.underlying5 (And.intro ag9 (And.intro sz9 (And.intro by9 (And.intro ze9 (And.intro Try.underlying9 (And.intro ag25 (And.intro sz25 (And.intro by25 (And.intro se25 (And.intro ze25 (And.intro Try.underlying25 (And.intro ag27 (And.intro sz27 (And.intro by27 (And.intro ze27 (And.intro bu27 (And.intro Try.underlying27 (And.intro ag59 (And.intro sz59 (And.intro by59 (And.intro ze59 (And.intro bu59 (And.intro Try.underlying59 (And.intro ag82 (And.intro sz82 (And.intro by82 (And.intro ze82 (And.intro bu82 (And.intro Try.underlying82 (And.intro fa27_0 (And.intro fd27_0 (And.intro fa59_0 (And.intro fd59_0 (And.intro fa59_1 fd59_1))))))))))))))))))))))))))))))))))))))))))))))) :=
  And.intro (show tagT Try.prog 27 = 0 from by kernel_rfl) (And.intro (show tagT Try.prog 82 = 165 from by kernel_rfl) (And.intro (show tagT Try.prog 59 = 0 from by kernel_rfl) (And.intro ag3 (And.intro sz3 (And.intro by3 (And.intro ze3 (And.intro Try.underlying3 (And.intro ag5 (And.intro sz5 (And.intro by5 (And.intro ze5 (And.intro Try.underlying5 (And.intro ag9 (And.intro sz9 (And.intro by9 (And.intro ze9 (And.intro Try.underlying9 (And.intro ag25 (And.intro sz25 (And.intro by25 (And.intro se25 (And.intro ze25 (And.intro Try.underlying25 (And.intro ag27 (And.intro sz27 (And.intro by27 (And.intro ze27 (And.intro bu27 (And.intro Try.underlying27 (And.intro ag59 (And.intro sz59 (And.intro by59 (And.intro ze59 (And.intro bu59 (And.intro Try.underlying59 (And.intro ag82 (And.intro sz82 (And.intro by82 (And.intro ze82 (And.intro bu82 (And.intro Try.underlying82 (And.intro fa27_0 (And.intro fd27_0 (And.intro fa59_0 (And.intro fd59_0 (And.intro fa59_1 fd59_1))))))))))))))))))))))))))))))))))))))))))))))
def g23 : Code :=
  Go.Code.seq (Go.Code.region 0 #[{ dst := some 1, op := Go.Op.box 27 (Go.Operand.tmp 0), type := 0, pos := "", after := #[], guard := none }, { dst := some 2, op := Go.Op.assign (Go.Operand.const (Go.Value.string { data := #[] })), type := 9, pos := "", after := #[], guard := none }] false) (Go.Code.seq (Go.Code.region 1 #[{ dst := some 3, op := Go.Op.alloc 82, type := 0, pos := "", after := #[], guard := none }] false) (Go.Code.seq (Go.Code.region 2 #[{ dst := some 8, op := Go.Op.call { callee := Go.Callee.value (Go.Operand.func 50), args := #[Go.Operand.tmp 3, Go.Operand.const (Go.Value.int Go.IntKind.u8 123)], argTypes := #[82, 5] }, type := 84, pos := "", after := #[], guard := none }] false) (Go.Code.seq (Go.Code.seq (Go.Code.region 3 #[{ dst := some 9, op := Go.Op.fieldAddr 27 (Go.Operand.tmp 1) 0, type := 0, pos := "", after := #[], guard := none }, { dst := some 10, op := Go.Op.load 25 (Go.Operand.tmp 9), type := 25, pos := "", after := #[], guard := none }, { dst := some 11, op := Go.Op.call { callee := Go.Callee.builtin Go.Builtin.len, args := #[Go.Operand.tmp 10], argTypes := #[25] }, type := 3, pos := "", after := #[], guard := none }, { dst := some 12, op := Go.Op.move (Go.Operand.const (Go.Value.int Go.IntKind.i64 0)), type := 3, pos := "", after := #[], guard := none }] false) (Go.Code.block 0 (Go.Code.loop (Go.Code.seq (Go.Code.region 4 #[{ dst := some 13, op := Go.Op.binOp Go.BinOp.lss 3 (Go.Operand.tmp 12) (Go.Operand.tmp 11) 3, type := 0, pos := "", after := #[], guard := none }] false) (Go.Code.seq (Go.Code.cond (Go.Operand.tmp 13) Go.Code.skip (Go.Code.exit 0)) (Go.Code.seq (Go.Code.block 1 (Go.Code.seq (Go.Code.region 5 #[{ dst := some 14, op := Go.Op.move (Go.Operand.tmp 12), type := 3, pos := "", after := #[], guard := none }, { dst := some 15, op := Go.Op.indexAddr 25 (Go.Operand.tmp 10) (Go.Operand.tmp 12), type := 0, pos := "", after := #[], guard := none }, { dst := some 16, op := Go.Op.load 59 (Go.Operand.tmp 15), type := 59, pos := "", after := #[], guard := none }, { dst := some 5, op := Go.Op.alloc 59, type := 0, pos := "", after := #[], guard := none }, { dst := some 4, op := Go.Op.assign (Go.Operand.tmp 14), type := 3, pos := "", after := #[], guard := none }, { dst := none, op := Go.Op.store 59 (Go.Operand.tmp 5) (Go.Operand.tmp 16), type := 0, pos := "", after := #[], guard := none }] false) (Go.Code.seq (Go.Code.seq (Go.Code.region 6 #[{ dst := some 17, op := Go.Op.move (Go.Operand.tmp 4), type := 3, pos := "", after := #[], guard := none }, { dst := some 18, op := Go.Op.binOp Go.BinOp.gtr 3 (Go.Operand.tmp 17) (Go.Operand.const (Go.Value.int Go.IntKind.i64 0)) 3, type := 4, pos := "", after := #[], guard := none }] false) (Go.Code.cond (Go.Operand.tmp 18) (Go.Code.region 7 #[{ dst := some 19, op := Go.Op.call { callee := Go.Callee.value (Go.Operand.func 50), args := #[Go.Operand.tmp 3, Go.Operand.const (Go.Value.int Go.IntKind.u8 44)], argTypes := #[82, 5] }, type := 84, pos := "", after := #[], guard := none }] false) Go.Code.skip)) (Go.Code.seq (Go.Code.region 8 #[{ dst := some 21, op := Go.Op.fieldAddr 59 (Go.Operand.tmp 5) 1, type := 0, pos := "", after := #[], guard := none }, { dst := some 22, op := Go.Op.load 9 (Go.Operand.tmp 21), type := 9, pos := "", after := #[], guard := none }, { dst := some 23, op := Go.Op.call { callee := Go.Callee.value (Go.Operand.func 51), args := #[Go.Operand.tmp 22], argTypes := #[9] }, type := 86, pos := "", after := #[], guard := none }, { dst := some 20, op := Go.Op.move (Go.Operand.tmp 23), type := 86, pos := "", after := #[], guard := none }, { dst := some 24, op := Go.Op.extract (Go.Operand.tmp 20) 0, type := 9, pos := "", after := #[], guard := none }, { dst := some 25, op := Go.Op.extract (Go.Operand.tmp 20) 1, type := 38, pos := "", after := #[], guard := none }, { dst := some 6, op := Go.Op.assign (Go.Operand.tmp 24), type := 9, pos := "", after := #[], guard := none }, { dst := some 7, op := Go.Op.assign (Go.Operand.tmp 25), type := 38, pos := "", after := #[], guard := none }] false) (Go.Code.region 9 #[{ dst := some 26, op := Go.Op.fieldAddr 59 (Go.Operand.tmp 5) 0, type := 0, pos := "", after := #[], guard := none }, { dst := some 27, op := Go.Op.load 9 (Go.Operand.tmp 26), type := 9, pos := "", after := #[], guard := none }, { dst := some 28, op := Go.Op.binOp Go.BinOp.add 9 (Go.Operand.tmp 27) (Go.Operand.const (Go.Value.string { data := #[61] })) 9, type := 9, pos := "", after := #[], guard := none }, { dst := some 29, op := Go.Op.move (Go.Operand.tmp 6), type := 9, pos := "", after := #[], guard := none }, { dst := some 30, op := Go.Op.binOp Go.BinOp.add 9 (Go.Operand.tmp 28) (Go.Operand.tmp 29) 9, type := 9, pos := "", after := #[], guard := none }, { dst := some 31, op := Go.Op.call { callee := Go.Callee.value (Go.Operand.func 52), args := #[Go.Operand.tmp 3, Go.Operand.tmp 30], argTypes := #[82, 9] }, type := 88, pos := "", after := #[], guard := none }] false))))) (Go.Code.region 10 #[{ dst := some 32, op := Go.Op.binOp Go.BinOp.add 3 (Go.Operand.tmp 12) (Go.Operand.const (Go.Value.int Go.IntKind.i64 1)) 3, type := 3, pos := "", after := #[], guard := none }, { dst := some 12, op := Go.Op.move (Go.Operand.tmp 32), type := 3, pos := "", after := #[], guard := none }] false))))))) (Go.Code.seq (Go.Code.region 11 #[{ dst := some 33, op := Go.Op.call { callee := Go.Callee.value (Go.Operand.func 50), args := #[Go.Operand.tmp 3, Go.Operand.const (Go.Value.int Go.IntKind.u8 125)], argTypes := #[82, 5] }, type := 84, pos := "", after := #[], guard := none }] false) (Go.Code.seq (Go.Code.region 12 #[{ dst := some 34, op := Go.Op.call { callee := Go.Callee.value (Go.Operand.func 53), args := #[Go.Operand.tmp 3], argTypes := #[82] }, type := 9, pos := "", after := #[], guard := none }, { dst := some 2, op := Go.Op.assign (Go.Operand.tmp 34), type := 9, pos := "", after := #[], guard := none }] false) Go.Code.ret)))))
theorem s23 : Try.f23.body.map (slim cfg) = some g23 := by kernel_rfl
theorem u25 : type_of% (And.intro (show tagT Try.prog 27 = 0 from by kernel_rfl) (And.intro (fun (K : Heap) (n : Int) => conv_int Try.underlying5 Try.underlying51 K n) (And.intro ag3 (And.intro sz3 (And.intro by3 (And.intro ze3 (And.intro Try.underlying3 (And.intro ag5 (And.intro sz5 (And.intro by5 (And.intro ze5 (And.intro Try.underlying5 (And.intro ag9 (And.intro sz9 (And.intro by9 (And.intro ze9 (And.intro Try.underlying9 (And.intro ag27 (And.intro sz27 (And.intro by27 (And.intro ze27 (And.intro bu27 (And.intro Try.underlying27 (And.intro ag51 (And.intro sz51 (And.intro by51 (And.intro ze51 (And.intro Try.underlying51 (And.intro ag80 (And.intro sz80 (And.intro by80 (And.intro se80 (And.intro ze80 Try.underlying80))))))))))))))))))))))))))))))))) :=
  And.intro (show tagT Try.prog 27 = 0 from by kernel_rfl) (And.intro (fun (K : Heap) (n : Int) => conv_int Try.underlying5 Try.underlying51 K n) (And.intro ag3 (And.intro sz3 (And.intro by3 (And.intro ze3 (And.intro Try.underlying3 (And.intro ag5 (And.intro sz5 (And.intro by5 (And.intro ze5 (And.intro Try.underlying5 (And.intro ag9 (And.intro sz9 (And.intro by9 (And.intro ze9 (And.intro Try.underlying9 (And.intro ag27 (And.intro sz27 (And.intro by27 (And.intro ze27 (And.intro bu27 (And.intro Try.underlying27 (And.intro ag51 (And.intro sz51 (And.intro by51 (And.intro ze51 (And.intro Try.underlying51 (And.intro ag80 (And.intro sz80 (And.intro by80 (And.intro se80 (And.intro ze80 Try.underlying80))))))))))))))))))))))))))))))))
def g25 : Code :=
  Go.Code.seq (Go.Code.region 0 #[{ dst := some 1, op := Go.Op.box 27 (Go.Operand.tmp 0), type := 0, pos := "", after := #[], guard := none }, { dst := some 2, op := Go.Op.assign (Go.Operand.const (Go.Value.int Go.IntKind.u64 0)), type := 51, pos := "", after := #[], guard := none }] false) (Go.Code.seq (Go.Code.region 1 #[{ dst := some 3, op := Go.Op.assign (Go.Operand.const (Go.Value.int Go.IntKind.u64 14695981039346656037)), type := 51, pos := "", after := #[], guard := none }] false) (Go.Code.seq (Go.Code.seq (Go.Code.region 2 #[{ dst := some 6, op := Go.Op.load 27 (Go.Operand.tmp 1), type := 27, pos := "", after := #[], guard := none }, { dst := some 7, op := Go.Op.call { callee := Go.Callee.value (Go.Operand.func 23), args := #[Go.Operand.tmp 6], argTypes := #[27] }, type := 9, pos := "", after := #[], guard := none }, { dst := some 8, op := Go.Op.convert 9 80 (Go.Operand.tmp 7), type := 80, pos := "", after := #[], guard := none }, { dst := some 9, op := Go.Op.call { callee := Go.Callee.builtin Go.Builtin.len, args := #[Go.Operand.tmp 8], argTypes := #[80] }, type := 3, pos := "", after := #[], guard := none }, { dst := some 10, op := Go.Op.move (Go.Operand.const (Go.Value.int Go.IntKind.i64 0)), type := 3, pos := "", after := #[], guard := none }] false) (Go.Code.block 0 (Go.Code.loop (Go.Code.seq (Go.Code.region 3 #[{ dst := some 11, op := Go.Op.binOp Go.BinOp.lss 3 (Go.Operand.tmp 10) (Go.Operand.tmp 9) 3, type := 0, pos := "", after := #[], guard := none }] false) (Go.Code.seq (Go.Code.cond (Go.Operand.tmp 11) Go.Code.skip (Go.Code.exit 0)) (Go.Code.seq (Go.Code.block 1 (Go.Code.seq (Go.Code.region 4 #[{ dst := some 12, op := Go.Op.indexAddr 80 (Go.Operand.tmp 8) (Go.Operand.tmp 10), type := 0, pos := "", after := #[], guard := none }, { dst := some 13, op := Go.Op.load 5 (Go.Operand.tmp 12), type := 5, pos := "", after := #[], guard := none }, { dst := some 5, op := Go.Op.assign (Go.Operand.tmp 13), type := 5, pos := "", after := #[], guard := none }] false) (Go.Code.region 5 #[{ dst := some 14, op := Go.Op.move (Go.Operand.tmp 3), type := 51, pos := "", after := #[], guard := none }, { dst := some 15, op := Go.Op.move (Go.Operand.tmp 5), type := 5, pos := "", after := #[], guard := none }, { dst := some 16, op := Go.Op.convert 5 51 (Go.Operand.tmp 15), type := 51, pos := "", after := #[], guard := none }, { dst := some 17, op := Go.Op.binOp Go.BinOp.xor 51 (Go.Operand.tmp 14) (Go.Operand.tmp 16) 51, type := 51, pos := "", after := #[], guard := none }, { dst := some 18, op := Go.Op.binOp Go.BinOp.mul 51 (Go.Operand.tmp 17) (Go.Operand.const (Go.Value.int Go.IntKind.u64 1099511628211)) 51, type := 51, pos := "", after := #[], guard := none }, { dst := some 3, op := Go.Op.assign (Go.Operand.tmp 18), type := 51, pos := "", after := #[], guard := none }] false))) (Go.Code.region 6 #[{ dst := some 19, op := Go.Op.binOp Go.BinOp.add 3 (Go.Operand.tmp 10) (Go.Operand.const (Go.Value.int Go.IntKind.i64 1)) 3, type := 3, pos := "", after := #[], guard := none }, { dst := some 10, op := Go.Op.move (Go.Operand.tmp 19), type := 3, pos := "", after := #[], guard := none }] false))))))) (Go.Code.seq (Go.Code.region 7 #[{ dst := some 20, op := Go.Op.move (Go.Operand.tmp 3), type := 51, pos := "", after := #[], guard := none }, { dst := some 2, op := Go.Op.assign (Go.Operand.tmp 20), type := 51, pos := "", after := #[], guard := none }] false) Go.Code.ret)))
theorem s25 : Try.f25.body.map (slim cfg) = some g25 := by kernel_rfl
theorem u24 : type_of% (And.intro (show tagT Try.prog 68 = 0 from by kernel_rfl) (And.intro ag3 (And.intro sz3 (And.intro by3 (And.intro ze3 (And.intro Try.underlying3 (And.intro ag9 (And.intro sz9 (And.intro by9 (And.intro ze9 (And.intro Try.underlying9 (And.intro ag22 (And.intro sz22 (And.intro by22 (And.intro se22 (And.intro ze22 (And.intro Try.underlying22 (And.intro ag68 (And.intro sz68 (And.intro by68 (And.intro ze68 (And.intro bu68 (And.intro Try.underlying68 (And.intro fa68_0 (And.intro fd68_0 (And.intro fa68_1 fd68_1)))))))))))))))))))))))))) :=
  And.intro (show tagT Try.prog 68 = 0 from by kernel_rfl) (And.intro ag3 (And.intro sz3 (And.intro by3 (And.intro ze3 (And.intro Try.underlying3 (And.intro ag9 (And.intro sz9 (And.intro by9 (And.intro ze9 (And.intro Try.underlying9 (And.intro ag22 (And.intro sz22 (And.intro by22 (And.intro se22 (And.intro ze22 (And.intro Try.underlying22 (And.intro ag68 (And.intro sz68 (And.intro by68 (And.intro ze68 (And.intro bu68 (And.intro Try.underlying68 (And.intro fa68_0 (And.intro fd68_0 (And.intro fa68_1 fd68_1)))))))))))))))))))))))))
def g24 : Code :=
  Go.Code.seq (Go.Code.region 0 #[{ dst := some 2, op := Go.Op.assign (Go.Operand.const (Go.Value.string { data := #[] })), type := 9, pos := "", after := #[], guard := none }] false) (Go.Code.seq (Go.Code.region 1 #[{ dst := some 3, op := Go.Op.assign (Go.Operand.const (Go.Value.string { data := #[123] })), type := 9, pos := "", after := #[], guard := none }] false) (Go.Code.seq (Go.Code.seq (Go.Code.region 2 #[{ dst := some 6, op := Go.Op.move (Go.Operand.tmp 0), type := 22, pos := "", after := #[], guard := none }, { dst := some 7, op := Go.Op.call { callee := Go.Callee.builtin Go.Builtin.len, args := #[Go.Operand.tmp 6], argTypes := #[22] }, type := 3, pos := "", after := #[], guard := none }, { dst := some 8, op := Go.Op.move (Go.Operand.const (Go.Value.int Go.IntKind.i64 0)), type := 3, pos := "", after := #[], guard := none }] false) (Go.Code.block 0 (Go.Code.loop (Go.Code.seq (Go.Code.region 3 #[{ dst := some 9, op := Go.Op.binOp Go.BinOp.lss 3 (Go.Operand.tmp 8) (Go.Operand.tmp 7) 3, type := 0, pos := "", after := #[], guard := none }] false) (Go.Code.seq (Go.Code.cond (Go.Operand.tmp 9) Go.Code.skip (Go.Code.exit 0)) (Go.Code.seq (Go.Code.block 1 (Go.Code.seq (Go.Code.region 4 #[{ dst := some 10, op := Go.Op.move (Go.Operand.tmp 8), type := 3, pos := "", after := #[], guard := none }, { dst := some 11, op := Go.Op.indexAddr 22 (Go.Operand.tmp 6) (Go.Operand.tmp 8), type := 0, pos := "", after := #[], guard := none }, { dst := some 12, op := Go.Op.load 68 (Go.Operand.tmp 11), type := 68, pos := "", after := #[], guard := none }, { dst := some 5, op := Go.Op.alloc 68, type := 0, pos := "", after := #[], guard := none }, { dst := some 4, op := Go.Op.assign (Go.Operand.tmp 10), type := 3, pos := "", after := #[], guard := none }, { dst := none, op := Go.Op.store 68 (Go.Operand.tmp 5) (Go.Operand.tmp 12), type := 0, pos := "", after := #[], guard := none }] false) (Go.Code.seq (Go.Code.seq (Go.Code.region 5 #[{ dst := some 13, op := Go.Op.move (Go.Operand.tmp 4), type := 3, pos := "", after := #[], guard := none }, { dst := some 14, op := Go.Op.binOp Go.BinOp.gtr 3 (Go.Operand.tmp 13) (Go.Operand.const (Go.Value.int Go.IntKind.i64 0)) 3, type := 4, pos := "", after := #[], guard := none }] false) (Go.Code.cond (Go.Operand.tmp 14) (Go.Code.region 6 #[{ dst := some 15, op := Go.Op.move (Go.Operand.tmp 3), type := 9, pos := "", after := #[], guard := none }, { dst := some 16, op := Go.Op.binOp Go.BinOp.add 9 (Go.Operand.tmp 15) (Go.Operand.const (Go.Value.string { data := #[44] })) 9, type := 9, pos := "", after := #[], guard := none }, { dst := some 3, op := Go.Op.assign (Go.Operand.tmp 16), type := 9, pos := "", after := #[], guard := none }] false) Go.Code.skip)) (Go.Code.region 7 #[{ dst := some 17, op := Go.Op.move (Go.Operand.tmp 3), type := 9, pos := "", after := #[], guard := none }, { dst := some 18, op := Go.Op.fieldAddr 68 (Go.Operand.tmp 5) 0, type := 0, pos := "", after := #[], guard := none }, { dst := some 19, op := Go.Op.load 9 (Go.Operand.tmp 18), type := 9, pos := "", after := #[], guard := none }, { dst := some 20, op := Go.Op.binOp Go.BinOp.add 9 (Go.Operand.tmp 17) (Go.Operand.tmp 19) 9, type := 9, pos := "", after := #[], guard := none }, { dst := some 21, op := Go.Op.binOp Go.BinOp.add 9 (Go.Operand.tmp 20) (Go.Operand.const (Go.Value.string { data := #[61] })) 9, type := 9, pos := "", after := #[], guard := none }, { dst := some 22, op := Go.Op.fieldAddr 68 (Go.Operand.tmp 5) 1, type := 0, pos := "", after := #[], guard := none }, { dst := some 23, op := Go.Op.load 9 (Go.Operand.tmp 22), type := 9, pos := "", after := #[], guard := none }, { dst := some 24, op := Go.Op.call { callee := Go.Callee.value (Go.Operand.func 54), args := #[Go.Operand.tmp 23], argTypes := #[9] }, type := 9, pos := "", after := #[], guard := none }, { dst := some 25, op := Go.Op.binOp Go.BinOp.add 9 (Go.Operand.tmp 21) (Go.Operand.tmp 24) 9, type := 9, pos := "", after := #[], guard := none }, { dst := some 3, op := Go.Op.assign (Go.Operand.tmp 25), type := 9, pos := "", after := #[], guard := none }] false)))) (Go.Code.region 8 #[{ dst := some 26, op := Go.Op.binOp Go.BinOp.add 3 (Go.Operand.tmp 8) (Go.Operand.const (Go.Value.int Go.IntKind.i64 1)) 3, type := 3, pos := "", after := #[], guard := none }, { dst := some 8, op := Go.Op.move (Go.Operand.tmp 26), type := 3, pos := "", after := #[], guard := none }] false))))))) (Go.Code.seq (Go.Code.region 9 #[{ dst := some 27, op := Go.Op.move (Go.Operand.tmp 3), type := 9, pos := "", after := #[], guard := none }, { dst := some 28, op := Go.Op.binOp Go.BinOp.add 9 (Go.Operand.tmp 27) (Go.Operand.const (Go.Value.string { data := #[125] })) 9, type := 9, pos := "", after := #[], guard := none }, { dst := some 2, op := Go.Op.assign (Go.Operand.tmp 28), type := 9, pos := "", after := #[], guard := none }] false) Go.Code.ret)))
theorem s24 : Try.f24.body.map (slim cfg) = some g24 := by kernel_rfl
theorem u26 : type_of% (And.intro (fun (K : Heap) (n : Int) => conv_int Try.underlying5 Try.underlying51 K n) (And.intro ag3 (And.intro sz3 (And.intro by3 (And.intro ze3 (And.intro Try.underlying3 (And.intro ag5 (And.intro sz5 (And.intro by5 (And.intro ze5 (And.intro Try.underlying5 (And.intro ag9 (And.intro sz9 (And.intro by9 (And.intro ze9 (And.intro Try.underlying9 (And.intro ag22 (And.intro sz22 (And.intro by22 (And.intro se22 (And.intro ze22 (And.intro Try.underlying22 (And.intro ag51 (And.intro sz51 (And.intro by51 (And.intro ze51 (And.intro Try.underlying51 (And.intro ag68 (And.intro sz68 (And.intro by68 (And.intro ze68 (And.intro bu68 Try.underlying68)))))))))))))))))))))))))))))))) :=
  And.intro (fun (K : Heap) (n : Int) => conv_int Try.underlying5 Try.underlying51 K n) (And.intro ag3 (And.intro sz3 (And.intro by3 (And.intro ze3 (And.intro Try.underlying3 (And.intro ag5 (And.intro sz5 (And.intro by5 (And.intro ze5 (And.intro Try.underlying5 (And.intro ag9 (And.intro sz9 (And.intro by9 (And.intro ze9 (And.intro Try.underlying9 (And.intro ag22 (And.intro sz22 (And.intro by22 (And.intro se22 (And.intro ze22 (And.intro Try.underlying22 (And.intro ag51 (And.intro sz51 (And.intro by51 (And.intro ze51 (And.intro Try.underlying51 (And.intro ag68 (And.intro sz68 (And.intro by68 (And.intro ze68 (And.intro bu68 Try.underlying68)))))))))))))))))))))))))))))))
def g26 : Code :=
  Go.Code.seq (Go.Code.region 0 #[{ dst := some 2, op := Go.Op.assign (Go.Operand.const (Go.Value.int Go.IntKind.u64 0)), type := 51, pos := "", after := #[], guard := none }] false) (Go.Code.seq (Go.Code.region 1 #[{ dst := some 6, op := Go.Op.move (Go.Operand.tmp 0), type := 22, pos := "", after := #[], guard := none }, { dst := some 7, op := Go.Op.call { callee := Go.Callee.value (Go.Operand.func 24), args := #[Go.Operand.tmp 6], argTypes := #[22] }, type := 9, pos := "", after := #[], guard := none }, { dst := some 3, op := Go.Op.assign (Go.Operand.tmp 7), type := 9, pos := "", after := #[], guard := none }] false) (Go.Code.seq (Go.Code.region 2 #[{ dst := some 4, op := Go.Op.assign (Go.Operand.const (Go.Value.int Go.IntKind.u64 14695981039346656037)), type := 51, pos := "", after := #[], guard := none }] false) (Go.Code.seq (Go.Code.seq (Go.Code.region 3 #[{ dst := some 5, op := Go.Op.assign (Go.Operand.const (Go.Value.int Go.IntKind.i64 0)), type := 3, pos := "", after := #[], guard := none }] false) (Go.Code.block 0 (Go.Code.loop (Go.Code.seq (Go.Code.seq (Go.Code.region 4 #[{ dst := some 8, op := Go.Op.move (Go.Operand.tmp 5), type := 3, pos := "", after := #[], guard := none }, { dst := some 9, op := Go.Op.move (Go.Operand.tmp 3), type := 9, pos := "", after := #[], guard := none }, { dst := some 10, op := Go.Op.call { callee := Go.Callee.builtin Go.Builtin.len, args := #[Go.Operand.tmp 9], argTypes := #[9] }, type := 3, pos := "", after := #[], guard := none }, { dst := some 11, op := Go.Op.binOp Go.BinOp.lss 3 (Go.Operand.tmp 8) (Go.Operand.tmp 10) 3, type := 4, pos := "", after := #[], guard := none }] false) (Go.Code.cond (Go.Operand.tmp 11) Go.Code.skip (Go.Code.exit 0))) (Go.Code.seq (Go.Code.block 1 (Go.Code.seq (Go.Code.region 6 #[{ dst := some 14, op := Go.Op.move (Go.Operand.tmp 4), type := 51, pos := "", after := #[], guard := none }, { dst := some 15, op := Go.Op.move (Go.Operand.tmp 3), type := 9, pos := "", after := #[], guard := none }, { dst := some 16, op := Go.Op.move (Go.Operand.tmp 5), type := 3, pos := "", after := #[], guard := none }, { dst := some 17, op := Go.Op.index 9 (Go.Operand.tmp 15) (Go.Operand.tmp 16), type := 5, pos := "", after := #[], guard := none }, { dst := some 18, op := Go.Op.convert 5 51 (Go.Operand.tmp 17), type := 51, pos := "", after := #[], guard := none }, { dst := some 19, op := Go.Op.binOp Go.BinOp.xor 51 (Go.Operand.tmp 14) (Go.Operand.tmp 18) 51, type := 51, pos := "", after := #[], guard := none }, { dst := some 4, op := Go.Op.assign (Go.Operand.tmp 19), type := 51, pos := "", after := #[], guard := none }] false) (Go.Code.region 7 #[{ dst := some 20, op := Go.Op.move (Go.Operand.tmp 4), type := 51, pos := "", after := #[], guard := none }, { dst := some 21, op := Go.Op.binOp Go.BinOp.mul 51 (Go.Operand.tmp 20) (Go.Operand.const (Go.Value.int Go.IntKind.u64 1099511628211)) 51, type := 51, pos := "", after := #[], guard := none }, { dst := some 4, op := Go.Op.assign (Go.Operand.tmp 21), type := 51, pos := "", after := #[], guard := none }] false))) (Go.Code.region 5 #[{ dst := some 12, op := Go.Op.move (Go.Operand.tmp 5), type := 3, pos := "", after := #[], guard := none }, { dst := some 13, op := Go.Op.binOp Go.BinOp.add 3 (Go.Operand.tmp 12) (Go.Operand.const (Go.Value.int Go.IntKind.i64 1)) 3, type := 3, pos := "", after := #[], guard := none }, { dst := some 5, op := Go.Op.assign (Go.Operand.tmp 13), type := 3, pos := "", after := #[], guard := none }] false)))))) (Go.Code.seq (Go.Code.region 8 #[{ dst := some 22, op := Go.Op.move (Go.Operand.tmp 4), type := 51, pos := "", after := #[], guard := none }, { dst := some 2, op := Go.Op.assign (Go.Operand.tmp 22), type := 51, pos := "", after := #[], guard := none }] false) Go.Code.ret))))
theorem s26 : Try.f26.body.map (slim cfg) = some g26 := by kernel_rfl

def qv (x : Pr) : List UInt8 := if validU x.val then quoteU x.val else []
theorem qv_len (x : Pr) : (qv x).length ≤ 6 * x.val.length + 2 := by
  have := quote_len x.val
  unfold qv
  split
  · exact this
  · simp
def piece (x : Pr) : List UInt8 := x.name ++ (61 :: qv x)
def bodyP : List Pr → List UInt8
  | [] => []
  | x :: r => piece x ++ r.flatMap fun y => 44 :: piece y
/-- a set as text. -/
def textP (l : List Pr) : List UInt8 := 123 :: bodyP l ++ [125]
theorem bodyP_snoc (l : List Pr) (x : Pr) : bodyP (l ++ [x]) = bodyP l ++ ((if l = [] then [] else [44]) ++ piece x) := by
  cases l with
  | nil => simp [bodyP]
  | cons y r => simp [bodyP]
def Small (x : Pr) : Prop := x.name.length < 1000000 ∧ x.val.length < 1000000
theorem piece_len {x : Pr} (h : Small x) : (piece x).length ≤ 8000000 := by
  have := quote_len x.val
  obtain ⟨h1, h2⟩ := h
  unfold piece qv
  split <;> simp only [List.length_append, List.length_cons, List.length_nil] <;> omega
theorem bodyP_len : ∀ {l : List Pr}, (∀ x ∈ l, Small x) → (bodyP l).length ≤ l.length * 8000001
  | [], _ => by simp [bodyP]
  | x :: r, h => by
    have h1 := piece_len (h x (by simp))
    have h2 : ∀ r : List Pr, (∀ x ∈ r, Small x) → (r.flatMap fun y => 44 :: piece y).length ≤ r.length * 8000001 := by
      intro r
      induction r with
      | nil => intro _; simp
      | cons y r ih =>
        intro hr
        have := piece_len (hr y (by simp))
        have := ih fun z hz => hr z (by simp [hz])
        simp only [List.flatMap_cons, List.length_append, List.length_cons] at this ⊢
        omega
    have := h2 r fun z hz => h z (by simp [hz])
    simp only [bodyP, List.length_append, List.length_cons] at this ⊢
    omega


theorem setText_ok (l : List Pr) (v : AV) (hv : Sl encP v l) (hs : ∀ x ∈ l, Small x) (hl : l.length < 1000) (prot : Nat) (H : Heap) (hp : prot ≤ H.length) : aLim cfg prot 23 [.agg [v]] H = some (.str (textP l), none) := by
  have hsnap : snap H [.agg [v]] = some ([.agg [v]], false) := rfl
  have hvl := Sl.leaf hv
  have hvc := Sl.cells1 hv
  unfold AV.leaf at hvl
  unfold AV.cells at hvc
  let B0 : Heap := H ++ [Blk.cells 0 [v]]
  have lB0 : B0.length = H.length + 1 := by simp [B0]
  have hb0 : Bld H.length (B0 ++ [Blk.cells 165 [.nil, .nilS]]) B0.length [] := Bld.new (by omega)
  obtain ⟨H1, n1, hb1, kp1⟩ := writeByte_ok [] 123 B0.length H.length _ (by simp; omega) hb0 (by simp)
  have n1 : aLim cfg H.length 50 [.ptr (H ++ [Blk.cells 0 [v]]).length 165 0, .int .u8 123] (H ++ [Blk.cells 0 [v]] ++ [Blk.cells 165 [.nil, .nilS]]) = some (.nilI, some H1) := n1
  have g1 : hget H1 H.length 0 = some [v] := kp1.2 _ _ _ (by
    rw [hget_old (by omega)]
    exact hget_new rfl) (by omega) (by decide)
  have hle1 : H.length + 2 ≤ H1.length := Nat.le_trans (by simp [B0]) kp1.1
  have lt1 : H.length < (H ++ [Blk.cells 0 [v]]).length := by simp
  refine pure_slim rfl (by kernel_rfl) Try.func23 s23 hp hsnap (by simp [Try.f23]) fun fr hlen h => ?_
  simp only [Has, Nat.zero_add] at h
  obtain ⟨a0, -⟩ := h
  simp only [Try.f23] at hlen ⊢
  unfold g23
  simp only [wk0, wk1, wk2, wk3, wk4, wk5, wk6, aWanted, aYield, Region.wanted, aOp, quiet, loud, aEvals, aParts, aOpt, aBuiltin, rd, win, AV.cells, AV.leaf, aNew, splice, fillA, Nat.reduceEqDiff, Nat.reduceLT, Nat.reduceAdd, Nat.reduceLeDiff, reduceCtorEq, Nat.reduceMul, cfgP, u23, hlen, a0, hvl, hvc, n1, g1, lt1, hv.len Try.underlying25]
  refine loop_rule (fun m fr H' => ∃ (i : Nat), m = l.length - i ∧ i ≤ l.length ∧ fr.length = 35 ∧ fget fr 3 = .ptr B0.length 165 0 ∧ fget fr 10 = v ∧ fget fr 11 = .int .i64 l.length ∧ fget fr 12 = .int .i64 i ∧ H.length + 2 ≤ H'.length
    ∧ Bld H.length H' B0.length (123 :: bodyP (l.take i))) ?_ l.length _ _ ⟨0, by refine ⟨by omega, by omega, ?_⟩; simp [wk0, wk1, wk2, wk3, wk4, wk5, wk6, aWanted, aYield, Region.wanted, aOp, quiet, loud, aEvals, aParts, aOpt, aBuiltin, rd, win, AV.cells, AV.leaf, aNew, splice, fillA, Nat.reduceEqDiff, Nat.reduceLT, Nat.reduceAdd, Nat.reduceLeDiff, reduceCtorEq, Nat.reduceMul, cfgP, u23, hlen, a0, hle1]; exact ⟨by omega, hb1⟩⟩
  rintro m fr H' ⟨i, rfl, hi, hlen, a3, a10, a11, a12, hH, hb⟩ ih
  simp only [wk0, wk1, wk2, wk3, wk4, wk5, wk6, aWanted, aYield, Region.wanted, aOp, quiet, loud, aEvals, aParts, aOpt, aBuiltin, rd, win, AV.cells, AV.leaf, aNew, splice, fillA, Nat.reduceEqDiff, Nat.reduceLT, Nat.reduceAdd, Nat.reduceLeDiff, reduceCtorEq, Nat.reduceMul, cfgP, u23, hlen, a3, a10, a11, a12]
  have hbl : (123 :: bodyP (l.take i)).length ≤ i * 8000001 + 1 := by
    have := bodyP_len (l := l.take i) fun x hx => hs x (List.mem_of_mem_take hx)
    simp only [List.length_take, Nat.min_eq_left hi] at this
    simp only [List.length_cons]; omega
  have hH0 : H.length ≤ H'.length := by omega
  refine RC_split (fun h => ?_) (fun h => ?_)
  · have hlt : i < l.length := by simpa using h
    have hww : IntKind.i64.wrap ((i : Int) + 1) = ((i + 1 : Nat) : Int) := by rw [wrap64 (by omega) (by omega)]; simp
    have e1 := hv.at (k := .i64) Try.underlying25 sz59 encP_len hlt
    have htk : 123 :: bodyP (l.take (i + 1)) = (123 :: bodyP (l.take i)) ++ ((if i = 0 then [] else [44]) ++ piece l[i]) := by
      have h1 : l.take (i + 1) = l.take i ++ [l[i]] := by simp
      rw [h1, bodyP_snoc]
      by_cases h0 : i = 0
      · subst h0; simp
      · have h2 : ¬ l.take i = [] := by
          rw [List.take_eq_nil_iff]
          rintro (h | h)
          · exact h0 h
          · rw [h] at hlt; simp at hlt
        rw [if_neg h2, if_neg h0]; rfl
    have hsx := hs l[i] (List.getElem_mem hlt)
    generalize l[i] = x at *
    generalize 123 :: bodyP (l.take i) = o at *
    have pl := piece_len hsx
    have ql := quote_len x.val
    obtain ⟨hx1, hx2⟩ := hsx
    have hbX : Bld H.length (H' ++ [Blk.cells 0 [.str x.name, .str x.val]]) B0.length o := hb.more [Blk.cells 0 [.str x.name, .str x.val]]
    have hgX : hget (H' ++ [Blk.cells 0 [.str x.name, .str x.val]]) H'.length 0 = some [.str x.name, .str x.val] := hget_new rfl
    -- behind the comma
    have key : ∀ (o' : List UInt8) (K : Heap), Bld H.length K B0.length o' → H.length + 2 ≤ K.length → hget K H'.length 0 = some [.str x.name, .str x.val] → o' = o ++ (if i = 0 then [] else [44]) →
        ∃ K', aLim cfg H.length 52 [.ptr B0.length 165 0, .str (x.name ++ [61] ++ qv x)] K = some (.tup [.int .i64 (x.name ++ [61] ++ qv x).length, .nilI], some K') ∧ H.length + 2 ≤ K'.length ∧ Bld H.length K' B0.length (123 :: bodyP (l.take (i + 1))) := by
      intro o' K hK hKl hg ho
      have hpe : x.name ++ [61] ++ qv x = piece x := by simp [piece]
      rw [hpe]
      obtain ⟨K', m1, m2, m3⟩ := writeString_ok o' (piece x) B0.length H.length K (by omega) hK (by simp only [piece, List.length_append, List.length_cons]; omega) (by rw [ho]; split <;> simp only [List.length_append, List.length_cons, List.length_nil] <;> omega)
      refine ⟨K', m1, Nat.le_trans hKl m3.1, ?_⟩
      rw [htk, ← List.append_assoc, ← ho]
      exact m2
    have q1 : ∀ K : Heap, H.length ≤ K.length → ∃ e, aLim cfg H.length 51 [.str x.val] K = some (.tup [.str (qv x), .int .i64 e], none) := fun K hK => by
      have := quote_ok x.val (by omega) H.length K hK
      unfold qv
      cases hvd : validU x.val with
      | true => rw [hvd] at this; exact ⟨0, this⟩
      | false => rw [hvd] at this; exact ⟨3, this⟩
    have t1 := str_add (s := x.name) (u := [61]) (by simp; omega)
    have t2 := str_add (s := x.name ++ [61]) (u := qv x) (by
      have := qv_len x
      simp only [List.length_append, List.length_cons, List.length_nil]; omega)
    have fin : ∀ (K' : Heap) (fr : List AV), H.length + 2 ≤ K'.length → Bld H.length K' B0.length (123 :: bodyP (l.take (i + 1))) → fr.length = 35 → fget fr 3 = .ptr B0.length 165 0 → fget fr 10 = v → fget fr 11 = .int .i64 l.length → fget fr 12 = .int .i64 ((i + 1 : Nat)) →
      ∃ j : Nat, l.length - (i + 1) = l.length - j ∧ j ≤ l.length ∧ fr.length = 35 ∧ fget fr 3 = .ptr B0.length 165 0 ∧ fget fr 10 = v ∧ fget fr 11 = .int .i64 l.length ∧ fget fr 12 = .int .i64 j ∧ H.length + 2 ≤ K'.length ∧ Bld H.length K' B0.length (123 :: bodyP (l.take j)) :=
      fun K' fr g0 g1 g2 g3 g4 g5 g6 => ⟨i + 1, rfl, hlt, g2, g3, g4, g5, g6, g0, g1⟩
    by_cases h0 : i = 0
    · have c0 : decide ((0 : Int) < (i : Nat)) = false := decide_eq_false (by omega)
      obtain ⟨K', m1, m2, m3⟩ := key o (H' ++ [Blk.cells 0 [.str x.name, .str x.val]]) hbX (by simp; omega) hgX (by rw [if_pos h0, List.append_nil])
      obtain ⟨e, q1⟩ := q1 (H' ++ [Blk.cells 0 [.str x.name, .str x.val]]) (by simp; omega)
      simp only [wk0, wk1, wk2, wk3, wk4, wk5, wk6, aWanted, aYield, Region.wanted, aOp, quiet, loud, aEvals, aParts, aOpt, aBuiltin, rd, win, AV.cells, AV.leaf, aNew, splice, fillA, Nat.reduceEqDiff, Nat.reduceLT, Nat.reduceAdd, Nat.reduceLeDiff, reduceCtorEq, Nat.reduceMul, cfgP, u23, hlen, a3, a10, a11, a12, e1, encP, hH0, c0, q1, t1, t2, m1, hww]
      exact ih _ _ (l.length - (i + 1)) (by omega) (fin K' _ m2 m3 (by simp [wk0, wk1, wk2, wk3, wk4, wk5, wk6, aWanted, aYield, Region.wanted, aOp, quiet, loud, aEvals, aParts, aOpt, aBuiltin, rd, win, AV.cells, AV.leaf, aNew, splice, fillA, Nat.reduceEqDiff, Nat.reduceLT, Nat.reduceAdd, Nat.reduceLeDiff, reduceCtorEq, Nat.reduceMul, cfgP, u23, hlen]) (by simp [wk0, wk1, wk2, wk3, wk4, wk5, wk6, aWanted, aYield, Region.wanted, aOp, quiet, loud, aEvals, aParts, aOpt, aBuiltin, rd, win, AV.cells, AV.leaf, aNew, splice, fillA, Nat.reduceEqDiff, Nat.reduceLT, Nat.reduceAdd, Nat.reduceLeDiff, reduceCtorEq, Nat.reduceMul, cfgP, u23, hlen, a3]) (by simp [wk0, wk1, wk2, wk3, wk4, wk5, wk6, aWanted, aYield, Region.wanted, aOp, quiet, loud, aEvals, aParts, aOpt, aBuiltin, rd, win, AV.cells, AV.leaf, aNew, splice, fillA, Nat.reduceEqDiff, Nat.reduceLT, Nat.reduceAdd, Nat.reduceLeDiff, reduceCtorEq, Nat.reduceMul, cfgP, u23, hlen, a10]) (by simp [wk0, wk1, wk2, wk3, wk4, wk5, wk6, aWanted, aYield, Region.wanted, aOp, quiet, loud, aEvals, aParts, aOpt, aBuiltin, rd, win, AV.cells, AV.leaf, aNew, splice, fillA, Nat.reduceEqDiff, Nat.reduceLT, Nat.reduceAdd, Nat.reduceLeDiff, reduceCtorEq, Nat.reduceMul, cfgP, u23, hlen, a11]) (by simp [wk0, wk1, wk2, wk3, wk4, wk5, wk6, aWanted, aYield, Region.wanted, aOp, quiet, loud, aEvals, aParts, aOpt, aBuiltin, rd, win, AV.cells, AV.leaf, aNew, splice, fillA, Nat.reduceEqDiff, Nat.reduceLT, Nat.reduceAdd, Nat.reduceLeDiff, reduceCtorEq, Nat.reduceMul, cfgP, u23, hlen]))
    · have c0 : decide ((0 : Int) < (i : Nat)) = true := decide_eq_true (by omega)
      obtain ⟨K, w1, hbK, kpK⟩ := writeByte_ok o 44 B0.length H.length (H' ++ [Blk.cells 0 [.str x.name, .str x.val]]) (by simp; omega) hbX (by omega)
      have w1 : aLim cfg H.length 50 [.ptr B0.length 165 0, .int .u8 44] (H' ++ [Blk.cells 0 [.str x.name, .str x.val]]) = some (.nilI, some K) := w1
      have hKl : H.length + 2 ≤ K.length := Nat.le_trans (by simp; omega) kpK.1
      have hgK : hget K H'.length 0 = some [.str x.name, .str x.val] := kpK.2 _ _ _ hgX (by omega) (by decide)
      obtain ⟨K', m1, m2, m3⟩ := key _ K hbK hKl hgK (by rw [if_neg h0])
      obtain ⟨e, q1⟩ := q1 K (by omega)
      simp only [wk0, wk1, wk2, wk3, wk4, wk5, wk6, aWanted, aYield, Region.wanted, aOp, quiet, loud, aEvals, aParts, aOpt, aBuiltin, rd, win, AV.cells, AV.leaf, aNew, splice, fillA, Nat.reduceEqDiff, Nat.reduceLT, Nat.reduceAdd, Nat.reduceLeDiff, reduceCtorEq, Nat.reduceMul, cfgP, u23, hlen, a3, a10, a11, a12, e1, encP, hH0, c0, w1, hgK, q1, t1, t2, m1, hww]
      exact ih _ _ (l.length - (i + 1)) (by omega) (fin K' _ m2 m3 (by simp [wk0, wk1, wk2, wk3, wk4, wk5, wk6, aWanted, aYield, Region.wanted, aOp, quiet, loud, aEvals, aParts, aOpt, aBuiltin, rd, win, AV.cells, AV.leaf, aNew, splice, fillA, Nat.reduceEqDiff, Nat.reduceLT, Nat.reduceAdd, Nat.reduceLeDiff, reduceCtorEq, Nat.reduceMul, cfgP, u23, hlen]) (by simp [wk0, wk1, wk2, wk3, wk4, wk5, wk6, aWanted, aYield, Region.wanted, aOp, quiet, loud, aEvals, aParts, aOpt, aBuiltin, rd, win, AV.cells, AV.leaf, aNew, splice, fillA, Nat.reduceEqDiff, Nat.reduceLT, Nat.reduceAdd, Nat.reduceLeDiff, reduceCtorEq, Nat.reduceMul, cfgP, u23, hlen, a3]) (by simp [wk0, wk1, wk2, wk3, wk4, wk5, wk6, aWanted, aYield, Region.wanted, aOp, quiet, loud, aEvals, aParts, aOpt, aBuiltin, rd, win, AV.cells, AV.leaf, aNew, splice, fillA, Nat.reduceEqDiff, Nat.reduceLT, Nat.reduceAdd, Nat.reduceLeDiff, reduceCtorEq, Nat.reduceMul, cfgP, u23, hlen, a10]) (by simp [wk0, wk1, wk2, wk3, wk4, wk5, wk6, aWanted, aYield, Region.wanted, aOp, quiet, loud, aEvals, aParts, aOpt, aBuiltin, rd, win, AV.cells, AV.leaf, aNew, splice, fillA, Nat.reduceEqDiff, Nat.reduceLT, Nat.reduceAdd, Nat.reduceLeDiff, reduceCtorEq, Nat.reduceMul, cfgP, u23, hlen, a11]) (by simp [wk0, wk1, wk2, wk3, wk4, wk5, wk6, aWanted, aYield, Region.wanted, aOp, quiet, loud, aEvals, aParts, aOpt, aBuiltin, rd, win, AV.cells, AV.leaf, aNew, splice, fillA, Nat.reduceEqDiff, Nat.reduceLT, Nat.reduceAdd, Nat.reduceLeDiff, reduceCtorEq, Nat.reduceMul, cfgP, u23, hlen]))
  · have hnl : ¬ i < l.length := by simpa using h
    rw [List.take_of_length_le (l := l) (by omega)] at hb hbl
    obtain ⟨H2, m1, hb2, kp2⟩ := writeByte_ok _ 125 B0.length H.length H' hH0 hb (by omega)
    have m1 : aLim cfg H.length 50 [.ptr B0.length 165 0, .int .u8 125] H' = some (.nilI, some H2) := m1
    obtain ⟨H3, m2, kp3⟩ := bstring_ok _ B0.length H.length H2 hb2 (by simp only [List.length_append, List.length_cons, List.length_nil] at hbl ⊢; omega)
    simp only [wk0, wk1, wk2, wk3, wk4, wk5, wk6, aWanted, aYield, Region.wanted, aOp, quiet, loud, aEvals, aParts, aOpt, aBuiltin, rd, win, AV.cells, AV.leaf, aNew, splice, fillA, Nat.reduceEqDiff, Nat.reduceLT, Nat.reduceAdd, Nat.reduceLeDiff, reduceCtorEq, Nat.reduceMul, cfgP, u23, hlen, a3, a10, a11, a12, m1, m2]
    exact Fin_pure (l := [.str (textP l)]) (by simp [wk0, wk1, wk2, wk3, wk4, wk5, wk6, aWanted, aYield, Region.wanted, aOp, quiet, loud, aEvals, aParts, aOpt, aBuiltin, rd, win, AV.cells, AV.leaf, aNew, splice, fillA, Nat.reduceEqDiff, Nat.reduceLT, Nat.reduceAdd, Nat.reduceLeDiff, reduceCtorEq, Nat.reduceMul, cfgP, u23, hlen, aResults, aResult, textP]) (.still rfl) (by simp)

def hstep (h : Int) (c : UInt8) : Int := IntKind.u64.wrap (IntKind.u64.wrap (BitVec.ofInt IntKind.u64.bits h ^^^ BitVec.ofInt IntKind.u64.bits (IntKind.u64.wrap (c.toNat : Int))).toNat * 1099511628211)
def hashU (s : List UInt8) : Int := s.foldl hstep 14695981039346656037
theorem hashU_snoc (s : List UInt8) (i : Nat) (h : i < s.length) : hashU (s.take (i + 1)) = hstep (hashU (s.take i)) s[i] := by
  have : s.take (i + 1) = s.take i ++ [s[i]] := by simp
  unfold hashU; rw [this, List.foldl_append]; rfl
theorem byteAt (s : List UInt8) {i : Nat} (h : i < s.length) : (cellsOf encB s)[i]? = some (.int .u8 (s[i].toNat : Int)) := by
  have := cellsOf_at encB_T s i h 0 (by omega)
  simpa [encB, AV.cells] using this
theorem bsAt {P : Program} {t e : TypeId} {b ver n : Nat} {k : IntKind} {i : Nat} (hu : P.underlying t = some (.slice e)) (hs : sizeT P e = some 1) (h : i < n) : aIndexAddr P t (.bs ⟨b, ver, 0, n, 0, 1, false, false⟩) (.int k i) = some (.ptr b ver i) := by
  simp [aIndexAddr, asNat, hu, hs, h]
theorem textP_len {l : List Pr} (hs : ∀ x ∈ l, Small x) (hl : l.length < 1000) : (textP l).length < 10000000000 := by
  have := bodyP_len hs
  simp only [textP, List.cons_append, List.length_cons, List.length_append, List.length_nil]; omega


theorem setHash_ok (l : List Pr) (v : AV) (hv : Sl encP v l) (hs : ∀ x ∈ l, Small x) (hl : l.length < 1000) (prot : Nat) (H : Heap) (hp : prot ≤ H.length) : aLim cfg prot 25 [.agg [v]] H = some (.int .u64 (hashU (textP l)), none) := by
  have hsnap : snap H [.agg [v]] = some ([.agg [v]], false) := rfl
  have hvl := Sl.leaf hv
  have hvc := Sl.cells1 hv
  unfold AV.leaf at hvl
  unfold AV.cells at hvc
  have n1 := setText_ok l v hv hs hl H.length (H ++ [Blk.cells 0 [v]]) (by simp)
  have hln := textP_len hs hl
  generalize textP l = s at *
  have cv := fun K => conv_sb Try.underlying9 Try.underlying80 Try.underlying5 K s
  have l1 : ∀ K b, aLen Try.prog K 80 (.bs ⟨b, 0, 0, s.length, 0, 1, false, false⟩) = some (.int .i64 s.length) := fun K b => by simp [aLen, Try.underlying80]
  refine pure_slim rfl (by kernel_rfl) Try.func25 s25 hp hsnap (by simp [Try.f25]) fun fr hlen h => ?_
  simp only [Has, Nat.zero_add] at h
  obtain ⟨a0, -⟩ := h
  simp only [Try.f25] at hlen ⊢
  unfold g25
  simp only [wk0, wk1, wk2, wk3, wk4, wk5, wk6, aWanted, aYield, Region.wanted, aOp, quiet, loud, aEvals, aParts, aOpt, aBuiltin, rd, win, AV.cells, AV.leaf, aNew, splice, fillA, Nat.reduceEqDiff, Nat.reduceLT, Nat.reduceAdd, Nat.reduceLeDiff, reduceCtorEq, Nat.reduceMul, cfgP, u25, hlen, a0, hvl, hvc, n1, cv, l1]
  let b := (H ++ [Blk.cells 0 [v]]).length
  let K := H ++ [Blk.cells 0 [v]] ++ [Blk.cells 0 (cellsOf encB s)]
  have hg : hget K b 0 = some (cellsOf encB s) := hget_new rfl
  refine loop_rule (fun m fr H' => ∃ (i : Nat), m = s.length - i ∧ i ≤ s.length ∧ fr.length = 21 ∧ fget fr 3 = .int .u64 (hashU (s.take i)) ∧ fget fr 8 = .bs ⟨b, 0, 0, s.length, 0, 1, false, false⟩ ∧ fget fr 9 = .int .i64 s.length ∧ fget fr 10 = .int .i64 i ∧ H' = K) ?_ s.length _ _ ⟨0, by refine ⟨by omega, by omega, ?_⟩; simp [wk0, wk1, wk2, wk3, wk4, wk5, wk6, aWanted, aYield, Region.wanted, aOp, quiet, loud, aEvals, aParts, aOpt, aBuiltin, rd, win, AV.cells, AV.leaf, aNew, splice, fillA, Nat.reduceEqDiff, Nat.reduceLT, Nat.reduceAdd, Nat.reduceLeDiff, reduceCtorEq, Nat.reduceMul, cfgP, u25, hlen, a0, hashU]; exact ⟨by simp [b], by simp [K]⟩⟩
  rintro m fr H' ⟨i, rfl, hi, hlen, a3, a8, a9, a10, rfl⟩ ih
  simp only [wk0, wk1, wk2, wk3, wk4, wk5, wk6, aWanted, aYield, Region.wanted, aOp, quiet, loud, aEvals, aParts, aOpt, aBuiltin, rd, win, AV.cells, AV.leaf, aNew, splice, fillA, Nat.reduceEqDiff, Nat.reduceLT, Nat.reduceAdd, Nat.reduceLeDiff, reduceCtorEq, Nat.reduceMul, cfgP, u25, hlen, a3, a8, a9, a10]
  refine RC_split (fun h => ?_) (fun h => ?_)
  · have hlt : i < s.length := by simpa using h
    have hww : IntKind.i64.wrap ((i : Int) + 1) = ((i + 1 : Nat) : Int) := by rw [wrap64 (by omega) (by omega)]; simp
    have e1 := bsAt (P := Try.prog) (b := b) (ver := 0) (k := .i64) Try.underlying80 sz5 hlt
    have e2 := byteAt s hlt
    have e3 := hashU_snoc s i hlt
    simp only [wk0, wk1, wk2, wk3, wk4, wk5, wk6, aWanted, aYield, Region.wanted, aOp, quiet, loud, aEvals, aParts, aOpt, aBuiltin, rd, win, AV.cells, AV.leaf, aNew, splice, fillA, Nat.reduceEqDiff, Nat.reduceLT, Nat.reduceAdd, Nat.reduceLeDiff, reduceCtorEq, Nat.reduceMul, cfgP, u25, hlen, a3, a8, a9, a10, e1, hg, e2, bin_xor, hww]
    refine ih _ _ (s.length - (i + 1)) (by omega) ⟨i + 1, rfl, hlt, ?_⟩
    rw [e3]
    simp [wk0, wk1, wk2, wk3, wk4, wk5, wk6, aWanted, aYield, Region.wanted, aOp, quiet, loud, aEvals, aParts, aOpt, aBuiltin, rd, win, AV.cells, AV.leaf, aNew, splice, fillA, Nat.reduceEqDiff, Nat.reduceLT, Nat.reduceAdd, Nat.reduceLeDiff, reduceCtorEq, Nat.reduceMul, cfgP, u25, hlen, a3, a8, a9, a10, hstep]
  · have hnl : ¬ i < s.length := by simpa using h
    rw [List.take_of_length_le (l := s) (by omega)] at a3
    simp only [wk0, wk1, wk2, wk3, wk4, wk5, wk6, aWanted, aYield, Region.wanted, aOp, quiet, loud, aEvals, aParts, aOpt, aBuiltin, rd, win, AV.cells, AV.leaf, aNew, splice, fillA, Nat.reduceEqDiff, Nat.reduceLT, Nat.reduceAdd, Nat.reduceLeDiff, reduceCtorEq, Nat.reduceMul, cfgP, u25, hlen, a3, a8, a9, a10]
    exact Fin_pure (l := [.int .u64 (hashU s)]) (by simp [wk0, wk1, wk2, wk3, wk4, wk5, wk6, aWanted, aYield, Region.wanted, aOp, quiet, loud, aEvals, aParts, aOpt, aBuiltin, rd, win, AV.cells, AV.leaf, aNew, splice, fillA, Nat.reduceEqDiff, Nat.reduceLT, Nat.reduceAdd, Nat.reduceLeDiff, reduceCtorEq, Nat.reduceMul, cfgP, u25, aResults, aResult, hlen]) (.still rfl) (by simp)


theorem rtext_ok (l : List Pr) (w : AV) (hw : Sl encP w l) (hs : ∀ x ∈ l, Small x) (hval : ∀ x ∈ l, validU x.val = true) (hl : l.length < 1000) (prot : Nat) (H : Heap) (hp : prot ≤ H.length) : aLim cfg prot 24 [w] H = some (.str (textP l), none) := by
  have hsnap : snap H [w] = some ([w], false) := by cases hw <;> rfl
  refine pure_slim rfl (by kernel_rfl) Try.func24 s24 hp hsnap (by simp [Try.f24]) fun fr hlen h => ?_
  simp only [Has, Nat.zero_add] at h
  obtain ⟨a0, -⟩ := h
  simp only [Try.f24] at hlen ⊢
  unfold g24
  simp only [wk0, wk1, wk2, wk3, wk4, wk5, wk6, aWanted, aYield, Region.wanted, aOp, quiet, loud, aEvals, aParts, aOpt, aBuiltin, rd, win, AV.cells, AV.leaf, aNew, splice, fillA, Nat.reduceEqDiff, Nat.reduceLT, Nat.reduceAdd, Nat.reduceLeDiff, reduceCtorEq, Nat.reduceMul, cfgP, u24, hlen, a0, hw.len Try.underlying22]
  refine loop_rule (fun m fr H' => ∃ (i : Nat), m = l.length - i ∧ i ≤ l.length ∧ fr.length = 29 ∧ fget fr 3 = .str (123 :: bodyP (l.take i)) ∧ fget fr 6 = w ∧ fget fr 7 = .int .i64 l.length ∧ fget fr 8 = .int .i64 i ∧ H.length ≤ H'.length) ?_ l.length _ _ ⟨0, by simp [wk0, wk1, wk2, wk3, wk4, wk5, wk6, aWanted, aYield, Region.wanted, aOp, quiet, loud, aEvals, aParts, aOpt, aBuiltin, rd, win, AV.cells, AV.leaf, aNew, splice, fillA, Nat.reduceEqDiff, Nat.reduceLT, Nat.reduceAdd, Nat.reduceLeDiff, reduceCtorEq, Nat.reduceMul, cfgP, u24, hlen, a0, bodyP]⟩
  rintro m fr H' ⟨i, rfl, hi, hlen, a3, a6, a7, a8, hH⟩ ih
  simp only [wk0, wk1, wk2, wk3, wk4, wk5, wk6, aWanted, aYield, Region.wanted, aOp, quiet, loud, aEvals, aParts, aOpt, aBuiltin, rd, win, AV.cells, AV.leaf, aNew, splice, fillA, Nat.reduceEqDiff, Nat.reduceLT, Nat.reduceAdd, Nat.reduceLeDiff, reduceCtorEq, Nat.reduceMul, cfgP, u24, hlen, a3, a6, a7, a8]
  have hbl : (123 :: bodyP (l.take i)).length ≤ i * 8000001 + 1 := by
    have := bodyP_len (l := l.take i) fun x hx => hs x (List.mem_of_mem_take hx)
    simp only [List.length_take, Nat.min_eq_left hi] at this
    simp only [List.length_cons]; omega
  refine RC_split (fun h => ?_) (fun h => ?_)
  · have hlt : i < l.length := by simpa using h
    have hww : IntKind.i64.wrap ((i : Int) + 1) = ((i + 1 : Nat) : Int) := by rw [wrap64 (by omega) (by omega)]; simp
    have e1 := hw.at (k := .i64) Try.underlying22 sz68 encP_len hlt
    have htk : 123 :: bodyP (l.take (i + 1)) = (123 :: bodyP (l.take i)) ++ ((if i = 0 then [] else [44]) ++ piece l[i]) := by
      have h1 : l.take (i + 1) = l.take i ++ [l[i]] := by simp
      rw [h1, bodyP_snoc]
      by_cases h0 : i = 0
      · subst h0; simp
      · have h2 : ¬ l.take i = [] := by
          rw [List.take_eq_nil_iff]
          rintro (h | h)
          · exact h0 h
          · rw [h] at hlt; simp at hlt
        rw [if_neg h2, if_neg h0]; rfl
    have hsx := hs l[i] (List.getElem_mem hlt)
    have hvx := hval l[i] (List.getElem_mem hlt)
    generalize l[i] = x at *
    generalize 123 :: bodyP (l.take i) = o at *
    obtain ⟨hx1, hx2⟩ := hsx
    have hqv : qv x = quoteU x.val := by unfold qv; rw [if_pos hvx]
    have q1 : ∀ K : Heap, H.length ≤ K.length → aLim cfg H.length 54 [.str x.val] K = some (.str (qv x), none) := fun K hK => by rw [hqv]; exact rquote_ok x.val (by omega) H.length K hK
    have ql := qv_len x
    have hle : H.length ≤ (H' ++ [Blk.cells 0 [.str x.name, .str x.val]]).length := by simp; omega
    by_cases h0 : i = 0
    · have c0 : decide ((0 : Int) < (i : Nat)) = false := decide_eq_false (by omega)
      have t1 := str_add (s := o) (u := x.name) (by omega)
      have t2 := str_add (s := o ++ x.name) (u := [61]) (by simp only [List.length_append, List.length_cons, List.length_nil]; omega)
      have t3 := str_add (s := o ++ x.name ++ [61]) (u := qv x) (by simp only [List.length_append, List.length_cons, List.length_nil]; omega)
      simp only [wk0, wk1, wk2, wk3, wk4, wk5, wk6, aWanted, aYield, Region.wanted, aOp, quiet, loud, aEvals, aParts, aOpt, aBuiltin, rd, win, AV.cells, AV.leaf, aNew, splice, fillA, Nat.reduceEqDiff, Nat.reduceLT, Nat.reduceAdd, Nat.reduceLeDiff, reduceCtorEq, Nat.reduceMul, cfgP, u24, hlen, a3, a6, a7, a8, e1, encP, hH, hle, c0, q1, t1, t2, t3, hww]
      refine ih _ _ (l.length - (i + 1)) (by omega) ⟨i + 1, rfl, hlt, ?_⟩
      rw [htk, if_pos h0]
      simp [wk0, wk1, wk2, wk3, wk4, wk5, wk6, aWanted, aYield, Region.wanted, aOp, quiet, loud, aEvals, aParts, aOpt, aBuiltin, rd, win, AV.cells, AV.leaf, aNew, splice, fillA, Nat.reduceEqDiff, Nat.reduceLT, Nat.reduceAdd, Nat.reduceLeDiff, reduceCtorEq, Nat.reduceMul, cfgP, u24, hlen, a3, a6, a7, a8, piece]
      omega
    · have c0 : decide ((0 : Int) < (i : Nat)) = true := decide_eq_true (by omega)
      have t0 := str_add (s := o) (u := [44]) (by simp only [List.length_append, List.length_cons, List.length_nil]; omega)
      have t1 := str_add (s := o ++ [44]) (u := x.name) (by simp only [List.length_append, List.length_cons, List.length_nil]; omega)
      have t2 := str_add (s := o ++ [44] ++ x.name) (u := [61]) (by simp only [List.length_append, List.length_cons, List.length_nil]; omega)
      have t3 := str_add (s := o ++ [44] ++ x.name ++ [61]) (u := qv x) (by simp only [List.length_append, List.length_cons, List.length_nil]; omega)
      simp only [wk0, wk1, wk2, wk3, wk4, wk5, wk6, aWanted, aYield, Region.wanted, aOp, quiet, loud, aEvals, aParts, aOpt, aBuiltin, rd, win, AV.cells, AV.leaf, aNew, splice, fillA, Nat.reduceEqDiff, Nat.reduceLT, Nat.reduceAdd, Nat.reduceLeDiff, reduceCtorEq, Nat.reduceMul, cfgP, u24, hlen, a3, a6, a7, a8, e1, encP, hH, hle, c0, q1, t0, t1, t2, t3, hww]
      refine ih _ _ (l.length - (i + 1)) (by omega) ⟨i + 1, rfl, hlt, ?_⟩
      rw [htk, if_neg h0]
      simp [wk0, wk1, wk2, wk3, wk4, wk5, wk6, aWanted, aYield, Region.wanted, aOp, quiet, loud, aEvals, aParts, aOpt, aBuiltin, rd, win, AV.cells, AV.leaf, aNew, splice, fillA, Nat.reduceEqDiff, Nat.reduceLT, Nat.reduceAdd, Nat.reduceLeDiff, reduceCtorEq, Nat.reduceMul, cfgP, u24, hlen, a3, a6, a7, a8, piece]
      omega
  · have hnl : ¬ i < l.length := by simpa using h
    rw [List.take_of_length_le (l := l) (by omega)] at a3 hbl
    have t1 : aStr .add (123 :: bodyP l) [125] = some (.str (textP l)) := by rw [str_add (by simp only [List.length_cons, List.length_nil] at hbl ⊢; omega)]; rfl
    simp only [wk0, wk1, wk2, wk3, wk4, wk5, wk6, aWanted, aYield, Region.wanted, aOp, quiet, loud, aEvals, aParts, aOpt, aBuiltin, rd, win, AV.cells, AV.leaf, aNew, splice, fillA, Nat.reduceEqDiff, Nat.reduceLT, Nat.reduceAdd, Nat.reduceLeDiff, reduceCtorEq, Nat.reduceMul, cfgP, u24, hlen, a3, a6, a7, a8, t1]
    exact Fin_pure (l := [.str (textP l)]) (by simp [wk0, wk1, wk2, wk3, wk4, wk5, wk6, aWanted, aYield, Region.wanted, aOp, quiet, loud, aEvals, aParts, aOpt, aBuiltin, rd, win, AV.cells, AV.leaf, aNew, splice, fillA, Nat.reduceEqDiff, Nat.reduceLT, Nat.reduceAdd, Nat.reduceLeDiff, reduceCtorEq, Nat.reduceMul, cfgP, u24, aResults, aResult, hlen]) (.still rfl) (by simp)

theorem rhash_ok (l : List Pr) (w : AV) (hw : Sl encP w l) (hs : ∀ x ∈ l, Small x) (hval : ∀ x ∈ l, validU x.val = true) (hl : l.length < 1000) (prot : Nat) (H : Heap) (hp : prot ≤ H.length) : aLim cfg prot 26 [w] H = some (.int .u64 (hashU (textP l)), none) := by
  have hsnap : snap H [w] = some ([w], false) := by cases hw <;> rfl
  have n1 := rtext_ok l w hw hs hval hl H.length H (Nat.le_refl _)
  have hln := textP_len hs hl
  generalize textP l = s at *
  refine pure_slim rfl (by kernel_rfl) Try.func26 s26 hp hsnap (by simp [Try.f26]) fun fr hlen h => ?_
  simp only [Has, Nat.zero_add] at h
  obtain ⟨a0, -⟩ := h
  simp only [Try.f26] at hlen ⊢
  unfold g26
  simp only [wk0, wk1, wk2, wk3, wk4, wk5, wk6, aWanted, aYield, Region.wanted, aOp, quiet, loud, aEvals, aParts, aOpt, aBuiltin, rd, win, AV.cells, AV.leaf, aNew, splice, fillA, Nat.reduceEqDiff, Nat.reduceLT, Nat.reduceAdd, Nat.reduceLeDiff, reduceCtorEq, Nat.reduceMul, cfgP, u26, hlen, a0, n1]
  refine loop_rule (fun m fr H' => ∃ (i : Nat), m = s.length - i ∧ i ≤ s.length ∧ fr.length = 23 ∧ fget fr 3 = .str s ∧ fget fr 4 = .int .u64 (hashU (s.take i)) ∧ fget fr 5 = .int .i64 i ∧ H' = H) ?_ s.length _ _ ⟨0, by simp [wk0, wk1, wk2, wk3, wk4, wk5, wk6, aWanted, aYield, Region.wanted, aOp, quiet, loud, aEvals, aParts, aOpt, aBuiltin, rd, win, AV.cells, AV.leaf, aNew, splice, fillA, Nat.reduceEqDiff, Nat.reduceLT, Nat.reduceAdd, Nat.reduceLeDiff, reduceCtorEq, Nat.reduceMul, cfgP, u26, hlen, a0, hashU]⟩
  rintro m fr H' ⟨i, rfl, hi, hlen, a3, a4, a5, rfl⟩ ih
  simp only [wk0, wk1, wk2, wk3, wk4, wk5, wk6, aWanted, aYield, Region.wanted, aOp, quiet, loud, aEvals, aParts, aOpt, aBuiltin, rd, win, AV.cells, AV.leaf, aNew, splice, fillA, Nat.reduceEqDiff, Nat.reduceLT, Nat.reduceAdd, Nat.reduceLeDiff, reduceCtorEq, Nat.reduceMul, cfgP, u26, hlen, a3, a4, a5, str_len Try.underlying9]
  refine RC_split (fun h => ?_) (fun h => ?_)
  · have hlt : i < s.length := by simpa using h
    have hww : IntKind.i64.wrap ((i : Int) + 1) = ((i + 1 : Nat) : Int) := by rw [wrap64 (by omega) (by omega)]; simp
    have e1 := str_at (P := Try.prog) Try.underlying9 s (k := .i64) hlt
    have e3 := hashU_snoc s i hlt
    simp only [wk0, wk1, wk2, wk3, wk4, wk5, wk6, aWanted, aYield, Region.wanted, aOp, quiet, loud, aEvals, aParts, aOpt, aBuiltin, rd, win, AV.cells, AV.leaf, aNew, splice, fillA, Nat.reduceEqDiff, Nat.reduceLT, Nat.reduceAdd, Nat.reduceLeDiff, reduceCtorEq, Nat.reduceMul, cfgP, u26, hlen, a3, a4, a5, e1, bin_xor, hww]
    refine ih _ _ (s.length - (i + 1)) (by omega) ⟨i + 1, rfl, hlt, ?_⟩
    rw [e3]
    simp [wk0, wk1, wk2, wk3, wk4, wk5, wk6, aWanted, aYield, Region.wanted, aOp, quiet, loud, aEvals, aParts, aOpt, aBuiltin, rd, win, AV.cells, AV.leaf, aNew, splice, fillA, Nat.reduceEqDiff, Nat.reduceLT, Nat.reduceAdd, Nat.reduceLeDiff, reduceCtorEq, Nat.reduceMul, cfgP, u26, hlen, a3, a4, a5, hstep]
  · have hnl : ¬ i < s.length := by simpa using h
    rw [List.take_of_length_le (l := s) (by omega)] at a4
    simp only [wk0, wk1, wk2, wk3, wk4, wk5, wk6, aWanted, aYield, Region.wanted, aOp, quiet, loud, aEvals, aParts, aOpt, aBuiltin, rd, win, AV.cells, AV.leaf, aNew, splice, fillA, Nat.reduceEqDiff, Nat.reduceLT, Nat.reduceAdd, Nat.reduceLeDiff, reduceCtorEq, Nat.reduceMul, cfgP, u26, hlen, a3, a4, a5]
    exact Fin_pure (l := [.int .u64 (hashU s)]) (by simp [wk0, wk1, wk2, wk3, wk4, wk5, wk6, aWanted, aYield, Region.wanted, aOp, quiet, loud, aEvals, aParts, aOpt, aBuiltin, rd, win, AV.cells, AV.leaf, aNew, splice, fillA, Nat.reduceEqDiff, Nat.reduceLT, Nat.reduceAdd, Nat.reduceLeDiff, reduceCtorEq, Nat.reduceMul, cfgP, u26, aResults, aResult, hlen]) (.still rfl) (by simp)
end Go.Proofs.Ytjhgmoaabflbfaa
