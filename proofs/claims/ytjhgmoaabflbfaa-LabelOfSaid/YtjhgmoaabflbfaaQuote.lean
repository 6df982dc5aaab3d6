import Derived.Test.YtjhgmoaabflbfaaBldr
import Derived.Test.YtjhgmoaabflbfaaNum
/-! A text as a token of JSON, walked: the program's, the document's. -/
set_option linter.unusedSimpArgs false
namespace Go.Proofs.Ytjhgmoaabflbfaa
open Go Go.Abs AbsSeat Ty

theorem u89 : type_of% (And.intro ag5 (And.intro sz5 (And.intro by5 (And.intro ze5 (And.intro Try.underlying5 (And.intro ag9 (And.intro sz9 (And.intro by9 (And.intro ze9 Try.underlying9))))))))) :=
  And.intro ag5 (And.intro sz5 (And.intro by5 (And.intro ze5 (And.intro Try.underlying5 (And.intro ag9 (And.intro sz9 (And.intro by9 (And.intro ze9 Try.underlying9))))))))
def g89 : Code :=
  Go.Code.seq (Go.Code.region 0 #[{ dst := some 4, op := Go.Op.assign (Go.Operand.const (Go.Value.int Go.IntKind.i64 0)), type := 3, pos := "", after := #[], guard := none }] false) (Go.Code.seq (Go.Code.region 1 #[{ dst := some 5, op := Go.Op.move (Go.Operand.tmp 0), type := 9, pos := "", after := #[], guard := none }, { dst := some 6, op := Go.Op.move (Go.Operand.tmp 1), type := 5, pos := "", after := #[], guard := none }, { dst := some 7, op := Go.Op.call { callee := Go.Callee.value (Go.Operand.func 104), args := #[Go.Operand.tmp 5, Go.Operand.tmp 6], argTypes := #[9, 5] }, type := 3, pos := "", after := #[], guard := none }, { dst := some 4, op := Go.Op.assign (Go.Operand.tmp 7), type := 3, pos := "", after := #[], guard := none }] false) Go.Code.ret)
theorem s89 : Try.f89.body.map (slim cfg) = some g89 := by kernel_rfl
theorem u70 : type_of% (And.intro ag5 (And.intro sz5 (And.intro by5 (And.intro ze5 (And.intro Try.underlying5 (And.intro ag9 (And.intro sz9 (And.intro by9 (And.intro ze9 Try.underlying9))))))))) :=
  And.intro ag5 (And.intro sz5 (And.intro by5 (And.intro ze5 (And.intro Try.underlying5 (And.intro ag9 (And.intro sz9 (And.intro by9 (And.intro ze9 Try.underlying9))))))))
def g70 : Code :=
  Go.Code.seq (Go.Code.region 0 #[{ dst := some 4, op := Go.Op.assign (Go.Operand.const (Go.Value.int Go.IntKind.i64 0)), type := 3, pos := "", after := #[], guard := none }] false) (Go.Code.seq (Go.Code.region 1 #[{ dst := some 5, op := Go.Op.move (Go.Operand.tmp 0), type := 9, pos := "", after := #[], guard := none }, { dst := some 6, op := Go.Op.move (Go.Operand.tmp 1), type := 5, pos := "", after := #[], guard := none }, { dst := some 7, op := Go.Op.call { callee := Go.Callee.value (Go.Operand.func 89), args := #[Go.Operand.tmp 5, Go.Operand.tmp 6], argTypes := #[9, 5] }, type := 3, pos := "", after := #[], guard := none }, { dst := some 4, op := Go.Op.assign (Go.Operand.tmp 7), type := 3, pos := "", after := #[], guard := none }] false) Go.Code.ret)
theorem s70 : Try.f70.body.map (slim cfg) = some g70 := by kernel_rfl
theorem u51 : type_of% (And.intro (show tagT Try.prog 82 = 165 from by kernel_rfl) (And.intro (fun (K : Heap) (n : Int) => conv_int Try.underlying5 Try.underlying3 K n) (And.intro ag3 (And.intro sz3 (And.intro by3 (And.intro ze3 (And.intro Try.underlying3 (And.intro ag5 (And.intro sz5 (And.intro by5 (And.intro ze5 (And.intro Try.underlying5 (And.intro ag9 (And.intro sz9 (And.intro by9 (And.intro ze9 (And.intro Try.underlying9 (And.intro ag82 (And.intro sz82 (And.intro by82 (And.intro ze82 (And.intro bu82 (And.intro Try.underlying82 (And.intro ag99 (And.intro sz99 (And.intro by99 (And.intro ze99 Try.underlying99))))))))))))))))))))))))))) :=
  And.intro (show tagT Try.prog 82 = 165 from by kernel_rfl) (And.intro (fun (K : Heap) (n : Int) => conv_int Try.underlying5 Try.underlying3 K n) (And.intro ag3 (And.intro sz3 (And.intro by3 (And.intro ze3 (And.intro Try.underlying3 (And.intro ag5 (And.intro sz5 (And.intro by5 (And.intro ze5 (And.intro Try.underlying5 (And.intro ag9 (And.intro sz9 (And.intro by9 (And.intro ze9 (And.intro Try.underlying9 (And.intro ag82 (And.intro sz82 (And.intro by82 (And.intro ze82 (And.intro bu82 (And.intro Try.underlying82 (And.intro ag99 (And.intro sz99 (And.intro by99 (And.intro ze99 Try.underlying99))))))))))))))))))))))))))
def g51 : Code :=
  Go.Code.seq (Go.Code.region 0 #[{ dst := some 2, op := Go.Op.assign (Go.Operand.const (Go.Value.string { data := #[] })), type := 9, pos := "", after := #[], guard := none }, { dst := some 3, op := Go.Op.assign (Go.Operand.const (Go.Value.int Go.IntKind.i64 0)), type := 38, pos := "", after := #[], guard := none }] false) (Go.Code.seq (Go.Code.region 1 #[{ dst := some 4, op := Go.Op.alloc 82, type := 0, pos := "", after := #[], guard := none }] false) (Go.Code.seq (Go.Code.seq (Go.Code.region 2 #[{ dst := some 8, op := Go.Op.move (Go.Operand.tmp 0), type := 9, pos := "", after := #[], guard := none }, { dst := some 9, op := Go.Op.call { callee := Go.Callee.value (Go.Operand.func 43), args := #[Go.Operand.tmp 8], argTypes := #[9] }, type := 4, pos := "", after := #[], guard := none }, { dst := some 10, op := Go.Op.unOp Go.UnOp.not 4 (Go.Operand.tmp 9), type := 4, pos := "", after := #[], guard := none }] false) (Go.Code.cond (Go.Operand.tmp 10) (Go.Code.seq (Go.Code.region 3 #[{ dst := some 2, op := Go.Op.assign (Go.Operand.const (Go.Value.string { data := #[] })), type := 9, pos := "", after := #[], guard := none }, { dst := some 3, op := Go.Op.assign (Go.Operand.const (Go.Value.int Go.IntKind.i64 3)), type := 38, pos := "", after := #[], guard := none }] false) Go.Code.ret) Go.Code.skip)) (Go.Code.seq (Go.Code.region 4 #[{ dst := some 11, op := Go.Op.call { callee := Go.Callee.value (Go.Operand.func 50), args := #[Go.Operand.tmp 4, Go.Operand.const (Go.Value.int Go.IntKind.u8 34)], argTypes := #[82, 5] }, type := 84, pos := "", after := #[], guard := none }] false) (Go.Code.seq (Go.Code.seq (Go.Code.region 5 #[{ dst := some 12, op := Go.Op.move (Go.Operand.tmp 0), type := 9, pos := "", after := #[], guard := none }, { dst := some 13, op := Go.Op.call { callee := Go.Callee.builtin Go.Builtin.len, args := #[Go.Operand.tmp 12], argTypes := #[9] }, type := 3, pos := "", after := #[], guard := none }, { dst := some 14, op := Go.Op.move (Go.Operand.const (Go.Value.int Go.IntKind.i64 0)), type := 3, pos := "", after := #[], guard := none }] false) (Go.Code.block 0 (Go.Code.loop (Go.Code.seq (Go.Code.region 6 #[{ dst := some 15, op := Go.Op.binOp Go.BinOp.lss 3 (Go.Operand.tmp 14) (Go.Operand.tmp 13) 3, type := 4, pos := "", after := #[], guard := none }] false) (Go.Code.seq (Go.Code.cond (Go.Operand.tmp 15) Go.Code.skip (Go.Code.exit 0)) (Go.Code.seq (Go.Code.block 1 (Go.Code.seq (Go.Code.region 7 #[{ dst := some 16, op := Go.Op.move (Go.Operand.tmp 14), type := 3, pos := "", after := #[], guard := none }, { dst := some 5, op := Go.Op.assign (Go.Operand.tmp 16), type := 3, pos := "", after := #[], guard := none }] false) (Go.Code.seq (Go.Code.region 8 #[{ dst := some 17, op := Go.Op.move (Go.Operand.tmp 0), type := 9, pos := "", after := #[], guard := none }, { dst := some 18, op := Go.Op.move (Go.Operand.tmp 5), type := 3, pos := "", after := #[], guard := none }, { dst := some 19, op := Go.Op.index 9 (Go.Operand.tmp 17) (Go.Operand.tmp 18), type := 5, pos := "", after := #[], guard := none }, { dst := some 6, op := Go.Op.assign (Go.Operand.tmp 19), type := 5, pos := "", after := #[], guard := none }] false) (Go.Code.seq (Go.Code.region 9 #[{ dst := some 20, op := Go.Op.move (Go.Operand.tmp 6), type := 5, pos := "", after := #[], guard := none }, { dst := some 21, op := Go.Op.call { callee := Go.Callee.value (Go.Operand.func 70), args := #[Go.Operand.const (Go.Value.string { data := #[8, 12, 10, 13, 9] }), Go.Operand.tmp 20], argTypes := #[9, 5] }, type := 3, pos := "", after := #[], guard := none }, { dst := some 7, op := Go.Op.assign (Go.Operand.tmp 21), type := 3, pos := "", after := #[], guard := none }] false) (Go.Code.block 2 (Go.Code.seq (Go.Code.block 6 (Go.Code.seq (Go.Code.block 5 (Go.Code.seq (Go.Code.block 4 (Go.Code.seq (Go.Code.block 3 (Go.Code.seq (Go.Code.seq (Go.Code.seq (Go.Code.region 10 #[{ dst := some 23, op := Go.Op.move (Go.Operand.tmp 7), type := 3, pos := "", after := #[], guard := none }, { dst := some 24, op := Go.Op.binOp Go.BinOp.geq 3 (Go.Operand.tmp 23) (Go.Operand.const (Go.Value.int Go.IntKind.i64 0)) 3, type := 4, pos := "", after := #[], guard := none }, { dst := some 22, op := Go.Op.assign (Go.Operand.tmp 24), type := 4, pos := "", after := #[], guard := none }] false) (Go.Code.cond (Go.Operand.tmp 22) (Go.Code.exit 3) Go.Code.skip)) (Go.Code.seq (Go.Code.seq (Go.Code.region 11 #[{ dst := some 26, op := Go.Op.move (Go.Operand.tmp 6), type := 5, pos := "", after := #[], guard := none }, { dst := some 27, op := Go.Op.binOp Go.BinOp.lss 5 (Go.Operand.tmp 26) (Go.Operand.const (Go.Value.int Go.IntKind.u8 32)) 5, type := 4, pos := "", after := #[], guard := none }, { dst := some 25, op := Go.Op.assign (Go.Operand.tmp 27), type := 4, pos := "", after := #[], guard := none }] false) (Go.Code.cond (Go.Operand.tmp 25) (Go.Code.exit 4) Go.Code.skip)) (Go.Code.seq (Go.Code.region 12 #[{ dst := some 29, op := Go.Op.move (Go.Operand.tmp 6), type := 5, pos := "", after := #[], guard := none }, { dst := some 30, op := Go.Op.binOp Go.BinOp.eql 5 (Go.Operand.tmp 29) (Go.Operand.const (Go.Value.int Go.IntKind.u8 34)) 5, type := 4, pos := "", after := #[], guard := none }, { dst := some 31, op := Go.Op.move (Go.Operand.tmp 30), type := 4, pos := "", after := #[], guard := none }, { dst := some 32, op := Go.Op.move (Go.Operand.tmp 6), type := 5, pos := "", after := #[], guard := some (2, false) }, { dst := some 33, op := Go.Op.binOp Go.BinOp.eql 5 (Go.Operand.tmp 32) (Go.Operand.const (Go.Value.int Go.IntKind.u8 92)) 5, type := 4, pos := "", after := #[], guard := some (2, false) }, { dst := some 34, op := Go.Op.pick (Go.Operand.tmp 31) (Go.Operand.const (Go.Value.bool true)) (Go.Operand.tmp 33), type := 4, pos := "", after := #[], guard := none }, { dst := some 28, op := Go.Op.assign (Go.Operand.tmp 34), type := 4, pos := "", after := #[], guard := none }] false) (Go.Code.cond (Go.Operand.tmp 28) (Go.Code.exit 5) Go.Code.skip)))) (Go.Code.exit 6))) (Go.Code.seq (Go.Code.seq (Go.Code.region 13 #[{ dst := some 35, op := Go.Op.call { callee := Go.Callee.value (Go.Operand.func 50), args := #[Go.Operand.tmp 4, Go.Operand.const (Go.Value.int Go.IntKind.u8 92)], argTypes := #[82, 5] }, type := 84, pos := "", after := #[], guard := none }] false) (Go.Code.region 14 #[{ dst := some 36, op := Go.Op.move (Go.Operand.tmp 7), type := 3, pos := "", after := #[], guard := none }, { dst := some 37, op := Go.Op.index 9 (Go.Operand.const (Go.Value.string { data := #[98, 102, 110, 114, 116] })) (Go.Operand.tmp 36), type := 5, pos := "", after := #[], guard := none }, { dst := some 38, op := Go.Op.call { callee := Go.Callee.value (Go.Operand.func 50), args := #[Go.Operand.tmp 4, Go.Operand.tmp 37], argTypes := #[82, 5] }, type := 84, pos := "", after := #[], guard := none }] false)) (Go.Code.exit 2)))) (Go.Code.seq (Go.Code.region 15 #[{ dst := some 39, op := Go.Op.move (Go.Operand.tmp 6), type := 5, pos := "", after := #[], guard := none }, { dst := some 40, op := Go.Op.binOp Go.BinOp.shr 5 (Go.Operand.tmp 39) (Go.Operand.const (Go.Value.int Go.IntKind.u64 4)) 99, type := 5, pos := "", after := #[], guard := none }, { dst := some 41, op := Go.Op.convert 5 3 (Go.Operand.tmp 40), type := 3, pos := "", after := #[], guard := none }, { dst := some 42, op := Go.Op.call { callee := Go.Callee.value (Go.Operand.func 71), args := #[Go.Operand.tmp 41], argTypes := #[3] }, type := 9, pos := "", after := #[], guard := none }, { dst := some 43, op := Go.Op.binOp Go.BinOp.add 9 (Go.Operand.const (Go.Value.string { data := #[92, 117, 48, 48] })) (Go.Operand.tmp 42) 9, type := 9, pos := "", after := #[], guard := none }, { dst := some 44, op := Go.Op.move (Go.Operand.tmp 6), type := 5, pos := "", after := #[], guard := none }, { dst := some 45, op := Go.Op.binOp Go.BinOp.and 5 (Go.Operand.tmp 44) (Go.Operand.const (Go.Value.int Go.IntKind.u8 15)) 5, type := 5, pos := "", after := #[], guard := none }, { dst := some 46, op := Go.Op.convert 5 3 (Go.Operand.tmp 45), type := 3, pos := "", after := #[], guard := none }, { dst := some 47, op := Go.Op.call { callee := Go.Callee.value (Go.Operand.func 71), args := #[Go.Operand.tmp 46], argTypes := #[3] }, type := 9, pos := "", after := #[], guard := none }, { dst := some 48, op := Go.Op.binOp Go.BinOp.add 9 (Go.Operand.tmp 43) (Go.Operand.tmp 47) 9, type := 9, pos := "", after := #[], guard := none }, { dst := some 49, op := Go.Op.call { callee := Go.Callee.value (Go.Operand.func 52), args := #[Go.Operand.tmp 4, Go.Operand.tmp 48], argTypes := #[82, 9] }, type := 88, pos := "", after := #[], guard := none }] false) (Go.Code.exit 2)))) (Go.Code.region 16 #[{ dst := some 50, op := Go.Op.call { callee := Go.Callee.value (Go.Operand.func 50), args := #[Go.Operand.tmp 4, Go.Operand.const (Go.Value.int Go.IntKind.u8 92)], argTypes := #[82, 5] }, type := 84, pos := "", after := #[], guard := none }] false))) (Go.Code.seq (Go.Code.region 17 #[{ dst := some 51, op := Go.Op.move (Go.Operand.tmp 6), type := 5, pos := "", after := #[], guard := none }, { dst := some 52, op := Go.Op.call { callee := Go.Callee.value (Go.Operand.func 50), args := #[Go.Operand.tmp 4, Go.Operand.tmp 51], argTypes := #[82, 5] }, type := 84, pos := "", after := #[], guard := none }] false) (Go.Code.exit 2)))))))) (Go.Code.region 18 #[{ dst := some 53, op := Go.Op.binOp Go.BinOp.add 3 (Go.Operand.tmp 14) (Go.Operand.const (Go.Value.int Go.IntKind.i64 1)) 3, type := 3, pos := "", after := #[], guard := none }, { dst := some 14, op := Go.Op.move (Go.Operand.tmp 53), type := 3, pos := "", after := #[], guard := none }] false))))))) (Go.Code.seq (Go.Code.region 19 #[{ dst := some 54, op := Go.Op.call { callee := Go.Callee.value (Go.Operand.func 50), args := #[Go.Operand.tmp 4, Go.Operand.const (Go.Value.int Go.IntKind.u8 34)], argTypes := #[82, 5] }, type := 84, pos := "", after := #[], guard := none }] false) (Go.Code.seq (Go.Code.region 20 #[{ dst := some 55, op := Go.Op.call { callee := Go.Callee.value (Go.Operand.func 53), args := #[Go.Operand.tmp 4], argTypes := #[82] }, type := 9, pos := "", after := #[], guard := none }, { dst := some 2, op := Go.Op.assign (Go.Operand.tmp 55), type := 9, pos := "", after := #[], guard := none }, { dst := some 3, op := Go.Op.assign (Go.Operand.const (Go.Value.int Go.IntKind.i64 0)), type := 38, pos := "", after := #[], guard := none }] false) Go.Code.ret))))))
theorem s51 : Try.f51.body.map (slim cfg) = some g51 := by kernel_rfl
theorem u54 : type_of% (And.intro (fun (K : Heap) (n : Int) => conv_int Try.underlying5 Try.underlying3 K n) (And.intro ag3 (And.intro sz3 (And.intro by3 (And.intro ze3 (And.intro Try.underlying3 (And.intro ag5 (And.intro sz5 (And.intro by5 (And.intro ze5 (And.intro Try.underlying5 (And.intro ag9 (And.intro sz9 (And.intro by9 (And.intro ze9 Try.underlying9))))))))))))))) :=
  And.intro (fun (K : Heap) (n : Int) => conv_int Try.underlying5 Try.underlying3 K n) (And.intro ag3 (And.intro sz3 (And.intro by3 (And.intro ze3 (And.intro Try.underlying3 (And.intro ag5 (And.intro sz5 (And.intro by5 (And.intro ze5 (And.intro Try.underlying5 (And.intro ag9 (And.intro sz9 (And.intro by9 (And.intro ze9 Try.underlying9))))))))))))))
def g54 : Code :=
  Go.Code.seq (Go.Code.region 0 #[{ dst := some 2, op := Go.Op.assign (Go.Operand.const (Go.Value.string { data := #[] })), type := 9, pos := "", after := #[], guard := none }] false) (Go.Code.seq (Go.Code.region 1 #[{ dst := some 3, op := Go.Op.assign (Go.Operand.const (Go.Value.string { data := #[34] })), type := 9, pos := "", after := #[], guard := none }] false) (Go.Code.seq (Go.Code.seq (Go.Code.region 2 #[{ dst := some 4, op := Go.Op.assign (Go.Operand.const (Go.Value.int Go.IntKind.i64 0)), type := 3, pos := "", after := #[], guard := none }] false) (Go.Code.block 0 (Go.Code.loop (Go.Code.seq (Go.Code.seq (Go.Code.region 3 #[{ dst := some 6, op := Go.Op.move (Go.Operand.tmp 4), type := 3, pos := "", after := #[], guard := none }, { dst := some 7, op := Go.Op.move (Go.Operand.tmp 0), type := 9, pos := "", after := #[], guard := none }, { dst := some 8, op := Go.Op.call { callee := Go.Callee.builtin Go.Builtin.len, args := #[Go.Operand.tmp 7], argTypes := #[9] }, type := 3, pos := "", after := #[], guard := none }, { dst := some 9, op := Go.Op.binOp Go.BinOp.lss 3 (Go.Operand.tmp 6) (Go.Operand.tmp 8) 3, type := 4, pos := "", after := #[], guard := none }] false) (Go.Code.cond (Go.Operand.tmp 9) Go.Code.skip (Go.Code.exit 0))) (Go.Code.seq (Go.Code.block 1 (Go.Code.seq (Go.Code.region 5 #[{ dst := some 12, op := Go.Op.move (Go.Operand.tmp 0), type := 9, pos := "", after := #[], guard := none }, { dst := some 13, op := Go.Op.move (Go.Operand.tmp 4), type := 3, pos := "", after := #[], guard := none }, { dst := some 14, op := Go.Op.index 9 (Go.Operand.tmp 12) (Go.Operand.tmp 13), type := 5, pos := "", after := #[], guard := none }, { dst := some 5, op := Go.Op.assign (Go.Operand.tmp 14), type := 5, pos := "", after := #[], guard := none }] false) (Go.Code.seq (Go.Code.region 6 #[{ dst := some 15, op := Go.Op.move (Go.Operand.tmp 5), type := 5, pos := "", after := #[], guard := none }] false) (Go.Code.block 2 (Go.Code.seq (Go.Code.region 12 #[{ dst := some 40, op := Go.Op.binOp Go.BinOp.eql 5 (Go.Operand.tmp 15) (Go.Operand.const (Go.Value.int Go.IntKind.u8 8)) 5, type := 4, pos := "", after := #[], guard := none }, { dst := some 39, op := Go.Op.assign (Go.Operand.tmp 40), type := 4, pos := "", after := #[], guard := none }] false) (Go.Code.cond (Go.Operand.tmp 39) (Go.Code.region 13 #[{ dst := some 41, op := Go.Op.move (Go.Operand.tmp 3), type := 9, pos := "", after := #[], guard := none }, { dst := some 42, op := Go.Op.binOp Go.BinOp.add 9 (Go.Operand.tmp 41) (Go.Operand.const (Go.Value.string { data := #[92, 98] })) 9, type := 9, pos := "", after := #[], guard := none }, { dst := some 3, op := Go.Op.assign (Go.Operand.tmp 42), type := 9, pos := "", after := #[], guard := none }] false) (Go.Code.seq (Go.Code.region 14 #[{ dst := some 44, op := Go.Op.binOp Go.BinOp.eql 5 (Go.Operand.tmp 15) (Go.Operand.const (Go.Value.int Go.IntKind.u8 12)) 5, type := 4, pos := "", after := #[], guard := none }, { dst := some 43, op := Go.Op.assign (Go.Operand.tmp 44), type := 4, pos := "", after := #[], guard := none }] false) (Go.Code.cond (Go.Operand.tmp 43) (Go.Code.region 15 #[{ dst := some 45, op := Go.Op.move (Go.Operand.tmp 3), type := 9, pos := "", after := #[], guard := none }, { dst := some 46, op := Go.Op.binOp Go.BinOp.add 9 (Go.Operand.tmp 45) (Go.Operand.const (Go.Value.string { data := #[92, 102] })) 9, type := 9, pos := "", after := #[], guard := none }, { dst := some 3, op := Go.Op.assign (Go.Operand.tmp 46), type := 9, pos := "", after := #[], guard := none }] false) (Go.Code.seq (Go.Code.region 16 #[{ dst := some 48, op := Go.Op.binOp Go.BinOp.eql 5 (Go.Operand.tmp 15) (Go.Operand.const (Go.Value.int Go.IntKind.u8 10)) 5, type := 4, pos := "", after := #[], guard := none }, { dst := some 47, op := Go.Op.assign (Go.Operand.tmp 48), type := 4, pos := "", after := #[], guard := none }] false) (Go.Code.cond (Go.Operand.tmp 47) (Go.Code.region 17 #[{ dst := some 49, op := Go.Op.move (Go.Operand.tmp 3), type := 9, pos := "", after := #[], guard := none }, { dst := some 50, op := Go.Op.binOp Go.BinOp.add 9 (Go.Operand.tmp 49) (Go.Operand.const (Go.Value.string { data := #[92, 110] })) 9, type := 9, pos := "", after := #[], guard := none }, { dst := some 3, op := Go.Op.assign (Go.Operand.tmp 50), type := 9, pos := "", after := #[], guard := none }] false) (Go.Code.seq (Go.Code.region 18 #[{ dst := some 52, op := Go.Op.binOp Go.BinOp.eql 5 (Go.Operand.tmp 15) (Go.Operand.const (Go.Value.int Go.IntKind.u8 13)) 5, type := 4, pos := "", after := #[], guard := none }, { dst := some 51, op := Go.Op.assign (Go.Operand.tmp 52), type := 4, pos := "", after := #[], guard := none }] false) (Go.Code.cond (Go.Operand.tmp 51) (Go.Code.region 19 #[{ dst := some 53, op := Go.Op.move (Go.Operand.tmp 3), type := 9, pos := "", after := #[], guard := none }, { dst := some 54, op := Go.Op.binOp Go.BinOp.add 9 (Go.Operand.tmp 53) (Go.Operand.const (Go.Value.string { data := #[92, 114] })) 9, type := 9, pos := "", after := #[], guard := none }, { dst := some 3, op := Go.Op.assign (Go.Operand.tmp 54), type := 9, pos := "", after := #[], guard := none }] false) (Go.Code.seq (Go.Code.region 20 #[{ dst := some 56, op := Go.Op.binOp Go.BinOp.eql 5 (Go.Operand.tmp 15) (Go.Operand.const (Go.Value.int Go.IntKind.u8 9)) 5, type := 4, pos := "", after := #[], guard := none }, { dst := some 55, op := Go.Op.assign (Go.Operand.tmp 56), type := 4, pos := "", after := #[], guard := none }] false) (Go.Code.cond (Go.Operand.tmp 55) (Go.Code.region 21 #[{ dst := some 57, op := Go.Op.move (Go.Operand.tmp 3), type := 9, pos := "", after := #[], guard := none }, { dst := some 58, op := Go.Op.binOp Go.BinOp.add 9 (Go.Operand.tmp 57) (Go.Operand.const (Go.Value.string { data := #[92, 116] })) 9, type := 9, pos := "", after := #[], guard := none }, { dst := some 3, op := Go.Op.assign (Go.Operand.tmp 58), type := 9, pos := "", after := #[], guard := none }] false) (Go.Code.seq (Go.Code.seq (Go.Code.region 22 #[{ dst := some 60, op := Go.Op.binOp Go.BinOp.eql 5 (Go.Operand.tmp 15) (Go.Operand.const (Go.Value.int Go.IntKind.u8 34)) 5, type := 4, pos := "", after := #[], guard := none }, { dst := some 59, op := Go.Op.assign (Go.Operand.tmp 60), type := 4, pos := "", after := #[], guard := none }] false) (Go.Code.cond (Go.Operand.tmp 59) Go.Code.skip (Go.Code.region 23 #[{ dst := some 61, op := Go.Op.binOp Go.BinOp.eql 5 (Go.Operand.tmp 15) (Go.Operand.const (Go.Value.int Go.IntKind.u8 92)) 5, type := 4, pos := "", after := #[], guard := none }, { dst := some 59, op := Go.Op.assign (Go.Operand.tmp 61), type := 4, pos := "", after := #[], guard := none }] false))) (Go.Code.cond (Go.Operand.tmp 59) (Go.Code.region 24 #[{ dst := some 62, op := Go.Op.move (Go.Operand.tmp 3), type := 9, pos := "", after := #[], guard := none }, { dst := some 63, op := Go.Op.binOp Go.BinOp.add 9 (Go.Operand.tmp 62) (Go.Operand.const (Go.Value.string { data := #[92] })) 9, type := 9, pos := "", after := #[], guard := none }, { dst := some 64, op := Go.Op.move (Go.Operand.tmp 0), type := 9, pos := "", after := #[], guard := none }, { dst := some 65, op := Go.Op.move (Go.Operand.tmp 4), type := 3, pos := "", after := #[], guard := none }, { dst := some 66, op := Go.Op.move (Go.Operand.tmp 4), type := 3, pos := "", after := #[], guard := none }, { dst := some 67, op := Go.Op.binOp Go.BinOp.add 3 (Go.Operand.tmp 66) (Go.Operand.const (Go.Value.int Go.IntKind.i64 1)) 3, type := 3, pos := "", after := #[], guard := none }, { dst := some 68, op := Go.Op.slice 9 (Go.Operand.tmp 64) (some (Go.Operand.tmp 65)) (some (Go.Operand.tmp 67)) none, type := 9, pos := "", after := #[], guard := none }, { dst := some 69, op := Go.Op.binOp Go.BinOp.add 9 (Go.Operand.tmp 63) (Go.Operand.tmp 68) 9, type := 9, pos := "", after := #[], guard := none }, { dst := some 3, op := Go.Op.assign (Go.Operand.tmp 69), type := 9, pos := "", after := #[], guard := none }] false) (Go.Code.seq (Go.Code.region 7 #[{ dst := some 16, op := Go.Op.move (Go.Operand.tmp 5), type := 5, pos := "", after := #[], guard := none }, { dst := some 17, op := Go.Op.binOp Go.BinOp.lss 5 (Go.Operand.tmp 16) (Go.Operand.const (Go.Value.int Go.IntKind.u8 16)) 5, type := 4, pos := "", after := #[], guard := none }] false) (Go.Code.cond (Go.Operand.tmp 17) (Go.Code.region 8 #[{ dst := some 18, op := Go.Op.move (Go.Operand.tmp 3), type := 9, pos := "", after := #[], guard := none }, { dst := some 19, op := Go.Op.binOp Go.BinOp.add 9 (Go.Operand.tmp 18) (Go.Operand.const (Go.Value.string { data := #[92, 117, 48, 48, 48] })) 9, type := 9, pos := "", after := #[], guard := none }, { dst := some 20, op := Go.Op.move (Go.Operand.tmp 5), type := 5, pos := "", after := #[], guard := none }, { dst := some 21, op := Go.Op.convert 5 3 (Go.Operand.tmp 20), type := 3, pos := "", after := #[], guard := none }, { dst := some 22, op := Go.Op.call { callee := Go.Callee.value (Go.Operand.func 72), args := #[Go.Operand.tmp 21], argTypes := #[3] }, type := 9, pos := "", after := #[], guard := none }, { dst := some 23, op := Go.Op.binOp Go.BinOp.add 9 (Go.Operand.tmp 19) (Go.Operand.tmp 22) 9, type := 9, pos := "", after := #[], guard := none }, { dst := some 3, op := Go.Op.assign (Go.Operand.tmp 23), type := 9, pos := "", after := #[], guard := none }] false) (Go.Code.seq (Go.Code.region 9 #[{ dst := some 24, op := Go.Op.move (Go.Operand.tmp 5), type := 5, pos := "", after := #[], guard := none }, { dst := some 25, op := Go.Op.binOp Go.BinOp.lss 5 (Go.Operand.tmp 24) (Go.Operand.const (Go.Value.int Go.IntKind.u8 32)) 5, type := 4, pos := "", after := #[], guard := none }] false) (Go.Code.cond (Go.Operand.tmp 25) (Go.Code.region 10 #[{ dst := some 26, op := Go.Op.move (Go.Operand.tmp 3), type := 9, pos := "", after := #[], guard := none }, { dst := some 27, op := Go.Op.binOp Go.BinOp.add 9 (Go.Operand.tmp 26) (Go.Operand.const (Go.Value.string { data := #[92, 117, 48, 48] })) 9, type := 9, pos := "", after := #[], guard := none }, { dst := some 28, op := Go.Op.move (Go.Operand.tmp 5), type := 5, pos := "", after := #[], guard := none }, { dst := some 29, op := Go.Op.convert 5 3 (Go.Operand.tmp 28), type := 3, pos := "", after := #[], guard := none }, { dst := some 30, op := Go.Op.call { callee := Go.Callee.value (Go.Operand.func 72), args := #[Go.Operand.tmp 29], argTypes := #[3] }, type := 9, pos := "", after := #[], guard := none }, { dst := some 31, op := Go.Op.binOp Go.BinOp.add 9 (Go.Operand.tmp 27) (Go.Operand.tmp 30) 9, type := 9, pos := "", after := #[], guard := none }, { dst := some 3, op := Go.Op.assign (Go.Operand.tmp 31), type := 9, pos := "", after := #[], guard := none }] false) (Go.Code.region 11 #[{ dst := some 32, op := Go.Op.move (Go.Operand.tmp 3), type := 9, pos := "", after := #[], guard := none }, { dst := some 33, op := Go.Op.move (Go.Operand.tmp 0), type := 9, pos := "", after := #[], guard := none }, { dst := some 34, op := Go.Op.move (Go.Operand.tmp 4), type := 3, pos := "", after := #[], guard := none }, { dst := some 35, op := Go.Op.move (Go.Operand.tmp 4), type := 3, pos := "", after := #[], guard := none }, { dst := some 36, op := Go.Op.binOp Go.BinOp.add 3 (Go.Operand.tmp 35) (Go.Operand.const (Go.Value.int Go.IntKind.i64 1)) 3, type := 3, pos := "", after := #[], guard := none }, { dst := some 37, op := Go.Op.slice 9 (Go.Operand.tmp 33) (some (Go.Operand.tmp 34)) (some (Go.Operand.tmp 36)) none, type := 9, pos := "", after := #[], guard := none }, { dst := some 38, op := Go.Op.binOp Go.BinOp.add 9 (Go.Operand.tmp 32) (Go.Operand.tmp 37) 9, type := 9, pos := "", after := #[], guard := none }, { dst := some 3, op := Go.Op.assign (Go.Operand.tmp 38), type := 9, pos := "", after := #[], guard := none }] false))))))))))))))))))))) (Go.Code.region 4 #[{ dst := some 10, op := Go.Op.move (Go.Operand.tmp 4), type := 3, pos := "", after := #[], guard := none }, { dst := some 11, op := Go.Op.binOp Go.BinOp.add 3 (Go.Operand.tmp 10) (Go.Operand.const (Go.Value.int Go.IntKind.i64 1)) 3, type := 3, pos := "", after := #[], guard := none }, { dst := some 4, op := Go.Op.assign (Go.Operand.tmp 11), type := 3, pos := "", after := #[], guard := none }] false)))))) (Go.Code.seq (Go.Code.region 25 #[{ dst := some 70, op := Go.Op.move (Go.Operand.tmp 3), type := 9, pos := "", after := #[], guard := none }, { dst := some 71, op := Go.Op.binOp Go.BinOp.add 9 (Go.Operand.tmp 70) (Go.Operand.const (Go.Value.string { data := #[34] })) 9, type := 9, pos := "", after := #[], guard := none }, { dst := some 2, op := Go.Op.assign (Go.Operand.tmp 71), type := 9, pos := "", after := #[], guard := none }] false) Go.Code.ret)))
theorem s54 : Try.f54.body.map (slim cfg) = some g54 := by kernel_rfl

theorem idxX_ok (s : List UInt8) (c : Int) (prot : Nat) (H : Heap) : aLim cfg prot 104 [.str s, .int .u8 c] H = some (.int .i64 (idxByte s c.toNat.toUInt8), none) := by
  have h1 : Try.f104.body = none := by kernel_rfl
  have h2 : Try.f104.name = "internal/bytealg.IndexByteString" := by kernel_rfl
  have h3 : Try.f104.origin = "" := by kernel_rfl
  have h4 : aExt Try.f104 [.str s, .int .u8 c] = some (.int .i64 (idxByte s c.toNat.toUInt8)) := by
    unfold aExt
    rw [h2, h3, if_pos ⟨rfl, rfl⟩]
  have h5 : cfg.P.funcs[104]? = some Try.f104 := Try.func104
  have h6 : cfg.ok 104 = true := by kernel_rfl
  exact lim_ext h6 h5 h1 h4 prot H

theorem idxL_ok (s : List UInt8) (c : UInt8) (prot : Nat) (H : Heap) (hp : prot ≤ H.length) : aLim cfg prot 89 [.str s, .int .u8 c.toNat] H = some (.int .i64 (idxByte s c), none) := by
  have hsnap : snap H [.str s, .int .u8 c.toNat] = some ([.str s, .int .u8 c.toNat], false) := rfl
  have n1 := idxX_ok s (c.toNat : Int) H.length H
  have e : ((c.toNat : Int)).toNat.toUInt8 = c := by simp
  rw [e] at n1
  refine pure_slim rfl (by kernel_rfl) Try.func89 s89 hp hsnap (by simp [Try.f89]) fun fr hlen h => ?_
  simp only [Has, Nat.zero_add] at h
  obtain ⟨a0, a1, -⟩ := h
  simp only [Try.f89] at hlen ⊢
  unfold g89
  simp only [wk0, wk1, wk2, wk3, wk4, wk5, wk6, aWanted, aYield, Region.wanted, aOp, quiet, loud, aEvals, aParts, aOpt, aBuiltin, rd, win, AV.cells, AV.leaf, aNew, splice, fillA, Nat.reduceEqDiff, Nat.reduceLT, Nat.reduceAdd, Nat.reduceLeDiff, reduceCtorEq, Nat.reduceMul, cfgP, u89, hlen, a0, a1, n1]
  exact Fin_pure (l := [.int .i64 (idxByte s c)]) (by simp [wk0, wk1, wk2, wk3, wk4, wk5, wk6, aWanted, aYield, Region.wanted, aOp, quiet, loud, aEvals, aParts, aOpt, aBuiltin, rd, win, AV.cells, AV.leaf, aNew, splice, fillA, Nat.reduceEqDiff, Nat.reduceLT, Nat.reduceAdd, Nat.reduceLeDiff, reduceCtorEq, Nat.reduceMul, cfgP, u89, aResults, aResult, hlen]) (.still rfl) (by simp)

theorem idxS_ok (s : List UInt8) (c : UInt8) (prot : Nat) (H : Heap) (hp : prot ≤ H.length) : aLim cfg prot 70 [.str s, .int .u8 c.toNat] H = some (.int .i64 (idxByte s c), none) := by
  have hsnap : snap H [.str s, .int .u8 c.toNat] = some ([.str s, .int .u8 c.toNat], false) := rfl
  have n1 := idxL_ok s c H.length H (Nat.le_refl _)
  refine pure_slim rfl (by kernel_rfl) Try.func70 s70 hp hsnap (by simp [Try.f70]) fun fr hlen h => ?_
  simp only [Has, Nat.zero_add] at h
  obtain ⟨a0, a1, -⟩ := h
  simp only [Try.f70] at hlen ⊢
  unfold g70
  simp only [wk0, wk1, wk2, wk3, wk4, wk5, wk6, aWanted, aYield, Region.wanted, aOp, quiet, loud, aEvals, aParts, aOpt, aBuiltin, rd, win, AV.cells, AV.leaf, aNew, splice, fillA, Nat.reduceEqDiff, Nat.reduceLT, Nat.reduceAdd, Nat.reduceLeDiff, reduceCtorEq, Nat.reduceMul, cfgP, u70, hlen, a0, a1, n1]
  exact Fin_pure (l := [.int .i64 (idxByte s c)]) (by simp [wk0, wk1, wk2, wk3, wk4, wk5, wk6, aWanted, aYield, Region.wanted, aOp, quiet, loud, aEvals, aParts, aOpt, aBuiltin, rd, win, AV.cells, AV.leaf, aNew, splice, fillA, Nat.reduceEqDiff, Nat.reduceLT, Nat.reduceAdd, Nat.reduceLeDiff, reduceCtorEq, Nat.reduceMul, cfgP, u70, aResults, aResult, hlen]) (.still rfl) (by simp)

/-- what stands for a byte in quotes. -/
def qb (c : UInt8) : List UInt8 :=
  if c = 8 then [92, 98] else if c = 12 then [92, 102] else if c = 10 then [92, 110] else if c = 13 then [92, 114] else if c = 9 then [92, 116]
  else if c < 32 then [92, 117, 48, 48] ++ hexd (c.toNat / 16) ++ hexd (c.toNat % 16) else if c = 34 ∨ c = 92 then [92, c] else [c]
def quoteU (s : List UInt8) : List UInt8 := 34 :: s.flatMap qb ++ [34]
theorem qb_len (c : UInt8) : (qb c).length ≤ 6 := by
  have h1 := hexd_len (c.toNat / 16)
  have h2 := hexd_len (c.toNat % 16)
  unfold qb
  repeat' split
  all_goals simp
  omega
theorem qbs_len : ∀ s : List UInt8, (s.flatMap qb).length ≤ 6 * s.length
  | [] => by simp
  | c :: s => by
    have := qb_len c
    have := qbs_len s
    simp only [List.flatMap_cons, List.length_append, List.length_cons]; omega
theorem quote_len (s : List UInt8) : (quoteU s).length ≤ 6 * s.length + 2 := by
  have := qbs_len s
  simp only [quoteU, List.cons_append, List.length_cons, List.length_append, List.length_nil]; omega
theorem hexd_two : ∀ n, n < 16 → digB 16 n = hexd n := fun _ h => digB_lt h
theorem shr4 : ∀ n, n < 256 → Int.fdiv (n : Nat) (2 ^ min (4 : Int).toNat IntKind.u8.bits) = ((n / 16 : Nat) : Int) := by decide +kernel
theorem and15 : ∀ n, n < 256 → IntKind.u8.wrap (BitVec.ofInt IntKind.u8.bits (n : Nat) &&& BitVec.ofInt IntKind.u8.bits 15).toNat = ((n % 16 : Nat) : Int) := by decide +kernel
/-- the five bytes that have signs of their own. -/
theorem qb_sign (c : UInt8) : (∃ k d, idxByte [8, 12, 10, 13, 9] c = ((k : Nat) : Int) ∧ ([98, 102, 110, 114, 116] : List UInt8)[k]? = some d ∧ qb c = [92, d]) ∨
    (idxByte [8, 12, 10, 13, 9] c = -1 ∧ qb c = if c < 32 then [92, 117, 48, 48] ++ hexd (c.toNat / 16) ++ hexd (c.toNat % 16) else if c = 34 ∨ c = 92 then [92, c] else [c]) := by
  have key : ∀ n : Fin 256, ((n.val = 8 ∧ idxByte [8, 12, 10, 13, 9] n.val.toUInt8 = 0) ∨ (n.val = 12 ∧ idxByte [8, 12, 10, 13, 9] n.val.toUInt8 = 1) ∨ (n.val = 10 ∧ idxByte [8, 12, 10, 13, 9] n.val.toUInt8 = 2) ∨
    (n.val = 13 ∧ idxByte [8, 12, 10, 13, 9] n.val.toUInt8 = 3) ∨ (n.val = 9 ∧ idxByte [8, 12, 10, 13, 9] n.val.toUInt8 = 4)) ∨ (n.val ≠ 8 ∧ n.val ≠ 12 ∧ n.val ≠ 10 ∧ n.val ≠ 13 ∧ n.val ≠ 9 ∧ idxByte [8, 12, 10, 13, 9] n.val.toUInt8 = -1) := by decide +kernel
  have hc : c.toNat.toUInt8 = c := by simp
  have := key ⟨c.toNat, c.toNat_lt⟩
  simp only [hc] at this
  have eqn : ∀ n : Nat, n < 256 → (c = n.toUInt8 ↔ c.toNat = n) := fun n hn => by
    constructor
    · rintro rfl; simp; omega
    · intro h; rw [← hc, h]
  rcases this with (⟨h, h2⟩ | ⟨h, h2⟩ | ⟨h, h2⟩ | ⟨h, h2⟩ | ⟨h, h2⟩) | ⟨h8, h12, h10, h13, h9, h2⟩
  · obtain rfl := (eqn 8 (by omega)).2 h; exact .inl ⟨0, 98, h2, rfl, rfl⟩
  · obtain rfl := (eqn 12 (by omega)).2 h; exact .inl ⟨1, 102, h2, rfl, rfl⟩
  · obtain rfl := (eqn 10 (by omega)).2 h; exact .inl ⟨2, 110, h2, rfl, rfl⟩
  · obtain rfl := (eqn 13 (by omega)).2 h; exact .inl ⟨3, 114, h2, rfl, rfl⟩
  · obtain rfl := (eqn 9 (by omega)).2 h; exact .inl ⟨4, 116, h2, rfl, rfl⟩
  · refine .inr ⟨h2, ?_⟩
    unfold qb
    rw [if_neg (show ¬ c = 8 from fun e => h8 ((eqn 8 (by omega)).1 e)), if_neg (show ¬ c = 12 from fun e => h12 ((eqn 12 (by omega)).1 e)), if_neg (show ¬ c = 10 from fun e => h10 ((eqn 10 (by omega)).1 e)), if_neg (show ¬ c = 13 from fun e => h13 ((eqn 13 (by omega)).1 e)), if_neg (show ¬ c = 9 from fun e => h9 ((eqn 9 (by omega)).1 e))]
theorem ult (c : UInt8) (n : Nat) (hn : n < 256) : decide ((c.toNat : Int) < n) = decide (c < n.toUInt8) := by
  have : (c < n.toUInt8) ↔ ((c.toNat : Int) < n) := by
    rw [UInt8.lt_iff_toNat_lt]; simp [Nat.mod_eq_of_lt hn]
  simp [this]
theorem ueq (c : UInt8) (n : Nat) (hn : n < 256) : decide ((c.toNat : Int) = n) = decide (c = n.toUInt8) := by
  have : (c = n.toUInt8) ↔ ((c.toNat : Int) = n) := by
    rw [← UInt8.toNat_inj]; simp [Nat.mod_eq_of_lt hn]; omega
  simp [this]


theorem quote_ok (s : List UInt8) (hl : s.length < 1000000000) (prot : Nat) (H : Heap) (hp : prot ≤ H.length) :
    aLim cfg prot 51 [.str s] H = some (if validU s then .tup [.str (quoteU s), .int .i64 0] else .tup [.str [], .int .i64 3], none) := by
  have hsnap : snap H [.str s] = some ([.str s], false) := rfl
  have n0 := valid_ok s (by omega) H.length (H ++ [Blk.cells 165 [.nil, .nilS]]) (by simp)
  refine pure_slim rfl (by kernel_rfl) Try.func51 s51 hp hsnap (by simp [Try.f51]) fun fr hlen h => ?_
  simp only [Has, Nat.zero_add] at h
  obtain ⟨a0, -⟩ := h
  simp only [Try.f51] at hlen ⊢
  unfold g51
  cases hv : validU s with
  | false =>
    rw [hv] at n0
    simp only [wk0, wk1, wk2, wk3, wk4, wk5, wk6, aWanted, aYield, Region.wanted, aOp, quiet, loud, aEvals, aParts, aOpt, aBuiltin, rd, win, AV.cells, AV.leaf, aNew, splice, fillA, Nat.reduceEqDiff, Nat.reduceLT, Nat.reduceAdd, Nat.reduceLeDiff, reduceCtorEq, Nat.reduceMul, cfgP, u51, hlen, a0, n0]
    exact Fin_pure (l := [.str [], .int .i64 3]) (by simp [wk0, wk1, wk2, wk3, wk4, wk5, wk6, aWanted, aYield, Region.wanted, aOp, quiet, loud, aEvals, aParts, aOpt, aBuiltin, rd, win, AV.cells, AV.leaf, aNew, splice, fillA, Nat.reduceEqDiff, Nat.reduceLT, Nat.reduceAdd, Nat.reduceLeDiff, reduceCtorEq, Nat.reduceMul, cfgP, u51, hlen, aResults, aResult]) (.tup (.cons (.still rfl) (.cons (.still rfl) .nil))) (by simp)
  | true =>
    rw [hv] at n0
    have hb0 : Bld H.length (H ++ [Blk.cells 165 [.nil, .nilS]]) H.length [] := Bld.new (Nat.le_refl _)
    obtain ⟨H1, n1, hb1, kp1⟩ := writeByte_ok [] 34 H.length H.length _ (by simp) hb0 (by simp)
    have hle1 : H.length ≤ H1.length := Nat.le_trans (by simp) kp1.1
    have n1 : aLim cfg H.length 50 [.ptr H.length 165 0, .int .u8 34] (H ++ [Blk.cells 165 [.nil, .nilS]]) = some (.nilI, some H1) := n1
    simp only [if_true]
    simp only [wk0, wk1, wk2, wk3, wk4, wk5, wk6, aWanted, aYield, Region.wanted, aOp, quiet, loud, aEvals, aParts, aOpt, aBuiltin, rd, win, AV.cells, AV.leaf, aNew, splice, fillA, Nat.reduceEqDiff, Nat.reduceLT, Nat.reduceAdd, Nat.reduceLeDiff, reduceCtorEq, Nat.reduceMul, cfgP, u51, hlen, a0, n0, n1, str_len Try.underlying9]
    refine loop_rule (fun m fr H' => ∃ (i : Nat), m = s.length - i ∧ i ≤ s.length ∧ fr.length = 56 ∧ fget fr 0 = .str s ∧ fget fr 4 = .ptr H.length 165 0 ∧ fget fr 13 = .int .i64 s.length ∧ fget fr 14 = .int .i64 i ∧ H.length ≤ H'.length
      ∧ Bld H.length H' H.length (34 :: (s.take i).flatMap qb)) ?_ s.length _ _ ⟨0, by refine ⟨by omega, by omega, ?_⟩; simp [wk0, wk1, wk2, wk3, wk4, wk5, wk6, aWanted, aYield, Region.wanted, aOp, quiet, loud, aEvals, aParts, aOpt, aBuiltin, rd, win, AV.cells, AV.leaf, aNew, splice, fillA, Nat.reduceEqDiff, Nat.reduceLT, Nat.reduceAdd, Nat.reduceLeDiff, reduceCtorEq, Nat.reduceMul, cfgP, u51, hlen, a0, hle1]; exact hb1⟩
    rintro m fr H' ⟨i, rfl, hi, hlen, a0, a4, a13, a14, hH, hb⟩ ih
    simp only [wk0, wk1, wk2, wk3, wk4, wk5, wk6, aWanted, aYield, Region.wanted, aOp, quiet, loud, aEvals, aParts, aOpt, aBuiltin, rd, win, AV.cells, AV.leaf, aNew, splice, fillA, Nat.reduceEqDiff, Nat.reduceLT, Nat.reduceAdd, Nat.reduceLeDiff, reduceCtorEq, Nat.reduceMul, cfgP, u51, hlen, a0, a4, a13, a14]
    refine RC_split (fun h => ?_) (fun h => ?_)
    · have hlt : i < s.length := by simpa using h
      have hww : IntKind.i64.wrap ((i : Int) + 1) = ((i + 1 : Nat) : Int) := by rw [wrap64 (by omega) (by omega)]; simp
      have e1 := str_at (P := Try.prog) Try.underlying9 s (k := .i64) hlt
      have htk : (s.take (i + 1)).flatMap qb = (s.take i).flatMap qb ++ qb s[i] := by
        have : s.take (i + 1) = s.take i ++ [s[i]] := by simp
        rw [this, List.flatMap_append, List.flatMap_cons, List.flatMap_nil, List.append_nil]
      have hol : (34 :: (s.take i).flatMap qb).length ≤ 6 * i + 1 := by
        have := qbs_len (s.take i)
        simp only [List.length_take, Nat.min_eq_left hi] at this
        simp only [List.length_cons]; omega
      have htk2 : 34 :: (s.take (i + 1)).flatMap qb = (34 :: (s.take i).flatMap qb) ++ qb s[i] := by rw [htk]; rfl
      clear htk
      generalize s[i] = c at *
      generalize 34 :: (s.take i).flatMap qb = o at *
      have n2 := idxS_ok [8, 12, 10, 13, 9] c H.length H' hH
      obtain ⟨H2, m1, hb2, kp2⟩ := writeByte_ok o 92 H.length H.length H' hH hb (by omega)
      have m1 : aLim cfg H.length 50 [.ptr H.length 165 0, .int .u8 92] H' = some (.nilI, some H2) := m1
      have hH2 : H.length ≤ H2.length := Nat.le_trans hH kp2.1
      rcases qb_sign c with ⟨k, d, hk, hd, hq⟩ | ⟨hk, hq⟩
      · rw [hk] at n2
        have c0 : decide ((0 : Int) ≤ k) = true := decide_eq_true (by omega)
        have e2 : aIndex Try.prog 9 (.str [98, 102, 110, 114, 116]) (.int .i64 k) = some (.int .u8 d.toNat) := by
          simp [aIndex, asNat, Try.underlying9, hd]
        obtain ⟨H3, m2, hb3, kp3⟩ := writeByte_ok (o ++ [92]) d H.length H.length H2 hH2 hb2 (by simp; omega)
        simp only [wk0, wk1, wk2, wk3, wk4, wk5, wk6, aWanted, aYield, Region.wanted, aOp, quiet, loud, aEvals, aParts, aOpt, aBuiltin, rd, win, AV.cells, AV.leaf, aNew, splice, fillA, Nat.reduceEqDiff, Nat.reduceLT, Nat.reduceAdd, Nat.reduceLeDiff, reduceCtorEq, Nat.reduceMul, cfgP, u51, hlen, a0, a4, a13, a14, e1, n2, c0, m1, e2, m2, hww]
        refine ih _ _ (s.length - (i + 1)) (by omega) ⟨i + 1, rfl, hlt, ?_⟩
        rw [htk2, hq]
        rw [List.append_assoc] at hb3
        simp [wk0, wk1, wk2, wk3, wk4, wk5, wk6, aWanted, aYield, Region.wanted, aOp, quiet, loud, aEvals, aParts, aOpt, aBuiltin, rd, win, AV.cells, AV.leaf, aNew, splice, fillA, Nat.reduceEqDiff, Nat.reduceLT, Nat.reduceAdd, Nat.reduceLeDiff, reduceCtorEq, Nat.reduceMul, cfgP, u51, hlen, a0, a4, a13, a14]
        exact ⟨Nat.le_trans hH2 kp3.1, hb3⟩
      · rw [hk] at n2
        have c0 : decide ((0 : Int) ≤ -1) = false := rfl
        have d32 := ult c 32 (by omega)
        have d34 := ueq c 34 (by omega)
        have d92 := ueq c 92 (by omega)
        have d32 : decide ((c.toNat : Int) < 32) = decide (c < 32) := d32
        have d34 : decide ((c.toNat : Int) = 34) = decide (c = 34) := d34
        have d92 : decide ((c.toNat : Int) = 92) = decide (c = 92) := d92
        by_cases h32 : c < 32
        · rw [if_pos h32] at hq
          rw [decide_eq_true h32] at d32
          have hn : c.toNat < 32 := by have := UInt8.lt_iff_toNat_lt.1 h32; simpa using this
          have q1 : ∀ xo yo, aBin Try.prog .shr 5 xo yo (.int .u8 c.toNat) (.int .u64 4) = some (.int .u8 ((c.toNat / 16 : Nat))) := fun xo yo => by
            rw [bin_shr _ _ (by omega), shr4 _ c.toNat_lt]
          have q2 := and15 _ c.toNat_lt
          have w1 : IntKind.i64.wrap ((c.toNat / 16 : Nat) : Int) = ((c.toNat / 16 : Nat) : Int) := wrap64 (by omega) (by omega)
          have w2 : IntKind.i64.wrap ((c.toNat % 16 : Nat) : Int) = ((c.toNat % 16 : Nat) : Int) := wrap64 (by omega) (by omega)
          have p1 := putHex_ok (c.toNat / 16) (by omega) H.length H' hH
          have p2 := putHex_ok (c.toNat % 16) (by omega) H.length H' hH
          rw [digB_lt (by omega)] at p1 p2
          have l1 := hexd_len (c.toNat / 16)
          have l2 := hexd_len (c.toNat % 16)
          have t1 := str_add (s := [92, 117, 48, 48]) (u := hexd (c.toNat / 16)) (by simp; omega)
          have t2 := str_add (s := [92, 117, 48, 48] ++ hexd (c.toNat / 16)) (u := hexd (c.toNat % 16)) (by simp; omega)
          obtain ⟨H3, m2, hb3, kp3⟩ := writeString_ok o ([92, 117, 48, 48] ++ hexd (c.toNat / 16) ++ hexd (c.toNat % 16)) H.length H.length H' hH hb (by simp) (by simp; omega)
          clear m1
          simp only [List.cons_append, List.nil_append] at t1 t2 m2 hb3 hq
          simp only [wk0, wk1, wk2, wk3, wk4, wk5, wk6, aWanted, aYield, Region.wanted, aOp, quiet, loud, aEvals, aParts, aOpt, aBuiltin, rd, win, AV.cells, AV.leaf, aNew, splice, fillA, Nat.reduceEqDiff, Nat.reduceLT, Nat.reduceAdd, Nat.reduceLeDiff, reduceCtorEq, Nat.reduceMul, cfgP, u51, hlen, a0, a4, a13, a14, e1, n2, c0, d32, q1, q2, w1, w2, p1, p2, t1, t2, m2, hww]
          refine ih _ _ (s.length - (i + 1)) (by omega) ⟨i + 1, rfl, hlt, ?_⟩
          rw [htk2, hq]
          simp [wk0, wk1, wk2, wk3, wk4, wk5, wk6, aWanted, aYield, Region.wanted, aOp, quiet, loud, aEvals, aParts, aOpt, aBuiltin, rd, win, AV.cells, AV.leaf, aNew, splice, fillA, Nat.reduceEqDiff, Nat.reduceLT, Nat.reduceAdd, Nat.reduceLeDiff, reduceCtorEq, Nat.reduceMul, cfgP, u51, hlen, a0, a4, a13, a14]
          exact ⟨Nat.le_trans hH kp3.1, hb3⟩
        · rw [if_neg h32] at hq
          rw [decide_eq_false h32] at d32
          by_cases hs : c = 34 ∨ c = 92
          · rw [if_pos hs] at hq
            obtain ⟨H3, m2, hb3, kp3⟩ := writeByte_ok (o ++ [92]) c H.length H.length H2 hH2 hb2 (by simp; omega)
            rw [List.append_assoc] at hb3
            have fin : ∀ fr : List AV, fr.length = 56 → fget fr 0 = .str s → fget fr 4 = .ptr H.length 165 0 → fget fr 13 = .int .i64 s.length → fget fr 14 = .int .i64 ((i + 1 : Nat)) →
              ∃ j : Nat, s.length - (i + 1) = s.length - j ∧ j ≤ s.length ∧ fr.length = 56 ∧ fget fr 0 = .str s ∧ fget fr 4 = .ptr H.length 165 0 ∧ fget fr 13 = .int .i64 s.length ∧ fget fr 14 = .int .i64 j ∧ H.length ≤ H3.length
                ∧ Bld H.length H3 H.length (34 :: (s.take j).flatMap qb) := fun fr g1 g2 g3 g4 g5 => ⟨i + 1, rfl, hlt, g1, g2, g3, g4, g5, Nat.le_trans hH2 kp3.1, by rw [htk2, hq]; exact hb3⟩
            by_cases h34 : c = 34
            · rw [decide_eq_true h34] at d34
              simp only [wk0, wk1, wk2, wk3, wk4, wk5, wk6, aWanted, aYield, Region.wanted, aOp, quiet, loud, aEvals, aParts, aOpt, aBuiltin, rd, win, AV.cells, AV.leaf, aNew, splice, fillA, Nat.reduceEqDiff, Nat.reduceLT, Nat.reduceAdd, Nat.reduceLeDiff, reduceCtorEq, Nat.reduceMul, cfgP, u51, hlen, a0, a4, a13, a14, e1, n2, c0, d32, d34, m1, m2, hww, none_beq]
              exact ih _ _ (s.length - (i + 1)) (by omega) (fin _ (by simp [wk0, wk1, wk2, wk3, wk4, wk5, wk6, aWanted, aYield, Region.wanted, aOp, quiet, loud, aEvals, aParts, aOpt, aBuiltin, rd, win, AV.cells, AV.leaf, aNew, splice, fillA, Nat.reduceEqDiff, Nat.reduceLT, Nat.reduceAdd, Nat.reduceLeDiff, reduceCtorEq, Nat.reduceMul, cfgP, u51, hlen]) (by simp [wk0, wk1, wk2, wk3, wk4, wk5, wk6, aWanted, aYield, Region.wanted, aOp, quiet, loud, aEvals, aParts, aOpt, aBuiltin, rd, win, AV.cells, AV.leaf, aNew, splice, fillA, Nat.reduceEqDiff, Nat.reduceLT, Nat.reduceAdd, Nat.reduceLeDiff, reduceCtorEq, Nat.reduceMul, cfgP, u51, hlen, a0]) (by simp [wk0, wk1, wk2, wk3, wk4, wk5, wk6, aWanted, aYield, Region.wanted, aOp, quiet, loud, aEvals, aParts, aOpt, aBuiltin, rd, win, AV.cells, AV.leaf, aNew, splice, fillA, Nat.reduceEqDiff, Nat.reduceLT, Nat.reduceAdd, Nat.reduceLeDiff, reduceCtorEq, Nat.reduceMul, cfgP, u51, hlen, a4]) (by simp [wk0, wk1, wk2, wk3, wk4, wk5, wk6, aWanted, aYield, Region.wanted, aOp, quiet, loud, aEvals, aParts, aOpt, aBuiltin, rd, win, AV.cells, AV.leaf, aNew, splice, fillA, Nat.reduceEqDiff, Nat.reduceLT, Nat.reduceAdd, Nat.reduceLeDiff, reduceCtorEq, Nat.reduceMul, cfgP, u51, hlen, a13]) (by simp [wk0, wk1, wk2, wk3, wk4, wk5, wk6, aWanted, aYield, Region.wanted, aOp, quiet, loud, aEvals, aParts, aOpt, aBuiltin, rd, win, AV.cells, AV.leaf, aNew, splice, fillA, Nat.reduceEqDiff, Nat.reduceLT, Nat.reduceAdd, Nat.reduceLeDiff, reduceCtorEq, Nat.reduceMul, cfgP, u51, hlen]))
            · have h92 : c = 92 := hs.resolve_left h34
              rw [decide_eq_false h34] at d34
              rw [decide_eq_true h92] at d92
              simp only [wk0, wk1, wk2, wk3, wk4, wk5, wk6, aWanted, aYield, Region.wanted, aOp, quiet, loud, aEvals, aParts, aOpt, aBuiltin, rd, win, AV.cells, AV.leaf, aNew, splice, fillA, Nat.reduceEqDiff, Nat.reduceLT, Nat.reduceAdd, Nat.reduceLeDiff, reduceCtorEq, Nat.reduceMul, cfgP, u51, hlen, a0, a4, a13, a14, e1, n2, c0, d32, d34, d92, m1, m2, hww, none_beq]
              exact ih _ _ (s.length - (i + 1)) (by omega) (fin _ (by simp [wk0, wk1, wk2, wk3, wk4, wk5, wk6, aWanted, aYield, Region.wanted, aOp, quiet, loud, aEvals, aParts, aOpt, aBuiltin, rd, win, AV.cells, AV.leaf, aNew, splice, fillA, Nat.reduceEqDiff, Nat.reduceLT, Nat.reduceAdd, Nat.reduceLeDiff, reduceCtorEq, Nat.reduceMul, cfgP, u51, hlen]) (by simp [wk0, wk1, wk2, wk3, wk4, wk5, wk6, aWanted, aYield, Region.wanted, aOp, quiet, loud, aEvals, aParts, aOpt, aBuiltin, rd, win, AV.cells, AV.leaf, aNew, splice, fillA, Nat.reduceEqDiff, Nat.reduceLT, Nat.reduceAdd, Nat.reduceLeDiff, reduceCtorEq, Nat.reduceMul, cfgP, u51, hlen, a0]) (by simp [wk0, wk1, wk2, wk3, wk4, wk5, wk6, aWanted, aYield, Region.wanted, aOp, quiet, loud, aEvals, aParts, aOpt, aBuiltin, rd, win, AV.cells, AV.leaf, aNew, splice, fillA, Nat.reduceEqDiff, Nat.reduceLT, Nat.reduceAdd, Nat.reduceLeDiff, reduceCtorEq, Nat.reduceMul, cfgP, u51, hlen, a4]) (by simp [wk0, wk1, wk2, wk3, wk4, wk5, wk6, aWanted, aYield, Region.wanted, aOp, quiet, loud, aEvals, aParts, aOpt, aBuiltin, rd, win, AV.cells, AV.leaf, aNew, splice, fillA, Nat.reduceEqDiff, Nat.reduceLT, Nat.reduceAdd, Nat.reduceLeDiff, reduceCtorEq, Nat.reduceMul, cfgP, u51, hlen, a13]) (by simp [wk0, wk1, wk2, wk3, wk4, wk5, wk6, aWanted, aYield, Region.wanted, aOp, quiet, loud, aEvals, aParts, aOpt, aBuiltin, rd, win, AV.cells, AV.leaf, aNew, splice, fillA, Nat.reduceEqDiff, Nat.reduceLT, Nat.reduceAdd, Nat.reduceLeDiff, reduceCtorEq, Nat.reduceMul, cfgP, u51, hlen]))
          · rw [if_neg hs] at hq
            obtain ⟨H3, m2, hb3, kp3⟩ := writeByte_ok o c H.length H.length H' hH hb (by omega)
            rw [decide_eq_false (fun e => hs (.inl e))] at d34
            rw [decide_eq_false (fun e => hs (.inr e))] at d92
            simp only [wk0, wk1, wk2, wk3, wk4, wk5, wk6, aWanted, aYield, Region.wanted, aOp, quiet, loud, aEvals, aParts, aOpt, aBuiltin, rd, win, AV.cells, AV.leaf, aNew, splice, fillA, Nat.reduceEqDiff, Nat.reduceLT, Nat.reduceAdd, Nat.reduceLeDiff, reduceCtorEq, Nat.reduceMul, cfgP, u51, hlen, a0, a4, a13, a14, e1, n2, c0, d32, d34, d92, m2, hww, none_beq]
            refine ih _ _ (s.length - (i + 1)) (by omega) ⟨i + 1, rfl, hlt, ?_⟩
            rw [htk2, hq]
            simp [wk0, wk1, wk2, wk3, wk4, wk5, wk6, aWanted, aYield, Region.wanted, aOp, quiet, loud, aEvals, aParts, aOpt, aBuiltin, rd, win, AV.cells, AV.leaf, aNew, splice, fillA, Nat.reduceEqDiff, Nat.reduceLT, Nat.reduceAdd, Nat.reduceLeDiff, reduceCtorEq, Nat.reduceMul, cfgP, u51, hlen, a0, a4, a13, a14]
            exact ⟨Nat.le_trans hH kp3.1, hb3⟩
    · have hnl : ¬ i < s.length := by simpa using h
      rw [List.take_of_length_le (l := s) (by omega)] at hb
      have hol : (34 :: s.flatMap qb).length ≤ 6 * s.length + 1 := by
        have := qbs_len s
        simp only [List.length_cons]; omega
      obtain ⟨H2, m1, hb2, kp2⟩ := writeByte_ok _ 34 H.length H.length H' hH hb (by omega)
      have m1 : aLim cfg H.length 50 [.ptr H.length 165 0, .int .u8 34] H' = some (.nilI, some H2) := m1
      obtain ⟨H3, m2, kp3⟩ := bstring_ok _ H.length H.length H2 hb2 (by simp only [List.length_append, List.length_cons, List.length_nil] at hol ⊢; omega)
      simp only [wk0, wk1, wk2, wk3, wk4, wk5, wk6, aWanted, aYield, Region.wanted, aOp, quiet, loud, aEvals, aParts, aOpt, aBuiltin, rd, win, AV.cells, AV.leaf, aNew, splice, fillA, Nat.reduceEqDiff, Nat.reduceLT, Nat.reduceAdd, Nat.reduceLeDiff, reduceCtorEq, Nat.reduceMul, cfgP, u51, hlen, a0, a4, a13, a14, m1, m2]
      exact Fin_pure (l := [.str (quoteU s), .int .i64 0]) (by simp [wk0, wk1, wk2, wk3, wk4, wk5, wk6, aWanted, aYield, Region.wanted, aOp, quiet, loud, aEvals, aParts, aOpt, aBuiltin, rd, win, AV.cells, AV.leaf, aNew, splice, fillA, Nat.reduceEqDiff, Nat.reduceLT, Nat.reduceAdd, Nat.reduceLeDiff, reduceCtorEq, Nat.reduceMul, cfgP, u51, hlen, aResults, aResult, quoteU]) (.tup (.cons (.still rfl) (.cons (.still rfl) .nil))) (by simp)

theorem qb_ref (c : UInt8) : qb c = if c = 8 then [92, 98] else if c = 12 then [92, 102] else if c = 10 then [92, 110] else if c = 13 then [92, 114] else if c = 9 then [92, 116] else if c = 34 ∨ c = 92 then [92, c]
    else if c < 16 then [92, 117, 48, 48, 48] ++ digB 16 c.toNat else if c < 32 then [92, 117, 48, 48] ++ digB 16 c.toNat else [c] := by
  unfold qb
  repeat' (split; rfl)
  by_cases h32 : c < 32
  · have hn : c.toNat < 32 := by have := UInt8.lt_iff_toNat_lt.1 h32; simpa using this
    have n34 : ¬ (c = 34 ∨ c = 92) := by
      rintro (rfl | rfl) <;> revert hn <;> decide
    rw [if_pos h32, if_neg n34]
    by_cases h16 : c < 16
    · have hm : c.toNat < 16 := by have := UInt8.lt_iff_toNat_lt.1 h16; simpa using this
      rw [if_pos h16, digB_lt hm, Nat.div_eq_of_lt hm, Nat.mod_eq_of_lt hm]
      rfl
    · have hm : 16 ≤ c.toNat := by
        have : ¬ c.toNat < (16 : UInt8).toNat := fun e => h16 (UInt8.lt_iff_toNat_lt.2 e)
        simpa using this
      rw [if_neg h16, if_pos h32, digB_ge (by omega) (by omega), digB_lt (by omega), List.append_assoc]
  · have h16 : ¬ c < 16 := fun e => h32 (by
      have := UInt8.lt_iff_toNat_lt.1 e
      refine UInt8.lt_iff_toNat_lt.2 ?_
      simp at this ⊢; omega)
    rw [if_neg h32, if_neg h16, if_neg h32]

theorem rquote_ok (s : List UInt8) (hl : s.length < 1000000000) (prot : Nat) (H : Heap) (hp : prot ≤ H.length) : aLim cfg prot 54 [.str s] H = some (.str (quoteU s), none) := by
  have hsnap : snap H [.str s] = some ([.str s], false) := rfl
  refine pure_slim rfl (by kernel_rfl) Try.func54 s54 hp hsnap (by simp [Try.f54]) fun fr hlen h => ?_
  simp only [Has, Nat.zero_add] at h
  obtain ⟨a0, -⟩ := h
  simp only [Try.f54] at hlen ⊢
  unfold g54
  simp only [wk0, wk1, wk2, wk3, wk4, wk5, wk6, aWanted, aYield, Region.wanted, aOp, quiet, loud, aEvals, aParts, aOpt, aBuiltin, rd, win, AV.cells, AV.leaf, aNew, splice, fillA, Nat.reduceEqDiff, Nat.reduceLT, Nat.reduceAdd, Nat.reduceLeDiff, reduceCtorEq, Nat.reduceMul, cfgP, u54, hlen, a0]
  refine loop_rule (fun m fr H' => ∃ (i : Nat), m = s.length - i ∧ i ≤ s.length ∧ fr.length = 72 ∧ fget fr 0 = .str s ∧ fget fr 3 = .str (34 :: (s.take i).flatMap qb) ∧ fget fr 4 = .int .i64 i ∧ H' = H) ?_ s.length _ _ ⟨0, by simp [wk0, wk1, wk2, wk3, wk4, wk5, wk6, aWanted, aYield, Region.wanted, aOp, quiet, loud, aEvals, aParts, aOpt, aBuiltin, rd, win, AV.cells, AV.leaf, aNew, splice, fillA, Nat.reduceEqDiff, Nat.reduceLT, Nat.reduceAdd, Nat.reduceLeDiff, reduceCtorEq, Nat.reduceMul, cfgP, u54, hlen, a0]⟩
  rintro m fr H' ⟨i, rfl, hi, hlen, a0, a3, a4, hHe⟩ ih
  subst hHe
  simp only [wk0, wk1, wk2, wk3, wk4, wk5, wk6, aWanted, aYield, Region.wanted, aOp, quiet, loud, aEvals, aParts, aOpt, aBuiltin, rd, win, AV.cells, AV.leaf, aNew, splice, fillA, Nat.reduceEqDiff, Nat.reduceLT, Nat.reduceAdd, Nat.reduceLeDiff, reduceCtorEq, Nat.reduceMul, cfgP, u54, hlen, a0, a3, a4, str_len Try.underlying9]
  have hol : (34 :: (s.take i).flatMap qb).length ≤ 6 * i + 1 := by
    have := qbs_len (s.take i)
    simp only [List.length_take, Nat.min_eq_left hi] at this
    simp only [List.length_cons]; omega
  refine RC_split (fun h => ?_) (fun h => ?_)
  · have hlt : i < s.length := by simpa using h
    have hww : IntKind.i64.wrap ((i : Int) + 1) = ((i + 1 : Nat) : Int) := by rw [wrap64 (by omega) (by omega)]; simp
    have e1 := str_at (P := Try.prog) Try.underlying9 s (k := .i64) hlt
    have e2 := str_mid (P := Try.prog) Try.underlying9 s (k := .i64) (k' := .i64) (a := i) (b := i + 1) (by omega) (by omega)
    have e3 : (s.drop i).take (i + 1 - i) = [s[i]] := by
      rw [show i + 1 - i = 1 by omega, List.drop_eq_getElem_cons hlt]; rfl
    rw [e3] at e2
    have htk : 34 :: (s.take (i + 1)).flatMap qb = (34 :: (s.take i).flatMap qb) ++ qb s[i] := by
      have : s.take (i + 1) = s.take i ++ [s[i]] := by simp
      rw [this, List.flatMap_append, List.flatMap_cons, List.flatMap_nil, List.append_nil]; rfl
    generalize s[i] = c at *
    generalize 34 :: (s.take i).flatMap qb = o at *
    have d8 : decide ((c.toNat : Int) = 8) = decide (c = 8) := ueq c 8 (by omega)
    have d12 : decide ((c.toNat : Int) = 12) = decide (c = 12) := ueq c 12 (by omega)
    have d10 : decide ((c.toNat : Int) = 10) = decide (c = 10) := ueq c 10 (by omega)
    have d13 : decide ((c.toNat : Int) = 13) = decide (c = 13) := ueq c 13 (by omega)
    have d9 : decide ((c.toNat : Int) = 9) = decide (c = 9) := ueq c 9 (by omega)
    have d34 : decide ((c.toNat : Int) = 34) = decide (c = 34) := ueq c 34 (by omega)
    have d92 : decide ((c.toNat : Int) = 92) = decide (c = 92) := ueq c 92 (by omega)
    have d16 : decide ((c.toNat : Int) < 16) = decide (c < 16) := ult c 16 (by omega)
    have d32 : decide ((c.toNat : Int) < 32) = decide (c < 32) := ult c 32 (by omega)
    have sa : ∀ u : List UInt8, u.length ≤ 10 → aStr .add o u = some (.str (o ++ u)) := fun u hu => str_add (by omega)
    have w1 : IntKind.i64.wrap ((c.toNat : Nat) : Int) = ((c.toNat : Nat) : Int) := wrap64 (by have := c.toNat_lt; omega) (by have := c.toNat_lt; omega)
    have p1 := rputHex_ok c.toNat (by have := c.toNat_lt; omega) H'.length H' (Nat.le_refl _)
    have pl := digB_len 16 8 c.toNat c.toNat_lt
    have sb : ∀ u : List UInt8, u.length ≤ 10 → aStr .add (o ++ u) (digB 16 c.toNat) = some (.str (o ++ (u ++ digB 16 c.toNat))) := fun u hu => by rw [str_add (by simp; omega), List.append_assoc]
    have sc : aStr .add (o ++ [92]) [c] = some (.str (o ++ [92, c])) := by rw [str_add (by simp; omega), List.append_assoc]; rfl
    have hq := qb_ref c
    have fin : ∀ fr : List AV, fr.length = 72 → fget fr 0 = .str s → fget fr 3 = .str (o ++ qb c) → fget fr 4 = .int .i64 ((i + 1 : Nat)) →
      ∃ j : Nat, s.length - (i + 1) = s.length - j ∧ j ≤ s.length ∧ fr.length = 72 ∧ fget fr 0 = .str s ∧ fget fr 3 = .str (34 :: (s.take j).flatMap qb) ∧ fget fr 4 = .int .i64 j ∧ H' = H' := fun fr g1 g2 g3 g4 => ⟨i + 1, rfl, hlt, g1, g2, by rw [htk]; exact g3, g4, rfl⟩
    by_cases h8 : c = 8
    · rw [if_pos h8] at hq
      rw [decide_eq_true h8] at d8
      simp only [wk0, wk1, wk2, wk3, wk4, wk5, wk6, aWanted, aYield, Region.wanted, aOp, quiet, loud, aEvals, aParts, aOpt, aBuiltin, rd, win, AV.cells, AV.leaf, aNew, splice, fillA, Nat.reduceEqDiff, Nat.reduceLT, Nat.reduceAdd, Nat.reduceLeDiff, reduceCtorEq, Nat.reduceMul, cfgP, u54, hlen, a0, a3, a4, e1, d8, sa, hww]
      exact ih _ _ (s.length - (i + 1)) (by omega) (fin _ (by simp [wk0, wk1, wk2, wk3, wk4, wk5, wk6, aWanted, aYield, Region.wanted, aOp, quiet, loud, aEvals, aParts, aOpt, aBuiltin, rd, win, AV.cells, AV.leaf, aNew, splice, fillA, Nat.reduceEqDiff, Nat.reduceLT, Nat.reduceAdd, Nat.reduceLeDiff, reduceCtorEq, Nat.reduceMul, cfgP, u54, hlen]) (by simp [wk0, wk1, wk2, wk3, wk4, wk5, wk6, aWanted, aYield, Region.wanted, aOp, quiet, loud, aEvals, aParts, aOpt, aBuiltin, rd, win, AV.cells, AV.leaf, aNew, splice, fillA, Nat.reduceEqDiff, Nat.reduceLT, Nat.reduceAdd, Nat.reduceLeDiff, reduceCtorEq, Nat.reduceMul, cfgP, u54, hlen, a0]) (by simp [wk0, wk1, wk2, wk3, wk4, wk5, wk6, aWanted, aYield, Region.wanted, aOp, quiet, loud, aEvals, aParts, aOpt, aBuiltin, rd, win, AV.cells, AV.leaf, aNew, splice, fillA, Nat.reduceEqDiff, Nat.reduceLT, Nat.reduceAdd, Nat.reduceLeDiff, reduceCtorEq, Nat.reduceMul, cfgP, u54, hlen, hq]) (by simp [wk0, wk1, wk2, wk3, wk4, wk5, wk6, aWanted, aYield, Region.wanted, aOp, quiet, loud, aEvals, aParts, aOpt, aBuiltin, rd, win, AV.cells, AV.leaf, aNew, splice, fillA, Nat.reduceEqDiff, Nat.reduceLT, Nat.reduceAdd, Nat.reduceLeDiff, reduceCtorEq, Nat.reduceMul, cfgP, u54, hlen]))
    rw [if_neg h8] at hq
    rw [decide_eq_false h8] at d8
    by_cases h12 : c = 12
    · rw [if_pos h12] at hq
      rw [decide_eq_true h12] at d12
      simp only [wk0, wk1, wk2, wk3, wk4, wk5, wk6, aWanted, aYield, Region.wanted, aOp, quiet, loud, aEvals, aParts, aOpt, aBuiltin, rd, win, AV.cells, AV.leaf, aNew, splice, fillA, Nat.reduceEqDiff, Nat.reduceLT, Nat.reduceAdd, Nat.reduceLeDiff, reduceCtorEq, Nat.reduceMul, cfgP, u54, hlen, a0, a3, a4, e1, d8, d12, sa, hww]
      exact ih _ _ (s.length - (i + 1)) (by omega) (fin _ (by simp [wk0, wk1, wk2, wk3, wk4, wk5, wk6, aWanted, aYield, Region.wanted, aOp, quiet, loud, aEvals, aParts, aOpt, aBuiltin, rd, win, AV.cells, AV.leaf, aNew, splice, fillA, Nat.reduceEqDiff, Nat.reduceLT, Nat.reduceAdd, Nat.reduceLeDiff, reduceCtorEq, Nat.reduceMul, cfgP, u54, hlen]) (by simp [wk0, wk1, wk2, wk3, wk4, wk5, wk6, aWanted, aYield, Region.wanted, aOp, quiet, loud, aEvals, aParts, aOpt, aBuiltin, rd, win, AV.cells, AV.leaf, aNew, splice, fillA, Nat.reduceEqDiff, Nat.reduceLT, Nat.reduceAdd, Nat.reduceLeDiff, reduceCtorEq, Nat.reduceMul, cfgP, u54, hlen, a0]) (by simp [wk0, wk1, wk2, wk3, wk4, wk5, wk6, aWanted, aYield, Region.wanted, aOp, quiet, loud, aEvals, aParts, aOpt, aBuiltin, rd, win, AV.cells, AV.leaf, aNew, splice, fillA, Nat.reduceEqDiff, Nat.reduceLT, Nat.reduceAdd, Nat.reduceLeDiff, reduceCtorEq, Nat.reduceMul, cfgP, u54, hlen, hq]) (by simp [wk0, wk1, wk2, wk3, wk4, wk5, wk6, aWanted, aYield, Region.wanted, aOp, quiet, loud, aEvals, aParts, aOpt, aBuiltin, rd, win, AV.cells, AV.leaf, aNew, splice, fillA, Nat.reduceEqDiff, Nat.reduceLT, Nat.reduceAdd, Nat.reduceLeDiff, reduceCtorEq, Nat.reduceMul, cfgP, u54, hlen]))
    rw [if_neg h12] at hq
    rw [decide_eq_false h12] at d12
    by_cases h10 : c = 10
    · rw [if_pos h10] at hq
      rw [decide_eq_true h10] at d10
      simp only [wk0, wk1, wk2, wk3, wk4, wk5, wk6, aWanted, aYield, Region.wanted, aOp, quiet, loud, aEvals, aParts, aOpt, aBuiltin, rd, win, AV.cells, AV.leaf, aNew, splice, fillA, Nat.reduceEqDiff, Nat.reduceLT, Nat.reduceAdd, Nat.reduceLeDiff, reduceCtorEq, Nat.reduceMul, cfgP, u54, hlen, a0, a3, a4, e1, d8, d12, d10, sa, hww]
      exact ih _ _ (s.length - (i + 1)) (by omega) (fin _ (by simp [wk0, wk1, wk2, wk3, wk4, wk5, wk6, aWanted, aYield, Region.wanted, aOp, quiet, loud, aEvals, aParts, aOpt, aBuiltin, rd, win, AV.cells, AV.leaf, aNew, splice, fillA, Nat.reduceEqDiff, Nat.reduceLT, Nat.reduceAdd, Nat.reduceLeDiff, reduceCtorEq, Nat.reduceMul, cfgP, u54, hlen]) (by simp [wk0, wk1, wk2, wk3, wk4, wk5, wk6, aWanted, aYield, Region.wanted, aOp, quiet, loud, aEvals, aParts, aOpt, aBuiltin, rd, win, AV.cells, AV.leaf, aNew, splice, fillA, Nat.reduceEqDiff, Nat.reduceLT, Nat.reduceAdd, Nat.reduceLeDiff, reduceCtorEq, Nat.reduceMul, cfgP, u54, hlen, a0]) (by simp [wk0, wk1, wk2, wk3, wk4, wk5, wk6, aWanted, aYield, Region.wanted, aOp, quiet, loud, aEvals, aParts, aOpt, aBuiltin, rd, win, AV.cells, AV.leaf, aNew, splice, fillA, Nat.reduceEqDiff, Nat.reduceLT, Nat.reduceAdd, Nat.reduceLeDiff, reduceCtorEq, Nat.reduceMul, cfgP, u54, hlen, hq]) (by simp [wk0, wk1, wk2, wk3, wk4, wk5, wk6, aWanted, aYield, Region.wanted, aOp, quiet, loud, aEvals, aParts, aOpt, aBuiltin, rd, win, AV.cells, AV.leaf, aNew, splice, fillA, Nat.reduceEqDiff, Nat.reduceLT, Nat.reduceAdd, Nat.reduceLeDiff, reduceCtorEq, Nat.reduceMul, cfgP, u54, hlen]))
    rw [if_neg h10] at hq
    rw [decide_eq_false h10] at d10
    by_cases h13 : c = 13
    · rw [if_pos h13] at hq
      rw [decide_eq_true h13] at d13
      simp only [wk0, wk1, wk2, wk3, wk4, wk5, wk6, aWanted, aYield, Region.wanted, aOp, quiet, loud, aEvals, aParts, aOpt, aBuiltin, rd, win, AV.cells, AV.leaf, aNew, splice, fillA, Nat.reduceEqDiff, Nat.reduceLT, Nat.reduceAdd, Nat.reduceLeDiff, reduceCtorEq, Nat.reduceMul, cfgP, u54, hlen, a0, a3, a4, e1, d8, d12, d10, d13, sa, hww]
      exact ih _ _ (s.length - (i + 1)) (by omega) (fin _ (by simp [wk0, wk1, wk2, wk3, wk4, wk5, wk6, aWanted, aYield, Region.wanted, aOp, quiet, loud, aEvals, aParts, aOpt, aBuiltin, rd, win, AV.cells, AV.leaf, aNew, splice, fillA, Nat.reduceEqDiff, Nat.reduceLT, Nat.reduceAdd, Nat.reduceLeDiff, reduceCtorEq, Nat.reduceMul, cfgP, u54, hlen]) (by simp [wk0, wk1, wk2, wk3, wk4, wk5, wk6, aWanted, aYield, Region.wanted, aOp, quiet, loud, aEvals, aParts, aOpt, aBuiltin, rd, win, AV.cells, AV.leaf, aNew, splice, fillA, Nat.reduceEqDiff, Nat.reduceLT, Nat.reduceAdd, Nat.reduceLeDiff, reduceCtorEq, Nat.reduceMul, cfgP, u54, hlen, a0]) (by simp [wk0, wk1, wk2, wk3, wk4, wk5, wk6, aWanted, aYield, Region.wanted, aOp, quiet, loud, aEvals, aParts, aOpt, aBuiltin, rd, win, AV.cells, AV.leaf, aNew, splice, fillA, Nat.reduceEqDiff, Nat.reduceLT, Nat.reduceAdd, Nat.reduceLeDiff, reduceCtorEq, Nat.reduceMul, cfgP, u54, hlen, hq]) (by simp [wk0, wk1, wk2, wk3, wk4, wk5, wk6, aWanted, aYield, Region.wanted, aOp, quiet, loud, aEvals, aParts, aOpt, aBuiltin, rd, win, AV.cells, AV.leaf, aNew, splice, fillA, Nat.reduceEqDiff, Nat.reduceLT, Nat.reduceAdd, Nat.reduceLeDiff, reduceCtorEq, Nat.reduceMul, cfgP, u54, hlen]))
    rw [if_neg h13] at hq
    rw [decide_eq_false h13] at d13
    by_cases h9 : c = 9
    · rw [if_pos h9] at hq
      rw [decide_eq_true h9] at d9
      simp only [wk0, wk1, wk2, wk3, wk4, wk5, wk6, aWanted, aYield, Region.wanted, aOp, quiet, loud, aEvals, aParts, aOpt, aBuiltin, rd, win, AV.cells, AV.leaf, aNew, splice, fillA, Nat.reduceEqDiff, Nat.reduceLT, Nat.reduceAdd, Nat.reduceLeDiff, reduceCtorEq, Nat.reduceMul, cfgP, u54, hlen, a0, a3, a4, e1, d8, d12, d10, d13, d9, sa, hww]
      exact ih _ _ (s.length - (i + 1)) (by omega) (fin _ (by simp [wk0, wk1, wk2, wk3, wk4, wk5, wk6, aWanted, aYield, Region.wanted, aOp, quiet, loud, aEvals, aParts, aOpt, aBuiltin, rd, win, AV.cells, AV.leaf, aNew, splice, fillA, Nat.reduceEqDiff, Nat.reduceLT, Nat.reduceAdd, Nat.reduceLeDiff, reduceCtorEq, Nat.reduceMul, cfgP, u54, hlen]) (by simp [wk0, wk1, wk2, wk3, wk4, wk5, wk6, aWanted, aYield, Region.wanted, aOp, quiet, loud, aEvals, aParts, aOpt, aBuiltin, rd, win, AV.cells, AV.leaf, aNew, splice, fillA, Nat.reduceEqDiff, Nat.reduceLT, Nat.reduceAdd, Nat.reduceLeDiff, reduceCtorEq, Nat.reduceMul, cfgP, u54, hlen, a0]) (by simp [wk0, wk1, wk2, wk3, wk4, wk5, wk6, aWanted, aYield, Region.wanted, aOp, quiet, loud, aEvals, aParts, aOpt, aBuiltin, rd, win, AV.cells, AV.leaf, aNew, splice, fillA, Nat.reduceEqDiff, Nat.reduceLT, Nat.reduceAdd, Nat.reduceLeDiff, reduceCtorEq, Nat.reduceMul, cfgP, u54, hlen, hq]) (by simp [wk0, wk1, wk2, wk3, wk4, wk5, wk6, aWanted, aYield, Region.wanted, aOp, quiet, loud, aEvals, aParts, aOpt, aBuiltin, rd, win, AV.cells, AV.leaf, aNew, splice, fillA, Nat.reduceEqDiff, Nat.reduceLT, Nat.reduceAdd, Nat.reduceLeDiff, reduceCtorEq, Nat.reduceMul, cfgP, u54, hlen]))
    rw [if_neg h9] at hq
    rw [decide_eq_false h9] at d9
    by_cases h34 : c = 34
    · rw [if_pos (.inl h34)] at hq
      rw [decide_eq_true h34] at d34
      simp only [wk0, wk1, wk2, wk3, wk4, wk5, wk6, aWanted, aYield, Region.wanted, aOp, quiet, loud, aEvals, aParts, aOpt, aBuiltin, rd, win, AV.cells, AV.leaf, aNew, splice, fillA, Nat.reduceEqDiff, Nat.reduceLT, Nat.reduceAdd, Nat.reduceLeDiff, reduceCtorEq, Nat.reduceMul, cfgP, u54, hlen, a0, a3, a4, e1, e2, d8, d12, d10, d13, d9, d34, sa, sc, hww]
      exact ih _ _ (s.length - (i + 1)) (by omega) (fin _ (by simp [wk0, wk1, wk2, wk3, wk4, wk5, wk6, aWanted, aYield, Region.wanted, aOp, quiet, loud, aEvals, aParts, aOpt, aBuiltin, rd, win, AV.cells, AV.leaf, aNew, splice, fillA, Nat.reduceEqDiff, Nat.reduceLT, Nat.reduceAdd, Nat.reduceLeDiff, reduceCtorEq, Nat.reduceMul, cfgP, u54, hlen]) (by simp [wk0, wk1, wk2, wk3, wk4, wk5, wk6, aWanted, aYield, Region.wanted, aOp, quiet, loud, aEvals, aParts, aOpt, aBuiltin, rd, win, AV.cells, AV.leaf, aNew, splice, fillA, Nat.reduceEqDiff, Nat.reduceLT, Nat.reduceAdd, Nat.reduceLeDiff, reduceCtorEq, Nat.reduceMul, cfgP, u54, hlen, a0]) (by simp [wk0, wk1, wk2, wk3, wk4, wk5, wk6, aWanted, aYield, Region.wanted, aOp, quiet, loud, aEvals, aParts, aOpt, aBuiltin, rd, win, AV.cells, AV.leaf, aNew, splice, fillA, Nat.reduceEqDiff, Nat.reduceLT, Nat.reduceAdd, Nat.reduceLeDiff, reduceCtorEq, Nat.reduceMul, cfgP, u54, hlen, hq]) (by simp [wk0, wk1, wk2, wk3, wk4, wk5, wk6, aWanted, aYield, Region.wanted, aOp, quiet, loud, aEvals, aParts, aOpt, aBuiltin, rd, win, AV.cells, AV.leaf, aNew, splice, fillA, Nat.reduceEqDiff, Nat.reduceLT, Nat.reduceAdd, Nat.reduceLeDiff, reduceCtorEq, Nat.reduceMul, cfgP, u54, hlen]))
    rw [decide_eq_false h34] at d34
    by_cases h92 : c = 92
    · rw [if_pos (.inr h92)] at hq
      rw [decide_eq_true h92] at d92
      simp only [wk0, wk1, wk2, wk3, wk4, wk5, wk6, aWanted, aYield, Region.wanted, aOp, quiet, loud, aEvals, aParts, aOpt, aBuiltin, rd, win, AV.cells, AV.leaf, aNew, splice, fillA, Nat.reduceEqDiff, Nat.reduceLT, Nat.reduceAdd, Nat.reduceLeDiff, reduceCtorEq, Nat.reduceMul, cfgP, u54, hlen, a0, a3, a4, e1, e2, d8, d12, d10, d13, d9, d34, d92, sa, sc, hww]
      exact ih _ _ (s.length - (i + 1)) (by omega) (fin _ (by simp [wk0, wk1, wk2, wk3, wk4, wk5, wk6, aWanted, aYield, Region.wanted, aOp, quiet, loud, aEvals, aParts, aOpt, aBuiltin, rd, win, AV.cells, AV.leaf, aNew, splice, fillA, Nat.reduceEqDiff, Nat.reduceLT, Nat.reduceAdd, Nat.reduceLeDiff, reduceCtorEq, Nat.reduceMul, cfgP, u54, hlen]) (by simp [wk0, wk1, wk2, wk3, wk4, wk5, wk6, aWanted, aYield, Region.wanted, aOp, quiet, loud, aEvals, aParts, aOpt, aBuiltin, rd, win, AV.cells, AV.leaf, aNew, splice, fillA, Nat.reduceEqDiff, Nat.reduceLT, Nat.reduceAdd, Nat.reduceLeDiff, reduceCtorEq, Nat.reduceMul, cfgP, u54, hlen, a0]) (by simp [wk0, wk1, wk2, wk3, wk4, wk5, wk6, aWanted, aYield, Region.wanted, aOp, quiet, loud, aEvals, aParts, aOpt, aBuiltin, rd, win, AV.cells, AV.leaf, aNew, splice, fillA, Nat.reduceEqDiff, Nat.reduceLT, Nat.reduceAdd, Nat.reduceLeDiff, reduceCtorEq, Nat.reduceMul, cfgP, u54, hlen, hq]) (by simp [wk0, wk1, wk2, wk3, wk4, wk5, wk6, aWanted, aYield, Region.wanted, aOp, quiet, loud, aEvals, aParts, aOpt, aBuiltin, rd, win, AV.cells, AV.leaf, aNew, splice, fillA, Nat.reduceEqDiff, Nat.reduceLT, Nat.reduceAdd, Nat.reduceLeDiff, reduceCtorEq, Nat.reduceMul, cfgP, u54, hlen]))
    rw [decide_eq_false h92] at d92
    rw [if_neg (fun e => e.elim h34 h92)] at hq
    by_cases h16 : c < 16
    · rw [if_pos h16] at hq
      rw [decide_eq_true h16] at d16
      simp only [wk0, wk1, wk2, wk3, wk4, wk5, wk6, aWanted, aYield, Region.wanted, aOp, quiet, loud, aEvals, aParts, aOpt, aBuiltin, rd, win, AV.cells, AV.leaf, aNew, splice, fillA, Nat.reduceEqDiff, Nat.reduceLT, Nat.reduceAdd, Nat.reduceLeDiff, reduceCtorEq, Nat.reduceMul, cfgP, u54, hlen, a0, a3, a4, e1, e2, d8, d12, d10, d13, d9, d34, d92, d16, w1, p1, sa, sb, hww]
      exact ih _ _ (s.length - (i + 1)) (by omega) (fin _ (by simp [wk0, wk1, wk2, wk3, wk4, wk5, wk6, aWanted, aYield, Region.wanted, aOp, quiet, loud, aEvals, aParts, aOpt, aBuiltin, rd, win, AV.cells, AV.leaf, aNew, splice, fillA, Nat.reduceEqDiff, Nat.reduceLT, Nat.reduceAdd, Nat.reduceLeDiff, reduceCtorEq, Nat.reduceMul, cfgP, u54, hlen]) (by simp [wk0, wk1, wk2, wk3, wk4, wk5, wk6, aWanted, aYield, Region.wanted, aOp, quiet, loud, aEvals, aParts, aOpt, aBuiltin, rd, win, AV.cells, AV.leaf, aNew, splice, fillA, Nat.reduceEqDiff, Nat.reduceLT, Nat.reduceAdd, Nat.reduceLeDiff, reduceCtorEq, Nat.reduceMul, cfgP, u54, hlen, a0]) (by simp [wk0, wk1, wk2, wk3, wk4, wk5, wk6, aWanted, aYield, Region.wanted, aOp, quiet, loud, aEvals, aParts, aOpt, aBuiltin, rd, win, AV.cells, AV.leaf, aNew, splice, fillA, Nat.reduceEqDiff, Nat.reduceLT, Nat.reduceAdd, Nat.reduceLeDiff, reduceCtorEq, Nat.reduceMul, cfgP, u54, hlen, hq]) (by simp [wk0, wk1, wk2, wk3, wk4, wk5, wk6, aWanted, aYield, Region.wanted, aOp, quiet, loud, aEvals, aParts, aOpt, aBuiltin, rd, win, AV.cells, AV.leaf, aNew, splice, fillA, Nat.reduceEqDiff, Nat.reduceLT, Nat.reduceAdd, Nat.reduceLeDiff, reduceCtorEq, Nat.reduceMul, cfgP, u54, hlen]))
    rw [if_neg h16] at hq
    rw [decide_eq_false h16] at d16
    by_cases h32 : c < 32
    · rw [if_pos h32] at hq
      rw [decide_eq_true h32] at d32
      simp only [wk0, wk1, wk2, wk3, wk4, wk5, wk6, aWanted, aYield, Region.wanted, aOp, quiet, loud, aEvals, aParts, aOpt, aBuiltin, rd, win, AV.cells, AV.leaf, aNew, splice, fillA, Nat.reduceEqDiff, Nat.reduceLT, Nat.reduceAdd, Nat.reduceLeDiff, reduceCtorEq, Nat.reduceMul, cfgP, u54, hlen, a0, a3, a4, e1, e2, d8, d12, d10, d13, d9, d34, d92, d16, d32, w1, p1, sa, sb, hww]
      exact ih _ _ (s.length - (i + 1)) (by omega) (fin _ (by simp [wk0, wk1, wk2, wk3, wk4, wk5, wk6, aWanted, aYield, Region.wanted, aOp, quiet, loud, aEvals, aParts, aOpt, aBuiltin, rd, win, AV.cells, AV.leaf, aNew, splice, fillA, Nat.reduceEqDiff, Nat.reduceLT, Nat.reduceAdd, Nat.reduceLeDiff, reduceCtorEq, Nat.reduceMul, cfgP, u54, hlen]) (by simp [wk0, wk1, wk2, wk3, wk4, wk5, wk6, aWanted, aYield, Region.wanted, aOp, quiet, loud, aEvals, aParts, aOpt, aBuiltin, rd, win, AV.cells, AV.leaf, aNew, splice, fillA, Nat.reduceEqDiff, Nat.reduceLT, Nat.reduceAdd, Nat.reduceLeDiff, reduceCtorEq, Nat.reduceMul, cfgP, u54, hlen, a0]) (by simp [wk0, wk1, wk2, wk3, wk4, wk5, wk6, aWanted, aYield, Region.wanted, aOp, quiet, loud, aEvals, aParts, aOpt, aBuiltin, rd, win, AV.cells, AV.leaf, aNew, splice, fillA, Nat.reduceEqDiff, Nat.reduceLT, Nat.reduceAdd, Nat.reduceLeDiff, reduceCtorEq, Nat.reduceMul, cfgP, u54, hlen, hq]) (by simp [wk0, wk1, wk2, wk3, wk4, wk5, wk6, aWanted, aYield, Region.wanted, aOp, quiet, loud, aEvals, aParts, aOpt, aBuiltin, rd, win, AV.cells, AV.leaf, aNew, splice, fillA, Nat.reduceEqDiff, Nat.reduceLT, Nat.reduceAdd, Nat.reduceLeDiff, reduceCtorEq, Nat.reduceMul, cfgP, u54, hlen]))
    rw [if_neg h32] at hq
    rw [decide_eq_false h32] at d32
    simp only [wk0, wk1, wk2, wk3, wk4, wk5, wk6, aWanted, aYield, Region.wanted, aOp, quiet, loud, aEvals, aParts, aOpt, aBuiltin, rd, win, AV.cells, AV.leaf, aNew, splice, fillA, Nat.reduceEqDiff, Nat.reduceLT, Nat.reduceAdd, Nat.reduceLeDiff, reduceCtorEq, Nat.reduceMul, cfgP, u54, hlen, a0, a3, a4, e1, e2, d8, d12, d10, d13, d9, d34, d92, d16, d32, sa, hww]
    exact ih _ _ (s.length - (i + 1)) (by omega) (fin _ (by simp [wk0, wk1, wk2, wk3, wk4, wk5, wk6, aWanted, aYield, Region.wanted, aOp, quiet, loud, aEvals, aParts, aOpt, aBuiltin, rd, win, AV.cells, AV.leaf, aNew, splice, fillA, Nat.reduceEqDiff, Nat.reduceLT, Nat.reduceAdd, Nat.reduceLeDiff, reduceCtorEq, Nat.reduceMul, cfgP, u54, hlen]) (by simp [wk0, wk1, wk2, wk3, wk4, wk5, wk6, aWanted, aYield, Region.wanted, aOp, quiet, loud, aEvals, aParts, aOpt, aBuiltin, rd, win, AV.cells, AV.leaf, aNew, splice, fillA, Nat.reduceEqDiff, Nat.reduceLT, Nat.reduceAdd, Nat.reduceLeDiff, reduceCtorEq, Nat.reduceMul, cfgP, u54, hlen, a0]) (by simp [wk0, wk1, wk2, wk3, wk4, wk5, wk6, aWanted, aYield, Region.wanted, aOp, quiet, loud, aEvals, aParts, aOpt, aBuiltin, rd, win, AV.cells, AV.leaf, aNew, splice, fillA, Nat.reduceEqDiff, Nat.reduceLT, Nat.reduceAdd, Nat.reduceLeDiff, reduceCtorEq, Nat.reduceMul, cfgP, u54, hlen, hq]) (by simp [wk0, wk1, wk2, wk3, wk4, wk5, wk6, aWanted, aYield, Region.wanted, aOp, quiet, loud, aEvals, aParts, aOpt, aBuiltin, rd, win, AV.cells, AV.leaf, aNew, splice, fillA, Nat.reduceEqDiff, Nat.reduceLT, Nat.reduceAdd, Nat.reduceLeDiff, reduceCtorEq, Nat.reduceMul, cfgP, u54, hlen]))
  · have hnl : ¬ i < s.length := by simpa using h
    rw [List.take_of_length_le (l := s) (by omega)] at a3 hol
    have sa : aStr .add (34 :: s.flatMap qb) [34] = some (.str (quoteU s)) := by rw [str_add (by simp only [List.length_cons, List.length_nil] at hol ⊢; omega)]; rfl
    simp only [wk0, wk1, wk2, wk3, wk4, wk5, wk6, aWanted, aYield, Region.wanted, aOp, quiet, loud, aEvals, aParts, aOpt, aBuiltin, rd, win, AV.cells, AV.leaf, aNew, splice, fillA, Nat.reduceEqDiff, Nat.reduceLT, Nat.reduceAdd, Nat.reduceLeDiff, reduceCtorEq, Nat.reduceMul, cfgP, u54, hlen, a0, a3, a4, sa]
    exact Fin_pure (l := [.str (quoteU s)]) (by simp [wk0, wk1, wk2, wk3, wk4, wk5, wk6, aWanted, aYield, Region.wanted, aOp, quiet, loud, aEvals, aParts, aOpt, aBuiltin, rd, win, AV.cells, AV.leaf, aNew, splice, fillA, Nat.reduceEqDiff, Nat.reduceLT, Nat.reduceAdd, Nat.reduceLeDiff, reduceCtorEq, Nat.reduceMul, cfgP, u54, aResults, aResult, hlen]) (.still rfl) (by simp)
end Go.Proofs.Ytjhgmoaabflbfaa
