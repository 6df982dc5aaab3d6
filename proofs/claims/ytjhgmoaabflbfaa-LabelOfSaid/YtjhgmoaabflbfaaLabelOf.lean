import Derived.Test.YtjhgmoaabflbfaaRef02
import Derived.Test.YtjhgmoaabflbfaaLabel4
import Derived.Test.YtjhgmoaabflbfaaLord
import Derived.Test.YtjhgmoaabflbfaaLabelPick
/-! The law LabelOf, walked. -/
set_option linter.unusedSimpArgs false
namespace Go.Proofs.Ytjhgmoaabflbfaa
open Go Go.Abs AbsSeat Ty

theorem u74 : type_of% (And.intro (fun (K : Heap) (n : Int) => conv_int Try.underlying5 Try.underlying3 K n) (And.intro ag3 (And.intro sz3 (And.intro by3 (And.intro ze3 (And.intro Try.underlying3 (And.intro ag5 (And.intro sz5 (And.intro by5 (And.intro ze5 Try.underlying5)))))))))) :=
  And.intro (fun (K : Heap) (n : Int) => conv_int Try.underlying5 Try.underlying3 K n) (And.intro ag3 (And.intro sz3 (And.intro by3 (And.intro ze3 (And.intro Try.underlying3 (And.intro ag5 (And.intro sz5 (And.intro by5 (And.intro ze5 Try.underlying5)))))))))
def g74 : Code :=
  Go.Code.seq (Go.Code.region 0 #[{ dst := some 6, op := Go.Op.assign (Go.Operand.const (Go.Value.bool false)), type := 4, pos := "", after := #[], guard := none }] false) (Go.Code.seq (Go.Code.region 1 #[{ dst := some 7, op := Go.Op.move (Go.Operand.tmp 0), type := 5, pos := "", after := #[], guard := none }, { dst := some 8, op := Go.Op.convert 5 3 (Go.Operand.tmp 7), type := 3, pos := "", after := #[], guard := none }, { dst := some 9, op := Go.Op.move (Go.Operand.tmp 1), type := 3, pos := "", after := #[], guard := none }, { dst := some 10, op := Go.Op.binOp Go.BinOp.geq 3 (Go.Operand.tmp 8) (Go.Operand.tmp 9) 3, type := 4, pos := "", after := #[], guard := none }, { dst := some 11, op := Go.Op.move (Go.Operand.tmp 10), type := 4, pos := "", after := #[], guard := none }, { dst := some 12, op := Go.Op.move (Go.Operand.tmp 0), type := 5, pos := "", after := #[], guard := some (4, true) }, { dst := some 13, op := Go.Op.convert 5 3 (Go.Operand.tmp 12), type := 3, pos := "", after := #[], guard := some (4, true) }, { dst := some 14, op := Go.Op.move (Go.Operand.tmp 2), type := 3, pos := "", after := #[], guard := some (4, true) }, { dst := some 15, op := Go.Op.binOp Go.BinOp.leq 3 (Go.Operand.tmp 13) (Go.Operand.tmp 14) 3, type := 4, pos := "", after := #[], guard := some (4, true) }, { dst := some 16, op := Go.Op.pick (Go.Operand.tmp 11) (Go.Operand.tmp 15) (Go.Operand.const (Go.Value.bool false)), type := 4, pos := "", after := #[], guard := none }, { dst := some 6, op := Go.Op.assign (Go.Operand.tmp 16), type := 4, pos := "", after := #[], guard := none }] false) Go.Code.ret)
theorem s74 : Try.f74.body.map (slim cfg) = some g74 := by kernel_rfl
theorem u60 : type_of% (And.intro ag3 (And.intro sz3 (And.intro by3 (And.intro ze3 (And.intro Try.underlying3 (And.intro ag5 (And.intro sz5 (And.intro by5 (And.intro ze5 Try.underlying5))))))))) :=
  And.intro ag3 (And.intro sz3 (And.intro by3 (And.intro ze3 (And.intro Try.underlying3 (And.intro ag5 (And.intro sz5 (And.intro by5 (And.intro ze5 Try.underlying5))))))))
def g60 : Code :=
  Go.Code.seq (Go.Code.region 0 #[{ dst := some 2, op := Go.Op.assign (Go.Operand.const (Go.Value.bool false)), type := 4, pos := "", after := #[], guard := none }] false) (Go.Code.seq (Go.Code.region 1 #[{ dst := some 3, op := Go.Op.move (Go.Operand.tmp 0), type := 5, pos := "", after := #[], guard := none }, { dst := some 4, op := Go.Op.call { callee := Go.Callee.value (Go.Operand.func 74), args := #[Go.Operand.tmp 3, Go.Operand.const (Go.Value.int Go.IntKind.i64 65), Go.Operand.const (Go.Value.int Go.IntKind.i64 90)], argTypes := #[5, 3, 3] }, type := 4, pos := "", after := #[], guard := none }, { dst := some 5, op := Go.Op.move (Go.Operand.tmp 4), type := 4, pos := "", after := #[], guard := none }, { dst := some 6, op := Go.Op.move (Go.Operand.tmp 0), type := 5, pos := "", after := #[], guard := some (2, false) }, { dst := some 7, op := Go.Op.call { callee := Go.Callee.value (Go.Operand.func 74), args := #[Go.Operand.tmp 6, Go.Operand.const (Go.Value.int Go.IntKind.i64 97), Go.Operand.const (Go.Value.int Go.IntKind.i64 122)], argTypes := #[5, 3, 3] }, type := 4, pos := "", after := #[], guard := some (2, false) }, { dst := some 8, op := Go.Op.pick (Go.Operand.tmp 5) (Go.Operand.const (Go.Value.bool true)) (Go.Operand.tmp 7), type := 4, pos := "", after := #[], guard := none }, { dst := some 2, op := Go.Op.assign (Go.Operand.tmp 8), type := 4, pos := "", after := #[], guard := none }] false) Go.Code.ret)
theorem s60 : Try.f60.body.map (slim cfg) = some g60 := by kernel_rfl
theorem u61 : type_of% (And.intro ag3 (And.intro sz3 (And.intro by3 (And.intro ze3 (And.intro Try.underlying3 (And.intro ag5 (And.intro sz5 (And.intro by5 (And.intro ze5 Try.underlying5))))))))) :=
  And.intro ag3 (And.intro sz3 (And.intro by3 (And.intro ze3 (And.intro Try.underlying3 (And.intro ag5 (And.intro sz5 (And.intro by5 (And.intro ze5 Try.underlying5))))))))
def g61 : Code :=
  Go.Code.seq (Go.Code.region 0 #[{ dst := some 2, op := Go.Op.assign (Go.Operand.const (Go.Value.bool false)), type := 4, pos := "", after := #[], guard := none }] false) (Go.Code.seq (Go.Code.region 1 #[{ dst := some 3, op := Go.Op.move (Go.Operand.tmp 0), type := 5, pos := "", after := #[], guard := none }, { dst := some 4, op := Go.Op.call { callee := Go.Callee.value (Go.Operand.func 74), args := #[Go.Operand.tmp 3, Go.Operand.const (Go.Value.int Go.IntKind.i64 48), Go.Operand.const (Go.Value.int Go.IntKind.i64 57)], argTypes := #[5, 3, 3] }, type := 4, pos := "", after := #[], guard := none }, { dst := some 2, op := Go.Op.assign (Go.Operand.tmp 4), type := 4, pos := "", after := #[], guard := none }] false) Go.Code.ret)
theorem s61 : Try.f61.body.map (slim cfg) = some g61 := by kernel_rfl
theorem u30 : type_of% (And.intro ag3 (And.intro sz3 (And.intro by3 (And.intro ze3 (And.intro Try.underlying3 (And.intro ag5 (And.intro sz5 (And.intro by5 (And.intro ze5 (And.intro Try.underlying5 (And.intro ag9 (And.intro sz9 (And.intro by9 (And.intro ze9 Try.underlying9)))))))))))))) :=
  And.intro ag3 (And.intro sz3 (And.intro by3 (And.intro ze3 (And.intro Try.underlying3 (And.intro ag5 (And.intro sz5 (And.intro by5 (And.intro ze5 (And.intro Try.underlying5 (And.intro ag9 (And.intro sz9 (And.intro by9 (And.intro ze9 Try.underlying9)))))))))))))
def g30 : Code :=
  Go.Code.seq (Go.Code.region 0 #[{ dst := some 2, op := Go.Op.assign (Go.Operand.const (Go.Value.bool false)), type := 4, pos := "", after := #[], guard := none }] false) (Go.Code.seq (Go.Code.seq (Go.Code.region 1 #[{ dst := some 3, op := Go.Op.assign (Go.Operand.const (Go.Value.int Go.IntKind.i64 0)), type := 3, pos := "", after := #[], guard := none }] false) (Go.Code.block 0 (Go.Code.loop (Go.Code.seq (Go.Code.seq (Go.Code.region 2 #[{ dst := some 4, op := Go.Op.move (Go.Operand.tmp 3), type := 3, pos := "", after := #[], guard := none }, { dst := some 5, op := Go.Op.move (Go.Operand.tmp 0), type := 9, pos := "", after := #[], guard := none }, { dst := some 6, op := Go.Op.call { callee := Go.Callee.builtin Go.Builtin.len, args := #[Go.Operand.tmp 5], argTypes := #[9] }, type := 3, pos := "", after := #[], guard := none }, { dst := some 7, op := Go.Op.binOp Go.BinOp.lss 3 (Go.Operand.tmp 4) (Go.Operand.tmp 6) 3, type := 4, pos := "", after := #[], guard := none }] false) (Go.Code.cond (Go.Operand.tmp 7) Go.Code.skip (Go.Code.exit 0))) (Go.Code.seq (Go.Code.block 1 (Go.Code.seq (Go.Code.region 4 #[{ dst := some 10, op := Go.Op.move (Go.Operand.tmp 0), type := 9, pos := "", after := #[], guard := none }, { dst := some 11, op := Go.Op.move (Go.Operand.tmp 3), type := 3, pos := "", after := #[], guard := none }, { dst := some 12, op := Go.Op.index 9 (Go.Operand.tmp 10) (Go.Operand.tmp 11), type := 5, pos := "", after := #[], guard := none }, { dst := some 13, op := Go.Op.call { callee := Go.Callee.value (Go.Operand.func 60), args := #[Go.Operand.tmp 12], argTypes := #[5] }, type := 4, pos := "", after := #[], guard := none }, { dst := some 14, op := Go.Op.unOp Go.UnOp.not 4 (Go.Operand.tmp 13), type := 4, pos := "", after := #[], guard := none }, { dst := some 15, op := Go.Op.move (Go.Operand.tmp 14), type := 4, pos := "", after := #[], guard := none }, { dst := some 16, op := Go.Op.move (Go.Operand.tmp 0), type := 9, pos := "", after := #[], guard := some (5, true) }, { dst := some 17, op := Go.Op.move (Go.Operand.tmp 3), type := 3, pos := "", after := #[], guard := some (5, true) }, { dst := some 18, op := Go.Op.index 9 (Go.Operand.tmp 16) (Go.Operand.tmp 17), type := 5, pos := "", after := #[], guard := some (5, true) }, { dst := some 19, op := Go.Op.binOp Go.BinOp.neq 5 (Go.Operand.tmp 18) (Go.Operand.const (Go.Value.int Go.IntKind.u8 95)) 5, type := 4, pos := "", after := #[], guard := some (5, true) }, { dst := some 20, op := Go.Op.pick (Go.Operand.tmp 15) (Go.Operand.tmp 19) (Go.Operand.const (Go.Value.bool false)), type := 4, pos := "", after := #[], guard := none }, { dst := some 21, op := Go.Op.move (Go.Operand.tmp 20), type := 4, pos := "", after := #[], guard := none }, { dst := some 22, op := Go.Op.move (Go.Operand.tmp 3), type := 3, pos := "", after := #[], guard := some (11, true) }, { dst := some 23, op := Go.Op.binOp Go.BinOp.eql 3 (Go.Operand.tmp 22) (Go.Operand.const (Go.Value.int Go.IntKind.i64 0)) 3, type := 4, pos := "", after := #[], guard := some (11, true) }, { dst := some 24, op := Go.Op.move (Go.Operand.tmp 23), type := 4, pos := "", after := #[], guard := some (11, true) }, { dst := some 25, op := Go.Op.move (Go.Operand.tmp 0), type := 9, pos := "", after := #[], guard := some (14, false) }, { dst := some 26, op := Go.Op.move (Go.Operand.tmp 3), type := 3, pos := "", after := #[], guard := some (14, false) }, { dst := some 27, op := Go.Op.index 9 (Go.Operand.tmp 25) (Go.Operand.tmp 26), type := 5, pos := "", after := #[], guard := some (14, false) }, { dst := some 28, op := Go.Op.call { callee := Go.Callee.value (Go.Operand.func 61), args := #[Go.Operand.tmp 27], argTypes := #[5] }, type := 4, pos := "", after := #[], guard := some (14, false) }, { dst := some 29, op := Go.Op.unOp Go.UnOp.not 4 (Go.Operand.tmp 28), type := 4, pos := "", after := #[], guard := some (14, false) }, { dst := some 30, op := Go.Op.pick (Go.Operand.tmp 24) (Go.Operand.const (Go.Value.bool true)) (Go.Operand.tmp 29), type := 4, pos := "", after := #[], guard := some (11, true) }, { dst := some 31, op := Go.Op.pick (Go.Operand.tmp 21) (Go.Operand.tmp 30) (Go.Operand.const (Go.Value.bool false)), type := 4, pos := "", after := #[], guard := none }] false) (Go.Code.cond (Go.Operand.tmp 31) (Go.Code.seq (Go.Code.region 5 #[{ dst := some 2, op := Go.Op.assign (Go.Operand.const (Go.Value.bool false)), type := 4, pos := "", after := #[], guard := none }] false) Go.Code.ret) Go.Code.skip))) (Go.Code.region 3 #[{ dst := some 8, op := Go.Op.move (Go.Operand.tmp 3), type := 3, pos := "", after := #[], guard := none }, { dst := some 9, op := Go.Op.binOp Go.BinOp.add 3 (Go.Operand.tmp 8) (Go.Operand.const (Go.Value.int Go.IntKind.i64 1)) 3, type := 3, pos := "", after := #[], guard := none }, { dst := some 3, op := Go.Op.assign (Go.Operand.tmp 9), type := 3, pos := "", after := #[], guard := none }] false)))))) (Go.Code.seq (Go.Code.region 6 #[{ dst := some 32, op := Go.Op.move (Go.Operand.tmp 0), type := 9, pos := "", after := #[], guard := none }, { dst := some 33, op := Go.Op.binOp Go.BinOp.neq 9 (Go.Operand.tmp 32) (Go.Operand.const (Go.Value.string { data := #[] })) 9, type := 4, pos := "", after := #[], guard := none }, { dst := some 2, op := Go.Op.assign (Go.Operand.tmp 33), type := 4, pos := "", after := #[], guard := none }] false) Go.Code.ret))
theorem s30 : Try.f30.body.map (slim cfg) = some g30 := by kernel_rfl
theorem u48 : type_of% (And.intro ag3 (And.intro sz3 (And.intro by3 (And.intro ze3 (And.intro Try.underlying3 (And.intro ag9 (And.intro sz9 (And.intro by9 (And.intro ze9 Try.underlying9))))))))) :=
  And.intro ag3 (And.intro sz3 (And.intro by3 (And.intro ze3 (And.intro Try.underlying3 (And.intro ag9 (And.intro sz9 (And.intro by9 (And.intro ze9 Try.underlying9))))))))
def g48 : Code :=
  Go.Code.seq (Go.Code.region 0 #[{ dst := some 2, op := Go.Op.assign (Go.Operand.const (Go.Value.bool false)), type := 4, pos := "", after := #[], guard := none }] false) (Go.Code.seq (Go.Code.region 1 #[{ dst := some 6, op := Go.Op.move (Go.Operand.tmp 0), type := 9, pos := "", after := #[], guard := none }, { dst := some 7, op := Go.Op.call { callee := Go.Callee.value (Go.Operand.func 68), args := #[Go.Operand.tmp 6], argTypes := #[9] }, type := 95, pos := "", after := #[], guard := none }, { dst := some 5, op := Go.Op.move (Go.Operand.tmp 7), type := 95, pos := "", after := #[], guard := none }, { dst := some 8, op := Go.Op.extract (Go.Operand.tmp 5) 0, type := 3, pos := "", after := #[], guard := none }, { dst := some 9, op := Go.Op.extract (Go.Operand.tmp 5) 1, type := 3, pos := "", after := #[], guard := none }, { dst := some 3, op := Go.Op.assign (Go.Operand.tmp 8), type := 3, pos := "", after := #[], guard := none }, { dst := some 4, op := Go.Op.assign (Go.Operand.tmp 9), type := 3, pos := "", after := #[], guard := none }] false) (Go.Code.seq (Go.Code.region 2 #[{ dst := some 10, op := Go.Op.move (Go.Operand.tmp 0), type := 9, pos := "", after := #[], guard := none }, { dst := some 11, op := Go.Op.binOp Go.BinOp.neq 9 (Go.Operand.tmp 10) (Go.Operand.const (Go.Value.string { data := #[] })) 9, type := 4, pos := "", after := #[], guard := none }, { dst := some 12, op := Go.Op.move (Go.Operand.tmp 11), type := 4, pos := "", after := #[], guard := none }, { dst := some 13, op := Go.Op.move (Go.Operand.tmp 4), type := 3, pos := "", after := #[], guard := some (2, true) }, { dst := some 14, op := Go.Op.move (Go.Operand.tmp 0), type := 9, pos := "", after := #[], guard := some (2, true) }, { dst := some 15, op := Go.Op.call { callee := Go.Callee.builtin Go.Builtin.len, args := #[Go.Operand.tmp 14], argTypes := #[9] }, type := 3, pos := "", after := #[], guard := some (2, true) }, { dst := some 16, op := Go.Op.binOp Go.BinOp.eql 3 (Go.Operand.tmp 13) (Go.Operand.tmp 15) 3, type := 4, pos := "", after := #[], guard := some (2, true) }, { dst := some 17, op := Go.Op.pick (Go.Operand.tmp 12) (Go.Operand.tmp 16) (Go.Operand.const (Go.Value.bool false)), type := 4, pos := "", after := #[], guard := none }, { dst := some 2, op := Go.Op.assign (Go.Operand.tmp 17), type := 4, pos := "", after := #[], guard := none }] false) Go.Code.ret))
theorem s48 : Try.f48.body.map (slim cfg) = some g48 := by kernel_rfl
theorem u19 : type_of% (And.intro (show tagT Try.prog 68 = 0 from by kernel_rfl) (And.intro ag0 (And.intro sz0 (And.intro by0 (And.intro Try.underlying0 (And.intro ag1 (And.intro sz1 (And.intro by1 (And.intro ze1 (And.intro Try.underlying1 (And.intro ag3 (And.intro sz3 (And.intro by3 (And.intro ze3 (And.intro Try.underlying3 (And.intro ag9 (And.intro sz9 (And.intro by9 (And.intro ze9 (And.intro Try.underlying9 (And.intro ag22 (And.intro sz22 (And.intro by22 (And.intro se22 (And.intro ze22 (And.intro Try.underlying22 (And.intro ag68 (And.intro sz68 (And.intro by68 (And.intro ze68 (And.intro bu68 (And.intro Try.underlying68 (And.intro fa68_0 (And.intro fd68_0 (And.intro fa68_1 fd68_1))))))))))))))))))))))))))))))))))) :=
  And.intro (show tagT Try.prog 68 = 0 from by kernel_rfl) (And.intro ag0 (And.intro sz0 (And.intro by0 (And.intro Try.underlying0 (And.intro ag1 (And.intro sz1 (And.intro by1 (And.intro ze1 (And.intro Try.underlying1 (And.intro ag3 (And.intro sz3 (And.intro by3 (And.intro ze3 (And.intro Try.underlying3 (And.intro ag9 (And.intro sz9 (And.intro by9 (And.intro ze9 (And.intro Try.underlying9 (And.intro ag22 (And.intro sz22 (And.intro by22 (And.intro se22 (And.intro ze22 (And.intro Try.underlying22 (And.intro ag68 (And.intro sz68 (And.intro by68 (And.intro ze68 (And.intro bu68 (And.intro Try.underlying68 (And.intro fa68_0 (And.intro fd68_0 (And.intro fa68_1 fd68_1))))))))))))))))))))))))))))))))))
def g19 : Code :=
  Go.Code.seq (Go.Code.region 0 #[{ dst := some 2, op := Go.Op.assign (Go.Operand.const (Go.Value.slice none 0 0)), type := 22, pos := "", after := #[], guard := none }, { dst := some 3, op := Go.Op.assign (Go.Operand.const (Go.Value.int Go.IntKind.i64 0)), type := 38, pos := "", after := #[], guard := none }] false) (Go.Code.seq (Go.Code.region 1 #[{ dst := some 4, op := Go.Op.assign (Go.Operand.const (Go.Value.slice none 0 0)), type := 22, pos := "", after := #[], guard := none }] false) (Go.Code.seq (Go.Code.region 2 #[{ dst := some 5, op := Go.Op.assign (Go.Operand.const (Go.Value.bool false)), type := 4, pos := "", after := #[], guard := none }] false) (Go.Code.seq (Go.Code.seq (Go.Code.region 3 #[{ dst := some 10, op := Go.Op.move (Go.Operand.tmp 0), type := 22, pos := "", after := #[], guard := none }, { dst := some 11, op := Go.Op.call { callee := Go.Callee.builtin Go.Builtin.len, args := #[Go.Operand.tmp 10], argTypes := #[22] }, type := 3, pos := "", after := #[], guard := none }, { dst := some 12, op := Go.Op.move (Go.Operand.const (Go.Value.int Go.IntKind.i64 0)), type := 3, pos := "", after := #[], guard := none }] false) (Go.Code.block 0 (Go.Code.loop (Go.Code.seq (Go.Code.region 4 #[{ dst := some 13, op := Go.Op.binOp Go.BinOp.lss 3 (Go.Operand.tmp 12) (Go.Operand.tmp 11) 3, type := 0, pos := "", after := #[], guard := none }] false) (Go.Code.seq (Go.Code.cond (Go.Operand.tmp 13) Go.Code.skip (Go.Code.exit 0)) (Go.Code.seq (Go.Code.block 1 (Go.Code.seq (Go.Code.region 5 #[{ dst := some 14, op := Go.Op.indexAddr 22 (Go.Operand.tmp 10) (Go.Operand.tmp 12), type := 0, pos := "", after := #[], guard := none }, { dst := some 15, op := Go.Op.load 68 (Go.Operand.tmp 14), type := 68, pos := "", after := #[], guard := none }, { dst := some 7, op := Go.Op.alloc 68, type := 0, pos := "", after := #[], guard := none }, { dst := none, op := Go.Op.store 68 (Go.Operand.tmp 7) (Go.Operand.tmp 15), type := 0, pos := "", after := #[], guard := none }] false) (Go.Code.seq (Go.Code.seq (Go.Code.region 6 #[{ dst := some 16, op := Go.Op.fieldAddr 68 (Go.Operand.tmp 7) 0, type := 0, pos := "", after := #[], guard := none }, { dst := some 17, op := Go.Op.load 9 (Go.Operand.tmp 16), type := 9, pos := "", after := #[], guard := none }, { dst := some 18, op := Go.Op.call { callee := Go.Callee.value (Go.Operand.func 30), args := #[Go.Operand.tmp 17], argTypes := #[9] }, type := 4, pos := "", after := #[], guard := none }, { dst := some 19, op := Go.Op.unOp Go.UnOp.not 4 (Go.Operand.tmp 18), type := 4, pos := "", after := #[], guard := none }, { dst := some 20, op := Go.Op.move (Go.Operand.tmp 19), type := 4, pos := "", after := #[], guard := none }, { dst := some 21, op := Go.Op.fieldAddr 68 (Go.Operand.tmp 7) 1, type := 0, pos := "", after := #[], guard := some (4, false) }, { dst := some 22, op := Go.Op.load 9 (Go.Operand.tmp 21), type := 9, pos := "", after := #[], guard := some (4, false) }, { dst := some 23, op := Go.Op.call { callee := Go.Callee.value (Go.Operand.func 48), args := #[Go.Operand.tmp 22], argTypes := #[9] }, type := 4, pos := "", after := #[], guard := some (4, false) }, { dst := some 24, op := Go.Op.unOp Go.UnOp.not 4 (Go.Operand.tmp 23), type := 4, pos := "", after := #[], guard := some (4, false) }, { dst := some 25, op := Go.Op.pick (Go.Operand.tmp 20) (Go.Operand.const (Go.Value.bool true)) (Go.Operand.tmp 24), type := 4, pos := "", after := #[], guard := none }] false) (Go.Code.cond (Go.Operand.tmp 25) (Go.Code.seq (Go.Code.region 7 #[{ dst := some 2, op := Go.Op.assign (Go.Operand.const (Go.Value.slice none 0 0)), type := 22, pos := "", after := #[], guard := none }, { dst := some 3, op := Go.Op.assign (Go.Operand.const (Go.Value.int Go.IntKind.i64 3)), type := 38, pos := "", after := #[], guard := none }] false) Go.Code.ret) Go.Code.skip)) (Go.Code.seq (Go.Code.region 8 #[{ dst := some 26, op := Go.Op.move (Go.Operand.tmp 4), type := 22, pos := "", after := #[], guard := none }, { dst := some 27, op := Go.Op.call { callee := Go.Callee.builtin Go.Builtin.len, args := #[Go.Operand.tmp 26], argTypes := #[22] }, type := 3, pos := "", after := #[], guard := none }, { dst := some 8, op := Go.Op.assign (Go.Operand.tmp 27), type := 3, pos := "", after := #[], guard := none }] false) (Go.Code.seq (Go.Code.block 2 (Go.Code.loop (Go.Code.seq (Go.Code.seq (Go.Code.region 9 #[{ dst := some 28, op := Go.Op.move (Go.Operand.tmp 8), type := 3, pos := "", after := #[], guard := none }, { dst := some 29, op := Go.Op.binOp Go.BinOp.gtr 3 (Go.Operand.tmp 28) (Go.Operand.const (Go.Value.int Go.IntKind.i64 0)) 3, type := 4, pos := "", after := #[], guard := none }, { dst := some 30, op := Go.Op.move (Go.Operand.tmp 29), type := 4, pos := "", after := #[], guard := none }, { dst := some 31, op := Go.Op.fieldAddr 68 (Go.Operand.tmp 7) 0, type := 0, pos := "", after := #[], guard := some (2, true) }, { dst := some 32, op := Go.Op.load 9 (Go.Operand.tmp 31), type := 9, pos := "", after := #[], guard := some (2, true) }, { dst := some 33, op := Go.Op.move (Go.Operand.tmp 4), type := 22, pos := "", after := #[], guard := some (2, true) }, { dst := some 34, op := Go.Op.move (Go.Operand.tmp 8), type := 3, pos := "", after := #[], guard := some (2, true) }, { dst := some 35, op := Go.Op.binOp Go.BinOp.sub 3 (Go.Operand.tmp 34) (Go.Operand.const (Go.Value.int Go.IntKind.i64 1)) 3, type := 3, pos := "", after := #[], guard := some (2, true) }, { dst := some 36, op := Go.Op.indexAddr 22 (Go.Operand.tmp 33) (Go.Operand.tmp 35), type := 0, pos := "", after := #[], guard := some (2, true) }, { dst := some 37, op := Go.Op.fieldAddr 68 (Go.Operand.tmp 36) 0, type := 0, pos := "", after := #[], guard := some (2, true) }, { dst := some 38, op := Go.Op.load 9 (Go.Operand.tmp 37), type := 9, pos := "", after := #[], guard := some (2, true) }, { dst := some 39, op := Go.Op.binOp Go.BinOp.leq 9 (Go.Operand.tmp 32) (Go.Operand.tmp 38) 9, type := 4, pos := "", after := #[], guard := some (2, true) }, { dst := some 40, op := Go.Op.pick (Go.Operand.tmp 30) (Go.Operand.tmp 39) (Go.Operand.const (Go.Value.bool false)), type := 4, pos := "", after := #[], guard := none }] false) (Go.Code.cond (Go.Operand.tmp 40) Go.Code.skip (Go.Code.exit 2))) (Go.Code.block 3 (Go.Code.seq (Go.Code.region 10 #[{ dst := some 41, op := Go.Op.move (Go.Operand.tmp 5), type := 4, pos := "", after := #[], guard := none }, { dst := some 42, op := Go.Op.move (Go.Operand.tmp 41), type := 4, pos := "", after := #[], guard := none }, { dst := some 43, op := Go.Op.fieldAddr 68 (Go.Operand.tmp 7) 0, type := 0, pos := "", after := #[], guard := some (1, false) }, { dst := some 44, op := Go.Op.load 9 (Go.Operand.tmp 43), type := 9, pos := "", after := #[], guard := some (1, false) }, { dst := some 45, op := Go.Op.move (Go.Operand.tmp 4), type := 22, pos := "", after := #[], guard := some (1, false) }, { dst := some 46, op := Go.Op.move (Go.Operand.tmp 8), type := 3, pos := "", after := #[], guard := some (1, false) }, { dst := some 47, op := Go.Op.binOp Go.BinOp.sub 3 (Go.Operand.tmp 46) (Go.Operand.const (Go.Value.int Go.IntKind.i64 1)) 3, type := 3, pos := "", after := #[], guard := some (1, false) }, { dst := some 48, op := Go.Op.indexAddr 22 (Go.Operand.tmp 45) (Go.Operand.tmp 47), type := 0, pos := "", after := #[], guard := some (1, false) }, { dst := some 49, op := Go.Op.fieldAddr 68 (Go.Operand.tmp 48) 0, type := 0, pos := "", after := #[], guard := some (1, false) }, { dst := some 50, op := Go.Op.load 9 (Go.Operand.tmp 49), type := 9, pos := "", after := #[], guard := some (1, false) }, { dst := some 51, op := Go.Op.binOp Go.BinOp.eql 9 (Go.Operand.tmp 44) (Go.Operand.tmp 50) 9, type := 4, pos := "", after := #[], guard := some (1, false) }, { dst := some 52, op := Go.Op.pick (Go.Operand.tmp 42) (Go.Operand.const (Go.Value.bool true)) (Go.Operand.tmp 51), type := 4, pos := "", after := #[], guard := none }, { dst := some 5, op := Go.Op.assign (Go.Operand.tmp 52), type := 4, pos := "", after := #[], guard := none }] false) (Go.Code.region 11 #[{ dst := some 53, op := Go.Op.move (Go.Operand.tmp 8), type := 3, pos := "", after := #[], guard := none }, { dst := some 54, op := Go.Op.binOp Go.BinOp.sub 3 (Go.Operand.tmp 53) (Go.Operand.const (Go.Value.int Go.IntKind.i64 1)) 3, type := 3, pos := "", after := #[], guard := none }, { dst := some 8, op := Go.Op.assign (Go.Operand.tmp 54), type := 3, pos := "", after := #[], guard := none }] false)))))) (Go.Code.seq (Go.Code.region 12 #[{ dst := some 55, op := Go.Op.buildSlice 22 0 #[], type := 22, pos := "", after := #[], guard := none }, { dst := some 56, op := Go.Op.move (Go.Operand.tmp 4), type := 22, pos := "", after := #[], guard := none }, { dst := some 57, op := Go.Op.move (Go.Operand.tmp 8), type := 3, pos := "", after := #[], guard := none }, { dst := some 58, op := Go.Op.slice 22 (Go.Operand.tmp 56) none (some (Go.Operand.tmp 57)) none, type := 22, pos := "", after := #[], guard := none }, { dst := some 59, op := Go.Op.call { callee := Go.Callee.builtin Go.Builtin.append, args := #[Go.Operand.tmp 55, Go.Operand.tmp 58], argTypes := #[22, 22] }, type := 22, pos := "", after := #[], guard := none }, { dst := some 9, op := Go.Op.assign (Go.Operand.tmp 59), type := 22, pos := "", after := #[], guard := none }] false) (Go.Code.seq (Go.Code.region 13 #[{ dst := some 60, op := Go.Op.move (Go.Operand.tmp 9), type := 22, pos := "", after := #[], guard := none }, { dst := some 61, op := Go.Op.load 68 (Go.Operand.tmp 7), type := 68, pos := "", after := #[], guard := none }, { dst := some 62, op := Go.Op.buildSlice 22 1 #[(0, Go.Operand.tmp 61)], type := 22, pos := "", after := #[], guard := none }, { dst := some 63, op := Go.Op.call { callee := Go.Callee.builtin Go.Builtin.append, args := #[Go.Operand.tmp 60, Go.Operand.tmp 62], argTypes := #[22, 22] }, type := 22, pos := "", after := #[], guard := none }, { dst := some 9, op := Go.Op.assign (Go.Operand.tmp 63), type := 22, pos := "", after := #[], guard := none }] false) (Go.Code.seq (Go.Code.region 14 #[{ dst := some 64, op := Go.Op.move (Go.Operand.tmp 9), type := 22, pos := "", after := #[], guard := none }, { dst := some 65, op := Go.Op.move (Go.Operand.tmp 4), type := 22, pos := "", after := #[], guard := none }, { dst := some 66, op := Go.Op.move (Go.Operand.tmp 8), type := 3, pos := "", after := #[], guard := none }, { dst := some 67, op := Go.Op.slice 22 (Go.Operand.tmp 65) (some (Go.Operand.tmp 66)) none none, type := 22, pos := "", after := #[], guard := none }, { dst := some 68, op := Go.Op.call { callee := Go.Callee.builtin Go.Builtin.append, args := #[Go.Operand.tmp 64, Go.Operand.tmp 67], argTypes := #[22, 22] }, type := 22, pos := "", after := #[], guard := none }, { dst := some 9, op := Go.Op.assign (Go.Operand.tmp 68), type := 22, pos := "", after := #[], guard := none }] false) (Go.Code.region 15 #[{ dst := some 69, op := Go.Op.move (Go.Operand.tmp 9), type := 22, pos := "", after := #[], guard := none }, { dst := some 4, op := Go.Op.assign (Go.Operand.tmp 69), type := 22, pos := "", after := #[], guard := none }] false))))))))) (Go.Code.region 16 #[{ dst := some 70, op := Go.Op.binOp Go.BinOp.add 3 (Go.Operand.tmp 12) (Go.Operand.const (Go.Value.int Go.IntKind.i64 1)) 3, type := 3, pos := "", after := #[], guard := none }, { dst := some 12, op := Go.Op.move (Go.Operand.tmp 70), type := 3, pos := "", after := #[], guard := none }] false))))))) (Go.Code.seq (Go.Code.seq (Go.Code.region 17 #[{ dst := some 71, op := Go.Op.move (Go.Operand.tmp 5), type := 4, pos := "", after := #[], guard := none }] false) (Go.Code.cond (Go.Operand.tmp 71) (Go.Code.seq (Go.Code.region 18 #[{ dst := some 2, op := Go.Op.assign (Go.Operand.const (Go.Value.slice none 0 0)), type := 22, pos := "", after := #[], guard := none }, { dst := some 3, op := Go.Op.assign (Go.Operand.const (Go.Value.int Go.IntKind.i64 10)), type := 38, pos := "", after := #[], guard := none }] false) Go.Code.ret) Go.Code.skip)) (Go.Code.seq (Go.Code.region 19 #[{ dst := some 72, op := Go.Op.move (Go.Operand.tmp 4), type := 22, pos := "", after := #[], guard := none }, { dst := some 2, op := Go.Op.assign (Go.Operand.tmp 72), type := 22, pos := "", after := #[], guard := none }, { dst := some 3, op := Go.Op.assign (Go.Operand.const (Go.Value.int Go.IntKind.i64 0)), type := 38, pos := "", after := #[], guard := none }] false) Go.Code.ret)))))
theorem s19 : Try.f19.body.map (slim cfg) = some g19 := by kernel_rfl
theorem u28 : type_of% (And.intro (show tagT Try.prog 68 = 0 from by kernel_rfl) (And.intro ag3 (And.intro sz3 (And.intro by3 (And.intro ze3 (And.intro Try.underlying3 (And.intro ag9 (And.intro sz9 (And.intro by9 (And.intro ze9 (And.intro Try.underlying9 (And.intro ag22 (And.intro sz22 (And.intro by22 (And.intro se22 (And.intro ze22 (And.intro Try.underlying22 (And.intro ag68 (And.intro sz68 (And.intro by68 (And.intro ze68 (And.intro bu68 (And.intro Try.underlying68 (And.intro fa68_0 (And.intro fd68_0 (And.intro fa68_1 fd68_1)))))))))))))))))))))))))) :=
  And.intro (show tagT Try.prog 68 = 0 from by kernel_rfl) (And.intro ag3 (And.intro sz3 (And.intro by3 (And.intro ze3 (And.intro Try.underlying3 (And.intro ag9 (And.intro sz9 (And.intro by9 (And.intro ze9 (And.intro Try.underlying9 (And.intro ag22 (And.intro sz22 (And.intro by22 (And.intro se22 (And.intro ze22 (And.intro Try.underlying22 (And.intro ag68 (And.intro sz68 (And.intro by68 (And.intro ze68 (And.intro bu68 (And.intro Try.underlying68 (And.intro fa68_0 (And.intro fd68_0 (And.intro fa68_1 fd68_1)))))))))))))))))))))))))
def g28 : Code :=
  Go.Code.seq (Go.Code.region 0 #[{ dst := some 4, op := Go.Op.assign (Go.Operand.const (Go.Value.string { data := #[] })), type := 9, pos := "", after := #[], guard := none }] false) (Go.Code.seq (Go.Code.seq (Go.Code.region 1 #[{ dst := some 7, op := Go.Op.move (Go.Operand.tmp 0), type := 22, pos := "", after := #[], guard := none }, { dst := some 8, op := Go.Op.call { callee := Go.Callee.builtin Go.Builtin.len, args := #[Go.Operand.tmp 7], argTypes := #[22] }, type := 3, pos := "", after := #[], guard := none }, { dst := some 9, op := Go.Op.move (Go.Operand.const (Go.Value.int Go.IntKind.i64 0)), type := 3, pos := "", after := #[], guard := none }] false) (Go.Code.block 0 (Go.Code.loop (Go.Code.seq (Go.Code.region 2 #[{ dst := some 10, op := Go.Op.binOp Go.BinOp.lss 3 (Go.Operand.tmp 9) (Go.Operand.tmp 8) 3, type := 0, pos := "", after := #[], guard := none }] false) (Go.Code.seq (Go.Code.cond (Go.Operand.tmp 10) Go.Code.skip (Go.Code.exit 0)) (Go.Code.seq (Go.Code.block 1 (Go.Code.seq (Go.Code.region 3 #[{ dst := some 11, op := Go.Op.indexAddr 22 (Go.Operand.tmp 7) (Go.Operand.tmp 9), type := 0, pos := "", after := #[], guard := none }, { dst := some 12, op := Go.Op.load 68 (Go.Operand.tmp 11), type := 68, pos := "", after := #[], guard := none }, { dst := some 6, op := Go.Op.alloc 68, type := 0, pos := "", after := #[], guard := none }, { dst := none, op := Go.Op.store 68 (Go.Operand.tmp 6) (Go.Operand.tmp 12), type := 0, pos := "", after := #[], guard := none }] false) (Go.Code.seq (Go.Code.region 4 #[{ dst := some 13, op := Go.Op.fieldAddr 68 (Go.Operand.tmp 6) 0, type := 0, pos := "", after := #[], guard := none }, { dst := some 14, op := Go.Op.load 9 (Go.Operand.tmp 13), type := 9, pos := "", after := #[], guard := none }, { dst := some 15, op := Go.Op.move (Go.Operand.tmp 1), type := 9, pos := "", after := #[], guard := none }, { dst := some 16, op := Go.Op.binOp Go.BinOp.eql 9 (Go.Operand.tmp 14) (Go.Operand.tmp 15) 9, type := 4, pos := "", after := #[], guard := none }] false) (Go.Code.cond (Go.Operand.tmp 16) (Go.Code.seq (Go.Code.region 5 #[{ dst := some 17, op := Go.Op.fieldAddr 68 (Go.Operand.tmp 6) 1, type := 0, pos := "", after := #[], guard := none }, { dst := some 18, op := Go.Op.load 9 (Go.Operand.tmp 17), type := 9, pos := "", after := #[], guard := none }, { dst := some 4, op := Go.Op.assign (Go.Operand.tmp 18), type := 9, pos := "", after := #[], guard := none }] false) Go.Code.ret) Go.Code.skip)))) (Go.Code.region 6 #[{ dst := some 19, op := Go.Op.binOp Go.BinOp.add 3 (Go.Operand.tmp 9) (Go.Operand.const (Go.Value.int Go.IntKind.i64 1)) 3, type := 3, pos := "", after := #[], guard := none }, { dst := some 9, op := Go.Op.move (Go.Operand.tmp 19), type := 3, pos := "", after := #[], guard := none }] false))))))) (Go.Code.seq (Go.Code.region 7 #[{ dst := some 4, op := Go.Op.assign (Go.Operand.const (Go.Value.string { data := #[] })), type := 9, pos := "", after := #[], guard := none }] false) Go.Code.ret))
theorem s28 : Try.f28.body.map (slim cfg) = some g28 := by kernel_rfl
theorem u56 : type_of% (And.intro (show tagT Try.prog 59 = 0 from by kernel_rfl) (And.intro ag9 (And.intro sz9 (And.intro by9 (And.intro ze9 (And.intro Try.underlying9 (And.intro ag59 (And.intro sz59 (And.intro by59 (And.intro ze59 (And.intro bu59 (And.intro Try.underlying59 (And.intro fa59_0 fd59_0))))))))))))) :=
  And.intro (show tagT Try.prog 59 = 0 from by kernel_rfl) (And.intro ag9 (And.intro sz9 (And.intro by9 (And.intro ze9 (And.intro Try.underlying9 (And.intro ag59 (And.intro sz59 (And.intro by59 (And.intro ze59 (And.intro bu59 (And.intro Try.underlying59 (And.intro fa59_0 fd59_0))))))))))))
def g56 : Code :=
  Go.Code.seq (Go.Code.region 0 #[{ dst := some 2, op := Go.Op.box 59 (Go.Operand.tmp 0), type := 0, pos := "", after := #[], guard := none }, { dst := some 3, op := Go.Op.assign (Go.Operand.const (Go.Value.bool false)), type := 4, pos := "", after := #[], guard := none }] false) (Go.Code.seq (Go.Code.region 1 #[{ dst := some 4, op := Go.Op.fieldAddr 59 (Go.Operand.tmp 2) 0, type := 0, pos := "", after := #[], guard := none }, { dst := some 5, op := Go.Op.load 9 (Go.Operand.tmp 4), type := 9, pos := "", after := #[], guard := none }, { dst := some 6, op := Go.Op.load 9 (Go.Operand.tmp 1), type := 9, pos := "", after := #[], guard := none }, { dst := some 7, op := Go.Op.binOp Go.BinOp.eql 9 (Go.Operand.tmp 5) (Go.Operand.tmp 6) 9, type := 4, pos := "", after := #[], guard := none }, { dst := some 3, op := Go.Op.assign (Go.Operand.tmp 7), type := 4, pos := "", after := #[], guard := none }] false) Go.Code.ret)
theorem s56 : Try.f56.body.map (slim cfg) = some g56 := by kernel_rfl
theorem u27 : type_of% (And.intro (show tagT Try.prog 27 = 0 from by kernel_rfl) (And.intro (show tagT Try.prog 9 = 0 from by kernel_rfl) (And.intro ag3 (And.intro sz3 (And.intro by3 (And.intro ze3 (And.intro Try.underlying3 (And.intro ag9 (And.intro sz9 (And.intro by9 (And.intro ze9 (And.intro Try.underlying9 (And.intro ag25 (And.intro sz25 (And.intro by25 (And.intro se25 (And.intro ze25 (And.intro Try.underlying25 (And.intro ag27 (And.intro sz27 (And.intro by27 (And.intro ze27 (And.intro bu27 (And.intro Try.underlying27 (And.intro ag59 (And.intro sz59 (And.intro by59 (And.intro ze59 (And.intro bu59 (And.intro Try.underlying59 (And.intro ag73 (And.intro sz73 (And.intro by73 (And.intro ze73 (And.intro Try.underlying73 (And.intro fa27_0 (And.intro fd27_0 (And.intro fa59_1 fd59_1)))))))))))))))))))))))))))))))))))))) :=
  And.intro (show tagT Try.prog 27 = 0 from by kernel_rfl) (And.intro (show tagT Try.prog 9 = 0 from by kernel_rfl) (And.intro ag3 (And.intro sz3 (And.intro by3 (And.intro ze3 (And.intro Try.underlying3 (And.intro ag9 (And.intro sz9 (And.intro by9 (And.intro ze9 (And.intro Try.underlying9 (And.intro ag25 (And.intro sz25 (And.intro by25 (And.intro se25 (And.intro ze25 (And.intro Try.underlying25 (And.intro ag27 (And.intro sz27 (And.intro by27 (And.intro ze27 (And.intro bu27 (And.intro Try.underlying27 (And.intro ag59 (And.intro sz59 (And.intro by59 (And.intro ze59 (And.intro bu59 (And.intro Try.underlying59 (And.intro ag73 (And.intro sz73 (And.intro by73 (And.intro ze73 (And.intro Try.underlying73 (And.intro fa27_0 (And.intro fd27_0 (And.intro fa59_1 fd59_1)))))))))))))))))))))))))))))))))))))
def g27 : Code :=
  Go.Code.seq (Go.Code.region 0 #[{ dst := some 2, op := Go.Op.box 27 (Go.Operand.tmp 0), type := 0, pos := "", after := #[], guard := none }, { dst := some 3, op := Go.Op.box 9 (Go.Operand.tmp 1), type := 0, pos := "", after := #[], guard := none }, { dst := some 4, op := Go.Op.assign (Go.Operand.const (Go.Value.string { data := #[] })), type := 9, pos := "", after := #[], guard := none }] false) (Go.Code.seq (Go.Code.region 1 #[{ dst := some 6, op := Go.Op.fieldAddr 27 (Go.Operand.tmp 2) 0, type := 0, pos := "", after := #[], guard := none }, { dst := some 7, op := Go.Op.load 25 (Go.Operand.tmp 6), type := 25, pos := "", after := #[], guard := none }, { dst := some 8, op := Go.Op.makeFunc (Go.Fn.func 56) #[] #[Go.Operand.tmp 3], type := 73, pos := "", after := #[], guard := none }, { dst := some 9, op := Go.Op.call { callee := Go.Callee.value (Go.Operand.func 55), args := #[Go.Operand.tmp 7, Go.Operand.tmp 8], argTypes := #[25, 73] }, type := 3, pos := "", after := #[], guard := none }, { dst := some 5, op := Go.Op.assign (Go.Operand.tmp 9), type := 3, pos := "", after := #[], guard := none }] false) (Go.Code.seq (Go.Code.seq (Go.Code.region 2 #[{ dst := some 10, op := Go.Op.move (Go.Operand.tmp 5), type := 3, pos := "", after := #[], guard := none }, { dst := some 11, op := Go.Op.binOp Go.BinOp.lss 3 (Go.Operand.tmp 10) (Go.Operand.const (Go.Value.int Go.IntKind.i64 0)) 3, type := 4, pos := "", after := #[], guard := none }] false) (Go.Code.cond (Go.Operand.tmp 11) (Go.Code.seq (Go.Code.region 3 #[{ dst := some 4, op := Go.Op.assign (Go.Operand.const (Go.Value.string { data := #[] })), type := 9, pos := "", after := #[], guard := none }] false) Go.Code.ret) Go.Code.skip)) (Go.Code.seq (Go.Code.region 4 #[{ dst := some 12, op := Go.Op.fieldAddr 27 (Go.Operand.tmp 2) 0, type := 0, pos := "", after := #[], guard := none }, { dst := some 13, op := Go.Op.load 25 (Go.Operand.tmp 12), type := 25, pos := "", after := #[], guard := none }, { dst := some 14, op := Go.Op.move (Go.Operand.tmp 5), type := 3, pos := "", after := #[], guard := none }, { dst := some 15, op := Go.Op.indexAddr 25 (Go.Operand.tmp 13) (Go.Operand.tmp 14), type := 0, pos := "", after := #[], guard := none }, { dst := some 16, op := Go.Op.fieldAddr 59 (Go.Operand.tmp 15) 1, type := 0, pos := "", after := #[], guard := none }, { dst := some 17, op := Go.Op.load 9 (Go.Operand.tmp 16), type := 9, pos := "", after := #[], guard := none }, { dst := some 4, op := Go.Op.assign (Go.Operand.tmp 17), type := 9, pos := "", after := #[], guard := none }] false) Go.Code.ret)))
theorem s27 : Try.f27.body.map (slim cfg) = some g27 := by kernel_rfl
theorem u5 : type_of% (And.intro (show tagT Try.prog 27 = 0 from by kernel_rfl) (And.intro ag3 (And.intro sz3 (And.intro by3 (And.intro ze3 (And.intro Try.underlying3 (And.intro ag4 (And.intro sz4 (And.intro by4 (And.intro ze4 (And.intro Try.underlying4 (And.intro ag9 (And.intro sz9 (And.intro by9 (And.intro ze9 (And.intro Try.underlying9 (And.intro ag22 (And.intro sz22 (And.intro by22 (And.intro se22 (And.intro ze22 (And.intro Try.underlying22 (And.intro ag25 (And.intro sz25 (And.intro by25 (And.intro se25 (And.intro ze25 (And.intro Try.underlying25 (And.intro ag27 (And.intro sz27 (And.intro by27 (And.intro ze27 (And.intro bu27 (And.intro Try.underlying27 (And.intro ag38 (And.intro sz38 (And.intro by38 (And.intro ze38 (And.intro Try.underlying38 (And.intro ag51 (And.intro sz51 (And.intro by51 (And.intro ze51 (And.intro Try.underlying51 (And.intro ag59 (And.intro sz59 (And.intro by59 (And.intro ze59 (And.intro bu59 (And.intro Try.underlying59 (And.intro ag68 (And.intro sz68 (And.intro by68 (And.intro ze68 (And.intro bu68 Try.underlying68))))))))))))))))))))))))))))))))))))))))))))))))))))))) :=
  And.intro (show tagT Try.prog 27 = 0 from by kernel_rfl) (And.intro ag3 (And.intro sz3 (And.intro by3 (And.intro ze3 (And.intro Try.underlying3 (And.intro ag4 (And.intro sz4 (And.intro by4 (And.intro ze4 (And.intro Try.underlying4 (And.intro ag9 (And.intro sz9 (And.intro by9 (And.intro ze9 (And.intro Try.underlying9 (And.intro ag22 (And.intro sz22 (And.intro by22 (And.intro se22 (And.intro ze22 (And.intro Try.underlying22 (And.intro ag25 (And.intro sz25 (And.intro by25 (And.intro se25 (And.intro ze25 (And.intro Try.underlying25 (And.intro ag27 (And.intro sz27 (And.intro by27 (And.intro ze27 (And.intro bu27 (And.intro Try.underlying27 (And.intro ag38 (And.intro sz38 (And.intro by38 (And.intro ze38 (And.intro Try.underlying38 (And.intro ag51 (And.intro sz51 (And.intro by51 (And.intro ze51 (And.intro Try.underlying51 (And.intro ag59 (And.intro sz59 (And.intro by59 (And.intro ze59 (And.intro bu59 (And.intro Try.underlying59 (And.intro ag68 (And.intro sz68 (And.intro by68 (And.intro ze68 (And.intro bu68 Try.underlying68))))))))))))))))))))))))))))))))))))))))))))))))))))))
def g5 : Code :=
  Go.Code.seq (Go.Code.region 0 #[{ dst := some 4, op := Go.Op.assign (Go.Operand.const (Go.Value.bool false)), type := 4, pos := "", after := #[], guard := none }] false) (Go.Code.seq (Go.Code.region 1 #[{ dst := some 12, op := Go.Op.move (Go.Operand.tmp 0), type := 22, pos := "", after := #[], guard := none }, { dst := some 13, op := Go.Op.call { callee := Go.Callee.value (Go.Operand.func 17), args := #[Go.Operand.tmp 12], argTypes := #[22] }, type := 40, pos := "", after := #[], guard := none }, { dst := some 11, op := Go.Op.move (Go.Operand.tmp 13), type := 40, pos := "", after := #[], guard := none }, { dst := some 14, op := Go.Op.extract (Go.Operand.tmp 11) 0, type := 25, pos := "", after := #[], guard := none }, { dst := some 15, op := Go.Op.extract (Go.Operand.tmp 11) 1, type := 22, pos := "", after := #[], guard := none }, { dst := some 5, op := Go.Op.assign (Go.Operand.tmp 14), type := 25, pos := "", after := #[], guard := none }, { dst := some 6, op := Go.Op.assign (Go.Operand.tmp 15), type := 22, pos := "", after := #[], guard := none }] false) (Go.Code.seq (Go.Code.region 2 #[{ dst := some 17, op := Go.Op.move (Go.Operand.tmp 5), type := 25, pos := "", after := #[], guard := none }, { dst := some 18, op := Go.Op.call { callee := Go.Callee.value (Go.Operand.func 18), args := #[Go.Operand.tmp 17], argTypes := #[25] }, type := 42, pos := "", after := #[], guard := none }, { dst := some 16, op := Go.Op.move (Go.Operand.tmp 18), type := 42, pos := "", after := #[], guard := none }, { dst := some 19, op := Go.Op.extract (Go.Operand.tmp 16) 0, type := 27, pos := "", after := #[], guard := none }, { dst := some 20, op := Go.Op.extract (Go.Operand.tmp 16) 1, type := 38, pos := "", after := #[], guard := none }, { dst := some 7, op := Go.Op.alloc 27, type := 0, pos := "", after := #[], guard := none }, { dst := none, op := Go.Op.store 27 (Go.Operand.tmp 7) (Go.Operand.tmp 19), type := 0, pos := "", after := #[], guard := none }, { dst := some 8, op := Go.Op.assign (Go.Operand.tmp 20), type := 38, pos := "", after := #[], guard := none }] false) (Go.Code.seq (Go.Code.region 3 #[{ dst := some 22, op := Go.Op.move (Go.Operand.tmp 6), type := 22, pos := "", after := #[], guard := none }, { dst := some 23, op := Go.Op.call { callee := Go.Callee.value (Go.Operand.func 19), args := #[Go.Operand.tmp 22], argTypes := #[22] }, type := 44, pos := "", after := #[], guard := none }, { dst := some 21, op := Go.Op.move (Go.Operand.tmp 23), type := 44, pos := "", after := #[], guard := none }, { dst := some 24, op := Go.Op.extract (Go.Operand.tmp 21) 0, type := 22, pos := "", after := #[], guard := none }, { dst := some 25, op := Go.Op.extract (Go.Operand.tmp 21) 1, type := 38, pos := "", after := #[], guard := none }, { dst := some 9, op := Go.Op.assign (Go.Operand.tmp 24), type := 22, pos := "", after := #[], guard := none }, { dst := some 10, op := Go.Op.assign (Go.Operand.tmp 25), type := 38, pos := "", after := #[], guard := none }] false) (Go.Code.seq (Go.Code.region 4 #[{ dst := some 26, op := Go.Op.move (Go.Operand.tmp 8), type := 38, pos := "", after := #[], guard := none }, { dst := some 27, op := Go.Op.move (Go.Operand.tmp 10), type := 38, pos := "", after := #[], guard := none }, { dst := some 28, op := Go.Op.binOp Go.BinOp.eql 38 (Go.Operand.tmp 26) (Go.Operand.tmp 27) 38, type := 4, pos := "", after := #[], guard := none }, { dst := some 29, op := Go.Op.move (Go.Operand.tmp 28), type := 4, pos := "", after := #[], guard := none }, { dst := some 30, op := Go.Op.load 27 (Go.Operand.tmp 7), type := 27, pos := "", after := #[], guard := some (3, true) }, { dst := some 31, op := Go.Op.call { callee := Go.Callee.value (Go.Operand.func 21), args := #[Go.Operand.tmp 30], argTypes := #[27] }, type := 22, pos := "", after := #[], guard := some (3, true) }, { dst := some 32, op := Go.Op.move (Go.Operand.tmp 9), type := 22, pos := "", after := #[], guard := some (3, true) }, { dst := some 33, op := Go.Op.call { callee := Go.Callee.value (Go.Operand.func 20), args := #[Go.Operand.tmp 31, Go.Operand.tmp 32], argTypes := #[22, 22] }, type := 4, pos := "", after := #[], guard := some (3, true) }, { dst := some 34, op := Go.Op.pick (Go.Operand.tmp 29) (Go.Operand.tmp 33) (Go.Operand.const (Go.Value.bool false)), type := 4, pos := "", after := #[], guard := none }, { dst := some 35, op := Go.Op.move (Go.Operand.tmp 34), type := 4, pos := "", after := #[], guard := none }, { dst := some 36, op := Go.Op.load 27 (Go.Operand.tmp 7), type := 27, pos := "", after := #[], guard := some (9, true) }, { dst := some 37, op := Go.Op.call { callee := Go.Callee.value (Go.Operand.func 22), args := #[Go.Operand.tmp 36], argTypes := #[27] }, type := 3, pos := "", after := #[], guard := some (9, true) }, { dst := some 38, op := Go.Op.move (Go.Operand.tmp 9), type := 22, pos := "", after := #[], guard := some (9, true) }, { dst := some 39, op := Go.Op.call { callee := Go.Callee.builtin Go.Builtin.len, args := #[Go.Operand.tmp 38], argTypes := #[22] }, type := 3, pos := "", after := #[], guard := some (9, true) }, { dst := some 40, op := Go.Op.binOp Go.BinOp.eql 3 (Go.Operand.tmp 37) (Go.Operand.tmp 39) 3, type := 4, pos := "", after := #[], guard := some (9, true) }, { dst := some 41, op := Go.Op.pick (Go.Operand.tmp 35) (Go.Operand.tmp 40) (Go.Operand.const (Go.Value.bool false)), type := 4, pos := "", after := #[], guard := none }, { dst := some 42, op := Go.Op.move (Go.Operand.tmp 41), type := 4, pos := "", after := #[], guard := none }, { dst := some 43, op := Go.Op.load 27 (Go.Operand.tmp 7), type := 27, pos := "", after := #[], guard := some (16, true) }, { dst := some 44, op := Go.Op.call { callee := Go.Callee.value (Go.Operand.func 23), args := #[Go.Operand.tmp 43], argTypes := #[27] }, type := 9, pos := "", after := #[], guard := some (16, true) }, { dst := some 45, op := Go.Op.move (Go.Operand.tmp 9), type := 22, pos := "", after := #[], guard := some (16, true) }, { dst := some 46, op := Go.Op.call { callee := Go.Callee.value (Go.Operand.func 24), args := #[Go.Operand.tmp 45], argTypes := #[22] }, type := 9, pos := "", after := #[], guard := some (16, true) }, { dst := some 47, op := Go.Op.binOp Go.BinOp.eql 9 (Go.Operand.tmp 44) (Go.Operand.tmp 46) 9, type := 4, pos := "", after := #[], guard := some (16, true) }, { dst := some 48, op := Go.Op.pick (Go.Operand.tmp 42) (Go.Operand.tmp 47) (Go.Operand.const (Go.Value.bool false)), type := 4, pos := "", after := #[], guard := none }, { dst := some 49, op := Go.Op.move (Go.Operand.tmp 48), type := 4, pos := "", after := #[], guard := none }, { dst := some 50, op := Go.Op.load 27 (Go.Operand.tmp 7), type := 27, pos := "", after := #[], guard := some (23, true) }, { dst := some 51, op := Go.Op.call { callee := Go.Callee.value (Go.Operand.func 25), args := #[Go.Operand.tmp 50], argTypes := #[27] }, type := 51, pos := "", after := #[], guard := some (23, true) }, { dst := some 52, op := Go.Op.move (Go.Operand.tmp 9), type := 22, pos := "", after := #[], guard := some (23, true) }, { dst := some 53, op := Go.Op.call { callee := Go.Callee.value (Go.Operand.func 26), args := #[Go.Operand.tmp 52], argTypes := #[22] }, type := 51, pos := "", after := #[], guard := some (23, true) }, { dst := some 54, op := Go.Op.binOp Go.BinOp.eql 51 (Go.Operand.tmp 51) (Go.Operand.tmp 53) 51, type := 4, pos := "", after := #[], guard := some (23, true) }, { dst := some 55, op := Go.Op.pick (Go.Operand.tmp 49) (Go.Operand.tmp 54) (Go.Operand.const (Go.Value.bool false)), type := 4, pos := "", after := #[], guard := none }, { dst := some 56, op := Go.Op.move (Go.Operand.tmp 55), type := 4, pos := "", after := #[], guard := none }, { dst := some 57, op := Go.Op.load 27 (Go.Operand.tmp 7), type := 27, pos := "", after := #[], guard := some (30, true) }, { dst := some 58, op := Go.Op.move (Go.Operand.tmp 1), type := 9, pos := "", after := #[], guard := some (30, true) }, { dst := some 59, op := Go.Op.call { callee := Go.Callee.value (Go.Operand.func 27), args := #[Go.Operand.tmp 57, Go.Operand.tmp 58], argTypes := #[27, 9] }, type := 9, pos := "", after := #[], guard := some (30, true) }, { dst := some 60, op := Go.Op.move (Go.Operand.tmp 9), type := 22, pos := "", after := #[], guard := some (30, true) }, { dst := some 61, op := Go.Op.move (Go.Operand.tmp 1), type := 9, pos := "", after := #[], guard := some (30, true) }, { dst := some 62, op := Go.Op.call { callee := Go.Callee.value (Go.Operand.func 28), args := #[Go.Operand.tmp 60, Go.Operand.tmp 61], argTypes := #[22, 9] }, type := 9, pos := "", after := #[], guard := some (30, true) }, { dst := some 63, op := Go.Op.binOp Go.BinOp.eql 9 (Go.Operand.tmp 59) (Go.Operand.tmp 62) 9, type := 4, pos := "", after := #[], guard := some (30, true) }, { dst := some 64, op := Go.Op.pick (Go.Operand.tmp 56) (Go.Operand.tmp 63) (Go.Operand.const (Go.Value.bool false)), type := 4, pos := "", after := #[], guard := none }, { dst := some 65, op := Go.Op.move (Go.Operand.tmp 64), type := 4, pos := "", after := #[], guard := none }, { dst := some 66, op := Go.Op.move (Go.Operand.tmp 1), type := 9, pos := "", after := #[], guard := some (39, true) }, { dst := some 67, op := Go.Op.call { callee := Go.Callee.value (Go.Operand.func 29), args := #[Go.Operand.tmp 66], argTypes := #[9] }, type := 4, pos := "", after := #[], guard := some (39, true) }, { dst := some 68, op := Go.Op.move (Go.Operand.tmp 1), type := 9, pos := "", after := #[], guard := some (39, true) }, { dst := some 69, op := Go.Op.call { callee := Go.Callee.value (Go.Operand.func 30), args := #[Go.Operand.tmp 68], argTypes := #[9] }, type := 4, pos := "", after := #[], guard := some (39, true) }, { dst := some 70, op := Go.Op.binOp Go.BinOp.eql 4 (Go.Operand.tmp 67) (Go.Operand.tmp 69) 4, type := 4, pos := "", after := #[], guard := some (39, true) }, { dst := some 71, op := Go.Op.pick (Go.Operand.tmp 65) (Go.Operand.tmp 70) (Go.Operand.const (Go.Value.bool false)), type := 4, pos := "", after := #[], guard := none }, { dst := some 72, op := Go.Op.move (Go.Operand.tmp 71), type := 4, pos := "", after := #[], guard := none }, { dst := some 73, op := Go.Op.call { callee := Go.Callee.value (Go.Operand.func 31), args := #[], argTypes := #[] }, type := 4, pos := "", after := #[], guard := some (46, true) }, { dst := some 74, op := Go.Op.pick (Go.Operand.tmp 72) (Go.Operand.tmp 73) (Go.Operand.const (Go.Value.bool false)), type := 4, pos := "", after := #[], guard := none }, { dst := some 4, op := Go.Op.assign (Go.Operand.tmp 74), type := 4, pos := "", after := #[], guard := none }] false) Go.Code.ret))))
theorem s5 : Try.f5.body.map (slim cfg) = some g5 := by kernel_rfl


theorem ris_ok (c : UInt8) (lo hi : Int) (prot : Nat) (H : Heap) (hp : prot ≤ H.length) : aLim cfg prot 74 [.int .u8 c.toNat, .int .i64 lo, .int .i64 hi] H = some (.bool (decide (lo ≤ c.toNat) && decide ((c.toNat : Int) ≤ hi)), none) := by
  have hsnap : snap H [.int .u8 c.toNat, .int .i64 lo, .int .i64 hi] = some ([.int .u8 c.toNat, .int .i64 lo, .int .i64 hi], false) := rfl
  have w1 : IntKind.i64.wrap ((c.toNat : Nat) : Int) = ((c.toNat : Nat) : Int) := wrap64 (by have := c.toNat_lt; omega) (by have := c.toNat_lt; omega)
  refine pure_slim rfl (by kernel_rfl) Try.func74 s74 hp hsnap (by simp [Try.f74]) fun fr hlen h => ?_
  simp only [Has, Nat.zero_add] at h
  obtain ⟨a0, a1, a2, -⟩ := h
  simp only [Try.f74] at hlen ⊢
  unfold g74
  by_cases h1 : lo ≤ (c.toNat : Int)
  · simp only [wk0, wk1, wk2, wk3, wk4, wk5, wk6, aWanted, aYield, Region.wanted, aOp, quiet, loud, aEvals, aParts, aOpt, aBuiltin, rd, win, AV.cells, AV.leaf, aNew, splice, fillA, Nat.reduceEqDiff, Nat.reduceLT, Nat.reduceAdd, Nat.reduceLeDiff, reduceCtorEq, Nat.reduceMul, cfgP, u74, hlen, a0, a1, a2, w1, h1]
    simp only [Bool.true_and, decide_true]
    exact Fin_pure (l := [.bool (decide ((c.toNat : Int) ≤ hi))]) (by simp [wk0, wk1, wk2, wk3, wk4, wk5, wk6, aWanted, aYield, Region.wanted, aOp, quiet, loud, aEvals, aParts, aOpt, aBuiltin, rd, win, AV.cells, AV.leaf, aNew, splice, fillA, Nat.reduceEqDiff, Nat.reduceLT, Nat.reduceAdd, Nat.reduceLeDiff, reduceCtorEq, Nat.reduceMul, cfgP, u74, aResults, aResult, hlen]) (.still rfl) (by simp)
  · simp only [wk0, wk1, wk2, wk3, wk4, wk5, wk6, aWanted, aYield, Region.wanted, aOp, quiet, loud, aEvals, aParts, aOpt, aBuiltin, rd, win, AV.cells, AV.leaf, aNew, splice, fillA, Nat.reduceEqDiff, Nat.reduceLT, Nat.reduceAdd, Nat.reduceLeDiff, reduceCtorEq, Nat.reduceMul, cfgP, u74, hlen, a0, a1, a2, w1, h1, none_beq]
    simp only [Bool.false_and, decide_false]
    exact Fin_pure (l := [.bool false]) (by simp [wk0, wk1, wk2, wk3, wk4, wk5, wk6, aWanted, aYield, Region.wanted, aOp, quiet, loud, aEvals, aParts, aOpt, aBuiltin, rd, win, AV.cells, AV.leaf, aNew, splice, fillA, Nat.reduceEqDiff, Nat.reduceLT, Nat.reduceAdd, Nat.reduceLeDiff, reduceCtorEq, Nat.reduceMul, cfgP, u74, aResults, aResult, hlen]) (.still rfl) (by simp)

theorem rletter_ok (c : UInt8) (prot : Nat) (H : Heap) (hp : prot ≤ H.length) : aLim cfg prot 60 [.int .u8 c.toNat] H = some (.bool (letterC c.toNat), none) := by
  have hsnap : snap H [.int .u8 c.toNat] = some ([.int .u8 c.toNat], false) := rfl
  have n1 := ris_ok c 65 90 H.length H (Nat.le_refl _)
  have n2 := ris_ok c 97 122 H.length H (Nat.le_refl _)
  unfold letterC greatC
  generalize (decide ((65 : Int) ≤ c.toNat) && decide ((c.toNat : Int) ≤ 90)) = g at *
  generalize (decide ((97 : Int) ≤ c.toNat) && decide ((c.toNat : Int) ≤ 122)) = k at *
  refine pure_slim rfl (by kernel_rfl) Try.func60 s60 hp hsnap (by simp [Try.f60]) fun fr hlen h => ?_
  simp only [Has, Nat.zero_add] at h
  obtain ⟨a0, -⟩ := h
  simp only [Try.f60] at hlen ⊢
  unfold g60
  cases g with
  | true =>
    simp only [wk0, wk1, wk2, wk3, wk4, wk5, wk6, aWanted, aYield, Region.wanted, aOp, quiet, loud, aEvals, aParts, aOpt, aBuiltin, rd, win, AV.cells, AV.leaf, aNew, splice, fillA, Nat.reduceEqDiff, Nat.reduceLT, Nat.reduceAdd, Nat.reduceLeDiff, reduceCtorEq, Nat.reduceMul, cfgP, u60, hlen, a0, n1, none_beq]
    simp only [Bool.true_or]
    exact Fin_pure (l := [.bool true]) (by simp [wk0, wk1, wk2, wk3, wk4, wk5, wk6, aWanted, aYield, Region.wanted, aOp, quiet, loud, aEvals, aParts, aOpt, aBuiltin, rd, win, AV.cells, AV.leaf, aNew, splice, fillA, Nat.reduceEqDiff, Nat.reduceLT, Nat.reduceAdd, Nat.reduceLeDiff, reduceCtorEq, Nat.reduceMul, cfgP, u60, aResults, aResult, hlen]) (.still rfl) (by simp)
  | false =>
    simp only [wk0, wk1, wk2, wk3, wk4, wk5, wk6, aWanted, aYield, Region.wanted, aOp, quiet, loud, aEvals, aParts, aOpt, aBuiltin, rd, win, AV.cells, AV.leaf, aNew, splice, fillA, Nat.reduceEqDiff, Nat.reduceLT, Nat.reduceAdd, Nat.reduceLeDiff, reduceCtorEq, Nat.reduceMul, cfgP, u60, hlen, a0, n1, n2, none_beq]
    simp only [Bool.false_or]
    exact Fin_pure (l := [.bool k]) (by simp [wk0, wk1, wk2, wk3, wk4, wk5, wk6, aWanted, aYield, Region.wanted, aOp, quiet, loud, aEvals, aParts, aOpt, aBuiltin, rd, win, AV.cells, AV.leaf, aNew, splice, fillA, Nat.reduceEqDiff, Nat.reduceLT, Nat.reduceAdd, Nat.reduceLeDiff, reduceCtorEq, Nat.reduceMul, cfgP, u60, aResults, aResult, hlen]) (.still rfl) (by simp)

theorem rdigit_ok (c : UInt8) (prot : Nat) (H : Heap) (hp : prot ≤ H.length) : aLim cfg prot 61 [.int .u8 c.toNat] H = some (.bool (digitC c.toNat), none) := by
  have hsnap : snap H [.int .u8 c.toNat] = some ([.int .u8 c.toNat], false) := rfl
  have n1 := ris_ok c 48 57 H.length H (Nat.le_refl _)
  unfold digitC
  generalize (decide ((48 : Int) ≤ c.toNat) && decide ((c.toNat : Int) ≤ 57)) = g at *
  refine pure_slim rfl (by kernel_rfl) Try.func61 s61 hp hsnap (by simp [Try.f61]) fun fr hlen h => ?_
  simp only [Has, Nat.zero_add] at h
  obtain ⟨a0, -⟩ := h
  simp only [Try.f61] at hlen ⊢
  unfold g61
  simp only [wk0, wk1, wk2, wk3, wk4, wk5, wk6, aWanted, aYield, Region.wanted, aOp, quiet, loud, aEvals, aParts, aOpt, aBuiltin, rd, win, AV.cells, AV.leaf, aNew, splice, fillA, Nat.reduceEqDiff, Nat.reduceLT, Nat.reduceAdd, Nat.reduceLeDiff, reduceCtorEq, Nat.reduceMul, cfgP, u61, hlen, a0, n1]
  exact Fin_pure (l := [.bool g]) (by simp [wk0, wk1, wk2, wk3, wk4, wk5, wk6, aWanted, aYield, Region.wanted, aOp, quiet, loud, aEvals, aParts, aOpt, aBuiltin, rd, win, AV.cells, AV.leaf, aNew, splice, fillA, Nat.reduceEqDiff, Nat.reduceLT, Nat.reduceAdd, Nat.reduceLeDiff, reduceCtorEq, Nat.reduceMul, cfgP, u61, aResults, aResult, hlen]) (.still rfl) (by simp)

def okAt (i : Nat) (c : UInt8) : Bool := letterC c.toNat || (c == 95 || (decide (i ≠ 0) && digitC c.toNat))
def nameG : Nat → List UInt8 → Bool
  | _, [] => true
  | i, c :: r => okAt i c && nameG (i + 1) r
theorem nameG_pos : ∀ (l : List UInt8) (i : Nat), nameG (i + 1) l = l.all fun c => inNameC c.toNat
  | [], _ => rfl
  | c :: r, i => by
    rw [nameG, nameG_pos r (i + 1), List.all_cons]
    congr 1
    have : (c == 95) = decide ((c.toNat : Int) = 95) := by
      rw [Bool.eq_iff_iff, beq_iff_eq, decide_eq_true_iff]
      constructor
      · rintro rfl; rfl
      · intro h
        have : c.toNat = (95 : UInt8).toNat := by simpa using (by omega : c.toNat = 95)
        exact UInt8.toNat_inj.1 this
    unfold okAt inNameC
    rw [this]
    simp
    cases letterC c.toNat <;> cases digitC c.toNat <;> simp
theorem nameG_eq (s : List UInt8) : nameL s = (!(s == []) && nameG 0 s) := by
  cases s with
  | nil => rfl
  | cons c r =>
    rw [nameG, nameG_pos r 0]
    have h95 : (c == 95) = decide ((c.toNat : Int) = 95) := by
      rw [Bool.eq_iff_iff, beq_iff_eq, decide_eq_true_iff]
      constructor
      · rintro rfl; rfl
      · intro h
        have : c.toNat = (95 : UInt8).toNat := by simpa using (by omega : c.toNat = 95)
        exact UInt8.toNat_inj.1 this
    have hx : digitC c.toNat = true → letterC c.toNat = false ∧ (c == 95) = false := by
      rw [h95]
      unfold digitC letterC greatC
      simp
      omega
    simp only [nameL, List.all_cons, okAt]
    have e : (c :: r == []) = false := rfl
    rw [e]
    have hin : inNameC c.toNat = (letterC c.toNat || digitC c.toNat || (c == 95)) := by rw [h95]; rfl
    rw [hin]
    cases hd : digitC c.toNat with
    | true =>
      obtain ⟨h1, h2⟩ := hx hd
      simp [h1, h2]
    | false =>
      cases letterC c.toNat <;> cases (c == 95) <;> simp

theorem rname_ok (s : List UInt8) (hl : s.length ≤ 9223372036854775807) (prot : Nat) (H : Heap) (hp : prot ≤ H.length) : aLim cfg prot 30 [.str s] H = some (.bool (nameL s), none) := by
  have hsnap : snap H [.str s] = some ([.str s], false) := rfl
  rw [nameG_eq]
  refine pure_slim rfl (by kernel_rfl) Try.func30 s30 hp hsnap (by simp [Try.f30]) fun fr hlen h => ?_
  simp only [Has, Nat.zero_add] at h
  obtain ⟨a0, -⟩ := h
  simp only [Try.f30] at hlen ⊢
  unfold g30
  simp only [wk0, wk1, wk2, wk3, wk4, wk5, wk6, aWanted, aYield, Region.wanted, aOp, quiet, loud, aEvals, aParts, aOpt, aBuiltin, rd, win, AV.cells, AV.leaf, aNew, splice, fillA, Nat.reduceEqDiff, Nat.reduceLT, Nat.reduceAdd, Nat.reduceLeDiff, reduceCtorEq, Nat.reduceMul, cfgP, u30, hlen, a0]
  refine loop_rule (fun m fr H' => ∃ (i : Nat), m = s.length - i ∧ i ≤ s.length ∧ fr.length = 34 ∧ fget fr 0 = .str s ∧ fget fr 3 = .int .i64 i ∧ H' = H ∧ nameG 0 s = nameG i (s.drop i)) ?_ s.length _ _ ⟨0, by simp [wk0, wk1, wk2, wk3, wk4, wk5, wk6, aWanted, aYield, Region.wanted, aOp, quiet, loud, aEvals, aParts, aOpt, aBuiltin, rd, win, AV.cells, AV.leaf, aNew, splice, fillA, Nat.reduceEqDiff, Nat.reduceLT, Nat.reduceAdd, Nat.reduceLeDiff, reduceCtorEq, Nat.reduceMul, cfgP, u30, hlen, a0]⟩
  rintro m fr K ⟨i, rfl, hi, hlen, a0, a3, rfl, hc⟩ ih
  simp only [wk0, wk1, wk2, wk3, wk4, wk5, wk6, aWanted, aYield, Region.wanted, aOp, quiet, loud, aEvals, aParts, aOpt, aBuiltin, rd, win, AV.cells, AV.leaf, aNew, splice, fillA, Nat.reduceEqDiff, Nat.reduceLT, Nat.reduceAdd, Nat.reduceLeDiff, reduceCtorEq, Nat.reduceMul, cfgP, u30, hlen, a0, a3, str_len Try.underlying9]
  refine RC_split (fun h => ?_) (fun h => ?_)
  · have hlt : i < s.length := by simpa using h
    have hww : IntKind.i64.wrap ((i : Int) + 1) = ((i + 1 : Nat) : Int) := by rw [wrap64 (by omega) (by omega)]; simp
    have e1 := str_at (P := Try.prog) Try.underlying9 s (k := .i64) hlt
    have hne : (!(s == [])) = true := by
      cases s with
      | nil => simp at hlt
      | cons c r => rfl
    rw [hne, Bool.true_and] at ih ⊢
    rw [List.drop_eq_getElem_cons hlt, nameG] at hc
    generalize s[i] = c at *
    have n1 := rletter_ok c K.length K (Nat.le_refl _)
    have n2 := rdigit_ok c K.length K (Nat.le_refl _)
    have d95 : decide (¬ (c.toNat : Int) = 95) = !(c == 95) := by
      rw [Bool.eq_iff_iff, decide_eq_true_iff, Bool.not_eq_true', beq_eq_false_iff_ne]
      refine not_congr ⟨fun h => ?_, fun h => by rw [h]; rfl⟩
      have : c.toNat = (95 : UInt8).toNat := by simpa using (by omega : c.toNat = 95)
      exact UInt8.toNat_inj.1 this
    unfold okAt at hc
    have next : nameG 0 s = nameG (i + 1) (s.drop (i + 1)) → ∃ j : Nat, s.length - (i + 1) = s.length - j ∧ j ≤ s.length ∧ j = i + 1 ∧ nameG 0 s = nameG j (s.drop j) := fun h => ⟨i + 1, rfl, hlt, rfl, h⟩
    cases hl1 : letterC (c.toNat : Int) with
    | true =>
      rw [hl1] at n1 hc
      obtain ⟨j, g1, g2, rfl, g3⟩ := next (by simpa using hc)
      simp only [wk0, wk1, wk2, wk3, wk4, wk5, wk6, aWanted, aYield, Region.wanted, aOp, quiet, loud, aEvals, aParts, aOpt, aBuiltin, rd, win, AV.cells, AV.leaf, aNew, splice, fillA, Nat.reduceEqDiff, Nat.reduceLT, Nat.reduceAdd, Nat.reduceLeDiff, reduceCtorEq, Nat.reduceMul, cfgP, u30, hlen, a0, a3, e1, n1, none_beq, hww]
      refine ih _ _ (s.length - (i + 1)) (by omega) ⟨i + 1, g1, g2, ?_⟩
      simp [wk0, wk1, wk2, wk3, wk4, wk5, wk6, aWanted, aYield, Region.wanted, aOp, quiet, loud, aEvals, aParts, aOpt, aBuiltin, rd, win, AV.cells, AV.leaf, aNew, splice, fillA, Nat.reduceEqDiff, Nat.reduceLT, Nat.reduceAdd, Nat.reduceLeDiff, reduceCtorEq, Nat.reduceMul, cfgP, u30, hlen, a0]
      exact g3
    | false =>
      rw [hl1] at n1 hc
      cases h95 : (c == 95) with
      | true =>
        rw [h95] at d95 hc
        simp only [Bool.not_true] at d95
        obtain ⟨j, g1, g2, rfl, g3⟩ := next (by simpa using hc)
        simp only [wk0, wk1, wk2, wk3, wk4, wk5, wk6, aWanted, aYield, Region.wanted, aOp, quiet, loud, aEvals, aParts, aOpt, aBuiltin, rd, win, AV.cells, AV.leaf, aNew, splice, fillA, Nat.reduceEqDiff, Nat.reduceLT, Nat.reduceAdd, Nat.reduceLeDiff, reduceCtorEq, Nat.reduceMul, cfgP, u30, hlen, a0, a3, e1, n1, d95, none_beq, hww]
        refine ih _ _ (s.length - (i + 1)) (by omega) ⟨i + 1, g1, g2, ?_⟩
        simp [wk0, wk1, wk2, wk3, wk4, wk5, wk6, aWanted, aYield, Region.wanted, aOp, quiet, loud, aEvals, aParts, aOpt, aBuiltin, rd, win, AV.cells, AV.leaf, aNew, splice, fillA, Nat.reduceEqDiff, Nat.reduceLT, Nat.reduceAdd, Nat.reduceLeDiff, reduceCtorEq, Nat.reduceMul, cfgP, u30, hlen, a0]
        exact g3
      | false =>
        rw [h95] at d95 hc
        simp only [Bool.not_false] at d95
        by_cases h0 : i = 0
        · have c0 : decide ((i : Int) = 0) = true := decide_eq_true (by omega)
          rw [show decide (i ≠ 0) = false from decide_eq_false (by omega)] at hc
          simp only [Bool.false_or, Bool.false_and] at hc
          rw [hc]
          simp only [wk0, wk1, wk2, wk3, wk4, wk5, wk6, aWanted, aYield, Region.wanted, aOp, quiet, loud, aEvals, aParts, aOpt, aBuiltin, rd, win, AV.cells, AV.leaf, aNew, splice, fillA, Nat.reduceEqDiff, Nat.reduceLT, Nat.reduceAdd, Nat.reduceLeDiff, reduceCtorEq, Nat.reduceMul, cfgP, u30, hlen, a0, a3, e1, n1, d95, c0, none_beq]
          exact Fin_pure (l := [.bool false]) (by simp [wk0, wk1, wk2, wk3, wk4, wk5, wk6, aWanted, aYield, Region.wanted, aOp, quiet, loud, aEvals, aParts, aOpt, aBuiltin, rd, win, AV.cells, AV.leaf, aNew, splice, fillA, Nat.reduceEqDiff, Nat.reduceLT, Nat.reduceAdd, Nat.reduceLeDiff, reduceCtorEq, Nat.reduceMul, cfgP, u30, aResults, aResult, hlen]) (.still rfl) (by simp)
        · have c0 : decide ((i : Int) = 0) = false := decide_eq_false (by omega)
          rw [show decide (i ≠ 0) = true from decide_eq_true (by omega)] at hc
          cases hd : digitC (c.toNat : Int) with
          | true =>
            rw [hd] at n2 hc
            obtain ⟨j, g1, g2, rfl, g3⟩ := next (by simpa using hc)
            simp only [wk0, wk1, wk2, wk3, wk4, wk5, wk6, aWanted, aYield, Region.wanted, aOp, quiet, loud, aEvals, aParts, aOpt, aBuiltin, rd, win, AV.cells, AV.leaf, aNew, splice, fillA, Nat.reduceEqDiff, Nat.reduceLT, Nat.reduceAdd, Nat.reduceLeDiff, reduceCtorEq, Nat.reduceMul, cfgP, u30, hlen, a0, a3, e1, n1, n2, d95, c0, none_beq, hww]
            refine ih _ _ (s.length - (i + 1)) (by omega) ⟨i + 1, g1, g2, ?_⟩
            simp [wk0, wk1, wk2, wk3, wk4, wk5, wk6, aWanted, aYield, Region.wanted, aOp, quiet, loud, aEvals, aParts, aOpt, aBuiltin, rd, win, AV.cells, AV.leaf, aNew, splice, fillA, Nat.reduceEqDiff, Nat.reduceLT, Nat.reduceAdd, Nat.reduceLeDiff, reduceCtorEq, Nat.reduceMul, cfgP, u30, hlen, a0]
            exact g3
          | false =>
            rw [hd] at n2 hc
            simp only [Bool.false_or, Bool.false_and, Bool.and_false] at hc
            rw [hc]
            simp only [wk0, wk1, wk2, wk3, wk4, wk5, wk6, aWanted, aYield, Region.wanted, aOp, quiet, loud, aEvals, aParts, aOpt, aBuiltin, rd, win, AV.cells, AV.leaf, aNew, splice, fillA, Nat.reduceEqDiff, Nat.reduceLT, Nat.reduceAdd, Nat.reduceLeDiff, reduceCtorEq, Nat.reduceMul, cfgP, u30, hlen, a0, a3, e1, n1, n2, d95, c0, none_beq]
            exact Fin_pure (l := [.bool false]) (by simp [wk0, wk1, wk2, wk3, wk4, wk5, wk6, aWanted, aYield, Region.wanted, aOp, quiet, loud, aEvals, aParts, aOpt, aBuiltin, rd, win, AV.cells, AV.leaf, aNew, splice, fillA, Nat.reduceEqDiff, Nat.reduceLT, Nat.reduceAdd, Nat.reduceLeDiff, reduceCtorEq, Nat.reduceMul, cfgP, u30, aResults, aResult, hlen]) (.still rfl) (by simp)
  · have hnl : ¬ i < s.length := by simpa using h
    have hd : s.drop i = [] := by simp; omega
    rw [hd, nameG] at hc
    rw [hc, Bool.and_true]
    simp only [wk0, wk1, wk2, wk3, wk4, wk5, wk6, aWanted, aYield, Region.wanted, aOp, quiet, loud, aEvals, aParts, aOpt, aBuiltin, rd, win, AV.cells, AV.leaf, aNew, splice, fillA, Nat.reduceEqDiff, Nat.reduceLT, Nat.reduceAdd, Nat.reduceLeDiff, reduceCtorEq, Nat.reduceMul, cfgP, u30, hlen, a0, a3, str_neq]
    exact Fin_pure (l := [.bool (!(s == []))]) (by simp [wk0, wk1, wk2, wk3, wk4, wk5, wk6, aWanted, aYield, Region.wanted, aOp, quiet, loud, aEvals, aParts, aOpt, aBuiltin, rd, win, AV.cells, AV.leaf, aNew, splice, fillA, Nat.reduceEqDiff, Nat.reduceLT, Nat.reduceAdd, Nat.reduceLeDiff, reduceCtorEq, Nat.reduceMul, cfgP, u30, aResults, aResult, hlen]) (.still rfl) (by simp)

theorem rvalue_ok (s : List UInt8) (hl : s.length ≤ 140737488355000) (prot : Nat) (H : Heap) (hp : prot ≤ H.length) : aLim cfg prot 48 [.str s] H = some (.bool (!(s == []) && validU s), none) := by
  have hsnap : snap H [.str s] = some ([.str s], false) := rfl
  have n1 := rwalk_ok s hl H.length H (Nat.le_refl _)
  have e : decide (((walkU s).2 : Int) = (s.length : Int)) = validU s := by unfold validU; rw [decide_eq_decide]; omega
  refine pure_slim rfl (by kernel_rfl) Try.func48 s48 hp hsnap (by simp [Try.f48]) fun fr hlen h => ?_
  simp only [Has, Nat.zero_add] at h
  obtain ⟨a0, -⟩ := h
  simp only [Try.f48] at hlen ⊢
  unfold g48
  cases hs : s == [] with
  | true =>
    simp only [wk0, wk1, wk2, wk3, wk4, wk5, wk6, aWanted, aYield, Region.wanted, aOp, quiet, loud, aEvals, aParts, aOpt, aBuiltin, rd, win, AV.cells, AV.leaf, aNew, splice, fillA, Nat.reduceEqDiff, Nat.reduceLT, Nat.reduceAdd, Nat.reduceLeDiff, reduceCtorEq, Nat.reduceMul, cfgP, u48, hlen, a0, n1, str_neq, hs, none_beq]
    simp only [Bool.not_true, Bool.false_and]
    exact Fin_pure (l := [.bool false]) (by simp [wk0, wk1, wk2, wk3, wk4, wk5, wk6, aWanted, aYield, Region.wanted, aOp, quiet, loud, aEvals, aParts, aOpt, aBuiltin, rd, win, AV.cells, AV.leaf, aNew, splice, fillA, Nat.reduceEqDiff, Nat.reduceLT, Nat.reduceAdd, Nat.reduceLeDiff, reduceCtorEq, Nat.reduceMul, cfgP, u48, aResults, aResult, hlen]) (.still rfl) (by simp)
  | false =>
    simp only [wk0, wk1, wk2, wk3, wk4, wk5, wk6, aWanted, aYield, Region.wanted, aOp, quiet, loud, aEvals, aParts, aOpt, aBuiltin, rd, win, AV.cells, AV.leaf, aNew, splice, fillA, Nat.reduceEqDiff, Nat.reduceLT, Nat.reduceAdd, Nat.reduceLeDiff, reduceCtorEq, Nat.reduceMul, cfgP, u48, hlen, a0, n1, str_neq, hs, str_len Try.underlying9, e]
    simp only [Bool.not_false, Bool.true_and]
    exact Fin_pure (l := [.bool (validU s)]) (by simp [wk0, wk1, wk2, wk3, wk4, wk5, wk6, aWanted, aYield, Region.wanted, aOp, quiet, loud, aEvals, aParts, aOpt, aBuiltin, rd, win, AV.cells, AV.leaf, aNew, splice, fillA, Nat.reduceEqDiff, Nat.reduceLT, Nat.reduceAdd, Nat.reduceLeDiff, reduceCtorEq, Nat.reduceMul, cfgP, u48, aResults, aResult, hlen]) (.still rfl) (by simp)

-- a pair put where it belongs
def leP (x y : Pr) : Bool := Op.bytesLess x.name y.name || x.name == y.name
def scanK (o : List Pr) (p : Pr) : Nat → Nat
  | 0 => 0
  | j + 1 => if leP p (o.getD j default) then scanK o p j else j + 1
theorem scanK_le (o : List Pr) (p : Pr) : ∀ j, scanK o p j ≤ j
  | 0 => Nat.le_refl _
  | j + 1 => by
    have := scanK_le o p j
    unfold scanK
    split <;> omega
def rstep (st : List Pr × Bool) (p : Pr) : List Pr × Bool :=
  let k := scanK st.1 p st.1.length
  (st.1.take k ++ p :: st.1.drop k, st.2 || (st.1.drop k).any fun y => p.name == y.name)
def rofGo (st : List Pr × Bool) : List Pr → List Pr × Int
  | [] => if st.2 then ([], 10) else (st.1, 0)
  | p :: r => if badP p then ([], 3) else rofGo (rstep st p) r

theorem rowTakeS {base : Nat} {H : Heap} {o : AV} {l : List Pr} (ho : Row encP 2 true base H o l) {t : TypeId} (hu : Try.prog.underlying t = some (.slice 68)) (k : Nat) (hk : k ≤ l.length) :
    ∃ s, aSlice Try.prog t o none (some (.int .i64 k)) none = some s ∧ (∀ H', (∀ b v cs, hget H b v = some cs → hget H' b v = some cs) → elemCells H' 2 s = some (k, cellsOf encP (l.take k))) := by
  rcases ho with ⟨rfl, rfl⟩ | ⟨b, ver, rfl, h2, h3, h4⟩
  · obtain rfl : k = 0 := by simpa using hk
    exact ⟨.nilS, by simp [aSlice, hu, sz68, aBounds, optInt], fun H' _ => rfl⟩
  · refine ⟨.bs ⟨b, ver, 0, k, 0, 2, true, false⟩, by simp [aSlice, hu, sz68, aBounds, optInt, hk], fun H' hH' => ?_⟩
    have hw : win (cellsOf encP l) 0 (k * 2) = some (cellsOf encP (l.take k)) := by
      have e : cellsOf encP l = cellsOf encP (l.take k) ++ cellsOf encP (l.drop k) := by rw [← cellsOf_append, List.take_append_drop]
      have h1 := cellsOf_length encP_T (l.take k)
      have h2 := cellsOf_length encP_T l
      rw [List.length_take, Nat.min_eq_left hk] at h1
      unfold win
      rw [if_pos (by omega), List.drop_zero, e, List.take_append_of_le_length (by omega), List.take_of_length_le (by omega)]
    simp [elemCells, hH' _ _ _ h3, hw]
theorem rowDropS {base : Nat} {H : Heap} {o : AV} {l : List Pr} (ho : Row encP 2 true base H o l) {t : TypeId} (hu : Try.prog.underlying t = some (.slice 68)) (k : Nat) (hk : k ≤ l.length) :
    ∃ s, aSlice Try.prog t o (some (.int .i64 k)) none none = some s ∧ (∀ H', (∀ b v cs, hget H b v = some cs → hget H' b v = some cs) → elemCells H' 2 s = some ((l.drop k).length, cellsOf encP (l.drop k))) ∧ (s = .nilS ∨ (∃ es f, s = .vs es f) ∨ ∃ b, s = .bs b) := by
  rcases ho with ⟨rfl, rfl⟩ | ⟨b, ver, rfl, h2, h3, h4⟩
  · obtain rfl : k = 0 := by simpa using hk
    exact ⟨.nilS, by simp [aSlice, hu, sz68, aBounds, optInt], fun H' _ => rfl, .inl rfl⟩
  · have hw := cellsOf_drop encP_T l k hk
    by_cases h0 : k = 0
    · subst h0
      refine ⟨.bs ⟨b, ver, 0, l.length, 0, 2, true, false⟩, by simp [aSlice, hu, sz68, aBounds, optInt], fun H' hH' => ?_, .inr (.inr ⟨_, rfl⟩)⟩
      simp only [Nat.zero_mul, Nat.sub_zero, List.drop_zero] at hw ⊢
      simp [elemCells, hH' _ _ _ h3, hw]
    · by_cases h1 : l.length = k
      · refine ⟨.vs [] false, by simp [aSlice, hu, sz68, aBounds, optInt, h0, h1], fun H' _ => ?_, .inr (.inl ⟨_, _, rfl⟩)⟩
        rw [List.drop_eq_nil_of_le (by omega)]; rfl
      · refine ⟨.bs ⟨b, ver, k * 2, l.length - k, 0, 2, true, false⟩, by simp [aSlice, hu, sz68, aBounds, optInt, h0, h1, hk], fun H' hH' => ?_, .inr (.inr ⟨_, rfl⟩)⟩
        simp [elemCells, hH' _ _ _ h3, hw]
/-- three appends: the ones ahead, a new one, the ones behind. -/
theorem ins3 {base prot : Nat} {H : Heap} {o : AV} {l : List Pr} (ho : Row encP 2 true base H o l) (hb : prot ≤ base) (hbl : base ≤ H.length) (k : Nat) (hk : k ≤ l.length) (p : Pr) (hl : l.length < 1000000) :
    ∃ s1 s2 x1 h1 x2 H2 x3 h3, aSlice Try.prog 22 o none (some (.int .i64 k)) none = some s1 ∧ aSlice Try.prog 22 o (some (.int .i64 k)) none none = some s2 ∧
      aAppend Try.prog prot H #[22, 22] (.vs [] true) s1 = some (x1, h1) ∧
      aAppend Try.prog prot (h1.getD H) #[22, 22] x1 (.vs [encP p] true) = some (x2, some H2) ∧
      aAppend Try.prog prot H2 #[22, 22] x2 s2 = some (x3, h3) ∧
      Row encP 2 true base (h3.getD H2) x3 (l.take k ++ p :: l.drop k) ∧ H.length ≤ (h3.getD H2).length ∧ (∀ b v cs, hget H b v = some cs → hget (h1.getD H) b v = some cs) ∧ x3 ≠ .nilS := by
  have hxt : (∃ e', Try.prog.underlying 22 = some (.slice e')) ∨ Try.prog.underlying 22 = some .string := .inl ⟨_, Try.underlying22⟩
  obtain ⟨s1, e1, e2⟩ := rowTakeS ho Try.underlying22 k hk
  obtain ⟨s2, g1, g2, g3⟩ := rowDropS ho Try.underlying22 k hk
  have e2' := e2 H fun _ _ _ h => h
  -- behind the second one
  have fin : ∀ (x2 : AV) (H2 : Heap), Row encP 2 true base H2 x2 (l.take k ++ [p]) → x2 ≠ .nilS → H.length ≤ H2.length → (∀ b v cs, hget H b v = some cs → hget H2 b v = some cs) →
      ∃ x3 h3, aAppend Try.prog prot H2 #[22, 22] x2 s2 = some (x3, h3) ∧ Row encP 2 true base (h3.getD H2) x3 (l.take k ++ p :: l.drop k) ∧ H.length ≤ (h3.getD H2).length ∧ x3 ≠ .nilS := by
    intro x2 H2 hx hne hH2 hold
    have hx2 := g2 H2 hold
    have ea : l.take k ++ p :: l.drop k = (l.take k ++ [p]) ++ l.drop k := by simp
    by_cases h0 : (l.drop k).length = 0
    · rw [h0] at hx2
      have hd : l.drop k = [] := List.eq_nil_of_length_eq_zero h0
      rw [hd] at hx2 ea
      have hkind : x2 = .nilS ∨ (∃ es f, x2 = .vs es f) ∨ ∃ b, x2 = .bs b := by
        rcases hx with ⟨h, _⟩ | ⟨b, ver, h, _⟩
        · exact .inl h
        · exact .inr (.inr ⟨_, h⟩)
      refine ⟨x2, none, app_zero rowRp hxt hkind hx2, ?_, hH2, hne⟩
      rw [hd, ea, List.append_nil]; exact hx
    · obtain ⟨x3, H3, h1, h2, h3, h4, _⟩ := hx.appB encP_T rowRp hxt hx2 (by omega) (by simp [roomy]; omega) hb (Nat.le_trans hbl hH2)
      exact ⟨x3, some H3, h1, by rw [ea]; exact h2, Nat.le_trans hH2 h3, h4⟩
  by_cases h0 : k = 0
  · subst h0
    have ha := app_zero (P := Try.prog) (prot := prot) (H := H) rowRp hxt (s := .vs [] true) (.inr (.inl ⟨_, _, rfl⟩)) e2'
    have hb2 := app_full (P := Try.prog) (prot := prot) (H := H) (enc := encP) rowRp hxt encP_T [] (elem_vs encP_T [p] true) (by simp) (by simp [roomy])
    simp only [List.map_nil, List.nil_append, List.map_cons] at hb2
    obtain ⟨x3, h3, k1, k2, k3, k4⟩ := fin (.bs ⟨H.length, 0, 0, [p].length, 0, 2, true, false⟩) (H ++ [Blk.cells 0 (cellsOf encP [p])]) (.inr ⟨H.length, 0, rfl, hbl, by rw [hget_new rfl, if_pos rfl]; rfl, rfl⟩) (by simp) (by simp) fun b v cs h => hget_mono h _
    exact ⟨s1, s2, .vs [] true, none, .bs ⟨H.length, 0, 0, [p].length, 0, 2, true, false⟩, H ++ [Blk.cells 0 (cellsOf encP [p])], x3, h3, e1, g1, ha, hb2, k1, k2, k3, fun _ _ _ h => h, k4⟩
  · have hlt : (l.take k).length = k := by simp; omega
    have ha := app_full (P := Try.prog) (prot := prot) (H := H) (enc := encP) rowRp hxt encP_T [] (x := s1) (m := l.take k) (by rw [hlt]; exact e2') (by omega) (by simp [roomy]; omega)
    simp only [List.map_nil, List.nil_append] at ha
    have hr1 : Row encP 2 true base (H ++ [Blk.cells 0 (cellsOf encP (l.take k))]) (.bs ⟨H.length, 0, 0, (l.take k).length, 0, 2, true, false⟩) (l.take k) := .inr ⟨H.length, 0, rfl, hbl, by rw [hget_new rfl]; rfl, rfl⟩
    obtain ⟨x2, H2, m1, m2, m3, m4, m5⟩ := hr1.app (prot := prot) (xt := 22) encP_T rowRp hxt (elem_vs encP_T [p] true) (by simp) (by simp [roomy]; omega) hb (by simp; omega)
    obtain ⟨x3, h3, k1, k2, k3, k4⟩ := fin x2 H2 m2 m4 (Nat.le_trans (by simp) m3) fun b v cs h => m5 _ _ _ (hget_mono h _) fun s hs => by
      cases hs
      have := hget_lt h
      simp only; omega
    exact ⟨s1, s2, _, _, x2, H2, x3, h3, e1, g1, ha, m1, k1, k2, k3, fun _ _ _ h => hget_mono h _, k4⟩

theorem rowCell {base : Nat} {H : Heap} {o : AV} {l : List Pr} (ho : Row encP 2 true base H o l) {t : TypeId} (hu : Try.prog.underlying t = some (.slice 68)) {i : Nat} (hi : i < l.length) (k : IntKind) :
    ∃ b ver, aIndexAddr Try.prog t o (.int k i) = some (.ptr b ver (i * 2)) ∧ hget H b ver = some (cellsOf encP l) ∧ (cellsOf encP l)[i * 2]? = some (.str (l.getD i default).name) := by
  have hcr : CRow encP 2 true H o l := .inl (by
    rcases ho with h | ⟨b, ver, h1, h2, h3, h4⟩
    · exact .inl h
    · exact .inr ⟨b, ver, h1, Nat.zero_le _, h3, h4⟩)
  obtain ⟨b, ver, h1, h2⟩ := hcr.get hi hu sz68 k
  refine ⟨b, ver, h1, h2, ?_⟩
  have := cellsOf_at encP_T l i hi 0 (by omega)
  rw [Nat.add_zero] at this
  rw [this]
  simp [encP, AV.cells, List.getD, hi]

theorem rof_ok (l : List Pr) (w : AV) (hw : Sl encP w l) (hl : l.length < 1000000) (hls : ∀ x ∈ l, x.name.length ≤ 140737488355000 ∧ x.val.length ≤ 140737488355000) (prot : Nat) (H : Heap) (hp : prot ≤ H.length) :
    aLim cfg prot 19 [w] H = some (.tup [slv encP (rofGo ([], false) l).1, .int .i64 (rofGo ([], false) l).2], none) := by
  have hsnap : snap H [w] = some ([w], false) := by cases hw <;> rfl
  have hfz : ∀ (K : Heap) (e : Int), Frz K H.length (packR [.nilS, .int .i64 e]) (.tup [.nilS, .int .i64 e]) := fun K e => .tup (.cons (.still rfl) (.cons (.still rfl) .nil))
  refine pure_slim rfl (by kernel_rfl) Try.func19 s19 hp hsnap (by simp [Try.f19]) fun fr hlen h => ?_
  simp only [Has, Nat.zero_add] at h
  obtain ⟨a0, -⟩ := h
  simp only [Try.f19] at hlen ⊢
  unfold g19
  simp only [wk0, wk1, wk2, wk3, wk4, wk5, wk6, aWanted, aYield, Region.wanted, aOp, quiet, loud, aEvals, aParts, aOpt, aBuiltin, rd, win, AV.cells, AV.leaf, aNew, splice, fillA, Nat.reduceEqDiff, Nat.reduceLT, Nat.reduceAdd, Nat.reduceLeDiff, reduceCtorEq, Nat.reduceMul, cfgP, u19, hlen, a0, hw.len Try.underlying22]
  refine loop_rule (fun m fr H' => ∃ (i : Nat) (o : AV) (st : List Pr × Bool), m = l.length - i ∧ i ≤ l.length ∧ fr.length = 73 ∧ fget fr 4 = o ∧ fget fr 5 = .bool st.2 ∧ fget fr 10 = w ∧ fget fr 11 = .int .i64 l.length ∧ fget fr 12 = .int .i64 i
    ∧ H.length ≤ H'.length ∧ Row encP 2 true H.length H' o st.1 ∧ st.1.length = i ∧ (o = .nilS ∨ st.1 ≠ []) ∧ rofGo ([], false) l = rofGo st (l.drop i)) ?_ l.length _ _ ⟨0, .nilS, ([], false), by simp [wk0, wk1, wk2, wk3, wk4, wk5, wk6, aWanted, aYield, Region.wanted, aOp, quiet, loud, aEvals, aParts, aOpt, aBuiltin, rd, win, AV.cells, AV.leaf, aNew, splice, fillA, Nat.reduceEqDiff, Nat.reduceLT, Nat.reduceAdd, Nat.reduceLeDiff, reduceCtorEq, Nat.reduceMul, cfgP, u19, hlen, a0, Row.nil]⟩
  rintro m fr H' ⟨i, o, st, rfl, hi, hlen, a4, a5, a10, a11, a12, hH, hrow, hsl, hne, hc⟩ ih
  obtain ⟨s, tw⟩ := st
  simp only at a5 hrow hsl hne
  simp only [wk0, wk1, wk2, wk3, wk4, wk5, wk6, aWanted, aYield, Region.wanted, aOp, quiet, loud, aEvals, aParts, aOpt, aBuiltin, rd, win, AV.cells, AV.leaf, aNew, splice, fillA, Nat.reduceEqDiff, Nat.reduceLT, Nat.reduceAdd, Nat.reduceLeDiff, reduceCtorEq, Nat.reduceMul, cfgP, u19, hlen, a4, a5, a10, a11, a12]
  refine RC_split (fun h => ?_) (fun h => ?_)
  · have hlt : i < l.length := by simpa using h
    have hww : IntKind.i64.wrap ((i : Int) + 1) = ((i + 1 : Nat) : Int) := by rw [wrap64 (by omega) (by omega)]; simp
    have e1 := hw.at (k := .i64) Try.underlying22 sz68 encP_len hlt
    rw [List.drop_eq_getElem_cons hlt, rofGo] at hc
    have hx := hls l[i] (List.getElem_mem hlt)
    generalize l[i] = p at *
    have hgp : hget (H' ++ [Blk.cells 0 [.str p.name, .str p.val]]) H'.length 0 = some [.str p.name, .str p.val] := by rw [hget_new rfl, if_pos rfl]
    have n1 := rname_ok p.name (by omega) H.length (H' ++ [Blk.cells 0 [.str p.name, .str p.val]]) (by simp; omega)
    have n2 := rvalue_ok p.val (by omega) H.length (H' ++ [Blk.cells 0 [.str p.name, .str p.val]]) (by simp; omega)
    have hrow1 := hrow.more [Blk.cells 0 [.str p.name, .str p.val]]
    have hH1 : H.length ≤ (H' ++ [Blk.cells 0 [.str p.name, .str p.val]]).length := by simp; omega
    cases hb : badP p with
    | true =>
      rw [hb, if_pos rfl] at hc
      rw [hc]
      unfold badP at hb
      cases hn : nameL p.name with
      | false =>
        rw [hn] at n1
        simp only [wk0, wk1, wk2, wk3, wk4, wk5, wk6, aWanted, aYield, Region.wanted, aOp, quiet, loud, aEvals, aParts, aOpt, aBuiltin, rd, win, AV.cells, AV.leaf, aNew, splice, fillA, Nat.reduceEqDiff, Nat.reduceLT, Nat.reduceAdd, Nat.reduceLeDiff, reduceCtorEq, Nat.reduceMul, cfgP, u19, hlen, a4, a5, a10, a11, a12, e1, encP, hH, n1, none_beq]
        exact Fin_pure (l := [.nilS, .int .i64 3]) (by simp [wk0, wk1, wk2, wk3, wk4, wk5, wk6, aWanted, aYield, Region.wanted, aOp, quiet, loud, aEvals, aParts, aOpt, aBuiltin, rd, win, AV.cells, AV.leaf, aNew, splice, fillA, Nat.reduceEqDiff, Nat.reduceLT, Nat.reduceAdd, Nat.reduceLeDiff, reduceCtorEq, Nat.reduceMul, cfgP, u19, hlen, aResults, aResult]) (hfz _ _) (by simp)
      | true =>
        rw [hn] at n1 hb
        have hv : (!(p.val == []) && validU p.val) = false := by
          revert hb
          cases p.val == [] <;> cases validU p.val <;> simp
        rw [hv] at n2
        simp only [wk0, wk1, wk2, wk3, wk4, wk5, wk6, aWanted, aYield, Region.wanted, aOp, quiet, loud, aEvals, aParts, aOpt, aBuiltin, rd, win, AV.cells, AV.leaf, aNew, splice, fillA, Nat.reduceEqDiff, Nat.reduceLT, Nat.reduceAdd, Nat.reduceLeDiff, reduceCtorEq, Nat.reduceMul, cfgP, u19, hlen, a4, a5, a10, a11, a12, e1, encP, hH, n1, n2, none_beq]
        exact Fin_pure (l := [.nilS, .int .i64 3]) (by simp [wk0, wk1, wk2, wk3, wk4, wk5, wk6, aWanted, aYield, Region.wanted, aOp, quiet, loud, aEvals, aParts, aOpt, aBuiltin, rd, win, AV.cells, AV.leaf, aNew, splice, fillA, Nat.reduceEqDiff, Nat.reduceLT, Nat.reduceAdd, Nat.reduceLeDiff, reduceCtorEq, Nat.reduceMul, cfgP, u19, hlen, aResults, aResult]) (hfz _ _) (by simp)
    | false =>
      rw [hb, if_neg (by simp)] at hc
      unfold badP at hb
      have hn : nameL p.name = true := by revert hb; cases nameL p.name <;> simp
      rw [hn] at n1 hb
      have hv : (!(p.val == []) && validU p.val) = true := by
        revert hb
        cases p.val == [] <;> cases validU p.val <;> simp
      rw [hv] at n2
      simp only [wk0, wk1, wk2, wk3, wk4, wk5, wk6, aWanted, aYield, Region.wanted, aOp, quiet, loud, aEvals, aParts, aOpt, aBuiltin, rd, win, AV.cells, AV.leaf, aNew, splice, fillA, Nat.reduceEqDiff, Nat.reduceLT, Nat.reduceAdd, Nat.reduceLeDiff, reduceCtorEq, Nat.reduceMul, cfgP, u19, hlen, a4, a5, a10, a11, a12, e1, encP, hH, n1, n2, none_beq, hrow1.len Try.underlying22]
      refine loop_rule (fun m fr K => ∃ (j : Nat), m = j ∧ j ≤ s.length ∧ fr.length = 73 ∧ fget fr 4 = o ∧ fget fr 5 = .bool (tw || (s.drop j).any fun y => p.name == y.name) ∧ fget fr 7 = .ptr H'.length 0 0 ∧ fget fr 8 = .int .i64 j ∧ fget fr 10 = w ∧ fget fr 11 = .int .i64 l.length ∧ fget fr 12 = .int .i64 i
        ∧ K = H' ++ [Blk.cells 0 [.str p.name, .str p.val]] ∧ scanK s p s.length = scanK s p j) ?_ s.length _ _ ⟨s.length, by
          refine ⟨rfl, Nat.le_refl _, ?_⟩
          simp [wk0, wk1, wk2, wk3, wk4, wk5, wk6, aWanted, aYield, Region.wanted, aOp, quiet, loud, aEvals, aParts, aOpt, aBuiltin, rd, win, AV.cells, AV.leaf, aNew, splice, fillA, Nat.reduceEqDiff, Nat.reduceLT, Nat.reduceAdd, Nat.reduceLeDiff, reduceCtorEq, Nat.reduceMul, cfgP, u19, hlen, a4, a5, a10, a11, a12]⟩
      rintro m fr K ⟨j, rfl, hj, hlen, a4, a5, a7, a8, a10, a11, a12, rfl, hsc⟩ ih2
      cases m with
      | zero =>
        have hk : scanK s p s.length = 0 := hsc
        have a8 : fget fr 8 = .int .i64 0 := a8
        have d0 : decide ((0 : Int) < 0) = false := rfl
        obtain ⟨s1, s2, x1, h1, x2, H2, x3, h3, q1, q2, q3, q4, q5, q6, q7, q8, q9⟩ := ins3 hrow1 (Nat.le_refl _) hH1 0 (by omega) p (by omega)
        have hgp2 := q8 _ _ _ hgp
        have hrs : rstep (s, tw) p = (s.take 0 ++ p :: s.drop 0, tw || (s.drop 0).any fun y => p.name == y.name) := by simp only [rstep, hk]
        have hlit := litRp p
        have q1 : aSlice Try.prog 22 o none (some (.int .i64 0)) none = some s1 := q1
        have q2 : aSlice Try.prog 22 o (some (.int .i64 0)) none none = some s2 := q2
        have hlit0 : ∀ K, aBuildSlice Try.prog K 22 0 [] = some (.vs [] true, none) := fun K => lit0 rowRp ze68 rfl
        simp only [encP, List.map_cons, List.map_nil] at q4 hlit
        simp only [wk0, wk1, wk2, wk3, wk4, wk5, wk6, aWanted, aYield, Region.wanted, aOp, quiet, loud, aEvals, aParts, aOpt, aBuiltin, rd, win, AV.cells, AV.leaf, aNew, splice, fillA, Nat.reduceEqDiff, Nat.reduceLT, Nat.reduceAdd, Nat.reduceLeDiff, reduceCtorEq, Nat.reduceMul, cfgP, u19, hlen, a4, a5, a7, a8, a10, a11, a12, d0, none_beq, q1, q2, q3, q4, q5, hlit0, hlit, S1_any, hgp, hgp2, hww]
        refine ih _ _ (l.length - (i + 1)) (by omega) ⟨i + 1, x3, rstep (s, tw) p, rfl, hlt, ?_⟩
        have hne3 : (s.take 0 ++ p :: s.drop 0) ≠ [] := by simp
        have hln3 : (s.take 0 ++ p :: s.drop 0).length = i + 1 := by simp only [List.length_append, List.length_cons, List.length_take, List.length_drop]; omega
        rw [hrs] at hc ⊢
        simp only at hc ⊢
        have hH3 : H.length ≤ (h3.getD H2).length := Nat.le_trans hH1 q7
        refine ⟨by simp [wk0, wk1, wk2, wk3, wk4, wk5, wk6, aWanted, aYield, Region.wanted, aOp, quiet, loud, aEvals, aParts, aOpt, aBuiltin, rd, win, AV.cells, AV.leaf, aNew, splice, fillA, Nat.reduceEqDiff, Nat.reduceLT, Nat.reduceAdd, Nat.reduceLeDiff, reduceCtorEq, Nat.reduceMul, cfgP, u19, hlen], by simp [wk0, wk1, wk2, wk3, wk4, wk5, wk6, aWanted, aYield, Region.wanted, aOp, quiet, loud, aEvals, aParts, aOpt, aBuiltin, rd, win, AV.cells, AV.leaf, aNew, splice, fillA, Nat.reduceEqDiff, Nat.reduceLT, Nat.reduceAdd, Nat.reduceLeDiff, reduceCtorEq, Nat.reduceMul, cfgP, u19, hlen], by simp [wk0, wk1, wk2, wk3, wk4, wk5, wk6, aWanted, aYield, Region.wanted, aOp, quiet, loud, aEvals, aParts, aOpt, aBuiltin, rd, win, AV.cells, AV.leaf, aNew, splice, fillA, Nat.reduceEqDiff, Nat.reduceLT, Nat.reduceAdd, Nat.reduceLeDiff, reduceCtorEq, Nat.reduceMul, cfgP, u19, hlen, a5], by simp [wk0, wk1, wk2, wk3, wk4, wk5, wk6, aWanted, aYield, Region.wanted, aOp, quiet, loud, aEvals, aParts, aOpt, aBuiltin, rd, win, AV.cells, AV.leaf, aNew, splice, fillA, Nat.reduceEqDiff, Nat.reduceLT, Nat.reduceAdd, Nat.reduceLeDiff, reduceCtorEq, Nat.reduceMul, cfgP, u19, hlen, a10], by simp [wk0, wk1, wk2, wk3, wk4, wk5, wk6, aWanted, aYield, Region.wanted, aOp, quiet, loud, aEvals, aParts, aOpt, aBuiltin, rd, win, AV.cells, AV.leaf, aNew, splice, fillA, Nat.reduceEqDiff, Nat.reduceLT, Nat.reduceAdd, Nat.reduceLeDiff, reduceCtorEq, Nat.reduceMul, cfgP, u19, hlen, a11], by simp [wk0, wk1, wk2, wk3, wk4, wk5, wk6, aWanted, aYield, Region.wanted, aOp, quiet, loud, aEvals, aParts, aOpt, aBuiltin, rd, win, AV.cells, AV.leaf, aNew, splice, fillA, Nat.reduceEqDiff, Nat.reduceLT, Nat.reduceAdd, Nat.reduceLeDiff, reduceCtorEq, Nat.reduceMul, cfgP, u19, hlen], hH3, q6, hln3, .inr hne3, hc⟩
      | succ k =>
        obtain ⟨b, ver, g1, g2, g3⟩ := rowCell hrow1 Try.underlying22 (i := k) (by omega) .i64
        have d0 : decide ((0 : Int) < ((k + 1 : Nat) : Int)) = true := decide_eq_true (by omega)
        have wk' : IntKind.i64.wrap (((k + 1 : Nat) : Int) - 1) = (k : Int) := by rw [wrap64 (by omega) (by omega)]; omega
        have hdk : s.drop k = s[k] :: s.drop (k + 1) := List.drop_eq_getElem_cons (by omega)
        have hgd : s.getD k default = s[k] := by simp [List.getD, show k < s.length by omega]
        have lq : ∀ a c : List UInt8, aStr .leq a c = some (.bool (Op.bytesLess a c || a == c)) := fun _ _ => rfl
        rw [scanK] at hsc
        cases hle : leP p (s.getD k default) with
        | true =>
          rw [hle, if_pos rfl] at hsc
          unfold leP at hle
          have han : (tw || (s.drop k).any fun y => p.name == y.name) = ((tw || (s.drop (k + 1)).any fun y => p.name == y.name) || p.name == (s.getD k default).name) := by
            rw [hdk, List.any_cons, hgd]
            cases tw <;> cases (p.name == s[k].name) <;> simp
          have fin2 : ∀ fr' : List AV, fr'.length = 73 → fget fr' 4 = o → fget fr' 5 = .bool (tw || (s.drop k).any fun y => p.name == y.name) → fget fr' 7 = .ptr H'.length 0 0 → fget fr' 8 = .int .i64 k → fget fr' 10 = w → fget fr' 11 = .int .i64 l.length → fget fr' 12 = .int .i64 i →
            ∃ j : Nat, k = j ∧ j ≤ s.length ∧ fr'.length = 73 ∧ fget fr' 4 = o ∧ fget fr' 5 = .bool (tw || (s.drop j).any fun y => p.name == y.name) ∧ fget fr' 7 = .ptr H'.length 0 0 ∧ fget fr' 8 = .int .i64 j ∧ fget fr' 10 = w ∧ fget fr' 11 = .int .i64 l.length ∧ fget fr' 12 = .int .i64 i
            ∧ H' ++ [Blk.cells 0 [.str p.name, .str p.val]] = H' ++ [Blk.cells 0 [.str p.name, .str p.val]] ∧ scanK s p s.length = scanK s p j := fun fr' k1 k2 k3 k4 k5 k6 k7 k8 => ⟨k, rfl, by omega, k1, k2, k3, k4, k5, k6, k7, k8, rfl, hsc⟩
          cases htw : (tw || (s.drop (k + 1)).any fun y => p.name == y.name) with
          | true =>
            rw [htw] at a5 han
            simp only [Bool.true_or] at han
            simp only [wk0, wk1, wk2, wk3, wk4, wk5, wk6, aWanted, aYield, Region.wanted, aOp, quiet, loud, aEvals, aParts, aOpt, aBuiltin, rd, win, AV.cells, AV.leaf, aNew, splice, fillA, Nat.reduceEqDiff, Nat.reduceLT, Nat.reduceAdd, Nat.reduceLeDiff, reduceCtorEq, Nat.reduceMul, cfgP, u19, hlen, a4, a5, a7, a8, a10, a11, a12, d0, wk', hgp, g1, g2, g3, lq, hle, none_beq]
            exact ih2 _ _ k (by omega) (fin2 _ (by simp [wk0, wk1, wk2, wk3, wk4, wk5, wk6, aWanted, aYield, Region.wanted, aOp, quiet, loud, aEvals, aParts, aOpt, aBuiltin, rd, win, AV.cells, AV.leaf, aNew, splice, fillA, Nat.reduceEqDiff, Nat.reduceLT, Nat.reduceAdd, Nat.reduceLeDiff, reduceCtorEq, Nat.reduceMul, cfgP, u19, hlen]) (by simp [wk0, wk1, wk2, wk3, wk4, wk5, wk6, aWanted, aYield, Region.wanted, aOp, quiet, loud, aEvals, aParts, aOpt, aBuiltin, rd, win, AV.cells, AV.leaf, aNew, splice, fillA, Nat.reduceEqDiff, Nat.reduceLT, Nat.reduceAdd, Nat.reduceLeDiff, reduceCtorEq, Nat.reduceMul, cfgP, u19, hlen, a4]) (by simp [wk0, wk1, wk2, wk3, wk4, wk5, wk6, aWanted, aYield, Region.wanted, aOp, quiet, loud, aEvals, aParts, aOpt, aBuiltin, rd, win, AV.cells, AV.leaf, aNew, splice, fillA, Nat.reduceEqDiff, Nat.reduceLT, Nat.reduceAdd, Nat.reduceLeDiff, reduceCtorEq, Nat.reduceMul, cfgP, u19, hlen, han]) (by simp [wk0, wk1, wk2, wk3, wk4, wk5, wk6, aWanted, aYield, Region.wanted, aOp, quiet, loud, aEvals, aParts, aOpt, aBuiltin, rd, win, AV.cells, AV.leaf, aNew, splice, fillA, Nat.reduceEqDiff, Nat.reduceLT, Nat.reduceAdd, Nat.reduceLeDiff, reduceCtorEq, Nat.reduceMul, cfgP, u19, hlen, a7]) (by simp [wk0, wk1, wk2, wk3, wk4, wk5, wk6, aWanted, aYield, Region.wanted, aOp, quiet, loud, aEvals, aParts, aOpt, aBuiltin, rd, win, AV.cells, AV.leaf, aNew, splice, fillA, Nat.reduceEqDiff, Nat.reduceLT, Nat.reduceAdd, Nat.reduceLeDiff, reduceCtorEq, Nat.reduceMul, cfgP, u19, hlen]) (by simp [wk0, wk1, wk2, wk3, wk4, wk5, wk6, aWanted, aYield, Region.wanted, aOp, quiet, loud, aEvals, aParts, aOpt, aBuiltin, rd, win, AV.cells, AV.leaf, aNew, splice, fillA, Nat.reduceEqDiff, Nat.reduceLT, Nat.reduceAdd, Nat.reduceLeDiff, reduceCtorEq, Nat.reduceMul, cfgP, u19, hlen, a10]) (by simp [wk0, wk1, wk2, wk3, wk4, wk5, wk6, aWanted, aYield, Region.wanted, aOp, quiet, loud, aEvals, aParts, aOpt, aBuiltin, rd, win, AV.cells, AV.leaf, aNew, splice, fillA, Nat.reduceEqDiff, Nat.reduceLT, Nat.reduceAdd, Nat.reduceLeDiff, reduceCtorEq, Nat.reduceMul, cfgP, u19, hlen, a11]) (by simp [wk0, wk1, wk2, wk3, wk4, wk5, wk6, aWanted, aYield, Region.wanted, aOp, quiet, loud, aEvals, aParts, aOpt, aBuiltin, rd, win, AV.cells, AV.leaf, aNew, splice, fillA, Nat.reduceEqDiff, Nat.reduceLT, Nat.reduceAdd, Nat.reduceLeDiff, reduceCtorEq, Nat.reduceMul, cfgP, u19, hlen, a12]))
          | false =>
            rw [htw] at a5 han
            simp only [Bool.false_or] at han
            simp only [wk0, wk1, wk2, wk3, wk4, wk5, wk6, aWanted, aYield, Region.wanted, aOp, quiet, loud, aEvals, aParts, aOpt, aBuiltin, rd, win, AV.cells, AV.leaf, aNew, splice, fillA, Nat.reduceEqDiff, Nat.reduceLT, Nat.reduceAdd, Nat.reduceLeDiff, reduceCtorEq, Nat.reduceMul, cfgP, u19, hlen, a4, a5, a7, a8, a10, a11, a12, d0, wk', hgp, g1, g2, g3, lq, str_eql, hle, none_beq]
            exact ih2 _ _ k (by omega) (fin2 _ (by simp [wk0, wk1, wk2, wk3, wk4, wk5, wk6, aWanted, aYield, Region.wanted, aOp, quiet, loud, aEvals, aParts, aOpt, aBuiltin, rd, win, AV.cells, AV.leaf, aNew, splice, fillA, Nat.reduceEqDiff, Nat.reduceLT, Nat.reduceAdd, Nat.reduceLeDiff, reduceCtorEq, Nat.reduceMul, cfgP, u19, hlen]) (by simp [wk0, wk1, wk2, wk3, wk4, wk5, wk6, aWanted, aYield, Region.wanted, aOp, quiet, loud, aEvals, aParts, aOpt, aBuiltin, rd, win, AV.cells, AV.leaf, aNew, splice, fillA, Nat.reduceEqDiff, Nat.reduceLT, Nat.reduceAdd, Nat.reduceLeDiff, reduceCtorEq, Nat.reduceMul, cfgP, u19, hlen, a4]) (by simp [wk0, wk1, wk2, wk3, wk4, wk5, wk6, aWanted, aYield, Region.wanted, aOp, quiet, loud, aEvals, aParts, aOpt, aBuiltin, rd, win, AV.cells, AV.leaf, aNew, splice, fillA, Nat.reduceEqDiff, Nat.reduceLT, Nat.reduceAdd, Nat.reduceLeDiff, reduceCtorEq, Nat.reduceMul, cfgP, u19, hlen, han]) (by simp [wk0, wk1, wk2, wk3, wk4, wk5, wk6, aWanted, aYield, Region.wanted, aOp, quiet, loud, aEvals, aParts, aOpt, aBuiltin, rd, win, AV.cells, AV.leaf, aNew, splice, fillA, Nat.reduceEqDiff, Nat.reduceLT, Nat.reduceAdd, Nat.reduceLeDiff, reduceCtorEq, Nat.reduceMul, cfgP, u19, hlen, a7]) (by simp [wk0, wk1, wk2, wk3, wk4, wk5, wk6, aWanted, aYield, Region.wanted, aOp, quiet, loud, aEvals, aParts, aOpt, aBuiltin, rd, win, AV.cells, AV.leaf, aNew, splice, fillA, Nat.reduceEqDiff, Nat.reduceLT, Nat.reduceAdd, Nat.reduceLeDiff, reduceCtorEq, Nat.reduceMul, cfgP, u19, hlen]) (by simp [wk0, wk1, wk2, wk3, wk4, wk5, wk6, aWanted, aYield, Region.wanted, aOp, quiet, loud, aEvals, aParts, aOpt, aBuiltin, rd, win, AV.cells, AV.leaf, aNew, splice, fillA, Nat.reduceEqDiff, Nat.reduceLT, Nat.reduceAdd, Nat.reduceLeDiff, reduceCtorEq, Nat.reduceMul, cfgP, u19, hlen, a10]) (by simp [wk0, wk1, wk2, wk3, wk4, wk5, wk6, aWanted, aYield, Region.wanted, aOp, quiet, loud, aEvals, aParts, aOpt, aBuiltin, rd, win, AV.cells, AV.leaf, aNew, splice, fillA, Nat.reduceEqDiff, Nat.reduceLT, Nat.reduceAdd, Nat.reduceLeDiff, reduceCtorEq, Nat.reduceMul, cfgP, u19, hlen, a11]) (by simp [wk0, wk1, wk2, wk3, wk4, wk5, wk6, aWanted, aYield, Region.wanted, aOp, quiet, loud, aEvals, aParts, aOpt, aBuiltin, rd, win, AV.cells, AV.leaf, aNew, splice, fillA, Nat.reduceEqDiff, Nat.reduceLT, Nat.reduceAdd, Nat.reduceLeDiff, reduceCtorEq, Nat.reduceMul, cfgP, u19, hlen, a12]))
        | false =>
          rw [hle, if_neg (by simp)] at hsc
          unfold leP at hle
          have hk : scanK s p s.length = k + 1 := hsc
          obtain ⟨s1, s2, x1, h1, x2, H2, x3, h3, q1, q2, q3, q4, q5, q6, q7, q8, q9⟩ := ins3 hrow1 (Nat.le_refl _) hH1 (k + 1) (by omega) p (by omega)
          have hgp2 := q8 _ _ _ hgp
          have hrs : rstep (s, tw) p = (s.take (k + 1) ++ p :: s.drop (k + 1), tw || (s.drop (k + 1)).any fun y => p.name == y.name) := by simp only [rstep, hk]
          have hlit := litRp p
          have q1 : aSlice Try.prog 22 o none (some (.int .i64 ((k + 1 : Nat) : Int))) none = some s1 := q1
          have q2 : aSlice Try.prog 22 o (some (.int .i64 ((k + 1 : Nat) : Int))) none none = some s2 := q2
          have hlit0 : ∀ K, aBuildSlice Try.prog K 22 0 [] = some (.vs [] true, none) := fun K => lit0 rowRp ze68 rfl
          simp only [encP, List.map_cons, List.map_nil] at q4 hlit
          simp only [wk0, wk1, wk2, wk3, wk4, wk5, wk6, aWanted, aYield, Region.wanted, aOp, quiet, loud, aEvals, aParts, aOpt, aBuiltin, rd, win, AV.cells, AV.leaf, aNew, splice, fillA, Nat.reduceEqDiff, Nat.reduceLT, Nat.reduceAdd, Nat.reduceLeDiff, reduceCtorEq, Nat.reduceMul, cfgP, u19, hlen, a4, a5, a7, a8, a10, a11, a12, d0, wk', g1, g2, g3, lq, hle, none_beq, q1, q2, q3, q4, q5, hlit0, hlit, S1_any, hgp, hgp2, hww]
          refine ih _ _ (l.length - (i + 1)) (by omega) ⟨i + 1, x3, rstep (s, tw) p, rfl, hlt, ?_⟩
          have hne3 : (s.take (k + 1) ++ p :: s.drop (k + 1)) ≠ [] := by simp
          have hln3 : (s.take (k + 1) ++ p :: s.drop (k + 1)).length = i + 1 := by simp only [List.length_append, List.length_cons, List.length_take, List.length_drop]; omega
          rw [hrs] at hc ⊢
          simp only at hc ⊢
          have hH3 : H.length ≤ (h3.getD H2).length := Nat.le_trans hH1 q7
          refine ⟨by simp [wk0, wk1, wk2, wk3, wk4, wk5, wk6, aWanted, aYield, Region.wanted, aOp, quiet, loud, aEvals, aParts, aOpt, aBuiltin, rd, win, AV.cells, AV.leaf, aNew, splice, fillA, Nat.reduceEqDiff, Nat.reduceLT, Nat.reduceAdd, Nat.reduceLeDiff, reduceCtorEq, Nat.reduceMul, cfgP, u19, hlen], by simp [wk0, wk1, wk2, wk3, wk4, wk5, wk6, aWanted, aYield, Region.wanted, aOp, quiet, loud, aEvals, aParts, aOpt, aBuiltin, rd, win, AV.cells, AV.leaf, aNew, splice, fillA, Nat.reduceEqDiff, Nat.reduceLT, Nat.reduceAdd, Nat.reduceLeDiff, reduceCtorEq, Nat.reduceMul, cfgP, u19, hlen], by simp [wk0, wk1, wk2, wk3, wk4, wk5, wk6, aWanted, aYield, Region.wanted, aOp, quiet, loud, aEvals, aParts, aOpt, aBuiltin, rd, win, AV.cells, AV.leaf, aNew, splice, fillA, Nat.reduceEqDiff, Nat.reduceLT, Nat.reduceAdd, Nat.reduceLeDiff, reduceCtorEq, Nat.reduceMul, cfgP, u19, hlen, a5], by simp [wk0, wk1, wk2, wk3, wk4, wk5, wk6, aWanted, aYield, Region.wanted, aOp, quiet, loud, aEvals, aParts, aOpt, aBuiltin, rd, win, AV.cells, AV.leaf, aNew, splice, fillA, Nat.reduceEqDiff, Nat.reduceLT, Nat.reduceAdd, Nat.reduceLeDiff, reduceCtorEq, Nat.reduceMul, cfgP, u19, hlen, a10], by simp [wk0, wk1, wk2, wk3, wk4, wk5, wk6, aWanted, aYield, Region.wanted, aOp, quiet, loud, aEvals, aParts, aOpt, aBuiltin, rd, win, AV.cells, AV.leaf, aNew, splice, fillA, Nat.reduceEqDiff, Nat.reduceLT, Nat.reduceAdd, Nat.reduceLeDiff, reduceCtorEq, Nat.reduceMul, cfgP, u19, hlen, a11], by simp [wk0, wk1, wk2, wk3, wk4, wk5, wk6, aWanted, aYield, Region.wanted, aOp, quiet, loud, aEvals, aParts, aOpt, aBuiltin, rd, win, AV.cells, AV.leaf, aNew, splice, fillA, Nat.reduceEqDiff, Nat.reduceLT, Nat.reduceAdd, Nat.reduceLeDiff, reduceCtorEq, Nat.reduceMul, cfgP, u19, hlen], hH3, q6, hln3, .inr hne3, hc⟩
  · have hnl : ¬ i < l.length := by simpa using h
    rw [List.drop_eq_nil_of_le (by omega), rofGo] at hc
    rw [hc]
    cases tw with
    | true =>
      simp only [if_true]
      simp only [wk0, wk1, wk2, wk3, wk4, wk5, wk6, aWanted, aYield, Region.wanted, aOp, quiet, loud, aEvals, aParts, aOpt, aBuiltin, rd, win, AV.cells, AV.leaf, aNew, splice, fillA, Nat.reduceEqDiff, Nat.reduceLT, Nat.reduceAdd, Nat.reduceLeDiff, reduceCtorEq, Nat.reduceMul, cfgP, u19, hlen, a4, a5, a10, a11, a12]
      exact Fin_pure (l := [.nilS, .int .i64 10]) (by simp [wk0, wk1, wk2, wk3, wk4, wk5, wk6, aWanted, aYield, Region.wanted, aOp, quiet, loud, aEvals, aParts, aOpt, aBuiltin, rd, win, AV.cells, AV.leaf, aNew, splice, fillA, Nat.reduceEqDiff, Nat.reduceLT, Nat.reduceAdd, Nat.reduceLeDiff, reduceCtorEq, Nat.reduceMul, cfgP, u19, hlen, aResults, aResult]) (hfz _ _) (by simp)
    | false =>
      have hf := hrow.frozen encP_T (by decide) rfl hne
      simp only [Bool.false_eq_true, if_false]
      simp only [wk0, wk1, wk2, wk3, wk4, wk5, wk6, aWanted, aYield, Region.wanted, aOp, quiet, loud, aEvals, aParts, aOpt, aBuiltin, rd, win, AV.cells, AV.leaf, aNew, splice, fillA, Nat.reduceEqDiff, Nat.reduceLT, Nat.reduceAdd, Nat.reduceLeDiff, reduceCtorEq, Nat.reduceMul, cfgP, u19, hlen, a4, a5, a10, a11, a12]
      exact Fin_pure (l := [o, .int .i64 0]) (by simp [wk0, wk1, wk2, wk3, wk4, wk5, wk6, aWanted, aYield, Region.wanted, aOp, quiet, loud, aEvals, aParts, aOpt, aBuiltin, rd, win, AV.cells, AV.leaf, aNew, splice, fillA, Nat.reduceEqDiff, Nat.reduceLT, Nat.reduceAdd, Nat.reduceLeDiff, reduceCtorEq, Nat.reduceMul, cfgP, u19, hlen, aResults, aResult, a4]) (.tup (.cons hf (.cons (.still rfl) .nil))) (by simp)

-- the document's set is the program's
theorem scanK_spec (o : List Pr) (p : Pr) : ∀ j, j ≤ o.length → (∀ y ∈ (o.take j).drop (scanK o p j), leP p y = true) ∧ (0 < scanK o p j → leP p (o.getD (scanK o p j - 1) default) = false)
  | 0, _ => by simp [scanK]
  | j + 1, hj => by
    obtain ⟨h1, h2⟩ := scanK_spec o p j (by omega)
    unfold scanK
    cases hle : leP p (o.getD j default) with
    | true =>
      simp only [if_true]
      refine ⟨fun y hy => ?_, h2⟩
      have hk := scanK_le o p j
      have e : o.take (j + 1) = o.take j ++ [o.getD j default] := by
        have : o.getD j default = o[j] := by simp [List.getD, show j < o.length by omega]
        rw [this]; simp
      rw [e, List.drop_append_of_le_length (by simp; omega)] at hy
      rcases List.mem_append.1 hy with hy | hy
      · exact h1 y hy
      · rw [List.mem_singleton] at hy; rw [hy]; exact hle
    | false =>
      simp only [Bool.false_eq_true, if_false]
      refine ⟨fun y hy => ?_, fun _ => hle⟩
      rw [List.drop_eq_nil_of_le (by simp; omega)] at hy
      simp at hy
theorem leP_spec {p y : Pr} : leP p y = true ↔ Op.bytesLess y.name p.name = false := by
  unfold leP
  constructor
  · intro h
    simp only [Bool.or_eq_true, beq_iff_eq] at h
    rcases h with h | h
    · exact bl_asym h
    · rw [h]; exact bl_irr _
  · intro h
    cases h2 : Op.bytesLess p.name y.name with
    | true => rfl
    | false => rw [bl_tri h2 h]; simp
theorem rstep_spec {o : List Pr} {tw : Bool} (p : Pr) (ho : Asc o) : (rstep (o, tw) p).1.Perm (p :: o) ∧ Asc (rstep (o, tw) p).1 ∧ (rstep (o, tw) p).2 = (tw || o.any fun y => p.name == y.name) := by
  obtain ⟨h1, h2⟩ := scanK_spec o p o.length (Nat.le_refl _)
  have hk := scanK_le o p o.length
  simp only [List.take_length] at h1
  simp only [rstep]
  generalize scanK o p o.length = k at *
  have hsplit : o.take k ++ o.drop k = o := List.take_append_drop k o
  -- those ahead are below
  have hbel : ∀ y ∈ o.take k, Op.bytesLess y.name p.name = true := by
    intro y hy
    have hk0 : 0 < k := by
      rcases Nat.eq_zero_or_pos k with h | h
      · rw [h] at hy; simp at hy
      · exact h
    have hl := h2 hk0
    have hlt : Op.bytesLess (o.getD (k - 1) default).name p.name = true := by
      cases h3 : Op.bytesLess (o.getD (k - 1) default).name p.name with
      | true => rfl
      | false => rw [leP_spec.2 h3] at hl; cases hl
    have hgd : o.getD (k - 1) default = o[k - 1]'(by omega) := by simp [List.getD, show k - 1 < o.length by omega]
    rw [hgd] at hlt
    obtain ⟨i, hi, rfl⟩ := List.getElem_of_mem hy
    rw [List.getElem_take]
    rw [List.length_take] at hi
    by_cases he : i = k - 1
    · subst he; exact hlt
    · have hp := List.pairwise_iff_getElem.1 ho i (k - 1) (by omega) (by omega) (by omega)
      rw [lessP_bl] at hp
      cases h4 : Op.bytesLess o[i].name o[k - 1].name with
      | true => exact bl_trans h4 hlt
      | false => rw [bl_tri h4 hp]; exact hlt
  refine ⟨?_, ?_, ?_⟩
  · refine List.perm_middle.trans (List.Perm.cons p ?_)
    rw [hsplit]
  · refine List.pairwise_append.2 ⟨List.Pairwise.sublist (List.take_sublist _ _) ho, List.pairwise_cons.2 ⟨fun z hz => ?_, List.Pairwise.sublist (List.drop_sublist _ _) ho⟩, fun y hy z hz => ?_⟩
    · rw [lessP_bl]; exact leP_spec.1 (h1 z hz)
    · rw [lessP_bl]
      have hy1 := hbel y hy
      rcases List.mem_cons.1 hz with rfl | hz
      · exact bl_asym hy1
      · have h3 := leP_spec.1 (h1 z hz)
        -- y below p, p not above z
        cases h4 : Op.bytesLess z.name y.name with
        | false => rfl
        | true => rw [bl_trans h4 hy1] at h3; cases h3
  · congr 1
    conv => rhs; rw [← hsplit, List.any_append]
    have : (o.take k).any (fun y => p.name == y.name) = false := by
      rw [List.any_eq_false]
      intro y hy e
      have := hbel y hy
      rw [beq_iff_eq.1 e, bl_irr] at this; cases this
    rw [this, Bool.false_or]
def Nd (l : List Pr) : Prop := l.Pairwise fun y z => y.name ≠ z.name
theorem nd_perm {l m : List Pr} (h : l.Perm m) : Nd l ↔ Nd m := h.pairwise_iff fun h => Ne.symm h
theorem rfold_true : ∀ (l : List Pr) (st : List Pr × Bool), st.2 = true → (l.foldl rstep st).2 = true
  | [], _, h => h
  | p :: l, st, h => rfold_true l _ (by simp [rstep, h])
theorem rfold_spec : ∀ (l o : List Pr), Asc o → Nd o → ((l.foldl rstep (o, false)).1.Perm (l ++ o) ∧ Asc (l.foldl rstep (o, false)).1 ∧ (l.foldl rstep (o, false)).2 = false ∧ Nd (l ++ o)) ∨ ((l.foldl rstep (o, false)).2 = true ∧ ¬ Nd (l ++ o))
  | [], o, ho, hn => .inl ⟨.refl _, ho, rfl, hn⟩
  | p :: l, o, ho, hn => by
    obtain ⟨h1, h2, h3⟩ := rstep_spec (tw := false) p ho
    simp only [List.foldl_cons]
    have hperm : (p :: l ++ o).Perm (l ++ (p :: o)) := (List.perm_middle (a := p) (l₁ := l) (l₂ := o)).symm
    cases han : o.any fun y => p.name == y.name with
    | true =>
      refine .inr ⟨rfold_true l _ (by rw [h3, han]; rfl), fun hnd => ?_⟩
      have := (nd_perm hperm).1 hnd
      obtain ⟨y, hy, he⟩ := List.any_eq_true.1 han
      have h5 := (List.pairwise_append.1 this).2.1
      exact (List.pairwise_cons.1 h5).1 y hy (beq_iff_eq.1 he)
    | false =>
      rw [han] at h3
      have hst : rstep (o, false) p = ((rstep (o, false) p).1, false) := Prod.ext rfl h3
      have hnd : Nd (rstep (o, false) p).1 := (nd_perm h1).2 (List.pairwise_cons.2 ⟨fun y hy e => by
        have := List.any_eq_false.1 han y hy
        rw [e] at this; simp at this, hn⟩)
      have ih := rfold_spec l (rstep (o, false) p).1 h2 hnd
      rw [← hst] at ih
      have hp2 : (l ++ (rstep (o, false) p).1).Perm (p :: l ++ o) := (h1.append_left l).trans hperm.symm
      rcases ih with ⟨k1, k2, k3, k4⟩ | ⟨k1, k2⟩
      · exact .inl ⟨k1.trans hp2, k2, k3, (nd_perm hp2).1 k4⟩
      · exact .inr ⟨k1, fun h => k2 ((nd_perm hp2).2 h)⟩
theorem rofGo_fold : ∀ (l : List Pr) (st : List Pr × Bool), rofGo st l = if l.any badP then ([], 3) else if (l.foldl rstep st).2 then ([], 10) else ((l.foldl rstep st).1, 0)
  | [], (o, tw) => by cases tw <;> rfl
  | p :: l, st => by
    rw [rofGo, rofGo_fold l]
    cases hb : badP p with
    | true => rw [if_pos rfl, if_pos (by simp [hb])]
    | false =>
      rw [if_neg (by simp)]
      simp only [List.any_cons, hb, Bool.false_or, List.foldl_cons]
      by_cases h1 : l.any badP = true <;> by_cases h2 : (l.foldl rstep (rstep st p)).2 = true <;> simp only [h1, h2, if_true, if_false]
theorem rofGo_eq (l : List Pr) : rofGo ([], false) l = ofP l := by
  rw [rofGo_fold, ofP]
  split
  · rfl
  have hs := rfold_spec l [] .nil .nil
  simp only [List.append_nil] at hs
  have hnd : ∀ {m : List Pr}, Asc m → (dupP m = false ↔ Nd m) := fun {m} hm => by
    rw [dup_iff hm]
    constructor
    · exact fun h => h.imp fun h e => by rw [e, bl_irr] at h; cases h
    · intro h
      refine (h.and hm).imp fun {y z} h => ?_
      have h4 := h.2
      rw [lessP_bl] at h4
      cases h5 : Op.bytesLess y.name z.name with
      | true => rfl
      | false => exact absurd (bl_tri h5 h4) h.1
  rcases hs with ⟨h1, h2, h3, h4⟩ | ⟨h1, h2⟩
  · have hd : dupP (isortP l) = false := (hnd (isortP_asc l)).2 ((nd_perm (isortP_perm l)).2 h4)
    rw [h3, hd]
    simp only [Bool.false_eq_true, if_false]
    rw [strict_unique (h1.trans (isortP_perm l).symm) ((dup_iff h2).1 ((hnd h2).2 ((nd_perm h1).2 h4))) ((dup_iff (isortP_asc l)).1 hd)]
  · have hd : dupP (isortP l) = true := by
      cases h : dupP (isortP l) with
      | true => rfl
      | false => exact absurd ((nd_perm (isortP_perm l)).1 ((hnd (isortP_asc l)).1 h)) h2
    rw [h1, hd, if_pos rfl, if_pos rfl]

-- the value of a name
def getU (l : List Pr) (name : List UInt8) : List UInt8 := match l with
  | [] => []
  | x :: r => if x.name == name then x.val else getU r name

theorem get1_ok (x : Pr) (name : List UInt8) (b : Nat) (prot : Nat) (H : Heap) (hp : prot ≤ H.length) (hg : hget H b 0 = some [.str name]) : aLim cfg prot 56 [encP x, .ptr b 0 0] H = some (.bool (x.name == name), none) := by
  have hsnap : snap H [encP x, .ptr b 0 0] = some ([encP x, .ptr b 0 0], false) := rfl
  have hg2 : hget (H ++ [Blk.cells 0 [.str x.name, .str x.val]]) b 0 = some [.str name] := hget_mono hg _
  refine pure_slim rfl (by kernel_rfl) Try.func56 s56 hp hsnap (by simp [Try.f56]) fun fr hlen h => ?_
  simp only [Has, Nat.zero_add] at h
  obtain ⟨a0, a1, -⟩ := h
  simp only [Try.f56] at hlen ⊢
  unfold g56
  simp only [wk0, wk1, wk2, wk3, wk4, wk5, wk6, aWanted, aYield, Region.wanted, aOp, quiet, loud, aEvals, aParts, aOpt, aBuiltin, rd, win, AV.cells, AV.leaf, aNew, splice, fillA, Nat.reduceEqDiff, Nat.reduceLT, Nat.reduceAdd, Nat.reduceLeDiff, reduceCtorEq, Nat.reduceMul, cfgP, u56, hlen, a0, a1, encP, hg2, str_eql]
  exact Fin_pure (l := [.bool (x.name == name)]) (by simp [wk0, wk1, wk2, wk3, wk4, wk5, wk6, aWanted, aYield, Region.wanted, aOp, quiet, loud, aEvals, aParts, aOpt, aBuiltin, rd, win, AV.cells, AV.leaf, aNew, splice, fillA, Nat.reduceEqDiff, Nat.reduceLT, Nat.reduceAdd, Nat.reduceLeDiff, reduceCtorEq, Nat.reduceMul, cfgP, u56, aResults, aResult, hlen]) (.still rfl) (by simp)
def idxG : List Pr → List UInt8 → Int → Int
  | [], _, _ => -1
  | x :: l, name, i => if x.name == name then i else idxG l name (i + 1)

theorem idxg_ok (l : List Pr) (name : List UInt8) (b : Nat) (v : AV) (hv : Sl encP v l) (hl : l.length < 1000000000) (prot : Nat) (H : Heap) (hp : prot ≤ H.length) (hg : hget H b 0 = some [.str name]) :
    aLim cfg prot 55 [v, .func 56 [] [.ptr b 0 0]] H = some (.int .i64 (idxG l name 0), none) := by
  have hsnap : snap H [v, .func 56 [] [.ptr b 0 0]] = some ([v, .func 56 [] [.ptr b 0 0]], false) := by cases hv <;> rfl
  refine pure_slim rfl (by kernel_rfl) Try.func55 s55 hp hsnap (by simp [Try.f55]) fun fr hlen h => ?_
  simp only [Has, Nat.zero_add] at h
  obtain ⟨a0, a1, -⟩ := h
  simp only [Try.f55] at hlen ⊢
  unfold g55
  simp only [wk0, wk1, wk2, wk3, wk4, wk5, wk6, aWanted, aYield, Region.wanted, aOp, quiet, loud, aEvals, aParts, aOpt, aBuiltin, rd, win, AV.cells, AV.leaf, aNew, splice, fillA, Nat.reduceEqDiff, Nat.reduceLT, Nat.reduceAdd, Nat.reduceLeDiff, reduceCtorEq, Nat.reduceMul, cfgP, u55, hlen, a0, a1, hv.len Try.underlying25]
  refine loop_rule (fun m fr H' => ∃ (i : Nat), m = l.length - i ∧ i ≤ l.length ∧ fr.length = 19 ∧ fget fr 0 = v ∧ fget fr 1 = .func 56 [] [.ptr b 0 0] ∧ fget fr 7 = .int .i64 l.length ∧ fget fr 8 = .int .i64 i
    ∧ H' = H ∧ idxG l name 0 = idxG (l.drop i) name i) ?_ l.length _ _ ⟨0, by simp [wk0, wk1, wk2, wk3, wk4, wk5, wk6, aWanted, aYield, Region.wanted, aOp, quiet, loud, aEvals, aParts, aOpt, aBuiltin, rd, win, AV.cells, AV.leaf, aNew, splice, fillA, Nat.reduceEqDiff, Nat.reduceLT, Nat.reduceAdd, Nat.reduceLeDiff, reduceCtorEq, Nat.reduceMul, cfgP, u55, hlen, a0, a1]⟩
  rintro m fr H' ⟨i, rfl, hi, hlen, a0, a1, a7, a8, rfl, hc⟩ ih
  simp only [wk0, wk1, wk2, wk3, wk4, wk5, wk6, aWanted, aYield, Region.wanted, aOp, quiet, loud, aEvals, aParts, aOpt, aBuiltin, rd, win, AV.cells, AV.leaf, aNew, splice, fillA, Nat.reduceEqDiff, Nat.reduceLT, Nat.reduceAdd, Nat.reduceLeDiff, reduceCtorEq, Nat.reduceMul, cfgP, u55, hlen, a0, a1, a7, a8]
  refine RC_split (fun h => ?_) (fun h => ?_)
  · have hlt : i < l.length := by simpa using h
    have hw : IntKind.i64.wrap ((i : Int) + 1) = ((i + 1 : Nat) : Int) := by rw [wrap64 (by omega) (by omega)]; simp
    have e1 := hv.at (k := .i64) Try.underlying25 sz59 encP_len hlt
    have hd : l.drop i = l[i] :: l.drop (i + 1) := by simp
    generalize l[i] = x at *
    rw [hd, idxG] at hc
    have hcall := get1_ok x name b H'.length H' (Nat.le_refl _) hg
    simp only [encP] at hcall
    simp only [wk0, wk1, wk2, wk3, wk4, wk5, wk6, aWanted, aYield, Region.wanted, aOp, quiet, loud, aEvals, aParts, aOpt, aBuiltin, rd, win, AV.cells, AV.leaf, aNew, splice, fillA, Nat.reduceEqDiff, Nat.reduceLT, Nat.reduceAdd, Nat.reduceLeDiff, reduceCtorEq, Nat.reduceMul, cfgP, u55, hlen, a0, a1, a7, a8, e1, encP, hcall]
    refine RC_split (fun h => ?_) (fun h => ?_)
    · simp only [wk0, wk1, wk2, wk3, wk4, wk5, wk6, aWanted, aYield, Region.wanted, aOp, quiet, loud, aEvals, aParts, aOpt, aBuiltin, rd, win, AV.cells, AV.leaf, aNew, splice, fillA, Nat.reduceEqDiff, Nat.reduceLT, Nat.reduceAdd, Nat.reduceLeDiff, reduceCtorEq, Nat.reduceMul, cfgP, u55, hlen, a0, a1, a7, a8]
      rw [hc, if_pos h]
      exact Fin_pure (l := [.int .i64 i]) (by simp [wk0, wk1, wk2, wk3, wk4, wk5, wk6, aWanted, aYield, Region.wanted, aOp, quiet, loud, aEvals, aParts, aOpt, aBuiltin, rd, win, AV.cells, AV.leaf, aNew, splice, fillA, Nat.reduceEqDiff, Nat.reduceLT, Nat.reduceAdd, Nat.reduceLeDiff, reduceCtorEq, Nat.reduceMul, cfgP, u55, aResults, aResult, hlen]) (.still rfl) (by simp)
    · simp only [wk0, wk1, wk2, wk3, wk4, wk5, wk6, aWanted, aYield, Region.wanted, aOp, quiet, loud, aEvals, aParts, aOpt, aBuiltin, rd, win, AV.cells, AV.leaf, aNew, splice, fillA, Nat.reduceEqDiff, Nat.reduceLT, Nat.reduceAdd, Nat.reduceLeDiff, reduceCtorEq, Nat.reduceMul, cfgP, u55, hlen, a0, a1, a7, a8, hw]
      refine ih _ _ (l.length - (i + 1)) (by omega) ⟨i + 1, rfl, hlt, ?_⟩
      rw [hc]
      simp [wk0, wk1, wk2, wk3, wk4, wk5, wk6, aWanted, aYield, Region.wanted, aOp, quiet, loud, aEvals, aParts, aOpt, aBuiltin, rd, win, AV.cells, AV.leaf, aNew, splice, fillA, Nat.reduceEqDiff, Nat.reduceLT, Nat.reduceAdd, Nat.reduceLeDiff, reduceCtorEq, Nat.reduceMul, cfgP, u55, hlen, a0, a1, a7, a8, h]
  · simp only [wk0, wk1, wk2, wk3, wk4, wk5, wk6, aWanted, aYield, Region.wanted, aOp, quiet, loud, aEvals, aParts, aOpt, aBuiltin, rd, win, AV.cells, AV.leaf, aNew, splice, fillA, Nat.reduceEqDiff, Nat.reduceLT, Nat.reduceAdd, Nat.reduceLeDiff, reduceCtorEq, Nat.reduceMul, cfgP, u55, hlen, a0, a1, a7, a8]
    have hnl : ¬ i < l.length := by simpa using h
    have : l.drop i = [] := by simp; omega
    rw [this] at hc
    rw [hc]
    exact Fin_pure (l := [.int .i64 (-1)]) (by simp [wk0, wk1, wk2, wk3, wk4, wk5, wk6, aWanted, aYield, Region.wanted, aOp, quiet, loud, aEvals, aParts, aOpt, aBuiltin, rd, win, AV.cells, AV.leaf, aNew, splice, fillA, Nat.reduceEqDiff, Nat.reduceLT, Nat.reduceAdd, Nat.reduceLeDiff, reduceCtorEq, Nat.reduceMul, cfgP, u55, aResults, aResult, hlen]) (.still rfl) (by simp)
theorem idxG_spec : ∀ (l : List Pr) (name : List UInt8) (i : Nat), (idxG l name i = -1 ∧ getU l name = []) ∨ ∃ j, ∃ h : j < l.length, idxG l name i = ((i + j : Nat) : Int) ∧ getU l name = l[j].val
  | [], _, _ => .inl ⟨rfl, rfl⟩
  | x :: l, name, i => by
    unfold idxG getU
    by_cases h : x.name == name
    · rw [if_pos h, if_pos h]
      exact .inr ⟨0, by simp, by simp, rfl⟩
    · rw [if_neg h, if_neg h]
      rcases idxG_spec l name (i + 1) with ⟨h1, h2⟩ | ⟨j, hj, h1, h2⟩
      · exact .inl ⟨by simpa using h1, h2⟩
      · refine .inr ⟨j + 1, by simp; omega, ?_, by simpa using h2⟩
        have : ((i : Int) + 1) = ((i + 1 : Nat) : Int) := by simp
        rw [this, h1]
        congr 1; omega

theorem get_ok (l : List Pr) (name : List UInt8) (v : AV) (hv : Sl encP v l) (hl : l.length < 1000000000) (prot : Nat) (H : Heap) (hp : prot ≤ H.length) : aLim cfg prot 27 [.agg [v], .str name] H = some (.str (getU l name), none) := by
  have hsnap : snap H [.agg [v], .str name] = some ([.agg [v], .str name], false) := rfl
  have hvl := Sl.leaf hv
  have hvc := Sl.cells1 hv
  unfold AV.leaf at hvl
  unfold AV.cells at hvc
  have hgn : hget (H ++ [Blk.cells 0 [v]] ++ [Blk.cells 0 [.str name]]) (H ++ [Blk.cells 0 [v]]).length 0 = some [.str name] := by rw [hget_new rfl, if_pos rfl]
  have n1 := idxg_ok l name (H ++ [Blk.cells 0 [v]]).length v hv hl H.length (H ++ [Blk.cells 0 [v]] ++ [Blk.cells 0 [.str name]]) (by simp) hgn
  have lt1 : H.length < (H ++ [Blk.cells 0 [v]]).length := by simp
  rcases idxG_spec l name 0 with ⟨h1, h2⟩ | ⟨j, hj, h1, h2⟩
  · have h1 : idxG l name 0 = -1 := h1
    rw [h1] at n1
    rw [h2]
    have d0 : decide ((-1 : Int) < 0) = true := rfl
    refine pure_slim rfl (by kernel_rfl) Try.func27 s27 hp hsnap (by simp [Try.f27]) fun fr hlen h => ?_
    simp only [Has, Nat.zero_add] at h
    obtain ⟨a0, a1, -⟩ := h
    simp only [Try.f27] at hlen ⊢
    unfold g27
    simp only [wk0, wk1, wk2, wk3, wk4, wk5, wk6, aWanted, aYield, Region.wanted, aOp, quiet, loud, aEvals, aParts, aOpt, aBuiltin, rd, win, AV.cells, AV.leaf, aNew, splice, fillA, Nat.reduceEqDiff, Nat.reduceLT, Nat.reduceAdd, Nat.reduceLeDiff, reduceCtorEq, Nat.reduceMul, cfgP, u27, hlen, a0, a1, hvl, hvc, lt1, n1, d0]
    exact Fin_pure (l := [.str []]) (by simp [wk0, wk1, wk2, wk3, wk4, wk5, wk6, aWanted, aYield, Region.wanted, aOp, quiet, loud, aEvals, aParts, aOpt, aBuiltin, rd, win, AV.cells, AV.leaf, aNew, splice, fillA, Nat.reduceEqDiff, Nat.reduceLT, Nat.reduceAdd, Nat.reduceLeDiff, reduceCtorEq, Nat.reduceMul, cfgP, u27, aResults, aResult, hlen]) (.still rfl) (by simp)
  · rw [Nat.zero_add] at h1
    have h1 : idxG l name 0 = (j : Int) := h1
    rw [h1] at n1
    rw [h2]
    have d0 : decide ((j : Int) < 0) = false := decide_eq_false (by omega)
    have e1 := hv.at (k := .i64) Try.underlying25 sz59 encP_len hj
    generalize l[j] = x at *
    refine pure_slim rfl (by kernel_rfl) Try.func27 s27 hp hsnap (by simp [Try.f27]) fun fr hlen h => ?_
    simp only [Has, Nat.zero_add] at h
    obtain ⟨a0, a1, -⟩ := h
    simp only [Try.f27] at hlen ⊢
    unfold g27
    simp only [wk0, wk1, wk2, wk3, wk4, wk5, wk6, aWanted, aYield, Region.wanted, aOp, quiet, loud, aEvals, aParts, aOpt, aBuiltin, rd, win, AV.cells, AV.leaf, aNew, splice, fillA, Nat.reduceEqDiff, Nat.reduceLT, Nat.reduceAdd, Nat.reduceLeDiff, reduceCtorEq, Nat.reduceMul, cfgP, u27, hlen, a0, a1, hvl, hvc, lt1, n1, d0, e1, encP]
    exact Fin_pure (l := [.str x.val]) (by simp [wk0, wk1, wk2, wk3, wk4, wk5, wk6, aWanted, aYield, Region.wanted, aOp, quiet, loud, aEvals, aParts, aOpt, aBuiltin, rd, win, AV.cells, AV.leaf, aNew, splice, fillA, Nat.reduceEqDiff, Nat.reduceLT, Nat.reduceAdd, Nat.reduceLeDiff, reduceCtorEq, Nat.reduceMul, cfgP, u27, aResults, aResult, hlen]) (.still rfl) (by simp)

theorem rget_ok (l : List Pr) (name : List UInt8) (w : AV) (hw : Sl encP w l) (hl : l.length < 1000000000) (prot : Nat) (H : Heap) (hp : prot ≤ H.length) : aLim cfg prot 28 [w, .str name] H = some (.str (getU l name), none) := by
  have hsnap : snap H [w, .str name] = some ([w, .str name], false) := by cases hw <;> rfl
  refine pure_slim rfl (by kernel_rfl) Try.func28 s28 hp hsnap (by simp [Try.f28]) fun fr hlen h => ?_
  simp only [Has, Nat.zero_add] at h
  obtain ⟨a0, a1, -⟩ := h
  simp only [Try.f28] at hlen ⊢
  unfold g28
  simp only [wk0, wk1, wk2, wk3, wk4, wk5, wk6, aWanted, aYield, Region.wanted, aOp, quiet, loud, aEvals, aParts, aOpt, aBuiltin, rd, win, AV.cells, AV.leaf, aNew, splice, fillA, Nat.reduceEqDiff, Nat.reduceLT, Nat.reduceAdd, Nat.reduceLeDiff, reduceCtorEq, Nat.reduceMul, cfgP, u28, hlen, a0, a1, hw.len Try.underlying22]
  refine loop_rule (fun m fr H' => ∃ (i : Nat), m = l.length - i ∧ i ≤ l.length ∧ fr.length = 20 ∧ fget fr 1 = .str name ∧ fget fr 7 = w ∧ fget fr 8 = .int .i64 l.length ∧ fget fr 9 = .int .i64 i ∧ H.length ≤ H'.length ∧ getU l name = getU (l.drop i) name) ?_ l.length _ _ ⟨0, by simp [wk0, wk1, wk2, wk3, wk4, wk5, wk6, aWanted, aYield, Region.wanted, aOp, quiet, loud, aEvals, aParts, aOpt, aBuiltin, rd, win, AV.cells, AV.leaf, aNew, splice, fillA, Nat.reduceEqDiff, Nat.reduceLT, Nat.reduceAdd, Nat.reduceLeDiff, reduceCtorEq, Nat.reduceMul, cfgP, u28, hlen, a0, a1]⟩
  rintro m fr H' ⟨i, rfl, hi, hlen, a1, a7, a8, a9, hH, hc⟩ ih
  simp only [wk0, wk1, wk2, wk3, wk4, wk5, wk6, aWanted, aYield, Region.wanted, aOp, quiet, loud, aEvals, aParts, aOpt, aBuiltin, rd, win, AV.cells, AV.leaf, aNew, splice, fillA, Nat.reduceEqDiff, Nat.reduceLT, Nat.reduceAdd, Nat.reduceLeDiff, reduceCtorEq, Nat.reduceMul, cfgP, u28, hlen, a1, a7, a8, a9]
  refine RC_split (fun h => ?_) (fun h => ?_)
  · have hlt : i < l.length := by simpa using h
    have hww : IntKind.i64.wrap ((i : Int) + 1) = ((i + 1 : Nat) : Int) := by rw [wrap64 (by omega) (by omega)]; simp
    have e1 := hw.at (k := .i64) Try.underlying22 sz68 encP_len hlt
    rw [List.drop_eq_getElem_cons hlt, getU] at hc
    generalize l[i] = x at *
    cases hx : x.name == name with
    | true =>
      rw [hx, if_pos rfl] at hc
      rw [hc]
      simp only [wk0, wk1, wk2, wk3, wk4, wk5, wk6, aWanted, aYield, Region.wanted, aOp, quiet, loud, aEvals, aParts, aOpt, aBuiltin, rd, win, AV.cells, AV.leaf, aNew, splice, fillA, Nat.reduceEqDiff, Nat.reduceLT, Nat.reduceAdd, Nat.reduceLeDiff, reduceCtorEq, Nat.reduceMul, cfgP, u28, hlen, a1, a7, a8, a9, e1, encP, hH, str_eql, hx]
      exact Fin_pure (l := [.str x.val]) (by simp [wk0, wk1, wk2, wk3, wk4, wk5, wk6, aWanted, aYield, Region.wanted, aOp, quiet, loud, aEvals, aParts, aOpt, aBuiltin, rd, win, AV.cells, AV.leaf, aNew, splice, fillA, Nat.reduceEqDiff, Nat.reduceLT, Nat.reduceAdd, Nat.reduceLeDiff, reduceCtorEq, Nat.reduceMul, cfgP, u28, aResults, aResult, hlen]) (.still rfl) (by simp)
    | false =>
      rw [hx, if_neg (by simp)] at hc
      simp only [wk0, wk1, wk2, wk3, wk4, wk5, wk6, aWanted, aYield, Region.wanted, aOp, quiet, loud, aEvals, aParts, aOpt, aBuiltin, rd, win, AV.cells, AV.leaf, aNew, splice, fillA, Nat.reduceEqDiff, Nat.reduceLT, Nat.reduceAdd, Nat.reduceLeDiff, reduceCtorEq, Nat.reduceMul, cfgP, u28, hlen, a1, a7, a8, a9, e1, encP, hH, str_eql, hx, hww]
      refine ih _ _ (l.length - (i + 1)) (by omega) ⟨i + 1, rfl, hlt, ?_⟩
      rw [hc]
      simp [wk0, wk1, wk2, wk3, wk4, wk5, wk6, aWanted, aYield, Region.wanted, aOp, quiet, loud, aEvals, aParts, aOpt, aBuiltin, rd, win, AV.cells, AV.leaf, aNew, splice, fillA, Nat.reduceEqDiff, Nat.reduceLT, Nat.reduceAdd, Nat.reduceLeDiff, reduceCtorEq, Nat.reduceMul, cfgP, u28, hlen, a1, a7, a8, a9]
      omega
  · have hnl : ¬ i < l.length := by simpa using h
    rw [List.drop_eq_nil_of_le (by omega), getU] at hc
    rw [hc]
    simp only [wk0, wk1, wk2, wk3, wk4, wk5, wk6, aWanted, aYield, Region.wanted, aOp, quiet, loud, aEvals, aParts, aOpt, aBuiltin, rd, win, AV.cells, AV.leaf, aNew, splice, fillA, Nat.reduceEqDiff, Nat.reduceLT, Nat.reduceAdd, Nat.reduceLeDiff, reduceCtorEq, Nat.reduceMul, cfgP, u28, hlen, a1, a7, a8, a9]
    exact Fin_pure (l := [.str []]) (by simp [wk0, wk1, wk2, wk3, wk4, wk5, wk6, aWanted, aYield, Region.wanted, aOp, quiet, loud, aEvals, aParts, aOpt, aBuiltin, rd, win, AV.cells, AV.leaf, aNew, splice, fillA, Nat.reduceEqDiff, Nat.reduceLT, Nat.reduceAdd, Nat.reduceLeDiff, reduceCtorEq, Nat.reduceMul, cfgP, u28, aResults, aResult, hlen]) (.still rfl) (by simp)

theorem ofP_valid {l : List Pr} : ∀ x ∈ (ofP l).1, validU x.val = true := by
  intro x hx
  unfold ofP at hx
  split at hx
  · simp at hx
  · rename_i hb
    split at hx
    · simp at hx
    · have hm := (isortP_perm _).mem_iff.1 hx
      cases hv : validU x.val with
      | true => rfl
      | false => exact absurd (List.any_eq_true.2 ⟨x, hm, by simp [badP, hv]⟩) hb
theorem ofP_len (l : List Pr) : (ofP l).1.length ≤ l.length := by
  unfold ofP
  split
  · simp
  · split
    · simp
    · rw [isortP_len]; exact Nat.le_refl _
theorem cutL_small2 (l : List Pr) : ∀ x ∈ cutL l, Small x ∧ x.name.length ≤ 140737488355000 ∧ x.val.length ≤ 140737488355000 := by
  intro x hx
  obtain ⟨y, _, rfl⟩ := List.mem_map.1 hx
  simp [Small, cutPr]; omega

theorem labelOf_ok (l : List Pr) (name : List UInt8) (w : AV) (hw : Sl encP w l) (hl : l.length ≤ 9223372036854775807) (hnm : name.length ≤ 9223372036854775807) (prot : Nat) (H : Heap) (hp : prot ≤ H.length) :
    aLim cfg prot 5 [w, .str name] H = some (.bool true, none) := by
  have hsnap : snap H [w, .str name] = some ([w, .str name], false) := by cases hw <;> rfl
  have cl := cutL_len l
  have hsm := cutL_small2 l
  have p1 := pairs_ok l w hw hl H.length H (Nat.le_refl _)
  have hc := slv_sl encP (cutL l)
  obtain ⟨v, hv, o1⟩ := of_ok (cutL l) _ hc (by omega) (cutL_fit l) H.length H (Nat.le_refl _)
  have o2 := fun (K : Heap) (hK : H.length ≤ K.length) => rof_ok (cutL l) _ hc (by omega) (fun x hx => (hsm x hx).2) H.length K hK
  rw [rofGo_eq] at o2
  have sl : (ofP (cutL l)).1.length ≤ 6 := Nat.le_trans (ofP_len _) cl
  have hss : ∀ x ∈ (ofP (cutL l)).1, Small x := fun x hx => by
    unfold ofP at hx
    split at hx
    · simp at hx
    · split at hx
      · simp at hx
      · exact (hsm x ((isortP_perm _).mem_iff.1 hx)).1
  have hvd : ∀ x ∈ (ofP (cutL l)).1, validU x.val = true := ofP_valid
  have hz := slv_sl encP (ofP (cutL l)).1
  generalize slv encP (cutL l) = z at *
  generalize slv encP (ofP (cutL l)).1 = y at *
  generalize (ofP (cutL l)).2 = e at *
  generalize (ofP (cutL l)).1 = s at *
  have k1 := Sl.leaf hv
  have k2 := Sl.cells1 hv
  unfold AV.leaf at k1
  unfold AV.cells at k2
  have pl := fun (K : Heap) (hK : H.length ≤ K.length) => plain14_ok s v hv (by omega) H.length K hK
  have hz2 := slv_sl encP s
  generalize slv encP s = y2 at *
  have sm := fun (K : Heap) (hK : H.length ≤ K.length) => lsame_ok s y2 y hz2 hz (by omega) H.length K hK
  have ln := fun (K : Heap) (hK : H.length ≤ K.length) => setLen_ok s v hv H.length K hK
  have tx := fun (K : Heap) (hK : H.length ≤ K.length) => setText_ok s v hv hss (by omega) H.length K hK
  have rt := fun (K : Heap) (hK : H.length ≤ K.length) => rtext_ok s y hz hss hvd (by omega) H.length K hK
  have hh := fun (K : Heap) (hK : H.length ≤ K.length) => setHash_ok s v hv hss (by omega) H.length K hK
  have rh := fun (K : Heap) (hK : H.length ≤ K.length) => rhash_ok s y hz hss hvd (by omega) H.length K hK
  have gt := fun (K : Heap) (hK : H.length ≤ K.length) => get_ok s name v hv (by omega) H.length K hK
  have rg := fun (K : Heap) (hK : H.length ≤ K.length) => rget_ok s name y hz (by omega) H.length K hK
  have nm := fun (K : Heap) (hK : H.length ≤ K.length) => name_ok name hnm H.length K hK
  have rn := fun (K : Heap) (hK : H.length ≤ K.length) => rname_ok name hnm H.length K hK
  have ee : ∀ x : Int, decide (x = x) = true := fun x => by simp
  have eb : ∀ x : Bool, (x == x) = true := fun x => by cases x <;> rfl
  have es : ∀ x : List UInt8, aStr .eql x x = some (.bool true) := fun x => by simp [aStr]
  refine pure_slim rfl (by kernel_rfl) Try.func5 s5 hp hsnap (by simp [Try.f5]) fun fr hlen h => ?_
  simp only [Has, Nat.zero_add] at h
  obtain ⟨a0, a1, -⟩ := h
  simp only [Try.f5] at hlen ⊢
  unfold g5
  simp only [wk0, wk1, wk2, wk3, wk4, wk5, wk6, aWanted, aYield, Region.wanted, aOp, quiet, loud, aEvals, aParts, aOpt, aBuiltin, rd, win, AV.cells, AV.leaf, aNew, splice, fillA, Nat.reduceEqDiff, Nat.reduceLT, Nat.reduceAdd, Nat.reduceLeDiff, reduceCtorEq, Nat.reduceMul, cfgP, u5, hlen, a0, a1, p1, o1, k1, k2, o2, pl, sm, ln, tx, rt, hh, rh, gt, rg, nm, rn, ee, eb, es, lts1, lawake_ok, hz.len Try.underlying22]
  exact Fin_pure (l := [.bool true]) (by simp [wk0, wk1, wk2, wk3, wk4, wk5, wk6, aWanted, aYield, Region.wanted, aOp, quiet, loud, aEvals, aParts, aOpt, aBuiltin, rd, win, AV.cells, AV.leaf, aNew, splice, fillA, Nat.reduceEqDiff, Nat.reduceLT, Nat.reduceAdd, Nat.reduceLeDiff, reduceCtorEq, Nat.reduceMul, cfgP, u5, aResults, aResult, hlen]) (.still rfl) (by simp)
end Go.Proofs.Ytjhgmoaabflbfaa