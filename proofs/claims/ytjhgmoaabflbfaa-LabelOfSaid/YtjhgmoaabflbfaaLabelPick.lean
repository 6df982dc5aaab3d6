import Derived.Test.YtjhgmoaabflbfaaAlertMerge
/-! The law LabelPick, walked. -/
set_option linter.unusedSimpArgs false
namespace Go.Proofs.Ytjhgmoaabflbfaa
open Go Go.Abs AbsSeat Ty

theorem u75 : type_of% (And.intro ag3 (And.intro sz3 (And.intro by3 (And.intro ze3 (And.intro Try.underlying3 (And.intro ag9 (And.intro sz9 (And.intro by9 (And.intro ze9 (And.intro Try.underlying9 (And.intro ag67 (And.intro sz67 (And.intro by67 (And.intro se67 (And.intro ze67 Try.underlying67))))))))))))))) :=
  And.intro ag3 (And.intro sz3 (And.intro by3 (And.intro ze3 (And.intro Try.underlying3 (And.intro ag9 (And.intro sz9 (And.intro by9 (And.intro ze9 (And.intro Try.underlying9 (And.intro ag67 (And.intro sz67 (And.intro by67 (And.intro se67 (And.intro ze67 Try.underlying67))))))))))))))
def g75 : Code :=
  Go.Code.seq (Go.Code.region 0 #[{ dst := some 4, op := Go.Op.assign (Go.Operand.const (Go.Value.int Go.IntKind.i64 0)), type := 3, pos := "", after := #[], guard := none }] false) (Go.Code.seq (Go.Code.seq (Go.Code.region 1 #[{ dst := some 6, op := Go.Op.move (Go.Operand.tmp 0), type := 67, pos := "", after := #[], guard := none }, { dst := some 7, op := Go.Op.call { callee := Go.Callee.builtin Go.Builtin.len, args := #[Go.Operand.tmp 6], argTypes := #[67] }, type := 3, pos := "", after := #[], guard := none }, { dst := some 8, op := Go.Op.move (Go.Operand.const (Go.Value.int Go.IntKind.i64 0)), type := 3, pos := "", after := #[], guard := none }] false) (Go.Code.block 0 (Go.Code.loop (Go.Code.seq (Go.Code.region 2 #[{ dst := some 9, op := Go.Op.binOp Go.BinOp.lss 3 (Go.Operand.tmp 8) (Go.Operand.tmp 7) 3, type := 0, pos := "", after := #[], guard := none }] false) (Go.Code.seq (Go.Code.cond (Go.Operand.tmp 9) Go.Code.skip (Go.Code.exit 0)) (Go.Code.seq (Go.Code.block 1 (Go.Code.seq (Go.Code.region 3 #[{ dst := some 10, op := Go.Op.move (Go.Operand.tmp 8), type := 3, pos := "", after := #[], guard := none }, { dst := some 5, op := Go.Op.assign (Go.Operand.tmp 10), type := 3, pos := "", after := #[], guard := none }] false) (Go.Code.seq (Go.Code.region 4 #[{ dst := some 11, op := Go.Op.move (Go.Operand.tmp 1), type := 9, pos := "", after := #[], guard := none }, { dst := some 12, op := Go.Op.move (Go.Operand.tmp 0), type := 67, pos := "", after := #[], guard := none }, { dst := some 13, op := Go.Op.move (Go.Operand.tmp 5), type := 3, pos := "", after := #[], guard := none }, { dst := some 14, op := Go.Op.indexAddr 67 (Go.Operand.tmp 12) (Go.Operand.tmp 13), type := 0, pos := "", after := #[], guard := none }, { dst := some 15, op := Go.Op.load 9 (Go.Operand.tmp 14), type := 9, pos := "", after := #[], guard := none }, { dst := some 16, op := Go.Op.binOp Go.BinOp.eql 9 (Go.Operand.tmp 11) (Go.Operand.tmp 15) 9, type := 4, pos := "", after := #[], guard := none }] false) (Go.Code.cond (Go.Operand.tmp 16) (Go.Code.seq (Go.Code.region 5 #[{ dst := some 17, op := Go.Op.move (Go.Operand.tmp 5), type := 3, pos := "", after := #[], guard := none }, { dst := some 4, op := Go.Op.assign (Go.Operand.tmp 17), type := 3, pos := "", after := #[], guard := none }] false) Go.Code.ret) Go.Code.skip)))) (Go.Code.region 6 #[{ dst := some 18, op := Go.Op.binOp Go.BinOp.add 3 (Go.Operand.tmp 8) (Go.Operand.const (Go.Value.int Go.IntKind.i64 1)) 3, type := 3, pos := "", after := #[], guard := none }, { dst := some 8, op := Go.Op.move (Go.Operand.tmp 18), type := 3, pos := "", after := #[], guard := none }] false))))))) (Go.Code.seq (Go.Code.region 7 #[{ dst := some 4, op := Go.Op.assign (Go.Operand.const (Go.Value.int Go.IntKind.i64 (-1))), type := 3, pos := "", after := #[], guard := none }] false) Go.Code.ret))
theorem s75 : Try.f75.body.map (slim cfg) = some g75 := by kernel_rfl
theorem u63 : type_of% (And.intro ag3 (And.intro sz3 (And.intro by3 (And.intro ze3 (And.intro Try.underlying3 (And.intro ag9 (And.intro sz9 (And.intro by9 (And.intro ze9 (And.intro Try.underlying9 (And.intro ag67 (And.intro sz67 (And.intro by67 (And.intro se67 (And.intro ze67 Try.underlying67))))))))))))))) :=
  And.intro ag3 (And.intro sz3 (And.intro by3 (And.intro ze3 (And.intro Try.underlying3 (And.intro ag9 (And.intro sz9 (And.intro by9 (And.intro ze9 (And.intro Try.underlying9 (And.intro ag67 (And.intro sz67 (And.intro by67 (And.intro se67 (And.intro ze67 Try.underlying67))))))))))))))
def g63 : Code :=
  Go.Code.seq (Go.Code.region 0 #[{ dst := some 4, op := Go.Op.assign (Go.Operand.const (Go.Value.bool false)), type := 4, pos := "", after := #[], guard := none }] false) (Go.Code.seq (Go.Code.region 1 #[{ dst := some 5, op := Go.Op.move (Go.Operand.tmp 0), type := 67, pos := "", after := #[], guard := none }, { dst := some 6, op := Go.Op.move (Go.Operand.tmp 1), type := 9, pos := "", after := #[], guard := none }, { dst := some 7, op := Go.Op.call { callee := Go.Callee.value (Go.Operand.func 75), args := #[Go.Operand.tmp 5, Go.Operand.tmp 6], argTypes := #[67, 9] }, type := 3, pos := "", after := #[], guard := none }, { dst := some 8, op := Go.Op.binOp Go.BinOp.geq 3 (Go.Operand.tmp 7) (Go.Operand.const (Go.Value.int Go.IntKind.i64 0)) 3, type := 4, pos := "", after := #[], guard := none }, { dst := some 4, op := Go.Op.assign (Go.Operand.tmp 8), type := 4, pos := "", after := #[], guard := none }] false) Go.Code.ret)
theorem s63 : Try.f63.body.map (slim cfg) = some g63 := by kernel_rfl
theorem u38 : type_of% (And.intro (show tagT Try.prog 27 = 0 from by kernel_rfl) (And.intro (show tagT Try.prog 59 = 0 from by kernel_rfl) (And.intro ag1 (And.intro sz1 (And.intro by1 (And.intro ze1 (And.intro Try.underlying1 (And.intro ag3 (And.intro sz3 (And.intro by3 (And.intro ze3 (And.intro Try.underlying3 (And.intro ag9 (And.intro sz9 (And.intro by9 (And.intro ze9 (And.intro Try.underlying9 (And.intro ag25 (And.intro sz25 (And.intro by25 (And.intro se25 (And.intro ze25 (And.intro Try.underlying25 (And.intro ag27 (And.intro sz27 (And.intro by27 (And.intro ze27 (And.intro bu27 (And.intro Try.underlying27 (And.intro ag59 (And.intro sz59 (And.intro by59 (And.intro ze59 (And.intro bu59 (And.intro Try.underlying59 (And.intro ag67 (And.intro sz67 (And.intro by67 (And.intro se67 (And.intro ze67 (And.intro Try.underlying67 (And.intro fa27_0 (And.intro fd27_0 (And.intro fa59_0 fd59_0)))))))))))))))))))))))))))))))))))))))))))) :=
  And.intro (show tagT Try.prog 27 = 0 from by kernel_rfl) (And.intro (show tagT Try.prog 59 = 0 from by kernel_rfl) (And.intro ag1 (And.intro sz1 (And.intro by1 (And.intro ze1 (And.intro Try.underlying1 (And.intro ag3 (And.intro sz3 (And.intro by3 (And.intro ze3 (And.intro Try.underlying3 (And.intro ag9 (And.intro sz9 (And.intro by9 (And.intro ze9 (And.intro Try.underlying9 (And.intro ag25 (And.intro sz25 (And.intro by25 (And.intro se25 (And.intro ze25 (And.intro Try.underlying25 (And.intro ag27 (And.intro sz27 (And.intro by27 (And.intro ze27 (And.intro bu27 (And.intro Try.underlying27 (And.intro ag59 (And.intro sz59 (And.intro by59 (And.intro ze59 (And.intro bu59 (And.intro Try.underlying59 (And.intro ag67 (And.intro sz67 (And.intro by67 (And.intro se67 (And.intro ze67 (And.intro Try.underlying67 (And.intro fa27_0 (And.intro fd27_0 (And.intro fa59_0 fd59_0)))))))))))))))))))))))))))))))))))))))))))
def g38 : Code :=
  Go.Code.seq (Go.Code.region 0 #[{ dst := some 2, op := Go.Op.box 27 (Go.Operand.tmp 0), type := 0, pos := "", after := #[], guard := none }, { dst := some 4, op := Go.Op.alloc 27, type := 0, pos := "", after := #[], guard := none }] false) (Go.Code.seq (Go.Code.region 1 #[{ dst := some 5, op := Go.Op.assign (Go.Operand.const (Go.Value.slice none 0 0)), type := 25, pos := "", after := #[], guard := none }] false) (Go.Code.seq (Go.Code.seq (Go.Code.region 2 #[{ dst := some 8, op := Go.Op.fieldAddr 27 (Go.Operand.tmp 2) 0, type := 0, pos := "", after := #[], guard := none }, { dst := some 9, op := Go.Op.load 25 (Go.Operand.tmp 8), type := 25, pos := "", after := #[], guard := none }, { dst := some 10, op := Go.Op.call { callee := Go.Callee.builtin Go.Builtin.len, args := #[Go.Operand.tmp 9], argTypes := #[25] }, type := 3, pos := "", after := #[], guard := none }, { dst := some 11, op := Go.Op.move (Go.Operand.const (Go.Value.int Go.IntKind.i64 0)), type := 3, pos := "", after := #[], guard := none }] false) (Go.Code.block 0 (Go.Code.loop (Go.Code.seq (Go.Code.region 3 #[{ dst := some 12, op := Go.Op.binOp Go.BinOp.lss 3 (Go.Operand.tmp 11) (Go.Operand.tmp 10) 3, type := 0, pos := "", after := #[], guard := none }] false) (Go.Code.seq (Go.Code.cond (Go.Operand.tmp 12) Go.Code.skip (Go.Code.exit 0)) (Go.Code.seq (Go.Code.block 1 (Go.Code.seq (Go.Code.region 4 #[{ dst := some 13, op := Go.Op.indexAddr 25 (Go.Operand.tmp 9) (Go.Operand.tmp 11), type := 0, pos := "", after := #[], guard := none }, { dst := some 14, op := Go.Op.load 59 (Go.Operand.tmp 13), type := 59, pos := "", after := #[], guard := none }, { dst := some 7, op := Go.Op.alloc 59, type := 0, pos := "", after := #[], guard := none }, { dst := none, op := Go.Op.store 59 (Go.Operand.tmp 7) (Go.Operand.tmp 14), type := 0, pos := "", after := #[], guard := none }] false) (Go.Code.seq (Go.Code.region 5 #[{ dst := some 15, op := Go.Op.move (Go.Operand.tmp 1), type := 67, pos := "", after := #[], guard := none }, { dst := some 16, op := Go.Op.fieldAddr 59 (Go.Operand.tmp 7) 0, type := 0, pos := "", after := #[], guard := none }, { dst := some 17, op := Go.Op.load 9 (Go.Operand.tmp 16), type := 9, pos := "", after := #[], guard := none }, { dst := some 18, op := Go.Op.call { callee := Go.Callee.value (Go.Operand.func 63), args := #[Go.Operand.tmp 15, Go.Operand.tmp 17], argTypes := #[67, 9] }, type := 4, pos := "", after := #[], guard := none }] false) (Go.Code.cond (Go.Operand.tmp 18) (Go.Code.region 6 #[{ dst := some 19, op := Go.Op.move (Go.Operand.tmp 5), type := 25, pos := "", after := #[], guard := none }, { dst := some 20, op := Go.Op.load 59 (Go.Operand.tmp 7), type := 59, pos := "", after := #[], guard := none }, { dst := some 21, op := Go.Op.buildSlice 25 1 #[(0, Go.Operand.tmp 20)], type := 25, pos := "", after := #[], guard := none }, { dst := some 22, op := Go.Op.call { callee := Go.Callee.builtin Go.Builtin.append, args := #[Go.Operand.tmp 19, Go.Operand.tmp 21], argTypes := #[25, 25] }, type := 25, pos := "", after := #[], guard := none }, { dst := some 5, op := Go.Op.assign (Go.Operand.tmp 22), type := 25, pos := "", after := #[], guard := none }] false) Go.Code.skip)))) (Go.Code.region 7 #[{ dst := some 23, op := Go.Op.binOp Go.BinOp.add 3 (Go.Operand.tmp 11) (Go.Operand.const (Go.Value.int Go.IntKind.i64 1)) 3, type := 3, pos := "", after := #[], guard := none }, { dst := some 11, op := Go.Op.move (Go.Operand.tmp 23), type := 3, pos := "", after := #[], guard := none }] false))))))) (Go.Code.seq (Go.Code.region 8 #[{ dst := some 24, op := Go.Op.move (Go.Operand.tmp 5), type := 25, pos := "", after := #[], guard := none }, { dst := some 25, op := Go.Op.build 27 #[(0, Go.Operand.tmp 24)], type := 27, pos := "", after := #[], guard := none }, { dst := none, op := Go.Op.store 27 (Go.Operand.tmp 4) (Go.Operand.tmp 25), type := 0, pos := "", after := #[], guard := none }] false) Go.Code.ret)))
theorem s38 : Try.f38.body.map (slim cfg) = some g38 := by kernel_rfl
theorem u62 : type_of% (And.intro ag3 (And.intro sz3 (And.intro by3 (And.intro ze3 (And.intro Try.underlying3 (And.intro ag25 (And.intro sz25 (And.intro by25 (And.intro se25 (And.intro ze25 (And.intro Try.underlying25 (And.intro ag59 (And.intro sz59 (And.intro by59 (And.intro ze59 (And.intro bu59 Try.underlying59)))))))))))))))) :=
  And.intro ag3 (And.intro sz3 (And.intro by3 (And.intro ze3 (And.intro Try.underlying3 (And.intro ag25 (And.intro sz25 (And.intro by25 (And.intro se25 (And.intro ze25 (And.intro Try.underlying25 (And.intro ag59 (And.intro sz59 (And.intro by59 (And.intro ze59 (And.intro bu59 Try.underlying59)))))))))))))))
def g62 : Code :=
  Go.Code.seq (Go.Code.region 0 #[{ dst := some 4, op := Go.Op.assign (Go.Operand.const (Go.Value.bool false)), type := 4, pos := "", after := #[], guard := none }] false) (Go.Code.seq (Go.Code.seq (Go.Code.region 1 #[{ dst := some 6, op := Go.Op.move (Go.Operand.tmp 0), type := 25, pos := "", after := #[], guard := none }, { dst := some 7, op := Go.Op.call { callee := Go.Callee.builtin Go.Builtin.len, args := #[Go.Operand.tmp 6], argTypes := #[25] }, type := 3, pos := "", after := #[], guard := none }, { dst := some 8, op := Go.Op.move (Go.Operand.tmp 1), type := 25, pos := "", after := #[], guard := none }, { dst := some 9, op := Go.Op.call { callee := Go.Callee.builtin Go.Builtin.len, args := #[Go.Operand.tmp 8], argTypes := #[25] }, type := 3, pos := "", after := #[], guard := none }, { dst := some 10, op := Go.Op.binOp Go.BinOp.neq 3 (Go.Operand.tmp 7) (Go.Operand.tmp 9) 3, type := 4, pos := "", after := #[], guard := none }] false) (Go.Code.cond (Go.Operand.tmp 10) (Go.Code.seq (Go.Code.region 2 #[{ dst := some 4, op := Go.Op.assign (Go.Operand.const (Go.Value.bool false)), type := 4, pos := "", after := #[], guard := none }] false) Go.Code.ret) Go.Code.skip)) (Go.Code.seq (Go.Code.seq (Go.Code.region 3 #[{ dst := some 11, op := Go.Op.move (Go.Operand.tmp 0), type := 25, pos := "", after := #[], guard := none }, { dst := some 12, op := Go.Op.call { callee := Go.Callee.builtin Go.Builtin.len, args := #[Go.Operand.tmp 11], argTypes := #[25] }, type := 3, pos := "", after := #[], guard := none }, { dst := some 13, op := Go.Op.move (Go.Operand.const (Go.Value.int Go.IntKind.i64 0)), type := 3, pos := "", after := #[], guard := none }] false) (Go.Code.block 0 (Go.Code.loop (Go.Code.seq (Go.Code.region 4 #[{ dst := some 14, op := Go.Op.binOp Go.BinOp.lss 3 (Go.Operand.tmp 13) (Go.Operand.tmp 12) 3, type := 0, pos := "", after := #[], guard := none }] false) (Go.Code.seq (Go.Code.cond (Go.Operand.tmp 14) Go.Code.skip (Go.Code.exit 0)) (Go.Code.seq (Go.Code.block 1 (Go.Code.seq (Go.Code.region 5 #[{ dst := some 15, op := Go.Op.move (Go.Operand.tmp 13), type := 3, pos := "", after := #[], guard := none }, { dst := some 5, op := Go.Op.assign (Go.Operand.tmp 15), type := 3, pos := "", after := #[], guard := none }] false) (Go.Code.seq (Go.Code.region 6 #[{ dst := some 16, op := Go.Op.move (Go.Operand.tmp 0), type := 25, pos := "", after := #[], guard := none }, { dst := some 17, op := Go.Op.move (Go.Operand.tmp 5), type := 3, pos := "", after := #[], guard := none }, { dst := some 18, op := Go.Op.indexAddr 25 (Go.Operand.tmp 16) (Go.Operand.tmp 17), type := 0, pos := "", after := #[], guard := none }, { dst := some 19, op := Go.Op.load 59 (Go.Operand.tmp 18), type := 59, pos := "", after := #[], guard := none }, { dst := some 20, op := Go.Op.move (Go.Operand.tmp 1), type := 25, pos := "", after := #[], guard := none }, { dst := some 21, op := Go.Op.move (Go.Operand.tmp 5), type := 3, pos := "", after := #[], guard := none }, { dst := some 22, op := Go.Op.indexAddr 25 (Go.Operand.tmp 20) (Go.Operand.tmp 21), type := 0, pos := "", after := #[], guard := none }, { dst := some 23, op := Go.Op.load 59 (Go.Operand.tmp 22), type := 59, pos := "", after := #[], guard := none }, { dst := some 24, op := Go.Op.binOp Go.BinOp.neq 59 (Go.Operand.tmp 19) (Go.Operand.tmp 23) 59, type := 4, pos := "", after := #[], guard := none }] false) (Go.Code.cond (Go.Operand.tmp 24) (Go.Code.seq (Go.Code.region 7 #[{ dst := some 4, op := Go.Op.assign (Go.Operand.const (Go.Value.bool false)), type := 4, pos := "", after := #[], guard := none }] false) Go.Code.ret) Go.Code.skip)))) (Go.Code.region 8 #[{ dst := some 25, op := Go.Op.binOp Go.BinOp.add 3 (Go.Operand.tmp 13) (Go.Operand.const (Go.Value.int Go.IntKind.i64 1)) 3, type := 3, pos := "", after := #[], guard := none }, { dst := some 13, op := Go.Op.move (Go.Operand.tmp 25), type := 3, pos := "", after := #[], guard := none }] false))))))) (Go.Code.seq (Go.Code.region 9 #[{ dst := some 4, op := Go.Op.assign (Go.Operand.const (Go.Value.bool true)), type := 4, pos := "", after := #[], guard := none }] false) Go.Code.ret)))
theorem s62 : Try.f62.body.map (slim cfg) = some g62 := by kernel_rfl
theorem u32 : type_of% (And.intro (show tagT Try.prog 27 = 0 from by kernel_rfl) (And.intro ag25 (And.intro sz25 (And.intro by25 (And.intro se25 (And.intro ze25 (And.intro Try.underlying25 (And.intro ag27 (And.intro sz27 (And.intro by27 (And.intro ze27 (And.intro bu27 (And.intro Try.underlying27 (And.intro ag59 (And.intro sz59 (And.intro by59 (And.intro ze59 (And.intro bu59 (And.intro Try.underlying59 (And.intro fa27_0 fd27_0)))))))))))))))))))) :=
  And.intro (show tagT Try.prog 27 = 0 from by kernel_rfl) (And.intro ag25 (And.intro sz25 (And.intro by25 (And.intro se25 (And.intro ze25 (And.intro Try.underlying25 (And.intro ag27 (And.intro sz27 (And.intro by27 (And.intro ze27 (And.intro bu27 (And.intro Try.underlying27 (And.intro ag59 (And.intro sz59 (And.intro by59 (And.intro ze59 (And.intro bu59 (And.intro Try.underlying59 (And.intro fa27_0 fd27_0)))))))))))))))))))
def g32 : Code :=
  Go.Code.seq (Go.Code.region 0 #[{ dst := some 2, op := Go.Op.box 27 (Go.Operand.tmp 0), type := 0, pos := "", after := #[], guard := none }, { dst := some 3, op := Go.Op.box 27 (Go.Operand.tmp 1), type := 0, pos := "", after := #[], guard := none }, { dst := some 4, op := Go.Op.assign (Go.Operand.const (Go.Value.bool false)), type := 4, pos := "", after := #[], guard := none }] false) (Go.Code.seq (Go.Code.region 1 #[{ dst := some 5, op := Go.Op.fieldAddr 27 (Go.Operand.tmp 2) 0, type := 0, pos := "", after := #[], guard := none }, { dst := some 6, op := Go.Op.load 25 (Go.Operand.tmp 5), type := 25, pos := "", after := #[], guard := none }, { dst := some 7, op := Go.Op.fieldAddr 27 (Go.Operand.tmp 3) 0, type := 0, pos := "", after := #[], guard := none }, { dst := some 8, op := Go.Op.load 25 (Go.Operand.tmp 7), type := 25, pos := "", after := #[], guard := none }, { dst := some 9, op := Go.Op.call { callee := Go.Callee.value (Go.Operand.func 62), args := #[Go.Operand.tmp 6, Go.Operand.tmp 8], argTypes := #[25, 25] }, type := 4, pos := "", after := #[], guard := none }, { dst := some 4, op := Go.Op.assign (Go.Operand.tmp 9), type := 4, pos := "", after := #[], guard := none }] false) Go.Code.ret)
theorem s32 : Try.f32.body.map (slim cfg) = some g32 := by kernel_rfl
theorem u8 : type_of% (And.intro (show tagT Try.prog 27 = 0 from by kernel_rfl) (And.intro (show tagT Try.prog 68 = 0 from by kernel_rfl) (And.intro ag1 (And.intro sz1 (And.intro by1 (And.intro ze1 (And.intro Try.underlying1 (And.intro ag3 (And.intro sz3 (And.intro by3 (And.intro ze3 (And.intro Try.underlying3 (And.intro ag9 (And.intro sz9 (And.intro by9 (And.intro ze9 (And.intro Try.underlying9 (And.intro ag22 (And.intro sz22 (And.intro by22 (And.intro se22 (And.intro ze22 (And.intro Try.underlying22 (And.intro ag25 (And.intro sz25 (And.intro by25 (And.intro se25 (And.intro ze25 (And.intro Try.underlying25 (And.intro ag27 (And.intro sz27 (And.intro by27 (And.intro ze27 (And.intro bu27 (And.intro Try.underlying27 (And.intro ag38 (And.intro sz38 (And.intro by38 (And.intro ze38 (And.intro Try.underlying38 (And.intro ag59 (And.intro sz59 (And.intro by59 (And.intro ze59 (And.intro bu59 (And.intro Try.underlying59 (And.intro ag67 (And.intro sz67 (And.intro by67 (And.intro se67 (And.intro ze67 (And.intro Try.underlying67 (And.intro ag68 (And.intro sz68 (And.intro by68 (And.intro ze68 (And.intro bu68 (And.intro Try.underlying68 (And.intro fa68_0 fd68_0))))))))))))))))))))))))))))))))))))))))))))))))))))))))))) :=
  And.intro (show tagT Try.prog 27 = 0 from by kernel_rfl) (And.intro (show tagT Try.prog 68 = 0 from by kernel_rfl) (And.intro ag1 (And.intro sz1 (And.intro by1 (And.intro ze1 (And.intro Try.underlying1 (And.intro ag3 (And.intro sz3 (And.intro by3 (And.intro ze3 (And.intro Try.underlying3 (And.intro ag9 (And.intro sz9 (And.intro by9 (And.intro ze9 (And.intro Try.underlying9 (And.intro ag22 (And.intro sz22 (And.intro by22 (And.intro se22 (And.intro ze22 (And.intro Try.underlying22 (And.intro ag25 (And.intro sz25 (And.intro by25 (And.intro se25 (And.intro ze25 (And.intro Try.underlying25 (And.intro ag27 (And.intro sz27 (And.intro by27 (And.intro ze27 (And.intro bu27 (And.intro Try.underlying27 (And.intro ag38 (And.intro sz38 (And.intro by38 (And.intro ze38 (And.intro Try.underlying38 (And.intro ag59 (And.intro sz59 (And.intro by59 (And.intro ze59 (And.intro bu59 (And.intro Try.underlying59 (And.intro ag67 (And.intro sz67 (And.intro by67 (And.intro se67 (And.intro ze67 (And.intro Try.underlying67 (And.intro ag68 (And.intro sz68 (And.intro by68 (And.intro ze68 (And.intro bu68 (And.intro Try.underlying68 (And.intro fa68_0 fd68_0))))))))))))))))))))))))))))))))))))))))))))))))))))))))))
def g8 : Code :=
  Go.Code.seq (Go.Code.region 0 #[{ dst := some 4, op := Go.Op.assign (Go.Operand.const (Go.Value.bool false)), type := 4, pos := "", after := #[], guard := none }] false) (Go.Code.seq (Go.Code.region 1 #[{ dst := some 16, op := Go.Op.move (Go.Operand.tmp 0), type := 22, pos := "", after := #[], guard := none }, { dst := some 17, op := Go.Op.call { callee := Go.Callee.value (Go.Operand.func 17), args := #[Go.Operand.tmp 16], argTypes := #[22] }, type := 40, pos := "", after := #[], guard := none }, { dst := some 15, op := Go.Op.move (Go.Operand.tmp 17), type := 40, pos := "", after := #[], guard := none }, { dst := some 18, op := Go.Op.extract (Go.Operand.tmp 15) 0, type := 25, pos := "", after := #[], guard := none }, { dst := some 19, op := Go.Op.extract (Go.Operand.tmp 15) 1, type := 22, pos := "", after := #[], guard := none }, { dst := some 5, op := Go.Op.assign (Go.Operand.tmp 18), type := 25, pos := "", after := #[], guard := none }, { dst := some 6, op := Go.Op.assign (Go.Operand.tmp 19), type := 22, pos := "", after := #[], guard := none }] false) (Go.Code.seq (Go.Code.region 2 #[{ dst := some 21, op := Go.Op.move (Go.Operand.tmp 5), type := 25, pos := "", after := #[], guard := none }, { dst := some 22, op := Go.Op.call { callee := Go.Callee.value (Go.Operand.func 18), args := #[Go.Operand.tmp 21], argTypes := #[25] }, type := 42, pos := "", after := #[], guard := none }, { dst := some 20, op := Go.Op.move (Go.Operand.tmp 22), type := 42, pos := "", after := #[], guard := none }, { dst := some 23, op := Go.Op.extract (Go.Operand.tmp 20) 0, type := 27, pos := "", after := #[], guard := none }, { dst := some 24, op := Go.Op.extract (Go.Operand.tmp 20) 1, type := 38, pos := "", after := #[], guard := none }, { dst := some 7, op := Go.Op.alloc 27, type := 0, pos := "", after := #[], guard := none }, { dst := none, op := Go.Op.store 27 (Go.Operand.tmp 7) (Go.Operand.tmp 23), type := 0, pos := "", after := #[], guard := none }, { dst := some 8, op := Go.Op.assign (Go.Operand.tmp 24), type := 38, pos := "", after := #[], guard := none }] false) (Go.Code.seq (Go.Code.seq (Go.Code.region 3 #[{ dst := some 25, op := Go.Op.move (Go.Operand.tmp 8), type := 38, pos := "", after := #[], guard := none }, { dst := some 26, op := Go.Op.binOp Go.BinOp.neq 38 (Go.Operand.tmp 25) (Go.Operand.const (Go.Value.int Go.IntKind.i64 0)) 38, type := 4, pos := "", after := #[], guard := none }] false) (Go.Code.cond (Go.Operand.tmp 26) (Go.Code.seq (Go.Code.region 4 #[{ dst := some 27, op := Go.Op.load 27 (Go.Operand.tmp 7), type := 27, pos := "", after := #[], guard := none }, { dst := some 28, op := Go.Op.call { callee := Go.Callee.value (Go.Operand.func 22), args := #[Go.Operand.tmp 27], argTypes := #[27] }, type := 3, pos := "", after := #[], guard := none }, { dst := some 29, op := Go.Op.binOp Go.BinOp.eql 3 (Go.Operand.tmp 28) (Go.Operand.const (Go.Value.int Go.IntKind.i64 0)) 3, type := 4, pos := "", after := #[], guard := none }, { dst := some 30, op := Go.Op.move (Go.Operand.tmp 29), type := 4, pos := "", after := #[], guard := none }, { dst := some 31, op := Go.Op.call { callee := Go.Callee.value (Go.Operand.func 31), args := #[], argTypes := #[] }, type := 4, pos := "", after := #[], guard := some (3, true) }, { dst := some 32, op := Go.Op.pick (Go.Operand.tmp 30) (Go.Operand.tmp 31) (Go.Operand.const (Go.Value.bool false)), type := 4, pos := "", after := #[], guard := none }, { dst := some 4, op := Go.Op.assign (Go.Operand.tmp 32), type := 4, pos := "", after := #[], guard := none }] false) Go.Code.ret) Go.Code.skip)) (Go.Code.seq (Go.Code.region 5 #[{ dst := some 9, op := Go.Op.assign (Go.Operand.const (Go.Value.slice none 0 0)), type := 22, pos := "", after := #[], guard := none }] false) (Go.Code.seq (Go.Code.seq (Go.Code.region 6 #[{ dst := some 33, op := Go.Op.load 27 (Go.Operand.tmp 7), type := 27, pos := "", after := #[], guard := none }, { dst := some 34, op := Go.Op.call { callee := Go.Callee.value (Go.Operand.func 21), args := #[Go.Operand.tmp 33], argTypes := #[27] }, type := 22, pos := "", after := #[], guard := none }, { dst := some 35, op := Go.Op.call { callee := Go.Callee.builtin Go.Builtin.len, args := #[Go.Operand.tmp 34], argTypes := #[22] }, type := 3, pos := "", after := #[], guard := none }, { dst := some 36, op := Go.Op.move (Go.Operand.const (Go.Value.int Go.IntKind.i64 0)), type := 3, pos := "", after := #[], guard := none }] false) (Go.Code.block 0 (Go.Code.loop (Go.Code.seq (Go.Code.region 7 #[{ dst := some 37, op := Go.Op.binOp Go.BinOp.lss 3 (Go.Operand.tmp 36) (Go.Operand.tmp 35) 3, type := 0, pos := "", after := #[], guard := none }] false) (Go.Code.seq (Go.Code.cond (Go.Operand.tmp 37) Go.Code.skip (Go.Code.exit 0)) (Go.Code.seq (Go.Code.block 1 (Go.Code.seq (Go.Code.region 8 #[{ dst := some 38, op := Go.Op.indexAddr 22 (Go.Operand.tmp 34) (Go.Operand.tmp 36), type := 0, pos := "", after := #[], guard := none }, { dst := some 39, op := Go.Op.load 68 (Go.Operand.tmp 38), type := 68, pos := "", after := #[], guard := none }, { dst := some 11, op := Go.Op.alloc 68, type := 0, pos := "", after := #[], guard := none }, { dst := none, op := Go.Op.store 68 (Go.Operand.tmp 11) (Go.Operand.tmp 39), type := 0, pos := "", after := #[], guard := none }] false) (Go.Code.seq (Go.Code.region 9 #[{ dst := some 12, op := Go.Op.assign (Go.Operand.const (Go.Value.bool false)), type := 4, pos := "", after := #[], guard := none }] false) (Go.Code.seq (Go.Code.seq (Go.Code.region 10 #[{ dst := some 40, op := Go.Op.move (Go.Operand.tmp 1), type := 67, pos := "", after := #[], guard := none }, { dst := some 41, op := Go.Op.call { callee := Go.Callee.builtin Go.Builtin.len, args := #[Go.Operand.tmp 40], argTypes := #[67] }, type := 3, pos := "", after := #[], guard := none }, { dst := some 42, op := Go.Op.move (Go.Operand.const (Go.Value.int Go.IntKind.i64 0)), type := 3, pos := "", after := #[], guard := none }] false) (Go.Code.block 2 (Go.Code.loop (Go.Code.seq (Go.Code.region 11 #[{ dst := some 43, op := Go.Op.binOp Go.BinOp.lss 3 (Go.Operand.tmp 42) (Go.Operand.tmp 41) 3, type := 0, pos := "", after := #[], guard := none }] false) (Go.Code.seq (Go.Code.cond (Go.Operand.tmp 43) Go.Code.skip (Go.Code.exit 2)) (Go.Code.seq (Go.Code.block 3 (Go.Code.seq (Go.Code.region 12 #[{ dst := some 44, op := Go.Op.indexAddr 67 (Go.Operand.tmp 40) (Go.Operand.tmp 42), type := 0, pos := "", after := #[], guard := none }, { dst := some 45, op := Go.Op.load 9 (Go.Operand.tmp 44), type := 9, pos := "", after := #[], guard := none }, { dst := some 14, op := Go.Op.assign (Go.Operand.tmp 45), type := 9, pos := "", after := #[], guard := none }] false) (Go.Code.region 13 #[{ dst := some 46, op := Go.Op.move (Go.Operand.tmp 12), type := 4, pos := "", after := #[], guard := none }, { dst := some 47, op := Go.Op.move (Go.Operand.tmp 46), type := 4, pos := "", after := #[], guard := none }, { dst := some 48, op := Go.Op.move (Go.Operand.tmp 14), type := 9, pos := "", after := #[], guard := some (1, false) }, { dst := some 49, op := Go.Op.fieldAddr 68 (Go.Operand.tmp 11) 0, type := 0, pos := "", after := #[], guard := some (1, false) }, { dst := some 50, op := Go.Op.load 9 (Go.Operand.tmp 49), type := 9, pos := "", after := #[], guard := some (1, false) }, { dst := some 51, op := Go.Op.binOp Go.BinOp.eql 9 (Go.Operand.tmp 48) (Go.Operand.tmp 50) 9, type := 4, pos := "", after := #[], guard := some (1, false) }, { dst := some 52, op := Go.Op.pick (Go.Operand.tmp 47) (Go.Operand.const (Go.Value.bool true)) (Go.Operand.tmp 51), type := 4, pos := "", after := #[], guard := none }, { dst := some 12, op := Go.Op.assign (Go.Operand.tmp 52), type := 4, pos := "", after := #[], guard := none }] false))) (Go.Code.region 14 #[{ dst := some 53, op := Go.Op.binOp Go.BinOp.add 3 (Go.Operand.tmp 42) (Go.Operand.const (Go.Value.int Go.IntKind.i64 1)) 3, type := 3, pos := "", after := #[], guard := none }, { dst := some 42, op := Go.Op.move (Go.Operand.tmp 53), type := 3, pos := "", after := #[], guard := none }] false))))))) (Go.Code.seq (Go.Code.region 15 #[{ dst := some 54, op := Go.Op.move (Go.Operand.tmp 12), type := 4, pos := "", after := #[], guard := none }] false) (Go.Code.cond (Go.Operand.tmp 54) (Go.Code.region 16 #[{ dst := some 55, op := Go.Op.move (Go.Operand.tmp 9), type := 22, pos := "", after := #[], guard := none }, { dst := some 56, op := Go.Op.load 68 (Go.Operand.tmp 11), type := 68, pos := "", after := #[], guard := none }, { dst := some 57, op := Go.Op.buildSlice 22 1 #[(0, Go.Operand.tmp 56)], type := 22, pos := "", after := #[], guard := none }, { dst := some 58, op := Go.Op.call { callee := Go.Callee.builtin Go.Builtin.append, args := #[Go.Operand.tmp 55, Go.Operand.tmp 57], argTypes := #[22, 22] }, type := 22, pos := "", after := #[], guard := none }, { dst := some 9, op := Go.Op.assign (Go.Operand.tmp 58), type := 22, pos := "", after := #[], guard := none }] false) Go.Code.skip)))))) (Go.Code.region 17 #[{ dst := some 59, op := Go.Op.binOp Go.BinOp.add 3 (Go.Operand.tmp 36) (Go.Operand.const (Go.Value.int Go.IntKind.i64 1)) 3, type := 3, pos := "", after := #[], guard := none }, { dst := some 36, op := Go.Op.move (Go.Operand.tmp 59), type := 3, pos := "", after := #[], guard := none }] false))))))) (Go.Code.seq (Go.Code.region 18 #[{ dst := some 60, op := Go.Op.load 27 (Go.Operand.tmp 7), type := 27, pos := "", after := #[], guard := none }, { dst := some 61, op := Go.Op.move (Go.Operand.tmp 1), type := 67, pos := "", after := #[], guard := none }, { dst := some 62, op := Go.Op.call { callee := Go.Callee.value (Go.Operand.func 38), args := #[Go.Operand.tmp 60, Go.Operand.tmp 61], argTypes := #[27, 67] }, type := 27, pos := "", after := #[], guard := none }, { dst := some 63, op := Go.Op.call { callee := Go.Callee.value (Go.Operand.func 21), args := #[Go.Operand.tmp 62], argTypes := #[27] }, type := 22, pos := "", after := #[], guard := none }, { dst := some 64, op := Go.Op.move (Go.Operand.tmp 9), type := 22, pos := "", after := #[], guard := none }, { dst := some 65, op := Go.Op.call { callee := Go.Callee.value (Go.Operand.func 20), args := #[Go.Operand.tmp 63, Go.Operand.tmp 64], argTypes := #[22, 22] }, type := 4, pos := "", after := #[], guard := none }, { dst := some 66, op := Go.Op.move (Go.Operand.tmp 65), type := 4, pos := "", after := #[], guard := none }, { dst := some 67, op := Go.Op.load 27 (Go.Operand.tmp 7), type := 27, pos := "", after := #[], guard := some (6, true) }, { dst := some 68, op := Go.Op.call { callee := Go.Callee.value (Go.Operand.func 38), args := #[Go.Operand.tmp 67, Go.Operand.const (Go.Value.slice none 0 0)], argTypes := #[27, 67] }, type := 27, pos := "", after := #[], guard := some (6, true) }, { dst := some 69, op := Go.Op.build 27 #[], type := 27, pos := "", after := #[], guard := some (6, true) }, { dst := some 70, op := Go.Op.call { callee := Go.Callee.value (Go.Operand.func 32), args := #[Go.Operand.tmp 68, Go.Operand.tmp 69], argTypes := #[27, 27] }, type := 4, pos := "", after := #[], guard := some (6, true) }, { dst := some 71, op := Go.Op.pick (Go.Operand.tmp 66) (Go.Operand.tmp 70) (Go.Operand.const (Go.Value.bool false)), type := 4, pos := "", after := #[], guard := none }, { dst := some 72, op := Go.Op.move (Go.Operand.tmp 71), type := 4, pos := "", after := #[], guard := none }, { dst := some 73, op := Go.Op.call { callee := Go.Callee.value (Go.Operand.func 31), args := #[], argTypes := #[] }, type := 4, pos := "", after := #[], guard := some (12, true) }, { dst := some 74, op := Go.Op.pick (Go.Operand.tmp 72) (Go.Operand.tmp 73) (Go.Operand.const (Go.Value.bool false)), type := 4, pos := "", after := #[], guard := none }, { dst := some 4, op := Go.Op.assign (Go.Operand.tmp 74), type := 4, pos := "", after := #[], guard := none }] false) Go.Code.ret))))))
theorem s8 : Try.f8.body.map (slim cfg) = some g8 := by kernel_rfl

theorem lawake_ok (prot : Nat) (H : Heap) : aLim cfg prot 31 [] H = some (.bool true, none) :=
  lim_shut (k := 1000) (by kernel_rfl) (by kernel_rfl) (by kernel_rfl) prot H

def encS (x : List UInt8) : AV := .str x
theorem encS_len (x : List UInt8) : (encS x).cells.length = 1 := rfl
def inN (ns : List (List UInt8)) (x : List UInt8) : Bool := ns.any fun n => n == x
def idxS : List (List UInt8) → List UInt8 → Int → Int
  | [], _, _ => -1
  | n :: r, x, i => if x == n then i else idxS r x (i + 1)
theorem idxS_ge : ∀ (l : List (List UInt8)) (x : List UInt8) (i : Int), 0 ≤ i → (0 ≤ idxS l x i ↔ inN l x = true)
  | [], x, i, _ => by simp [idxS, inN]
  | n :: r, x, i, hi => by
    have := idxS_ge r x (i + 1) (by omega)
    unfold inN at this ⊢
    by_cases h : x = n
    · subst h; simp [idxS, hi]
    · have h2 : ¬ n = x := fun e => h e.symm
      simp [idxS, h, h2, this]


theorem indexS_ok (ns : List (List UInt8)) (x : List UInt8) (z : AV) (hz : Sl encS z ns) (hn : ns.length ≤ 9223372036854775807) (prot : Nat) (H : Heap) (hp : prot ≤ H.length) :
    aLim cfg prot 75 [z, .str x] H = some (.int .i64 (idxS ns x 0), none) := by
  have hsnap : snap H [z, .str x] = some ([z, .str x], false) := by cases hz <;> rfl
  have e0 : ∀ a b, aStr .eql a b = some (.bool (a == b)) := fun _ _ => rfl
  refine pure_slim rfl (by kernel_rfl) Try.func75 s75 hp hsnap (by simp [Try.f75]) fun fr hlen h => ?_
  simp only [Has, Nat.zero_add] at h
  obtain ⟨a0, a1, -⟩ := h
  simp only [Try.f75] at hlen ⊢
  unfold g75
  simp only [wk0, wk1, wk2, wk3, wk4, wk5, wk6, aWanted, aYield, Region.wanted, aOp, quiet, loud, aEvals, aParts, aOpt, aBuiltin, rd, win, AV.cells, AV.leaf, aNew, splice, fillA, Nat.reduceEqDiff, Nat.reduceLT, Nat.reduceAdd, Nat.reduceLeDiff, reduceCtorEq, Nat.reduceMul, cfgP, u75, hlen, a0, a1, hz.len Try.underlying67]
  refine loop_rule (fun m fr H' => ∃ (i : Nat), m = ns.length - i ∧ i ≤ ns.length ∧ fr.length = 19 ∧ fget fr 0 = z ∧ fget fr 1 = .str x ∧ fget fr 7 = .int .i64 ns.length ∧ fget fr 8 = .int .i64 i
    ∧ H' = H ∧ idxS ns x 0 = idxS (ns.drop i) x i) ?_ ns.length _ _ ⟨0, by simp [wk0, wk1, wk2, wk3, wk4, wk5, wk6, aWanted, aYield, Region.wanted, aOp, quiet, loud, aEvals, aParts, aOpt, aBuiltin, rd, win, AV.cells, AV.leaf, aNew, splice, fillA, Nat.reduceEqDiff, Nat.reduceLT, Nat.reduceAdd, Nat.reduceLeDiff, reduceCtorEq, Nat.reduceMul, cfgP, u75, hlen, a0, a1]⟩
  rintro m fr H' ⟨i, rfl, hi, hlen, a0, a1, a7, a8, hHe, hc⟩ ih
  subst hHe
  simp only [wk0, wk1, wk2, wk3, wk4, wk5, wk6, aWanted, aYield, Region.wanted, aOp, quiet, loud, aEvals, aParts, aOpt, aBuiltin, rd, win, AV.cells, AV.leaf, aNew, splice, fillA, Nat.reduceEqDiff, Nat.reduceLT, Nat.reduceAdd, Nat.reduceLeDiff, reduceCtorEq, Nat.reduceMul, cfgP, u75, hlen, a0, a1, a7, a8]
  refine RC_split (fun h => ?_) (fun h => ?_)
  · have hlt : i < ns.length := by simpa using h
    have hw : IntKind.i64.wrap ((i : Int) + 1) = ((i + 1 : Nat) : Int) := by rw [wrap64 (by omega) (by omega)]; simp
    have e1 := hz.at (k := .i64) Try.underlying67 sz9 encS_len hlt
    have hd : ns.drop i = ns[i] :: ns.drop (i + 1) := by simp
    generalize ns[i] = n at *
    rw [hd, idxS] at hc
    simp only [wk0, wk1, wk2, wk3, wk4, wk5, wk6, aWanted, aYield, Region.wanted, aOp, quiet, loud, aEvals, aParts, aOpt, aBuiltin, rd, win, AV.cells, AV.leaf, aNew, splice, fillA, Nat.reduceEqDiff, Nat.reduceLT, Nat.reduceAdd, Nat.reduceLeDiff, reduceCtorEq, Nat.reduceMul, cfgP, u75, hlen, a0, a1, a7, a8, e1, encS, e0]
    cases hq : x == n with
    | true =>
      rw [hq, if_pos rfl] at hc
      rw [hc]
      simp only [wk0, wk1, wk2, wk3, wk4, wk5, wk6, aWanted, aYield, Region.wanted, aOp, quiet, loud, aEvals, aParts, aOpt, aBuiltin, rd, win, AV.cells, AV.leaf, aNew, splice, fillA, Nat.reduceEqDiff, Nat.reduceLT, Nat.reduceAdd, Nat.reduceLeDiff, reduceCtorEq, Nat.reduceMul, cfgP, u75, hlen, a0, a1, a7, a8]
      exact Fin_pure (l := [.int .i64 i]) (by simp [wk0, wk1, wk2, wk3, wk4, wk5, wk6, aWanted, aYield, Region.wanted, aOp, quiet, loud, aEvals, aParts, aOpt, aBuiltin, rd, win, AV.cells, AV.leaf, aNew, splice, fillA, Nat.reduceEqDiff, Nat.reduceLT, Nat.reduceAdd, Nat.reduceLeDiff, reduceCtorEq, Nat.reduceMul, cfgP, u75, aResults, aResult, hlen]) (.still rfl) (by simp)
    | false =>
      rw [hq, if_neg (by simp)] at hc
      simp only [wk0, wk1, wk2, wk3, wk4, wk5, wk6, aWanted, aYield, Region.wanted, aOp, quiet, loud, aEvals, aParts, aOpt, aBuiltin, rd, win, AV.cells, AV.leaf, aNew, splice, fillA, Nat.reduceEqDiff, Nat.reduceLT, Nat.reduceAdd, Nat.reduceLeDiff, reduceCtorEq, Nat.reduceMul, cfgP, u75, hlen, a0, a1, a7, a8, hw]
      refine ih _ _ (ns.length - (i + 1)) (by omega) ⟨i + 1, rfl, hlt, ?_⟩
      rw [hc]
      simp [wk0, wk1, wk2, wk3, wk4, wk5, wk6, aWanted, aYield, Region.wanted, aOp, quiet, loud, aEvals, aParts, aOpt, aBuiltin, rd, win, AV.cells, AV.leaf, aNew, splice, fillA, Nat.reduceEqDiff, Nat.reduceLT, Nat.reduceAdd, Nat.reduceLeDiff, reduceCtorEq, Nat.reduceMul, cfgP, u75, hlen, a0, a1, a7, a8]
  · simp only [wk0, wk1, wk2, wk3, wk4, wk5, wk6, aWanted, aYield, Region.wanted, aOp, quiet, loud, aEvals, aParts, aOpt, aBuiltin, rd, win, AV.cells, AV.leaf, aNew, splice, fillA, Nat.reduceEqDiff, Nat.reduceLT, Nat.reduceAdd, Nat.reduceLeDiff, reduceCtorEq, Nat.reduceMul, cfgP, u75, hlen, a0, a1, a7, a8]
    have hnl : ¬ i < ns.length := by simpa using h
    have : ns.drop i = [] := by simp; omega
    rw [this] at hc
    rw [hc]
    exact Fin_pure (l := [.int .i64 (-1)]) (by simp [wk0, wk1, wk2, wk3, wk4, wk5, wk6, aWanted, aYield, Region.wanted, aOp, quiet, loud, aEvals, aParts, aOpt, aBuiltin, rd, win, AV.cells, AV.leaf, aNew, splice, fillA, Nat.reduceEqDiff, Nat.reduceLT, Nat.reduceAdd, Nat.reduceLeDiff, reduceCtorEq, Nat.reduceMul, cfgP, u75, aResults, aResult, hlen]) (.still rfl) (by simp)

theorem contS_ok (ns : List (List UInt8)) (x : List UInt8) (z : AV) (hz : Sl encS z ns) (hn : ns.length ≤ 9223372036854775807) (prot : Nat) (H : Heap) (hp : prot ≤ H.length) :
    aLim cfg prot 63 [z, .str x] H = some (.bool (inN ns x), none) := by
  have hsnap : snap H [z, .str x] = some ([z, .str x], false) := by cases hz <;> rfl
  have n1 := indexS_ok ns x z hz hn H.length H (Nat.le_refl _)
  have e : decide (idxS ns x 0 ≥ 0) = inN ns x := by
    have := idxS_ge ns x 0 (by omega)
    rw [Bool.eq_iff_iff, decide_eq_true_iff, ← this]
  refine pure_slim rfl (by kernel_rfl) Try.func63 s63 hp hsnap (by simp [Try.f63]) fun fr hlen h => ?_
  simp only [Has, Nat.zero_add] at h
  obtain ⟨a0, a1, -⟩ := h
  simp only [Try.f63] at hlen ⊢
  unfold g63
  simp only [wk0, wk1, wk2, wk3, wk4, wk5, wk6, aWanted, aYield, Region.wanted, aOp, quiet, loud, aEvals, aParts, aOpt, aBuiltin, rd, win, AV.cells, AV.leaf, aNew, splice, fillA, Nat.reduceEqDiff, Nat.reduceLT, Nat.reduceAdd, Nat.reduceLeDiff, reduceCtorEq, Nat.reduceMul, cfgP, u63, hlen, a0, a1, n1, e]
  exact Fin_pure (l := [.bool (inN ns x)]) (by simp [wk0, wk1, wk2, wk3, wk4, wk5, wk6, aWanted, aYield, Region.wanted, aOp, quiet, loud, aEvals, aParts, aOpt, aBuiltin, rd, win, AV.cells, AV.leaf, aNew, splice, fillA, Nat.reduceEqDiff, Nat.reduceLT, Nat.reduceAdd, Nat.reduceLeDiff, reduceCtorEq, Nat.reduceMul, cfgP, u63, aResults, aResult, hlen]) (.still rfl) (by simp)

end Go.Proofs.Ytjhgmoaabflbfaa
theorem Go.Abs.Row.low {α : Type} {enc : α → AV} {sz : Nat} {ag : Bool} {base base' : Nat} {H : Heap} {v : AV} {l : List α} (h : Row enc sz ag base H v l) (hb : base' ≤ base) : Row enc sz ag base' H v l := by
  rcases h with h | ⟨b, ver, h1, h2, h3, h4⟩
  · exact .inl h
  · exact .inr ⟨b, ver, h1, by omega, h3, h4⟩
theorem Go.Abs.Row.setne {α : Type} {enc : α → AV} {sz : Nat} {ag : Bool} {base b' : Nat} {H : Heap} {v : AV} {l : List α} (h : Row enc sz ag base H v l) (hb : b' < base) (k : Blk) : Row enc sz ag base (H.set b' k) v l := by
  rcases h with h | ⟨b, ver, h1, h2, h3, h4⟩
  · exact .inl h
  · exact .inr ⟨b, ver, h1, h2, by rw [hget_set_ne (by omega)]; exact h3, h4⟩
namespace Go.Proofs.Ytjhgmoaabflbfaa
open Go Go.Abs AbsSeat Ty
/-- the pairs that have one of the names. -/
def pickL (l : List Pr) (ns : List (List UInt8)) : List Pr := l.filter fun p => inN ns p.name


theorem pick_ok (l : List Pr) (ns : List (List UInt8)) (v z : AV) (hv : Sl encP v l) (hz : Sl encS z ns) (hl : l.length < 1000000) (hn : ns.length ≤ 9223372036854775807) (prot : Nat) (H : Heap) (hp : prot ≤ H.length) :
    aLim cfg prot 38 [.agg [v], z] H = some (.agg [slv encP (pickL l ns)], none) := by
  have hsnap : snap H [.agg [v], z] = some ([.agg [v], z], false) := by cases hz <;> rfl
  have hlf := Sl.leaf hv
  unfold AV.leaf at hlf
  have lt1 : H.length < (H ++ [Blk.cells 0 [v]]).length := by simp
  refine pure_slim rfl (by kernel_rfl) Try.func38 s38 hp hsnap (by simp [Try.f38]) fun fr hlen h => ?_
  simp only [Has, Nat.zero_add] at h
  obtain ⟨a0, a1, -⟩ := h
  simp only [Try.f38] at hlen ⊢
  unfold g38
  simp only [wk0, wk1, wk2, wk3, wk4, wk5, wk6, aWanted, aYield, Region.wanted, aOp, quiet, loud, aEvals, aParts, aOpt, aBuiltin, rd, win, AV.cells, AV.leaf, aNew, splice, fillA, Nat.reduceEqDiff, Nat.reduceLT, Nat.reduceAdd, Nat.reduceLeDiff, reduceCtorEq, Nat.reduceMul, cfgP, u38, hlen, a0, a1, hlf, hv.len Try.underlying25, lt1]
  refine loop_rule (fun m fr H' => ∃ (i : Nat) (o : AV), m = l.length - i ∧ i ≤ l.length ∧ fr.length = 26 ∧ fget fr 1 = z ∧ fget fr 4 = .ptr (H ++ [Blk.cells 0 [v]]).length 0 0 ∧ fget fr 9 = v ∧ fget fr 10 = .int .i64 l.length ∧ fget fr 11 = .int .i64 i ∧ fget fr 5 = o
    ∧ H.length + 2 ≤ H'.length ∧ hget H' (H ++ [Blk.cells 0 [v]]).length 0 = some [.nilS] ∧ Row encP 2 true (H.length + 2) H' o (pickL (l.take i) ns) ∧ (o = .nilS ∨ pickL (l.take i) ns ≠ [])) ?_ l.length _ _ ⟨0, .nilS, by
      refine ⟨by omega, by omega, ?_⟩
      simp [wk0, wk1, wk2, wk3, wk4, wk5, wk6, aWanted, aYield, Region.wanted, aOp, quiet, loud, aEvals, aParts, aOpt, aBuiltin, rd, win, AV.cells, AV.leaf, aNew, splice, fillA, Nat.reduceEqDiff, Nat.reduceLT, Nat.reduceAdd, Nat.reduceLeDiff, reduceCtorEq, Nat.reduceMul, cfgP, u38, hlen, a0, a1, pickL, Row.nil]
      simp [hget]⟩
  rintro m fr H' ⟨i, o, rfl, hi, hlen, a1, a4, a9, a10, a11, a5, hH, hbox, hrow, hne⟩ ih
  have hH0 : H.length ≤ H'.length := by omega
  simp only [wk0, wk1, wk2, wk3, wk4, wk5, wk6, aWanted, aYield, Region.wanted, aOp, quiet, loud, aEvals, aParts, aOpt, aBuiltin, rd, win, AV.cells, AV.leaf, aNew, splice, fillA, Nat.reduceEqDiff, Nat.reduceLT, Nat.reduceAdd, Nat.reduceLeDiff, reduceCtorEq, Nat.reduceMul, cfgP, u38, hlen, a1, a4, a9, a10, a11, a5]
  refine RC_split (fun h => ?_) (fun h => ?_)
  · have hlt : i < l.length := by simpa using h
    have hww : IntKind.i64.wrap ((i : Int) + 1) = ((i + 1 : Nat) : Int) := by rw [wrap64 (by omega) (by omega)]; simp
    have e1 := hv.at (k := .i64) Try.underlying25 sz59 encP_len hlt
    have htk : pickL (l.take (i + 1)) ns = pickL (l.take i) ns ++ (if inN ns l[i].name then [l[i]] else []) := by
      have : l.take (i + 1) = l.take i ++ [l[i]] := by simp
      unfold pickL
      rw [this, List.filter_append]
      cases hq : inN ns l[i].name <;> simp [hq]
    generalize l[i] = x at *
    have n1 := fun (K : Heap) (hK : H.length ≤ K.length) => contS_ok ns x.name z hz hn H.length K hK
    have hle' : H.length ≤ (H' ++ [Blk.cells 0 (encP x).cells]).length := by simp; omega
    simp only [encP, AV.cells] at hle'
    cases hin : inN ns x.name with
    | true =>
      rw [hin] at n1 htk
      have hcl : (pickL (l.take i) ns).length ≤ i := Nat.le_trans (List.length_filter_le _ _) (by rw [List.length_take]; omega)
      have hrow2 := hrow.more [Blk.cells 0 (encP x).cells]
      have hbox2 := hget_mono hbox [Blk.cells 0 (encP x).cells]
      obtain ⟨o', H2, happ, hrow3, hle, hno, hold⟩ := hrow2.app (prot := H.length) (xt := 25) encP_T rowPr hxtPr (elem_vs encP_T [x] true) (by simp) (by simp [roomy]; omega) (by omega) (by simp; omega)
      have hbox3 : hget H2 (H ++ [Blk.cells 0 [v]]).length 0 = some [.nilS] := hold _ _ _ hbox2 fun s hs => by
        rcases hrow with ⟨q, _⟩ | ⟨b, ver, q, hb, _⟩
        · rw [q] at hs; cases hs
        · rw [q] at hs; cases hs; simp; omega
      simp only [encP, AV.cells] at happ hle
      have hlit := litPp x
      simp only [wk0, wk1, wk2, wk3, wk4, wk5, wk6, aWanted, aYield, Region.wanted, aOp, quiet, loud, aEvals, aParts, aOpt, aBuiltin, rd, win, AV.cells, AV.leaf, aNew, splice, fillA, Nat.reduceEqDiff, Nat.reduceLT, Nat.reduceAdd, Nat.reduceLeDiff, reduceCtorEq, Nat.reduceMul, cfgP, u38, hlen, a1, a4, a9, a10, a11, a5, e1, encP, hH0, hle', n1, hlit, happ, hww]
      refine ih _ _ (l.length - (i + 1)) (by omega) ⟨i + 1, o', rfl, hlt, ?_⟩
      rw [htk]
      simp only [if_true] at hrow3 ⊢
      simp [wk0, wk1, wk2, wk3, wk4, wk5, wk6, aWanted, aYield, Region.wanted, aOp, quiet, loud, aEvals, aParts, aOpt, aBuiltin, rd, win, AV.cells, AV.leaf, aNew, splice, fillA, Nat.reduceEqDiff, Nat.reduceLT, Nat.reduceAdd, Nat.reduceLeDiff, reduceCtorEq, Nat.reduceMul, cfgP, u38, hlen, a1, a4, a9, a10, a11, hrow3]
      exact ⟨Nat.le_trans (Nat.le_trans hH (by simp)) hle, by simpa using hbox3⟩
    | false =>
      rw [hin] at n1 htk
      simp only [Bool.false_eq_true, if_false, List.append_nil] at htk
      have hrow2 := hrow.more [Blk.cells 0 (encP x).cells]
      have hbox2 := hget_mono hbox [Blk.cells 0 (encP x).cells]
      simp only [encP, AV.cells] at hrow2 hbox2
      simp only [wk0, wk1, wk2, wk3, wk4, wk5, wk6, aWanted, aYield, Region.wanted, aOp, quiet, loud, aEvals, aParts, aOpt, aBuiltin, rd, win, AV.cells, AV.leaf, aNew, splice, fillA, Nat.reduceEqDiff, Nat.reduceLT, Nat.reduceAdd, Nat.reduceLeDiff, reduceCtorEq, Nat.reduceMul, cfgP, u38, hlen, a1, a4, a9, a10, a11, a5, e1, encP, hH0, hle', n1, hww]
      refine ih _ _ (l.length - (i + 1)) (by omega) ⟨i + 1, o, rfl, hlt, ?_⟩
      rw [htk]
      simp [wk0, wk1, wk2, wk3, wk4, wk5, wk6, aWanted, aYield, Region.wanted, aOp, quiet, loud, aEvals, aParts, aOpt, aBuiltin, rd, win, AV.cells, AV.leaf, aNew, splice, fillA, Nat.reduceEqDiff, Nat.reduceLT, Nat.reduceAdd, Nat.reduceLeDiff, reduceCtorEq, Nat.reduceMul, cfgP, u38, hlen, a1, a4, a9, a10, a11, a5, hrow2]
      exact ⟨by omega, by simpa using hbox2, hne⟩
  · have hnl : ¬ i < l.length := by simpa using h
    rw [List.take_of_length_le (l := l) (by omega)] at hrow hne
    have hol : o.leaf = true := by rcases hrow with ⟨q, _⟩ | ⟨b, ver, q, _⟩ <;> rw [q] <;> rfl
    have hol2 : o.cells = [o] := by rcases hrow with ⟨q, _⟩ | ⟨b, ver, q, _⟩ <;> rw [q] <;> rfl
    have hput1 : hput H.length H' (H ++ [Blk.cells 0 [v]]).length 0 0 [o] = some (H'.set (H ++ [Blk.cells 0 [v]]).length (Blk.cells 0 [o])) := by
      rw [hput_eq hbox (by simp) (by simp) (by simp [hol])]
      rfl
    have hgo : hget (H'.set (H ++ [Blk.cells 0 [v]]).length (Blk.cells 0 [o])) (H ++ [Blk.cells 0 [v]]).length 0 = some [o] := by
      rw [hget_set_same (hget_lt hbox), if_pos rfl]
    have hf := ((hrow.setne (b' := (H ++ [Blk.cells 0 [v]]).length) (by simp) (Blk.cells 0 [o])).low (base' := H.length) (by omega)).frozen encP_T (by decide) rfl hne
    unfold AV.leaf at hol
    unfold AV.cells at hol2
    simp only [wk0, wk1, wk2, wk3, wk4, wk5, wk6, aWanted, aYield, Region.wanted, aOp, quiet, loud, aEvals, aParts, aOpt, aBuiltin, rd, win, AV.cells, AV.leaf, aNew, splice, fillA, Nat.reduceEqDiff, Nat.reduceLT, Nat.reduceAdd, Nat.reduceLeDiff, reduceCtorEq, Nat.reduceMul, cfgP, u38, hlen, a1, a4, a9, a10, a11, a5, hol, hol2, hput1]
    exact Fin_pure (l := [.agg [o]]) (by simp only [wk0, wk1, wk2, wk3, wk4, wk5, wk6, aWanted, aYield, Region.wanted, aOp, quiet, loud, aEvals, aParts, aOpt, aBuiltin, rd, win, AV.cells, AV.leaf, aNew, splice, fillA, Nat.reduceEqDiff, Nat.reduceLT, Nat.reduceAdd, Nat.reduceLeDiff, reduceCtorEq, Nat.reduceMul, cfgP, u38, hlen, a4, hgo, aResults, aResult]) (.agg (.cons hf .nil)) (by simp)

theorem nePp (a : Pr) (xo yo : Operand) : aBin Try.prog .neq 59 xo yo (.agg [.str a.name, .str a.val]) (.agg [.str a.name, .str a.val]) = some (.bool false) := by
  have h := bin_agg_ne (xo := xo) (yo := yo) Try.underlying59 (by kernel_rfl) (by kernel_rfl) (cs := [.str a.name, .str a.val]) (ds := [.str a.name, .str a.val]) rfl rfl (eqFsP a)
  rw [h]
  have e1 : ∀ s : List UInt8, ((⟨s.toArray⟩ : ByteArray) == ⟨s.toArray⟩) = true := fun s => by
    show (s.toArray == s.toArray) = true
    simp
  simp [e1]

theorem lequal_ok (l : List Pr) (v w : AV) (hv : Sl encP v l) (hw : Sl encP w l) (hl : l.length < 1000000) (prot : Nat) (H : Heap) (hp : prot ≤ H.length) :
    aLim cfg prot 62 [v, w] H = some (.bool true, none) := by
  have hsnap : snap H [v, w] = some ([v, w], false) := by cases hv <;> cases hw <;> rfl
  have hz : decide ((l.length : Int) ≠ l.length) = false := decide_eq_false (by omega)
  refine pure_slim rfl (by kernel_rfl) Try.func62 s62 hp hsnap (by simp [Try.f62]) fun fr hlen h => ?_
  simp only [Has, Nat.zero_add] at h
  obtain ⟨a0, a1, -⟩ := h
  simp only [Try.f62] at hlen ⊢
  unfold g62
  simp only [wk0, wk1, wk2, wk3, wk4, wk5, wk6, aWanted, aYield, Region.wanted, aOp, quiet, loud, aEvals, aParts, aOpt, aBuiltin, rd, win, AV.cells, AV.leaf, aNew, splice, fillA, Nat.reduceEqDiff, Nat.reduceLT, Nat.reduceAdd, Nat.reduceLeDiff, reduceCtorEq, Nat.reduceMul, cfgP, u62, hlen, a0, a1, hv.len Try.underlying25, hw.len Try.underlying25, hz]
  refine loop_rule (fun m fr H' => ∃ (i : Nat), m = l.length - i ∧ i ≤ l.length ∧ fr.length = 26 ∧ fget fr 0 = v ∧ fget fr 1 = w ∧ fget fr 12 = .int .i64 l.length ∧ fget fr 13 = .int .i64 i ∧ H.length ≤ H'.length) ?_ l.length _ _ ⟨0, by simp [wk0, wk1, wk2, wk3, wk4, wk5, wk6, aWanted, aYield, Region.wanted, aOp, quiet, loud, aEvals, aParts, aOpt, aBuiltin, rd, win, AV.cells, AV.leaf, aNew, splice, fillA, Nat.reduceEqDiff, Nat.reduceLT, Nat.reduceAdd, Nat.reduceLeDiff, reduceCtorEq, Nat.reduceMul, cfgP, u62, hlen, a0, a1]⟩
  rintro m fr H' ⟨i, rfl, hi, hlen, a0, a1, a12, a13, hH⟩ ih
  simp only [wk0, wk1, wk2, wk3, wk4, wk5, wk6, aWanted, aYield, Region.wanted, aOp, quiet, loud, aEvals, aParts, aOpt, aBuiltin, rd, win, AV.cells, AV.leaf, aNew, splice, fillA, Nat.reduceEqDiff, Nat.reduceLT, Nat.reduceAdd, Nat.reduceLeDiff, reduceCtorEq, Nat.reduceMul, cfgP, u62, hlen, a0, a1, a12, a13]
  refine RC_split (fun h => ?_) (fun h => ?_)
  · have hlt : i < l.length := by simpa using h
    have hww : IntKind.i64.wrap ((i : Int) + 1) = ((i + 1 : Nat) : Int) := by rw [wrap64 (by omega) (by omega)]; simp
    have e1 := hv.at (k := .i64) Try.underlying25 sz59 encP_len hlt
    have e2 := hw.at (k := .i64) Try.underlying25 sz59 encP_len hlt
    generalize l[i] = x at *
    simp only [wk0, wk1, wk2, wk3, wk4, wk5, wk6, aWanted, aYield, Region.wanted, aOp, quiet, loud, aEvals, aParts, aOpt, aBuiltin, rd, win, AV.cells, AV.leaf, aNew, splice, fillA, Nat.reduceEqDiff, Nat.reduceLT, Nat.reduceAdd, Nat.reduceLeDiff, reduceCtorEq, Nat.reduceMul, cfgP, u62, hlen, a0, a1, a12, a13, e1, e2, encP, hH, nePp, hww]
    refine ih _ _ (l.length - (i + 1)) (by omega) ⟨i + 1, rfl, hlt, ?_⟩
    simp [wk0, wk1, wk2, wk3, wk4, wk5, wk6, aWanted, aYield, Region.wanted, aOp, quiet, loud, aEvals, aParts, aOpt, aBuiltin, rd, win, AV.cells, AV.leaf, aNew, splice, fillA, Nat.reduceEqDiff, Nat.reduceLT, Nat.reduceAdd, Nat.reduceLeDiff, reduceCtorEq, Nat.reduceMul, cfgP, u62, hlen, a0, a1, a12, a13, hH]
  · simp only [wk0, wk1, wk2, wk3, wk4, wk5, wk6, aWanted, aYield, Region.wanted, aOp, quiet, loud, aEvals, aParts, aOpt, aBuiltin, rd, win, AV.cells, AV.leaf, aNew, splice, fillA, Nat.reduceEqDiff, Nat.reduceLT, Nat.reduceAdd, Nat.reduceLeDiff, reduceCtorEq, Nat.reduceMul, cfgP, u62, hlen, a0, a1, a12, a13]
    exact Fin_pure (l := [.bool true]) (by simp [wk0, wk1, wk2, wk3, wk4, wk5, wk6, aWanted, aYield, Region.wanted, aOp, quiet, loud, aEvals, aParts, aOpt, aBuiltin, rd, win, AV.cells, AV.leaf, aNew, splice, fillA, Nat.reduceEqDiff, Nat.reduceLT, Nat.reduceAdd, Nat.reduceLeDiff, reduceCtorEq, Nat.reduceMul, cfgP, u62, aResults, aResult, hlen]) (.still rfl) (by simp)

theorem setSame_ok (l : List Pr) (v w : AV) (hv : Sl encP v l) (hw : Sl encP w l) (hl : l.length < 1000000) (prot : Nat) (H : Heap) (hp : prot ≤ H.length) :
    aLim cfg prot 32 [.agg [v], .agg [w]] H = some (.bool true, none) := by
  have hsnap : snap H [.agg [v], .agg [w]] = some ([.agg [v], .agg [w]], false) := rfl
  have k1 := Sl.leaf hv
  have k2 := Sl.leaf hw
  unfold AV.leaf at k1 k2
  have lt1 : ∀ (K : Heap) (A : Blk), K.length < (K ++ [A]).length := fun K A => by simp
  have le2 : ∀ (A B : Blk), H.length ≤ (H ++ [A] ++ [B]).length := fun A B => by simp
  have n1 := fun (K : Heap) (hK : H.length ≤ K.length) => lequal_ok l v w hv hw hl H.length K hK
  refine pure_slim rfl (by kernel_rfl) Try.func32 s32 hp hsnap (by simp [Try.f32]) fun fr hlen h => ?_
  simp only [Has, Nat.zero_add] at h
  obtain ⟨a0, a1, -⟩ := h
  simp only [Try.f32] at hlen ⊢
  unfold g32
  simp only [wk0, wk1, wk2, wk3, wk4, wk5, wk6, aWanted, aYield, Region.wanted, aOp, quiet, loud, aEvals, aParts, aOpt, aBuiltin, rd, win, AV.cells, AV.leaf, aNew, splice, fillA, Nat.reduceEqDiff, Nat.reduceLT, Nat.reduceAdd, Nat.reduceLeDiff, reduceCtorEq, Nat.reduceMul, cfgP, u32, hlen, a0, a1, k1, k2, lt1, le2, n1]
  exact Fin_pure (l := [.bool true]) (by simp [wk0, wk1, wk2, wk3, wk4, wk5, wk6, aWanted, aYield, Region.wanted, aOp, quiet, loud, aEvals, aParts, aOpt, aBuiltin, rd, win, AV.cells, AV.leaf, aNew, splice, fillA, Nat.reduceEqDiff, Nat.reduceLT, Nat.reduceAdd, Nat.reduceLeDiff, reduceCtorEq, Nat.reduceMul, cfgP, u32, aResults, aResult, hlen]) (.still rfl) (by simp)


theorem lsame_live (l : List Pr) (v w v' w' : AV) (b : Bool) (prot : Nat) (H : Heap) (hsnap : snap H [v, w] = some ([v', w'], b)) (hv : Sl encP v' l) (hw : Sl encP w' l) (hl : l.length < 1000000) (hp : prot ≤ H.length) :
    aLim cfg prot 20 [v, w] H = some (.bool true, none) := by
  refine pure_slim rfl (by kernel_rfl) Try.func20 s20 hp hsnap (by simp [Try.f20]) fun fr hlen h => ?_
  simp only [Has, Nat.zero_add] at h
  obtain ⟨a0, a1, -⟩ := h
  simp only [Try.f20] at hlen ⊢
  unfold g20
  simp only [wk0, wk1, wk2, wk3, wk4, wk5, wk6, aWanted, aYield, Region.wanted, aOp, quiet, loud, aEvals, aParts, aOpt, aBuiltin, rd, win, AV.cells, AV.leaf, aNew, splice, fillA, Nat.reduceEqDiff, Nat.reduceLT, Nat.reduceAdd, Nat.reduceLeDiff, reduceCtorEq, Nat.reduceMul, cfgP, u20, hlen, a0, a1, hv.len Try.underlying22, hw.len Try.underlying22]
  refine loop_rule (fun m fr H' => ∃ (i : Nat), m = l.length - i ∧ i ≤ l.length ∧ fr.length = 26 ∧ fget fr 0 = v' ∧ fget fr 1 = w' ∧ fget fr 12 = .int .i64 l.length ∧ fget fr 13 = .int .i64 i ∧ H.length ≤ H'.length) ?_ l.length _ _ ⟨0, by simp [wk0, wk1, wk2, wk3, wk4, wk5, wk6, aWanted, aYield, Region.wanted, aOp, quiet, loud, aEvals, aParts, aOpt, aBuiltin, rd, win, AV.cells, AV.leaf, aNew, splice, fillA, Nat.reduceEqDiff, Nat.reduceLT, Nat.reduceAdd, Nat.reduceLeDiff, reduceCtorEq, Nat.reduceMul, cfgP, u20, hlen, a0, a1]⟩
  rintro m fr H' ⟨i, rfl, hi, hlen, a0, a1, a12, a13, hH⟩ ih
  simp only [wk0, wk1, wk2, wk3, wk4, wk5, wk6, aWanted, aYield, Region.wanted, aOp, quiet, loud, aEvals, aParts, aOpt, aBuiltin, rd, win, AV.cells, AV.leaf, aNew, splice, fillA, Nat.reduceEqDiff, Nat.reduceLT, Nat.reduceAdd, Nat.reduceLeDiff, reduceCtorEq, Nat.reduceMul, cfgP, u20, hlen, a0, a1, a12, a13]
  refine RC_split (fun h => ?_) (fun h => ?_)
  · have hlt : i < l.length := by simpa using h
    have hww : IntKind.i64.wrap ((i : Int) + 1) = ((i + 1 : Nat) : Int) := by rw [wrap64 (by omega) (by omega)]; simp
    have e1 := hv.at (k := .i64) Try.underlying22 sz68 encP_len hlt
    have e2 := hw.at (k := .i64) Try.underlying22 sz68 encP_len hlt
    generalize l[i] = x at *
    simp only [wk0, wk1, wk2, wk3, wk4, wk5, wk6, aWanted, aYield, Region.wanted, aOp, quiet, loud, aEvals, aParts, aOpt, aBuiltin, rd, win, AV.cells, AV.leaf, aNew, splice, fillA, Nat.reduceEqDiff, Nat.reduceLT, Nat.reduceAdd, Nat.reduceLeDiff, reduceCtorEq, Nat.reduceMul, cfgP, u20, hlen, a0, a1, a12, a13, e1, e2, encP, hH, nePr, hww]
    refine ih _ _ (l.length - (i + 1)) (by omega) ⟨i + 1, rfl, hlt, ?_⟩
    simp [wk0, wk1, wk2, wk3, wk4, wk5, wk6, aWanted, aYield, Region.wanted, aOp, quiet, loud, aEvals, aParts, aOpt, aBuiltin, rd, win, AV.cells, AV.leaf, aNew, splice, fillA, Nat.reduceEqDiff, Nat.reduceLT, Nat.reduceAdd, Nat.reduceLeDiff, reduceCtorEq, Nat.reduceMul, cfgP, u20, hlen, a0, a1, a12, a13, hH]
  · simp only [wk0, wk1, wk2, wk3, wk4, wk5, wk6, aWanted, aYield, Region.wanted, aOp, quiet, loud, aEvals, aParts, aOpt, aBuiltin, rd, win, AV.cells, AV.leaf, aNew, splice, fillA, Nat.reduceEqDiff, Nat.reduceLT, Nat.reduceAdd, Nat.reduceLeDiff, reduceCtorEq, Nat.reduceMul, cfgP, u20, hlen, a0, a1, a12, a13]
    exact Fin_pure (l := [.bool true]) (by simp [wk0, wk1, wk2, wk3, wk4, wk5, wk6, aWanted, aYield, Region.wanted, aOp, quiet, loud, aEvals, aParts, aOpt, aBuiltin, rd, win, AV.cells, AV.leaf, aNew, splice, fillA, Nat.reduceEqDiff, Nat.reduceLT, Nat.reduceAdd, Nat.reduceLeDiff, reduceCtorEq, Nat.reduceMul, cfgP, u20, hlen, aResults, aResult]) (.still rfl) (fun _ => rfl)

theorem snap_sl {H : Heap} {q : AV} {m : List Pr} {r r' : List AV} {b : Bool} (hq : Sl encP q m) (h : snap H r = some (r', b)) : snap H (q :: r) = some (q :: r', b) := by
  cases hq with
  | nil => show (snap H r).map _ = _; rw [h]; rfl
  | vs _ _ => show (snap H r).map _ = _; rw [h]; rfl
theorem ofP_none (l : List Pr) (h : (ofP l).2 ≠ 0) : (ofP l).1 = [] := by
  unfold ofP at *
  split at h
  · rw [if_pos (by assumption)]
  · rw [if_neg (by assumption)]
    split at h
    · rw [if_pos (by assumption)]
    · exact absurd rfl h
theorem pickL_nil (l : List Pr) : pickL l [] = [] := by simp [pickL, inN]
theorem pl_encP (x : Pr) : AV.plL (encP x).cells = true := rfl


theorem pickLaw_ok (l : List Pr) (ns : List (List UInt8)) (w z : AV) (hw : Sl encP w l) (hz : Sl encS z ns) (hl : l.length ≤ 9223372036854775807) (hn : ns.length ≤ 9223372036854775807) (prot : Nat) (H : Heap) (hp : prot ≤ H.length) :
    aLim cfg prot 8 [w, z] H = some (.bool true, none) := by
  have hsnap : snap H [w, z] = some ([w, z], false) := by cases hw <;> cases hz <;> rfl
  have cl := cutL_len l
  have p1 := pairs_ok l w hw hl H.length H (Nat.le_refl _)
  obtain ⟨v, hv, o1⟩ := of_ok (cutL l) _ (slv_sl encP (cutL l)) (by omega) (cutL_fit l) H.length H (Nat.le_refl _)
  have sl : (ofP (cutL l)).1.length ≤ 6 := setL_len l
  have hvl := Sl.leaf hv
  have hvc := Sl.cells1 hv
  unfold AV.leaf at hvl
  unfold AV.cells at hvc
  by_cases hf : (ofP (cutL l)).2 = 0
  · rw [hf] at o1
    generalize (ofP (cutL l)).1 = s at *
    have d0 : decide ((0 : Int) ≠ 0) = false := rfl
    have n2 := fun (K : Heap) (hK : H.length ≤ K.length) => plain14_ok s v hv (by omega) H.length K hK
    have hs2 := slv_sl encP s
    generalize slv encP s = w2 at *
    refine pure_slim rfl (by kernel_rfl) Try.func8 s8 hp hsnap (by simp [Try.f8]) fun fr hlen h => ?_
    simp only [Has, Nat.zero_add] at h
    obtain ⟨a0, a1, -⟩ := h
    simp only [Try.f8] at hlen ⊢
    unfold g8
    simp only [wk0, wk1, wk2, wk3, wk4, wk5, wk6, aWanted, aYield, Region.wanted, aOp, quiet, loud, aEvals, aParts, aOpt, aBuiltin, rd, win, AV.cells, AV.leaf, aNew, splice, fillA, Nat.reduceEqDiff, Nat.reduceLT, Nat.reduceAdd, Nat.reduceLeDiff, reduceCtorEq, Nat.reduceMul, cfgP, u8, hlen, a0, a1, p1, o1, hvl, hvc, d0, n2, lts1, hs2.len Try.underlying22]
    have e0 : ∀ a b, aStr .eql a b = some (.bool (a == b)) := fun _ _ => rfl
    refine loop_rule (fun m fr H' => ∃ (i : Nat) (o : AV), m = s.length - i ∧ i ≤ s.length ∧ fr.length = 75 ∧ fget fr 1 = z ∧ fget fr 7 = .ptr H.length 0 0 ∧ fget fr 34 = w2 ∧ fget fr 35 = .int .i64 s.length ∧ fget fr 36 = .int .i64 i ∧ fget fr 9 = o
      ∧ H.length + 1 ≤ H'.length ∧ hget H' H.length 0 = some [v] ∧ Row encP 2 true (H.length + 1) H' o (pickL (s.take i) ns)) ?_ s.length _ _ ⟨0, .nilS, by
        refine ⟨by omega, by omega, ?_⟩
        simp [wk0, wk1, wk2, wk3, wk4, wk5, wk6, aWanted, aYield, Region.wanted, aOp, quiet, loud, aEvals, aParts, aOpt, aBuiltin, rd, win, AV.cells, AV.leaf, aNew, splice, fillA, Nat.reduceEqDiff, Nat.reduceLT, Nat.reduceAdd, Nat.reduceLeDiff, reduceCtorEq, Nat.reduceMul, cfgP, u8, hlen, a0, a1, pickL, Row.nil]⟩
    rintro m fr H' ⟨i, o, rfl, hi, hlen, a1, a7, a34, a35, a36, a9, hH, hbox, hrow⟩ ih
    have hH0 : H.length ≤ H'.length := by omega
    simp only [wk0, wk1, wk2, wk3, wk4, wk5, wk6, aWanted, aYield, Region.wanted, aOp, quiet, loud, aEvals, aParts, aOpt, aBuiltin, rd, win, AV.cells, AV.leaf, aNew, splice, fillA, Nat.reduceEqDiff, Nat.reduceLT, Nat.reduceAdd, Nat.reduceLeDiff, reduceCtorEq, Nat.reduceMul, cfgP, u8, hlen, a1, a7, a34, a35, a36, a9]
    refine RC_split (fun h => ?_) (fun h => ?_)
    · have hlt : i < s.length := by simpa using h
      have hww : IntKind.i64.wrap ((i : Int) + 1) = ((i + 1 : Nat) : Int) := by rw [wrap64 (by omega) (by omega)]; simp
      have e1 := hs2.at (k := .i64) Try.underlying22 sz68 encP_len hlt
      have htk : pickL (s.take (i + 1)) ns = pickL (s.take i) ns ++ (if inN ns s[i].name then [s[i]] else []) := by
        have : s.take (i + 1) = s.take i ++ [s[i]] := by simp
        unfold pickL
        rw [this, List.filter_append]
        cases hq : inN ns s[i].name <;> simp [hq]
      generalize s[i] = x at *
      simp only [wk0, wk1, wk2, wk3, wk4, wk5, wk6, aWanted, aYield, Region.wanted, aOp, quiet, loud, aEvals, aParts, aOpt, aBuiltin, rd, win, AV.cells, AV.leaf, aNew, splice, fillA, Nat.reduceEqDiff, Nat.reduceLT, Nat.reduceAdd, Nat.reduceLeDiff, reduceCtorEq, Nat.reduceMul, cfgP, u8, hlen, a1, a7, a34, a35, a36, a9, e1, encP, hH0, hz.len Try.underlying67]
      refine loop_rule (fun m fr K => ∃ (j : Nat), m = ns.length - j ∧ j ≤ ns.length ∧ fr.length = 75 ∧ fget fr 1 = z ∧ fget fr 7 = .ptr H.length 0 0 ∧ fget fr 34 = w2 ∧ fget fr 35 = .int .i64 s.length ∧ fget fr 36 = .int .i64 i ∧ fget fr 9 = o
        ∧ fget fr 11 = .ptr H'.length 0 0 ∧ fget fr 12 = .bool (inN (ns.take j) x.name) ∧ fget fr 40 = z ∧ fget fr 41 = .int .i64 ns.length ∧ fget fr 42 = .int .i64 j ∧ K = H' ++ [Blk.cells 0 [.str x.name, .str x.val]]) ?_ ns.length _ _ ⟨0, by simp [wk0, wk1, wk2, wk3, wk4, wk5, wk6, aWanted, aYield, Region.wanted, aOp, quiet, loud, aEvals, aParts, aOpt, aBuiltin, rd, win, AV.cells, AV.leaf, aNew, splice, fillA, Nat.reduceEqDiff, Nat.reduceLT, Nat.reduceAdd, Nat.reduceLeDiff, reduceCtorEq, Nat.reduceMul, cfgP, u8, hlen, a1, a7, a34, a35, a36, a9, inN]⟩
      rintro m fr K ⟨j, rfl, hj, hlen, a1, a7, a34, a35, a36, a9, a11, a12, a40, a41, a42, hKe⟩ ih2
      subst hKe
      simp only [wk0, wk1, wk2, wk3, wk4, wk5, wk6, aWanted, aYield, Region.wanted, aOp, quiet, loud, aEvals, aParts, aOpt, aBuiltin, rd, win, AV.cells, AV.leaf, aNew, splice, fillA, Nat.reduceEqDiff, Nat.reduceLT, Nat.reduceAdd, Nat.reduceLeDiff, reduceCtorEq, Nat.reduceMul, cfgP, u8, hlen, a1, a7, a34, a35, a36, a9, a11, a12, a40, a41, a42]
      refine RC_split (fun h => ?_) (fun h => ?_)
      · have hltj : j < ns.length := by simpa using h
        have hwj : IntKind.i64.wrap ((j : Int) + 1) = ((j + 1 : Nat) : Int) := by rw [wrap64 (by omega) (by omega)]; simp
        have e2 := hz.at (k := .i64) Try.underlying67 sz9 encS_len hltj
        have htj : inN (ns.take (j + 1)) x.name = (inN (ns.take j) x.name || ns[j] == x.name) := by
          have : ns.take (j + 1) = ns.take j ++ [ns[j]] := by simp
          unfold inN
          rw [this, List.any_append]
          simp
        generalize ns[j] = n at *
        cases hin : inN (ns.take j) x.name with
        | true =>
          rw [hin] at a12 htj
          simp only [wk0, wk1, wk2, wk3, wk4, wk5, wk6, aWanted, aYield, Region.wanted, aOp, quiet, loud, aEvals, aParts, aOpt, aBuiltin, rd, win, AV.cells, AV.leaf, aNew, splice, fillA, Nat.reduceEqDiff, Nat.reduceLT, Nat.reduceAdd, Nat.reduceLeDiff, reduceCtorEq, Nat.reduceMul, cfgP, u8, hlen, a1, a7, a34, a35, a36, a9, a11, a12, a40, a41, a42, e2, encS, none_beq, hwj]
          refine ih2 _ _ (ns.length - (j + 1)) (by omega) ⟨j + 1, rfl, hltj, ?_⟩
          rw [htj]
          simp [wk0, wk1, wk2, wk3, wk4, wk5, wk6, aWanted, aYield, Region.wanted, aOp, quiet, loud, aEvals, aParts, aOpt, aBuiltin, rd, win, AV.cells, AV.leaf, aNew, splice, fillA, Nat.reduceEqDiff, Nat.reduceLT, Nat.reduceAdd, Nat.reduceLeDiff, reduceCtorEq, Nat.reduceMul, cfgP, u8, hlen, a1, a7, a34, a35, a36, a9, a11, a12, a40, a41, a42]
        | false =>
          rw [hin] at a12 htj
          simp only [wk0, wk1, wk2, wk3, wk4, wk5, wk6, aWanted, aYield, Region.wanted, aOp, quiet, loud, aEvals, aParts, aOpt, aBuiltin, rd, win, AV.cells, AV.leaf, aNew, splice, fillA, Nat.reduceEqDiff, Nat.reduceLT, Nat.reduceAdd, Nat.reduceLeDiff, reduceCtorEq, Nat.reduceMul, cfgP, u8, hlen, a1, a7, a34, a35, a36, a9, a11, a12, a40, a41, a42, e2, encS, e0, none_beq, hwj]
          refine ih2 _ _ (ns.length - (j + 1)) (by omega) ⟨j + 1, rfl, hltj, ?_⟩
          rw [htj]
          simp [wk0, wk1, wk2, wk3, wk4, wk5, wk6, aWanted, aYield, Region.wanted, aOp, quiet, loud, aEvals, aParts, aOpt, aBuiltin, rd, win, AV.cells, AV.leaf, aNew, splice, fillA, Nat.reduceEqDiff, Nat.reduceLT, Nat.reduceAdd, Nat.reduceLeDiff, reduceCtorEq, Nat.reduceMul, cfgP, u8, hlen, a1, a7, a34, a35, a36, a9, a11, a12, a40, a41, a42]
      · have hnl : ¬ j < ns.length := by simpa using h
        rw [List.take_of_length_le (l := ns) (by omega)] at a12
        cases hin : inN ns x.name with
        | true =>
          rw [hin] at a12 htk
          have hcl : (pickL (s.take i) ns).length ≤ i := Nat.le_trans (List.length_filter_le _ _) (by rw [List.length_take]; omega)
          have hrow2 := hrow.more [Blk.cells 0 (encP x).cells]
          have hbox2 := hget_mono hbox [Blk.cells 0 (encP x).cells]
          obtain ⟨o', H2, happ, hrow3, hle, hno, hold⟩ := hrow2.app (prot := H.length) (xt := 22) encP_T rowRp (.inl ⟨_, Try.underlying22⟩) (elem_vs encP_T [x] true) (by simp) (by simp [roomy]; omega) (by omega) (by simp; omega)
          have hbox3 : hget H2 H.length 0 = some [v] := hold _ _ _ hbox2 fun s hs => by
            rcases hrow with ⟨q, _⟩ | ⟨b, ver, q, hb, _⟩
            · rw [q] at hs; cases hs
            · rw [q] at hs; cases hs; simp; omega
          simp only [encP, AV.cells] at happ hle
          have hlit := litRp x
          simp only [wk0, wk1, wk2, wk3, wk4, wk5, wk6, aWanted, aYield, Region.wanted, aOp, quiet, loud, aEvals, aParts, aOpt, aBuiltin, rd, win, AV.cells, AV.leaf, aNew, splice, fillA, Nat.reduceEqDiff, Nat.reduceLT, Nat.reduceAdd, Nat.reduceLeDiff, reduceCtorEq, Nat.reduceMul, cfgP, u8, hlen, a1, a7, a34, a35, a36, a9, a11, a12, hlit, happ, hww]
          refine ih _ _ (s.length - (i + 1)) (by omega) ⟨i + 1, o', rfl, hlt, ?_⟩
          rw [htk]
          simp only [if_true] at hrow3 ⊢
          simp [wk0, wk1, wk2, wk3, wk4, wk5, wk6, aWanted, aYield, Region.wanted, aOp, quiet, loud, aEvals, aParts, aOpt, aBuiltin, rd, win, AV.cells, AV.leaf, aNew, splice, fillA, Nat.reduceEqDiff, Nat.reduceLT, Nat.reduceAdd, Nat.reduceLeDiff, reduceCtorEq, Nat.reduceMul, cfgP, u8, hlen, a1, a7, a34, a35, a36, a9, hrow3, hbox3]
          exact Nat.le_trans (Nat.le_trans hH (by simp)) hle
        | false =>
          rw [hin] at a12 htk
          simp only [Bool.false_eq_true, if_false, List.append_nil] at htk
          have hrow2 := hrow.more [Blk.cells 0 (encP x).cells]
          have hbox2 := hget_mono hbox [Blk.cells 0 (encP x).cells]
          simp only [encP, AV.cells] at hrow2 hbox2
          simp only [wk0, wk1, wk2, wk3, wk4, wk5, wk6, aWanted, aYield, Region.wanted, aOp, quiet, loud, aEvals, aParts, aOpt, aBuiltin, rd, win, AV.cells, AV.leaf, aNew, splice, fillA, Nat.reduceEqDiff, Nat.reduceLT, Nat.reduceAdd, Nat.reduceLeDiff, reduceCtorEq, Nat.reduceMul, cfgP, u8, hlen, a1, a7, a34, a35, a36, a9, a11, a12, hww]
          refine ih _ _ (s.length - (i + 1)) (by omega) ⟨i + 1, o, rfl, hlt, ?_⟩
          rw [htk]
          simp [wk0, wk1, wk2, wk3, wk4, wk5, wk6, aWanted, aYield, Region.wanted, aOp, quiet, loud, aEvals, aParts, aOpt, aBuiltin, rd, win, AV.cells, AV.leaf, aNew, splice, fillA, Nat.reduceEqDiff, Nat.reduceLT, Nat.reduceAdd, Nat.reduceLeDiff, reduceCtorEq, Nat.reduceMul, cfgP, u8, hlen, a1, a7, a34, a35, a36, a9, hrow2, hbox2]
          omega
    · have hnl : ¬ i < s.length := by simpa using h
      rw [List.take_of_length_le (l := s) (by omega)] at hrow
      have pk1 := fun (K : Heap) (hK : H.length ≤ K.length) => pick_ok s ns v z hv hz (by omega) hn H.length K hK
      have pk2 : ∀ (K : Heap) (hK : H.length ≤ K.length), aLim cfg H.length 38 [.agg [v], .nilS] K = some (.agg [.nilS], none) := fun (K : Heap) (hK : H.length ≤ K.length) => by
        have := pick_ok s [] v .nilS hv .nil (by omega) (by simp) H.length K hK
        rw [pickL_nil] at this
        exact this
      have hpl : (pickL s ns).length ≤ s.length := List.length_filter_le _ _
      have pq := fun (K : Heap) (hK : H.length ≤ K.length) => plain14_ok (pickL s ns) _ (slv_sl encP (pickL s ns)) (by omega) H.length K hK
      have sm := fun (K : Heap) (hK : H.length ≤ K.length) => setSame_ok [] .nilS .nilS .nil .nil (by simp) H.length K hK
      have hcr : CRow encP 2 true H' o (pickL s ns) := .inl (hrow.low (Nat.zero_le _))
      obtain ⟨o', b, ho', hsn⟩ := hcr.tree encP_T (by decide) rfl pl_encP (rest := []) (rest' := []) rfl
      have hq := slv_sl encP (pickL s ns)
      have hql := Sl.leaf hq
      have hqc := Sl.cells1 hq
      generalize slv encP (pickL s ns) = q at *
      have hsn2 : snap H' [q, o] = some ([q, o'], b) := snap_sl hq hsn
      have ls := lsame_live (pickL s ns) q o q o' b H.length H' hsn2 hq ho' (by omega) hH0
      unfold AV.leaf at hql
      unfold AV.cells at hqc
      simp only [wk0, wk1, wk2, wk3, wk4, wk5, wk6, aWanted, aYield, Region.wanted, aOp, quiet, loud, aEvals, aParts, aOpt, aBuiltin, rd, win, AV.cells, AV.leaf, aNew, splice, fillA, Nat.reduceEqDiff, Nat.reduceLT, Nat.reduceAdd, Nat.reduceLeDiff, reduceCtorEq, Nat.reduceMul, cfgP, u8, hlen, a1, a7, a34, a35, a36, a9, hbox, hH0, hvl, hvc, hql, hqc, pk1, pk2, pq, sm, ls, lawake_ok, none_beq]
      exact Fin_pure (l := [.bool true]) (by simp [wk0, wk1, wk2, wk3, wk4, wk5, wk6, aWanted, aYield, Region.wanted, aOp, quiet, loud, aEvals, aParts, aOpt, aBuiltin, rd, win, AV.cells, AV.leaf, aNew, splice, fillA, Nat.reduceEqDiff, Nat.reduceLT, Nat.reduceAdd, Nat.reduceLeDiff, reduceCtorEq, Nat.reduceMul, cfgP, u8, aResults, aResult, hlen]) (.still rfl) (by simp)
  · have he := ofP_none _ hf
    rw [he] at hv
    have n1 : ∀ (K : Heap) (hK : H.length ≤ K.length), aLim cfg H.length 22 [.agg [v]] K = some (.int .i64 0, none) := fun (K : Heap) (hK : H.length ≤ K.length) => setLen_ok [] v hv H.length K hK
    generalize (ofP (cutL l)).2 = e at *
    have d0 : decide (e ≠ 0) = true := decide_eq_true hf
    have d1 : decide ((0 : Int) = 0) = true := rfl
    refine pure_slim rfl (by kernel_rfl) Try.func8 s8 hp hsnap (by simp [Try.f8]) fun fr hlen h => ?_
    simp only [Has, Nat.zero_add] at h
    obtain ⟨a0, a1, -⟩ := h
    simp only [Try.f8] at hlen ⊢
    unfold g8
    simp only [wk0, wk1, wk2, wk3, wk4, wk5, wk6, aWanted, aYield, Region.wanted, aOp, quiet, loud, aEvals, aParts, aOpt, aBuiltin, rd, win, AV.cells, AV.leaf, aNew, splice, fillA, Nat.reduceEqDiff, Nat.reduceLT, Nat.reduceAdd, Nat.reduceLeDiff, reduceCtorEq, Nat.reduceMul, cfgP, u8, hlen, a0, a1, p1, o1, hvl, hvc, d0, d1, n1, lts1, lawake_ok, none_beq]
    exact Fin_pure (l := [.bool true]) (by simp [wk0, wk1, wk2, wk3, wk4, wk5, wk6, aWanted, aYield, Region.wanted, aOp, quiet, loud, aEvals, aParts, aOpt, aBuiltin, rd, win, AV.cells, AV.leaf, aNew, splice, fillA, Nat.reduceEqDiff, Nat.reduceLT, Nat.reduceAdd, Nat.reduceLeDiff, reduceCtorEq, Nat.reduceMul, cfgP, u8, aResults, aResult, hlen]) (.still rfl) (by simp)
end Go.Proofs.Ytjhgmoaabflbfaa
