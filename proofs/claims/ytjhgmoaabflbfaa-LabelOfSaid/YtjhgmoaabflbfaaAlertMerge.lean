import Derived.Test.YtjhgmoaabflbfaaAlertAgain
/-! The law AlertMerge, walked. -/
set_option linter.unusedSimpArgs false
namespace Go.Proofs.Ytjhgmoaabflbfaa
open Go Go.Abs AbsSeat Ty

theorem u15 : type_of% (And.intro (show tagT Try.prog 24 = 0 from by kernel_rfl) (And.intro ag2 (And.intro sz2 (And.intro by2 (And.intro ze2 (And.intro Try.underlying2 (And.intro ag24 (And.intro sz24 (And.intro by24 (And.intro ze24 (And.intro bu24 (And.intro Try.underlying24 (And.intro fa24_2 (And.intro fd24_2 (And.intro fa24_3 fd24_3))))))))))))))) :=
  And.intro (show tagT Try.prog 24 = 0 from by kernel_rfl) (And.intro ag2 (And.intro sz2 (And.intro by2 (And.intro ze2 (And.intro Try.underlying2 (And.intro ag24 (And.intro sz24 (And.intro by24 (And.intro ze24 (And.intro bu24 (And.intro Try.underlying24 (And.intro fa24_2 (And.intro fd24_2 (And.intro fa24_3 fd24_3))))))))))))))
def g15 : Code :=
  Go.Code.seq (Go.Code.region 0 #[{ dst := some 2, op := Go.Op.box 24 (Go.Operand.tmp 0), type := 0, pos := "", after := #[], guard := none }, { dst := some 3, op := Go.Op.box 24 (Go.Operand.tmp 1), type := 0, pos := "", after := #[], guard := none }, { dst := some 4, op := Go.Op.alloc 24, type := 0, pos := "", after := #[], guard := none }] false) (Go.Code.seq (Go.Code.seq (Go.Code.region 1 #[{ dst := some 5, op := Go.Op.fieldAddr 24 (Go.Operand.tmp 3) 2, type := 0, pos := "", after := #[], guard := none }, { dst := some 6, op := Go.Op.load 2 (Go.Operand.tmp 5), type := 2, pos := "", after := #[], guard := none }, { dst := some 7, op := Go.Op.fieldAddr 24 (Go.Operand.tmp 2) 3, type := 0, pos := "", after := #[], guard := none }, { dst := some 8, op := Go.Op.load 2 (Go.Operand.tmp 7), type := 2, pos := "", after := #[], guard := none }, { dst := some 9, op := Go.Op.binOp Go.BinOp.leq 2 (Go.Operand.tmp 6) (Go.Operand.tmp 8) 2, type := 4, pos := "", after := #[], guard := none }, { dst := some 10, op := Go.Op.move (Go.Operand.tmp 9), type := 4, pos := "", after := #[], guard := none }, { dst := some 11, op := Go.Op.fieldAddr 24 (Go.Operand.tmp 2) 2, type := 0, pos := "", after := #[], guard := some (5, true) }, { dst := some 12, op := Go.Op.load 2 (Go.Operand.tmp 11), type := 2, pos := "", after := #[], guard := some (5, true) }, { dst := some 13, op := Go.Op.fieldAddr 24 (Go.Operand.tmp 3) 2, type := 0, pos := "", after := #[], guard := some (5, true) }, { dst := some 14, op := Go.Op.load 2 (Go.Operand.tmp 13), type := 2, pos := "", after := #[], guard := some (5, true) }, { dst := some 15, op := Go.Op.binOp Go.BinOp.lss 2 (Go.Operand.tmp 12) (Go.Operand.tmp 14) 2, type := 4, pos := "", after := #[], guard := some (5, true) }, { dst := some 16, op := Go.Op.pick (Go.Operand.tmp 10) (Go.Operand.tmp 15) (Go.Operand.const (Go.Value.bool false)), type := 4, pos := "", after := #[], guard := none }] false) (Go.Code.cond (Go.Operand.tmp 16) (Go.Code.region 2 #[{ dst := some 17, op := Go.Op.fieldAddr 24 (Go.Operand.tmp 2) 2, type := 0, pos := "", after := #[], guard := none }, { dst := some 18, op := Go.Op.load 2 (Go.Operand.tmp 17), type := 2, pos := "", after := #[], guard := none }, { dst := some 19, op := Go.Op.fieldAddr 24 (Go.Operand.tmp 3) 2, type := 0, pos := "", after := #[], guard := none }, { dst := none, op := Go.Op.store 2 (Go.Operand.tmp 19) (Go.Operand.tmp 18), type := 0, pos := "", after := #[], guard := none }] false) Go.Code.skip)) (Go.Code.seq (Go.Code.region 3 #[{ dst := some 20, op := Go.Op.load 24 (Go.Operand.tmp 3), type := 24, pos := "", after := #[], guard := none }, { dst := none, op := Go.Op.store 24 (Go.Operand.tmp 4) (Go.Operand.tmp 20), type := 0, pos := "", after := #[], guard := none }] false) Go.Code.ret))
theorem s15 : Try.f15.body.map (slim cfg) = some g15 := by kernel_rfl
theorem u40 : type_of% (And.intro ag2 (And.intro sz2 (And.intro by2 (And.intro ze2 Try.underlying2)))) :=
  And.intro ag2 (And.intro sz2 (And.intro by2 (And.intro ze2 Try.underlying2)))
def g40 : Code :=
  Go.Code.seq (Go.Code.region 0 #[{ dst := some 2, op := Go.Op.assign (Go.Operand.const (Go.Value.bool false)), type := 4, pos := "", after := #[], guard := none }] false) (Go.Code.seq (Go.Code.region 1 #[{ dst := some 3, op := Go.Op.move (Go.Operand.tmp 0), type := 2, pos := "", after := #[], guard := none }, { dst := some 4, op := Go.Op.binOp Go.BinOp.geq 2 (Go.Operand.tmp 3) (Go.Operand.const (Go.Value.int Go.IntKind.i64 0)) 2, type := 4, pos := "", after := #[], guard := none }, { dst := some 5, op := Go.Op.move (Go.Operand.tmp 4), type := 4, pos := "", after := #[], guard := none }, { dst := some 6, op := Go.Op.move (Go.Operand.tmp 0), type := 2, pos := "", after := #[], guard := some (2, true) }, { dst := some 7, op := Go.Op.binOp Go.BinOp.leq 2 (Go.Operand.tmp 6) (Go.Operand.const (Go.Value.int Go.IntKind.i64 137438953472)) 2, type := 4, pos := "", after := #[], guard := some (2, true) }, { dst := some 8, op := Go.Op.pick (Go.Operand.tmp 5) (Go.Operand.tmp 7) (Go.Operand.const (Go.Value.bool false)), type := 4, pos := "", after := #[], guard := none }, { dst := some 2, op := Go.Op.assign (Go.Operand.tmp 8), type := 4, pos := "", after := #[], guard := none }] false) Go.Code.ret)
theorem s40 : Try.f40.body.map (slim cfg) = some g40 := by kernel_rfl
theorem u22 : type_of% (And.intro (show tagT Try.prog 27 = 0 from by kernel_rfl) (And.intro ag25 (And.intro sz25 (And.intro by25 (And.intro se25 (And.intro ze25 (And.intro Try.underlying25 (And.intro ag27 (And.intro sz27 (And.intro by27 (And.intro ze27 (And.intro bu27 (And.intro Try.underlying27 (And.intro ag59 (And.intro sz59 (And.intro by59 (And.intro ze59 (And.intro bu59 (And.intro Try.underlying59 (And.intro fa27_0 fd27_0)))))))))))))))))))) :=
  And.intro (show tagT Try.prog 27 = 0 from by kernel_rfl) (And.intro ag25 (And.intro sz25 (And.intro by25 (And.intro se25 (And.intro ze25 (And.intro Try.underlying25 (And.intro ag27 (And.intro sz27 (And.intro by27 (And.intro ze27 (And.intro bu27 (And.intro Try.underlying27 (And.intro ag59 (And.intro sz59 (And.intro by59 (And.intro ze59 (And.intro bu59 (And.intro Try.underlying59 (And.intro fa27_0 fd27_0)))))))))))))))))))
def g22 : Code :=
  Go.Code.seq (Go.Code.region 0 #[{ dst := some 1, op := Go.Op.box 27 (Go.Operand.tmp 0), type := 0, pos := "", after := #[], guard := none }, { dst := some 2, op := Go.Op.assign (Go.Operand.const (Go.Value.int Go.IntKind.i64 0)), type := 3, pos := "", after := #[], guard := none }] false) (Go.Code.seq (Go.Code.region 1 #[{ dst := some 3, op := Go.Op.fieldAddr 27 (Go.Operand.tmp 1) 0, type := 0, pos := "", after := #[], guard := none }, { dst := some 4, op := Go.Op.load 25 (Go.Operand.tmp 3), type := 25, pos := "", after := #[], guard := none }, { dst := some 5, op := Go.Op.call { callee := Go.Callee.builtin Go.Builtin.len, args := #[Go.Operand.tmp 4], argTypes := #[25] }, type := 3, pos := "", after := #[], guard := none }, { dst := some 2, op := Go.Op.assign (Go.Operand.tmp 5), type := 3, pos := "", after := #[], guard := none }] false) Go.Code.ret)
theorem s22 : Try.f22.body.map (slim cfg) = some g22 := by kernel_rfl
theorem u16 : type_of% (And.intro (show tagT Try.prog 29 = 0 from by kernel_rfl) (And.intro ag2 (And.intro sz2 (And.intro by2 (And.intro ze2 (And.intro Try.underlying2 (And.intro ag3 (And.intro sz3 (And.intro by3 (And.intro ze3 (And.intro Try.underlying3 (And.intro ag27 (And.intro sz27 (And.intro by27 (And.intro ze27 (And.intro bu27 (And.intro Try.underlying27 (And.intro ag29 (And.intro sz29 (And.intro by29 (And.intro ze29 (And.intro bu29 (And.intro Try.underlying29 (And.intro fa29_0 (And.intro fd29_0 (And.intro fa29_2 (And.intro fd29_2 (And.intro fa29_3 fd29_3)))))))))))))))))))))))))))) :=
  And.intro (show tagT Try.prog 29 = 0 from by kernel_rfl) (And.intro ag2 (And.intro sz2 (And.intro by2 (And.intro ze2 (And.intro Try.underlying2 (And.intro ag3 (And.intro sz3 (And.intro by3 (And.intro ze3 (And.intro Try.underlying3 (And.intro ag27 (And.intro sz27 (And.intro by27 (And.intro ze27 (And.intro bu27 (And.intro Try.underlying27 (And.intro ag29 (And.intro sz29 (And.intro by29 (And.intro ze29 (And.intro bu29 (And.intro Try.underlying29 (And.intro fa29_0 (And.intro fd29_0 (And.intro fa29_2 (And.intro fd29_2 (And.intro fa29_3 fd29_3)))))))))))))))))))))))))))
def g16 : Code :=
  Go.Code.seq (Go.Code.region 0 #[{ dst := some 1, op := Go.Op.box 29 (Go.Operand.tmp 0), type := 0, pos := "", after := #[], guard := none }, { dst := some 2, op := Go.Op.assign (Go.Operand.const (Go.Value.int Go.IntKind.i64 0)), type := 38, pos := "", after := #[], guard := none }] false) (Go.Code.seq (Go.Code.seq (Go.Code.region 1 #[{ dst := some 3, op := Go.Op.fieldAddr 29 (Go.Operand.tmp 1) 0, type := 0, pos := "", after := #[], guard := none }, { dst := some 4, op := Go.Op.load 27 (Go.Operand.tmp 3), type := 27, pos := "", after := #[], guard := none }, { dst := some 5, op := Go.Op.call { callee := Go.Callee.value (Go.Operand.func 22), args := #[Go.Operand.tmp 4], argTypes := #[27] }, type := 3, pos := "", after := #[], guard := none }, { dst := some 6, op := Go.Op.binOp Go.BinOp.eql 3 (Go.Operand.tmp 5) (Go.Operand.const (Go.Value.int Go.IntKind.i64 0)) 3, type := 4, pos := "", after := #[], guard := none }, { dst := some 7, op := Go.Op.move (Go.Operand.tmp 6), type := 4, pos := "", after := #[], guard := none }, { dst := some 8, op := Go.Op.fieldAddr 29 (Go.Operand.tmp 1) 2, type := 0, pos := "", after := #[], guard := some (4, false) }, { dst := some 9, op := Go.Op.load 2 (Go.Operand.tmp 8), type := 2, pos := "", after := #[], guard := some (4, false) }, { dst := some 10, op := Go.Op.call { callee := Go.Callee.value (Go.Operand.func 40), args := #[Go.Operand.tmp 9], argTypes := #[2] }, type := 4, pos := "", after := #[], guard := some (4, false) }, { dst := some 11, op := Go.Op.unOp Go.UnOp.not 4 (Go.Operand.tmp 10), type := 4, pos := "", after := #[], guard := some (4, false) }, { dst := some 12, op := Go.Op.pick (Go.Operand.tmp 7) (Go.Operand.const (Go.Value.bool true)) (Go.Operand.tmp 11), type := 4, pos := "", after := #[], guard := none }, { dst := some 13, op := Go.Op.move (Go.Operand.tmp 12), type := 4, pos := "", after := #[], guard := none }, { dst := some 14, op := Go.Op.fieldAddr 29 (Go.Operand.tmp 1) 3, type := 0, pos := "", after := #[], guard := some (10, false) }, { dst := some 15, op := Go.Op.load 2 (Go.Operand.tmp 14), type := 2, pos := "", after := #[], guard := some (10, false) }, { dst := some 16, op := Go.Op.call { callee := Go.Callee.value (Go.Operand.func 40), args := #[Go.Operand.tmp 15], argTypes := #[2] }, type := 4, pos := "", after := #[], guard := some (10, false) }, { dst := some 17, op := Go.Op.unOp Go.UnOp.not 4 (Go.Operand.tmp 16), type := 4, pos := "", after := #[], guard := some (10, false) }, { dst := some 18, op := Go.Op.pick (Go.Operand.tmp 13) (Go.Operand.const (Go.Value.bool true)) (Go.Operand.tmp 17), type := 4, pos := "", after := #[], guard := none }, { dst := some 19, op := Go.Op.move (Go.Operand.tmp 18), type := 4, pos := "", after := #[], guard := none }, { dst := some 20, op := Go.Op.fieldAddr 29 (Go.Operand.tmp 1) 3, type := 0, pos := "", after := #[], guard := some (16, false) }, { dst := some 21, op := Go.Op.load 2 (Go.Operand.tmp 20), type := 2, pos := "", after := #[], guard := some (16, false) }, { dst := some 22, op := Go.Op.fieldAddr 29 (Go.Operand.tmp 1) 2, type := 0, pos := "", after := #[], guard := some (16, false) }, { dst := some 23, op := Go.Op.load 2 (Go.Operand.tmp 22), type := 2, pos := "", after := #[], guard := some (16, false) }, { dst := some 24, op := Go.Op.binOp Go.BinOp.leq 2 (Go.Operand.tmp 21) (Go.Operand.tmp 23) 2, type := 4, pos := "", after := #[], guard := some (16, false) }, { dst := some 25, op := Go.Op.pick (Go.Operand.tmp 19) (Go.Operand.const (Go.Value.bool true)) (Go.Operand.tmp 24), type := 4, pos := "", after := #[], guard := none }] false) (Go.Code.cond (Go.Operand.tmp 25) (Go.Code.seq (Go.Code.region 2 #[{ dst := some 2, op := Go.Op.assign (Go.Operand.const (Go.Value.int Go.IntKind.i64 1)), type := 38, pos := "", after := #[], guard := none }] false) Go.Code.ret) Go.Code.skip)) (Go.Code.seq (Go.Code.region 3 #[{ dst := some 2, op := Go.Op.assign (Go.Operand.const (Go.Value.int Go.IntKind.i64 0)), type := 38, pos := "", after := #[], guard := none }] false) Go.Code.ret))
theorem s16 : Try.f16.body.map (slim cfg) = some g16 := by kernel_rfl
theorem u4 : type_of% (And.intro (show tagT Try.prog 24 = 0 from by kernel_rfl) (And.intro (show tagT Try.prog 29 = 0 from by kernel_rfl) (And.intro ag24 (And.intro sz24 (And.intro by24 (And.intro ze24 (And.intro bu24 (And.intro Try.underlying24 (And.intro ag29 (And.intro sz29 (And.intro by29 (And.intro ze29 (And.intro bu29 (And.intro Try.underlying29 (And.intro ag38 (And.intro sz38 (And.intro by38 (And.intro ze38 Try.underlying38)))))))))))))))))) :=
  And.intro (show tagT Try.prog 24 = 0 from by kernel_rfl) (And.intro (show tagT Try.prog 29 = 0 from by kernel_rfl) (And.intro ag24 (And.intro sz24 (And.intro by24 (And.intro ze24 (And.intro bu24 (And.intro Try.underlying24 (And.intro ag29 (And.intro sz29 (And.intro by29 (And.intro ze29 (And.intro bu29 (And.intro Try.underlying29 (And.intro ag38 (And.intro sz38 (And.intro by38 (And.intro ze38 Try.underlying38)))))))))))))))))
def g4 : Code :=
  Go.Code.seq (Go.Code.region 0 #[{ dst := some 2, op := Go.Op.box 24 (Go.Operand.tmp 0), type := 0, pos := "", after := #[], guard := none }, { dst := some 3, op := Go.Op.box 24 (Go.Operand.tmp 1), type := 0, pos := "", after := #[], guard := none }, { dst := some 4, op := Go.Op.assign (Go.Operand.const (Go.Value.bool false)), type := 4, pos := "", after := #[], guard := none }] false) (Go.Code.seq (Go.Code.region 1 #[{ dst := some 11, op := Go.Op.load 24 (Go.Operand.tmp 2), type := 24, pos := "", after := #[], guard := none }, { dst := some 12, op := Go.Op.call { callee := Go.Callee.value (Go.Operand.func 9), args := #[Go.Operand.tmp 11], argTypes := #[24] }, type := 30, pos := "", after := #[], guard := none }, { dst := some 10, op := Go.Op.move (Go.Operand.tmp 12), type := 30, pos := "", after := #[], guard := none }, { dst := some 13, op := Go.Op.extract (Go.Operand.tmp 10) 0, type := 29, pos := "", after := #[], guard := none }, { dst := some 14, op := Go.Op.extract (Go.Operand.tmp 10) 1, type := 24, pos := "", after := #[], guard := none }, { dst := some 5, op := Go.Op.alloc 29, type := 0, pos := "", after := #[], guard := none }, { dst := some 6, op := Go.Op.alloc 24, type := 0, pos := "", after := #[], guard := none }, { dst := none, op := Go.Op.store 29 (Go.Operand.tmp 5) (Go.Operand.tmp 13), type := 0, pos := "", after := #[], guard := none }, { dst := none, op := Go.Op.store 24 (Go.Operand.tmp 6) (Go.Operand.tmp 14), type := 0, pos := "", after := #[], guard := none }] false) (Go.Code.seq (Go.Code.region 2 #[{ dst := some 16, op := Go.Op.load 24 (Go.Operand.tmp 3), type := 24, pos := "", after := #[], guard := none }, { dst := some 17, op := Go.Op.call { callee := Go.Callee.value (Go.Operand.func 9), args := #[Go.Operand.tmp 16], argTypes := #[24] }, type := 30, pos := "", after := #[], guard := none }, { dst := some 15, op := Go.Op.move (Go.Operand.tmp 17), type := 30, pos := "", after := #[], guard := none }, { dst := some 18, op := Go.Op.extract (Go.Operand.tmp 15) 0, type := 29, pos := "", after := #[], guard := none }, { dst := some 19, op := Go.Op.extract (Go.Operand.tmp 15) 1, type := 24, pos := "", after := #[], guard := none }, { dst := some 7, op := Go.Op.alloc 29, type := 0, pos := "", after := #[], guard := none }, { dst := some 8, op := Go.Op.alloc 24, type := 0, pos := "", after := #[], guard := none }, { dst := none, op := Go.Op.store 29 (Go.Operand.tmp 7) (Go.Operand.tmp 18), type := 0, pos := "", after := #[], guard := none }, { dst := none, op := Go.Op.store 24 (Go.Operand.tmp 8) (Go.Operand.tmp 19), type := 0, pos := "", after := #[], guard := none }] false) (Go.Code.seq (Go.Code.region 3 #[{ dst := some 20, op := Go.Op.load 29 (Go.Operand.tmp 5), type := 29, pos := "", after := #[], guard := none }, { dst := some 21, op := Go.Op.load 29 (Go.Operand.tmp 7), type := 29, pos := "", after := #[], guard := none }, { dst := some 22, op := Go.Op.call { callee := Go.Callee.value (Go.Operand.func 10), args := #[Go.Operand.tmp 20, Go.Operand.tmp 21], argTypes := #[29, 29] }, type := 29, pos := "", after := #[], guard := none }, { dst := some 9, op := Go.Op.alloc 29, type := 0, pos := "", after := #[], guard := none }, { dst := none, op := Go.Op.store 29 (Go.Operand.tmp 9) (Go.Operand.tmp 22), type := 0, pos := "", after := #[], guard := none }] false) (Go.Code.seq (Go.Code.seq (Go.Code.region 4 #[{ dst := some 23, op := Go.Op.load 29 (Go.Operand.tmp 9), type := 29, pos := "", after := #[], guard := none }, { dst := some 24, op := Go.Op.call { callee := Go.Callee.value (Go.Operand.func 13), args := #[Go.Operand.tmp 23], argTypes := #[29] }, type := 24, pos := "", after := #[], guard := none }, { dst := some 25, op := Go.Op.load 24 (Go.Operand.tmp 6), type := 24, pos := "", after := #[], guard := none }, { dst := some 26, op := Go.Op.load 24 (Go.Operand.tmp 8), type := 24, pos := "", after := #[], guard := none }, { dst := some 27, op := Go.Op.call { callee := Go.Callee.value (Go.Operand.func 15), args := #[Go.Operand.tmp 25, Go.Operand.tmp 26], argTypes := #[24, 24] }, type := 24, pos := "", after := #[], guard := none }, { dst := some 28, op := Go.Op.call { callee := Go.Callee.value (Go.Operand.func 12), args := #[Go.Operand.tmp 24, Go.Operand.tmp 27], argTypes := #[24, 24] }, type := 4, pos := "", after := #[], guard := none }, { dst := some 29, op := Go.Op.unOp Go.UnOp.not 4 (Go.Operand.tmp 28), type := 4, pos := "", after := #[], guard := none }] false) (Go.Code.cond (Go.Operand.tmp 29) (Go.Code.seq (Go.Code.region 5 #[{ dst := some 4, op := Go.Op.assign (Go.Operand.const (Go.Value.bool false)), type := 4, pos := "", after := #[], guard := none }] false) Go.Code.ret) Go.Code.skip)) (Go.Code.seq (Go.Code.region 6 #[{ dst := some 30, op := Go.Op.load 24 (Go.Operand.tmp 6), type := 24, pos := "", after := #[], guard := none }, { dst := some 31, op := Go.Op.call { callee := Go.Callee.value (Go.Operand.func 11), args := #[Go.Operand.tmp 30], argTypes := #[24] }, type := 4, pos := "", after := #[], guard := none }, { dst := some 32, op := Go.Op.unOp Go.UnOp.not 4 (Go.Operand.tmp 31), type := 4, pos := "", after := #[], guard := none }, { dst := some 33, op := Go.Op.move (Go.Operand.tmp 32), type := 4, pos := "", after := #[], guard := none }, { dst := some 34, op := Go.Op.load 24 (Go.Operand.tmp 8), type := 24, pos := "", after := #[], guard := some (3, false) }, { dst := some 35, op := Go.Op.call { callee := Go.Callee.value (Go.Operand.func 11), args := #[Go.Operand.tmp 34], argTypes := #[24] }, type := 4, pos := "", after := #[], guard := some (3, false) }, { dst := some 36, op := Go.Op.unOp Go.UnOp.not 4 (Go.Operand.tmp 35), type := 4, pos := "", after := #[], guard := some (3, false) }, { dst := some 37, op := Go.Op.pick (Go.Operand.tmp 33) (Go.Operand.const (Go.Value.bool true)) (Go.Operand.tmp 36), type := 4, pos := "", after := #[], guard := none }, { dst := some 38, op := Go.Op.move (Go.Operand.tmp 37), type := 4, pos := "", after := #[], guard := none }, { dst := some 39, op := Go.Op.load 29 (Go.Operand.tmp 9), type := 29, pos := "", after := #[], guard := some (8, false) }, { dst := some 40, op := Go.Op.call { callee := Go.Callee.value (Go.Operand.func 16), args := #[Go.Operand.tmp 39], argTypes := #[29] }, type := 38, pos := "", after := #[], guard := some (8, false) }, { dst := some 41, op := Go.Op.binOp Go.BinOp.eql 38 (Go.Operand.tmp 40) (Go.Operand.const (Go.Value.int Go.IntKind.i64 0)) 38, type := 4, pos := "", after := #[], guard := some (8, false) }, { dst := some 42, op := Go.Op.pick (Go.Operand.tmp 38) (Go.Operand.const (Go.Value.bool true)) (Go.Operand.tmp 41), type := 4, pos := "", after := #[], guard := none }, { dst := some 43, op := Go.Op.move (Go.Operand.tmp 42), type := 4, pos := "", after := #[], guard := none }, { dst := some 44, op := Go.Op.call { callee := Go.Callee.value (Go.Operand.func 14), args := #[], argTypes := #[] }, type := 4, pos := "", after := #[], guard := some (13, true) }, { dst := some 45, op := Go.Op.pick (Go.Operand.tmp 43) (Go.Operand.tmp 44) (Go.Operand.const (Go.Value.bool false)), type := 4, pos := "", after := #[], guard := none }, { dst := some 4, op := Go.Op.assign (Go.Operand.tmp 45), type := 4, pos := "", after := #[], guard := none }] false) Go.Code.ret)))))
theorem s4 : Try.f4.body.map (slim cfg) = some g4 := by kernel_rfl

def rmergeS (a b : Al) : Int := if b.starts ≤ a.ends ∧ a.starts < b.starts then a.starts else b.starts

theorem rmerge_ok (a b : Al) (v1 v2 w1 w2 : AV) (hv1 : v1.leaf = true) (hv2 : v2.leaf = true) (hw1 : w1.leaf = true) (hw2 : w2.leaf = true) (f1 : ∀ K n, Frz K n w1 w1) (f2 : ∀ K n, Frz K n w2 w2) (prot : Nat) (H : Heap) (hp : prot ≤ H.length) :
    aLim cfg prot 15 [.agg [v1, v2, .int .i64 a.starts, .int .i64 a.ends], .agg [w1, w2, .int .i64 b.starts, .int .i64 b.ends]] H = some (.agg [w1, w2, .int .i64 (rmergeS a b), .int .i64 b.ends], none) := by
  have hsnap : snap H [.agg [v1, v2, .int .i64 a.starts, .int .i64 a.ends], .agg [w1, w2, .int .i64 b.starts, .int .i64 b.ends]] = some ([.agg [v1, v2, .int .i64 a.starts, .int .i64 a.ends], .agg [w1, w2, .int .i64 b.starts, .int .i64 b.ends]], false) := rfl
  have l1 := hw1
  have l2 := hw2
  unfold AV.leaf at hv1 hv2 hw1 hw2
  have lt1 : ∀ (K : Heap) (A : Blk), K.length < (K ++ [A]).length := fun K A => by simp
  have lt2 : ∀ (K : Heap) (A B : Blk), K.length < (K ++ [A] ++ [B]).length := fun K A B => by simp
  have le2 : ∀ (A B : Blk), H.length ≤ (H ++ [A] ++ [B]).length := fun A B => by simp
  have hput1 : ∀ (A C : Blk) (x : Int), hput H.length (H ++ [A] ++ [Blk.cells 0 [w1, w2, .int .i64 b.starts, .int .i64 b.ends]] ++ [C]) (H ++ [A]).length 0 2 [.int .i64 x] = some (H ++ [A] ++ [Blk.cells 0 [w1, w2, .int .i64 x, .int .i64 b.ends]] ++ [C]) := fun A C x => by
    rw [List.append_assoc, List.singleton_append, hput_new rfl (by simp) (by simp) (by simp [AV.leaf])]
    simp [splice]
  have hputC : ∀ (A B B' : Blk) (x : Int), hput H.length (H ++ [A] ++ [B'] ++ [Blk.cells 0 [.nilS, .nilS, .int .i64 0, .int .i64 0]]) (H ++ [A] ++ [B]).length 0 0 [w1, w2, .int .i64 x, .int .i64 b.ends] = some (H ++ [A] ++ [B'] ++ [Blk.cells 0 [w1, w2, .int .i64 x, .int .i64 b.ends]]) := fun A B B' x => by
    rw [show (H ++ [A] ++ [B]).length = (H ++ [A] ++ [B']).length by simp, hput_new rfl (by simp) (by simp) (by simp only [List.all_cons, l1, l2, List.all_nil]; rfl)]
    simp [splice]
  have hgetC : ∀ (A B B' : Blk) (cs : List AV), hget (H ++ [A] ++ [B'] ++ [Blk.cells 0 cs]) (H ++ [A] ++ [B]).length 0 = some cs := fun A B B' cs => by
    rw [show (H ++ [A] ++ [B]).length = (H ++ [A] ++ [B']).length by simp, hget_new rfl]; rfl
  have hfz : ∀ (K : Heap) (x : Int), Frz K H.length (packR [.agg [w1, w2, .int .i64 x, .int .i64 b.ends]]) (.agg [w1, w2, .int .i64 x, .int .i64 b.ends]) := fun K x => .agg (.cons (f1 _ _) (.cons (f2 _ _) (.cons (.still rfl) (.cons (.still rfl) .nil))))
  refine pure_slim rfl (by kernel_rfl) Try.func15 s15 hp hsnap (by simp [Try.f15]) fun fr hlen h => ?_
  simp only [Has, Nat.zero_add] at h
  obtain ⟨a0, a1, -⟩ := h
  simp only [Try.f15] at hlen ⊢
  unfold g15
  unfold rmergeS
  by_cases h1 : b.starts ≤ a.ends
  · by_cases h3 : a.starts < b.starts
    · rw [if_pos ⟨h1, h3⟩]
      simp only [wk0, wk1, wk2, wk3, wk4, wk5, wk6, aWanted, aYield, Region.wanted, aOp, quiet, loud, aEvals, aParts, aOpt, aBuiltin, rd, win, AV.cells, AV.leaf, aNew, splice, fillA, Nat.reduceEqDiff, Nat.reduceLT, Nat.reduceAdd, Nat.reduceLeDiff, reduceCtorEq, Nat.reduceMul, cfgP, u15, hlen, a0, a1, hv1, hv2, hw1, hw2, lt1, lt2, le2, h1, h3, hput1, hputC]
      exact Fin_pure (l := [.agg [w1, w2, .int .i64 a.starts, .int .i64 b.ends]]) (by simp only [wk0, wk1, wk2, wk3, wk4, wk5, wk6, aWanted, aYield, Region.wanted, aOp, quiet, loud, aEvals, aParts, aOpt, aBuiltin, rd, win, AV.cells, AV.leaf, aNew, splice, fillA, Nat.reduceEqDiff, Nat.reduceLT, Nat.reduceAdd, Nat.reduceLeDiff, reduceCtorEq, Nat.reduceMul, cfgP, u15, hlen, hgetC, aResults, aResult]) (hfz _ _) (by simp)
    · rw [if_neg (fun h => h3 h.2)]
      simp only [wk0, wk1, wk2, wk3, wk4, wk5, wk6, aWanted, aYield, Region.wanted, aOp, quiet, loud, aEvals, aParts, aOpt, aBuiltin, rd, win, AV.cells, AV.leaf, aNew, splice, fillA, Nat.reduceEqDiff, Nat.reduceLT, Nat.reduceAdd, Nat.reduceLeDiff, reduceCtorEq, Nat.reduceMul, cfgP, u15, hlen, a0, a1, hv1, hv2, hw1, hw2, lt1, lt2, le2, h1, h3, hput1, hputC]
      exact Fin_pure (l := [.agg [w1, w2, .int .i64 b.starts, .int .i64 b.ends]]) (by simp only [wk0, wk1, wk2, wk3, wk4, wk5, wk6, aWanted, aYield, Region.wanted, aOp, quiet, loud, aEvals, aParts, aOpt, aBuiltin, rd, win, AV.cells, AV.leaf, aNew, splice, fillA, Nat.reduceEqDiff, Nat.reduceLT, Nat.reduceAdd, Nat.reduceLeDiff, reduceCtorEq, Nat.reduceMul, cfgP, u15, hlen, hgetC, aResults, aResult]) (hfz _ _) (by simp)
  · rw [if_neg (fun h => h1 h.1)]
    simp only [wk0, wk1, wk2, wk3, wk4, wk5, wk6, aWanted, aYield, Region.wanted, aOp, quiet, loud, aEvals, aParts, aOpt, aBuiltin, rd, win, AV.cells, AV.leaf, aNew, splice, fillA, Nat.reduceEqDiff, Nat.reduceLT, Nat.reduceAdd, Nat.reduceLeDiff, reduceCtorEq, Nat.reduceMul, cfgP, u15, hlen, a0, a1, hv1, hv2, hw1, hw2, lt1, lt2, le2, h1, none_beq, hput1, hputC]
    exact Fin_pure (l := [.agg [w1, w2, .int .i64 b.starts, .int .i64 b.ends]]) (by simp only [wk0, wk1, wk2, wk3, wk4, wk5, wk6, aWanted, aYield, Region.wanted, aOp, quiet, loud, aEvals, aParts, aOpt, aBuiltin, rd, win, AV.cells, AV.leaf, aNew, splice, fillA, Nat.reduceEqDiff, Nat.reduceLT, Nat.reduceAdd, Nat.reduceLeDiff, reduceCtorEq, Nat.reduceMul, cfgP, u15, hlen, hgetC, aResults, aResult]) (hfz _ _) (by simp)



theorem timely_ok (t : Int) (prot : Nat) (H : Heap) (hp : prot ≤ H.length) : aLim cfg prot 40 [.int .i64 t] H = some (.bool (timeT t), none) := by
  have hsnap : snap H [.int .i64 t] = some ([.int .i64 t], false) := rfl
  unfold timeT
  refine pure_slim rfl (by kernel_rfl) Try.func40 s40 hp hsnap (by simp [Try.f40]) fun fr hlen h => ?_
  simp only [Has, Nat.zero_add] at h
  obtain ⟨a0, -⟩ := h
  simp only [Try.f40] at hlen ⊢
  unfold g40
  by_cases h1 : 0 ≤ t
  · simp only [wk0, wk1, wk2, wk3, wk4, wk5, wk6, aWanted, aYield, Region.wanted, aOp, quiet, loud, aEvals, aParts, aOpt, aBuiltin, rd, win, AV.cells, AV.leaf, aNew, splice, fillA, Nat.reduceEqDiff, Nat.reduceLT, Nat.reduceAdd, Nat.reduceLeDiff, reduceCtorEq, Nat.reduceMul, cfgP, u40, hlen, a0, h1]
    simp only [Bool.true_and, decide_true]
    exact Fin_pure (l := [.bool (decide (t ≤ 137438953472))]) (by simp [wk0, wk1, wk2, wk3, wk4, wk5, wk6, aWanted, aYield, Region.wanted, aOp, quiet, loud, aEvals, aParts, aOpt, aBuiltin, rd, win, AV.cells, AV.leaf, aNew, splice, fillA, Nat.reduceEqDiff, Nat.reduceLT, Nat.reduceAdd, Nat.reduceLeDiff, reduceCtorEq, Nat.reduceMul, cfgP, u40, aResults, aResult, hlen]) (.still rfl) (by simp)
  · simp only [wk0, wk1, wk2, wk3, wk4, wk5, wk6, aWanted, aYield, Region.wanted, aOp, quiet, loud, aEvals, aParts, aOpt, aBuiltin, rd, win, AV.cells, AV.leaf, aNew, splice, fillA, Nat.reduceEqDiff, Nat.reduceLT, Nat.reduceAdd, Nat.reduceLeDiff, reduceCtorEq, Nat.reduceMul, cfgP, u40, hlen, a0, h1, none_beq]
    simp only [Bool.false_and, decide_false]
    exact Fin_pure (l := [.bool false]) (by simp [wk0, wk1, wk2, wk3, wk4, wk5, wk6, aWanted, aYield, Region.wanted, aOp, quiet, loud, aEvals, aParts, aOpt, aBuiltin, rd, win, AV.cells, AV.leaf, aNew, splice, fillA, Nat.reduceEqDiff, Nat.reduceLT, Nat.reduceAdd, Nat.reduceLeDiff, reduceCtorEq, Nat.reduceMul, cfgP, u40, aResults, aResult, hlen]) (.still rfl) (by simp)

theorem setLen_ok (l : List Pr) (v : AV) (hv : Sl encP v l) (prot : Nat) (H : Heap) (hp : prot ≤ H.length) : aLim cfg prot 22 [.agg [v]] H = some (.int .i64 l.length, none) := by
  have hsnap : snap H [.agg [v]] = some ([.agg [v]], false) := rfl
  have hlf := Sl.leaf hv
  unfold AV.leaf at hlf
  refine pure_slim rfl (by kernel_rfl) Try.func22 s22 hp hsnap (by simp [Try.f22]) fun fr hlen h => ?_
  simp only [Has, Nat.zero_add] at h
  obtain ⟨a0, -⟩ := h
  simp only [Try.f22] at hlen ⊢
  unfold g22
  simp only [wk0, wk1, wk2, wk3, wk4, wk5, wk6, aWanted, aYield, Region.wanted, aOp, quiet, loud, aEvals, aParts, aOpt, aBuiltin, rd, win, AV.cells, AV.leaf, aNew, splice, fillA, Nat.reduceEqDiff, Nat.reduceLT, Nat.reduceAdd, Nat.reduceLeDiff, reduceCtorEq, Nat.reduceMul, cfgP, u22, hlen, a0, hlf, hv.len Try.underlying25]
  exact Fin_pure (l := [.int .i64 l.length]) (by simp [wk0, wk1, wk2, wk3, wk4, wk5, wk6, aWanted, aYield, Region.wanted, aOp, quiet, loud, aEvals, aParts, aOpt, aBuiltin, rd, win, AV.cells, AV.leaf, aNew, splice, fillA, Nat.reduceEqDiff, Nat.reduceLT, Nat.reduceAdd, Nat.reduceLeDiff, reduceCtorEq, Nat.reduceMul, cfgP, u22, aResults, aResult, hlen]) (.still rfl) (by simp)

theorem rightP_ok (l : List Pr) (w1 w2 : AV) (s e : Int) (hv : Sl encP w1 l) (hv2 : w2.leaf = true) (h0 : 0 < l.length) (h1 : timeT s = true) (h2 : timeT e = true) (h3 : s < e) (prot : Nat) (H : Heap) (hp : prot ≤ H.length) :
    aLim cfg prot 16 [.agg [w1, w2, .int .i64 s, .int .i64 e]] H = some (.int .i64 0, none) := by
  have hsnap : snap H [.agg [w1, w2, .int .i64 s, .int .i64 e]] = some ([.agg [w1, w2, .int .i64 s, .int .i64 e]], false) := rfl
  have hv1 := Sl.leaf hv
  unfold AV.leaf at hv1 hv2
  have t1 := fun (K : Heap) (hK : H.length ≤ K.length) => timely_ok s H.length K hK
  have t2 := fun (K : Heap) (hK : H.length ≤ K.length) => timely_ok e H.length K hK
  rw [h1] at t1
  rw [h2] at t2
  have n1 := fun (K : Heap) (hK : H.length ≤ K.length) => setLen_ok l w1 hv H.length K hK
  have hz : decide ((l.length : Int) = 0) = false := decide_eq_false (by omega)
  have h4 : decide (e ≤ s) = false := decide_eq_false (by omega)
  refine pure_slim rfl (by kernel_rfl) Try.func16 s16 hp hsnap (by simp [Try.f16]) fun fr hlen h => ?_
  simp only [Has, Nat.zero_add] at h
  obtain ⟨a0, -⟩ := h
  simp only [Try.f16] at hlen ⊢
  unfold g16
  simp only [wk0, wk1, wk2, wk3, wk4, wk5, wk6, aWanted, aYield, Region.wanted, aOp, quiet, loud, aEvals, aParts, aOpt, aBuiltin, rd, win, AV.cells, AV.leaf, aNew, splice, fillA, Nat.reduceEqDiff, Nat.reduceLT, Nat.reduceAdd, Nat.reduceLeDiff, reduceCtorEq, Nat.reduceMul, cfgP, u16, hlen, a0, hv1, hv2, n1, hz, t1, t2, h4, none_beq]
  exact Fin_pure (l := [.int .i64 0]) (by simp [wk0, wk1, wk2, wk3, wk4, wk5, wk6, aWanted, aYield, Region.wanted, aOp, quiet, loud, aEvals, aParts, aOpt, aBuiltin, rd, win, AV.cells, AV.leaf, aNew, splice, fillA, Nat.reduceEqDiff, Nat.reduceLT, Nat.reduceAdd, Nat.reduceLeDiff, reduceCtorEq, Nat.reduceMul, cfgP, u16, aResults, aResult, hlen]) (.still rfl) (by simp)


theorem mergeLaw_ok (l n l' n' : List Pr) (z1 z2 z3 z4 : AV) (s e s' e' : Int) (h1 : Sl encP z1 l) (h2 : Sl encP z2 n) (h3 : Sl encP z3 l') (h4 : Sl encP z4 n')
    (hl : l.length ≤ 9223372036854775807) (hn : n.length ≤ 9223372036854775807) (hl' : l'.length ≤ 9223372036854775807) (hn' : n'.length ≤ 9223372036854775807) (prot : Nat) (H : Heap) (hp : prot ≤ H.length) :
    aLim cfg prot 4 [.agg [z1, z2, .int .i64 s, .int .i64 e], .agg [z3, z4, .int .i64 s', .int .i64 e']] H = some (.bool true, none) := by
  have hsnap : snap H [.agg [z1, z2, .int .i64 s, .int .i64 e], .agg [z3, z4, .int .i64 s', .int .i64 e']] = some ([.agg [z1, z2, .int .i64 s, .int .i64 e], .agg [z3, z4, .int .i64 s', .int .i64 e']], false) := rfl
  have sl' := setL_len l'
  have sn' := setL_len n'
  let A1 : Blk := Blk.cells 0 [z1, z2, .int .i64 s, .int .i64 e]
  let A2 : Blk := Blk.cells 0 [z3, z4, .int .i64 s', .int .i64 e']
  obtain ⟨v1, v2, r1, r2, o1⟩ := ours_ok l n z1 z2 s e h1 h2 hl hn H.length (H ++ [A1] ++ [A2]) (by simp)
  have k1 := Sl.leaf h1
  have k2 := Sl.leaf h2
  have k3 := Sl.leaf h3
  have k4 := Sl.leaf h4
  have k5 := Sl.leaf r1
  have k6 := Sl.leaf r2
  have k7 := Sl.leaf (slv_sl encP (setL l))
  have q3 := slv_sl encP (setL l)
  have k8 := Sl.leaf (slv_sl encP (setL n))
  generalize slv encP (setL l) = x1 at *
  generalize slv encP (setL n) = y1 at *
  let X1 : Blk := Blk.cells 0 [v1, v2, .int .i64 s, .int .i64 e]
  let P1 : Blk := Blk.cells 0 [x1, y1, .int .i64 s, .int .i64 e]
  obtain ⟨w1, w2, r3, r4, o2⟩ := ours_ok l' n' z3 z4 s' e' h3 h4 hl' hn' H.length (H ++ [A1] ++ [A2] ++ [X1] ++ [P1]) (by simp)
  have k9 := Sl.leaf r3
  have k10 := Sl.leaf r4
  have q1 := slv_sl encP (setL l')
  have q2 := slv_sl encP (setL n')
  have pl := fun (t : Int) (K : Heap) (hK : H.length ≤ K.length) => plain22_ok (setL l') (setL n') w1 w2 t e' r3 r4 (by omega) (by omega) H.length K hK
  have f3 := Sl.frz r3
  have f4 := Sl.frz r4
  generalize slv encP (setL l') = x2 at *
  generalize slv encP (setL n') = y2 at *
  have k11 := Sl.leaf q1
  have k12 := Sl.leaf q2
  have rt0 := fun (K : Heap) (hK : H.length ≤ K.length) => right_ok (setL l) x1 y1 s e q3 k8 H.length K hK
  have rt := fun (K : Heap) (hK : H.length ≤ K.length) => right_ok (setL l') x2 y2 s' e' q1 k12 H.length K hK
  have sm := fun (t : Int) (K : Heap) (hK : H.length ≤ K.length) => asame_ok (setL l') (setL n') x2 y2 x2 y2 t e' q1 q2 q1 q2 (by omega) (by omega) H.length K hK
  have m1 := fun (K : Heap) (hK : H.length ≤ K.length) => merge_ok ⟨[], [], s, e⟩ ⟨[], [], s', e'⟩ v1 v2 w1 w2 k5 k6 k9 k10 f3 f4 H.length K hK
  have m2 := fun (K : Heap) (hK : H.length ≤ K.length) => rmerge_ok ⟨[], [], s, e⟩ ⟨[], [], s', e'⟩ x1 y1 x2 y2 k7 k8 k11 k12 (Sl.frz q1) (Sl.frz q2) H.length K hK
  simp only at m1 m2
  have heq : rmergeS ⟨[], [], s, e⟩ ⟨[], [], s', e'⟩ = mergeS ⟨[], [], s, e⟩ ⟨[], [], s', e'⟩ := by
    unfold mergeS rmergeS; simp only
    by_cases h1 : s' ≤ e
    · by_cases h2 : s < s'
      · rw [if_pos ⟨h1, h2⟩, if_pos h1]; omega
      · rw [if_neg (fun h => h2 h.2), if_pos h1]; omega
    · rw [if_neg (fun h => h1 h.1), if_neg h1]
  rw [heq] at m2
  have hmS : mergeS ⟨[], [], s, e⟩ ⟨[], [], s', e'⟩ ≤ s' ∧ (0 ≤ s → 0 ≤ s' → 0 ≤ mergeS ⟨[], [], s, e⟩ ⟨[], [], s', e'⟩) := by unfold mergeS; simp only; split <;> omega
  generalize mergeS ⟨[], [], s, e⟩ ⟨[], [], s', e'⟩ = mS at *
  have lf1 : ([v1, v2, .int .i64 s, .int .i64 e] : List AV).all AV.leaf = true := by simp only [List.all_cons, k5, k6, List.all_nil]; rfl
  have lf2 : ([x1, y1, .int .i64 s, .int .i64 e] : List AV).all AV.leaf = true := by simp only [List.all_cons, k7, k8, List.all_nil]; rfl
  have lf3 : ([w1, w2, .int .i64 s', .int .i64 e'] : List AV).all AV.leaf = true := by simp only [List.all_cons, k9, k10, List.all_nil]; rfl
  have lf4 : ([x2, y2, .int .i64 s', .int .i64 e'] : List AV).all AV.leaf = true := by simp only [List.all_cons, k11, k12, List.all_nil]; rfl
  have i1 := fun (K : Heap) (hK : H.length ≤ K.length) (B : Blk) => hput_mid H.length K hK [v1, v2, .int .i64 s, .int .i64 e] [.nilS, .nilS, .int .i64 0, .int .i64 0] B rfl lf1
  have i2 := fun (K : Heap) (hK : H.length ≤ K.length) (B B' : Blk) => hput_last H.length K hK [x1, y1, .int .i64 s, .int .i64 e] [.nilS, .nilS, .int .i64 0, .int .i64 0] B B' rfl lf2
  have i3 := fun (K : Heap) (hK : H.length ≤ K.length) (B : Blk) => hput_mid H.length K hK [w1, w2, .int .i64 s', .int .i64 e'] [.nilS, .nilS, .int .i64 0, .int .i64 0] B rfl lf3
  have i4 := fun (K : Heap) (hK : H.length ≤ K.length) (B B' : Blk) => hput_last H.length K hK [x2, y2, .int .i64 s', .int .i64 e'] [.nilS, .nilS, .int .i64 0, .int .i64 0] B B' rfl lf4
  have hgP : ∀ (K : Heap) (B B' M : Blk) (cs : List AV), hget (K ++ [B'] ++ [Blk.cells 0 cs] ++ [M]) (K ++ [B]).length 0 = some cs := fun K B B' M cs => by simp [hget]
  have hgP1 : ∀ (K : Heap) (B B' M1 M2 M3 : Blk) (cs : List AV), hget (K ++ [B'] ++ [Blk.cells 0 cs] ++ [M1] ++ [M2] ++ [M3]) (K ++ [B]).length 0 = some cs := fun K B B' M1 M2 M3 cs => by simp [hget]
  have pr := fun (K : Heap) (hK : H.length ≤ K.length) (c0 : 0 < (setL l').length) (c1 : timeT mS = true) (c2 : timeT e' = true) (c3 : mS < e') => rightP_ok (setL l') w1 w2 mS e' r3 k10 c0 c1 c2 c3 H.length K hK
  unfold AV.leaf at k1 k2 k3 k4 k5 k6 k7 k8 k9 k10 k11 k12
  refine pure_slim rfl (by kernel_rfl) Try.func4 s4 hp hsnap (by simp [Try.f4]) fun fr hlen h => ?_
  simp only [Has, Nat.zero_add] at h
  obtain ⟨a0, a1, -⟩ := h
  simp only [Try.f4] at hlen ⊢
  unfold g4
  simp only [A1, A2, X1, P1] at o1 o2
  cases hr0 : rightA (setL l) s e with
  | false =>
    rw [hr0] at rt0
    simp only [wk0, wk1, wk2, wk3, wk4, wk5, wk6, aWanted, aYield, Region.wanted, aOp, quiet, loud, aEvals, aParts, aOpt, aBuiltin, rd, win, AV.cells, AV.leaf, aNew, splice, fillA, Nat.reduceEqDiff, Nat.reduceLT, Nat.reduceAdd, Nat.reduceLeDiff, reduceCtorEq, Nat.reduceMul, cfgP, u4, hlen, a0, a1, k1, k2, k3, k4, k5, k6, k7, k8, k9, k10, k11, k12, o1, o2, i1, i2, i3, i4, m1, m2, pl, sm, rt0, rt, hgP, hgP1, aawake_ok, none_beq, lts1, lts2, lts3, lts4, lts5, lts6, les2, les3, les4, les5, les6]
    exact Fin_pure (l := [.bool true]) (by simp [wk0, wk1, wk2, wk3, wk4, wk5, wk6, aWanted, aYield, Region.wanted, aOp, quiet, loud, aEvals, aParts, aOpt, aBuiltin, rd, win, AV.cells, AV.leaf, aNew, splice, fillA, Nat.reduceEqDiff, Nat.reduceLT, Nat.reduceAdd, Nat.reduceLeDiff, reduceCtorEq, Nat.reduceMul, cfgP, u4, aResults, aResult, hlen]) (.still rfl) (by simp)
  | true =>
    rw [hr0] at rt0
    cases hr : rightA (setL l') s' e' with
    | false =>
      rw [hr] at rt
      simp only [wk0, wk1, wk2, wk3, wk4, wk5, wk6, aWanted, aYield, Region.wanted, aOp, quiet, loud, aEvals, aParts, aOpt, aBuiltin, rd, win, AV.cells, AV.leaf, aNew, splice, fillA, Nat.reduceEqDiff, Nat.reduceLT, Nat.reduceAdd, Nat.reduceLeDiff, reduceCtorEq, Nat.reduceMul, cfgP, u4, hlen, a0, a1, k1, k2, k3, k4, k5, k6, k7, k8, k9, k10, k11, k12, o1, o2, i1, i2, i3, i4, m1, m2, pl, sm, rt0, rt, hgP, hgP1, aawake_ok, none_beq, lts1, lts2, lts3, lts4, lts5, lts6, les2, les3, les4, les5, les6]
      exact Fin_pure (l := [.bool true]) (by simp [wk0, wk1, wk2, wk3, wk4, wk5, wk6, aWanted, aYield, Region.wanted, aOp, quiet, loud, aEvals, aParts, aOpt, aBuiltin, rd, win, AV.cells, AV.leaf, aNew, splice, fillA, Nat.reduceEqDiff, Nat.reduceLT, Nat.reduceAdd, Nat.reduceLeDiff, reduceCtorEq, Nat.reduceMul, cfgP, u4, aResults, aResult, hlen]) (.still rfl) (by simp)
    | true =>
      rw [hr] at rt
      unfold rightA timeT at hr hr0
      simp only [Bool.and_eq_true, decide_eq_true_eq] at hr hr0
      obtain ⟨b1, ⟨b2, b3⟩, ⟨b4, b5⟩, b6⟩ := hr
      obtain ⟨d1, ⟨d2, d3⟩, ⟨d4, d5⟩, d6⟩ := hr0
      have t0 := hmS.2 d2 b2
      have t1 := hmS.1
      have pr' := fun (K : Heap) (hK : H.length ≤ K.length) => pr K hK (by omega) (by simp [timeT]; omega) (by simp [timeT]; omega) (by omega)
      simp only [wk0, wk1, wk2, wk3, wk4, wk5, wk6, aWanted, aYield, Region.wanted, aOp, quiet, loud, aEvals, aParts, aOpt, aBuiltin, rd, win, AV.cells, AV.leaf, aNew, splice, fillA, Nat.reduceEqDiff, Nat.reduceLT, Nat.reduceAdd, Nat.reduceLeDiff, reduceCtorEq, Nat.reduceMul, cfgP, u4, hlen, a0, a1, k1, k2, k3, k4, k5, k6, k7, k8, k9, k10, k11, k12, o1, o2, i1, i2, i3, i4, m1, m2, pl, sm, rt0, rt, hgP, hgP1, aawake_ok, none_beq, lts1, lts2, lts3, lts4, lts5, lts6, les2, les3, les4, les5, les6, pr']
      exact Fin_pure (l := [.bool true]) (by simp [wk0, wk1, wk2, wk3, wk4, wk5, wk6, aWanted, aYield, Region.wanted, aOp, quiet, loud, aEvals, aParts, aOpt, aBuiltin, rd, win, AV.cells, AV.leaf, aNew, splice, fillA, Nat.reduceEqDiff, Nat.reduceLT, Nat.reduceAdd, Nat.reduceLeDiff, reduceCtorEq, Nat.reduceMul, cfgP, u4, aResults, aResult, hlen]) (.still rfl) (by simp)
end Go.Proofs.Ytjhgmoaabflbfaa
