import Derived.Test.YtjhgmoaabflbfaaAlert1
/-! Chapters 14, 22: pairs as a law takes them; merging, walked. -/
set_option linter.unusedSimpArgs false
namespace Go.Proofs.Ytjhgmoaabflbfaa
open Go Go.Abs AbsSeat Ty

theorem u17 : type_of% (And.intro (show tagT Try.prog 68 = 0 from by kernel_rfl) (And.intro ag1 (And.intro sz1 (And.intro by1 (And.intro ze1 (And.intro Try.underlying1 (And.intro ag3 (And.intro sz3 (And.intro by3 (And.intro ze3 (And.intro Try.underlying3 (And.intro ag9 (And.intro sz9 (And.intro by9 (And.intro ze9 (And.intro Try.underlying9 (And.intro ag22 (And.intro sz22 (And.intro by22 (And.intro se22 (And.intro ze22 (And.intro Try.underlying22 (And.intro ag25 (And.intro sz25 (And.intro by25 (And.intro se25 (And.intro ze25 (And.intro Try.underlying25 (And.intro ag59 (And.intro sz59 (And.intro by59 (And.intro ze59 (And.intro bu59 (And.intro Try.underlying59 (And.intro ag68 (And.intro sz68 (And.intro by68 (And.intro ze68 (And.intro bu68 (And.intro Try.underlying68 (And.intro fa68_0 (And.intro fd68_0 (And.intro fa68_1 fd68_1))))))))))))))))))))))))))))))))))))))))))) :=
  And.intro (show tagT Try.prog 68 = 0 from by kernel_rfl) (And.intro ag1 (And.intro sz1 (And.intro by1 (And.intro ze1 (And.intro Try.underlying1 (And.intro ag3 (And.intro sz3 (And.intro by3 (And.intro ze3 (And.intro Try.underlying3 (And.intro ag9 (And.intro sz9 (And.intro by9 (And.intro ze9 (And.intro Try.underlying9 (And.intro ag22 (And.intro sz22 (And.intro by22 (And.intro se22 (And.intro ze22 (And.intro Try.underlying22 (And.intro ag25 (And.intro sz25 (And.intro by25 (And.intro se25 (And.intro ze25 (And.intro Try.underlying25 (And.intro ag59 (And.intro sz59 (And.intro by59 (And.intro ze59 (And.intro bu59 (And.intro Try.underlying59 (And.intro ag68 (And.intro sz68 (And.intro by68 (And.intro ze68 (And.intro bu68 (And.intro Try.underlying68 (And.intro fa68_0 (And.intro fd68_0 (And.intro fa68_1 fd68_1))))))))))))))))))))))))))))))))))))))))))
def g17 : Code :=
  Go.Code.seq (Go.Code.region 0 #[{ dst := some 2, op := Go.Op.assign (Go.Operand.const (Go.Value.slice none 0 0)), type := 25, pos := "", after := #[], guard := none }, { dst := some 3, op := Go.Op.assign (Go.Operand.const (Go.Value.slice none 0 0)), type := 22, pos := "", after := #[], guard := none }] false) (Go.Code.seq (Go.Code.region 1 #[{ dst := some 4, op := Go.Op.assign (Go.Operand.const (Go.Value.slice none 0 0)), type := 25, pos := "", after := #[], guard := none }] false) (Go.Code.seq (Go.Code.region 2 #[{ dst := some 5, op := Go.Op.assign (Go.Operand.const (Go.Value.slice none 0 0)), type := 22, pos := "", after := #[], guard := none }] false) (Go.Code.seq (Go.Code.seq (Go.Code.region 3 #[{ dst := some 8, op := Go.Op.move (Go.Operand.tmp 0), type := 22, pos := "", after := #[], guard := none }, { dst := some 9, op := Go.Op.call { callee := Go.Callee.builtin Go.Builtin.len, args := #[Go.Operand.tmp 8], argTypes := #[22] }, type := 3, pos := "", after := #[], guard := none }, { dst := some 10, op := Go.Op.move (Go.Operand.const (Go.Value.int Go.IntKind.i64 0)), type := 3, pos := "", after := #[], guard := none }] false) (Go.Code.block 0 (Go.Code.loop (Go.Code.seq (Go.Code.region 4 #[{ dst := some 11, op := Go.Op.binOp Go.BinOp.lss 3 (Go.Operand.tmp 10) (Go.Operand.tmp 9) 3, type := 0, pos := "", after := #[], guard := none }] false) (Go.Code.seq (Go.Code.cond (Go.Operand.tmp 11) Go.Code.skip (Go.Code.exit 0)) (Go.Code.seq (Go.Code.block 1 (Go.Code.seq (Go.Code.region 5 #[{ dst := some 12, op := Go.Op.move (Go.Operand.tmp 10), type := 3, pos := "", after := #[], guard := none }, { dst := some 13, op := Go.Op.indexAddr 22 (Go.Operand.tmp 8) (Go.Operand.tmp 10), type := 0, pos := "", after := #[], guard := none }, { dst := some 14, op := Go.Op.load 68 (Go.Operand.tmp 13), type := 68, pos := "", after := #[], guard := none }, { dst := some 7, op := Go.Op.alloc 68, type := 0, pos := "", after := #[], guard := none }, { dst := some 6, op := Go.Op.assign (Go.Operand.tmp 12), type := 3, pos := "", after := #[], guard := none }, { dst := none, op := Go.Op.store 68 (Go.Operand.tmp 7) (Go.Operand.tmp 14), type := 0, pos := "", after := #[], guard := none }] false) (Go.Code.seq (Go.Code.seq (Go.Code.region 6 #[{ dst := some 15, op := Go.Op.move (Go.Operand.tmp 6), type := 3, pos := "", after := #[], guard := none }, { dst := some 16, op := Go.Op.binOp Go.BinOp.geq 3 (Go.Operand.tmp 15) (Go.Operand.const (Go.Value.int Go.IntKind.i64 6)) 3, type := 4, pos := "", after := #[], guard := none }] false) (Go.Code.cond (Go.Operand.tmp 16) (Go.Code.exit 0) Go.Code.skip)) (Go.Code.seq (Go.Code.seq (Go.Code.region 7 #[{ dst := some 17, op := Go.Op.fieldAddr 68 (Go.Operand.tmp 7) 0, type := 0, pos := "", after := #[], guard := none }, { dst := some 18, op := Go.Op.load 9 (Go.Operand.tmp 17), type := 9, pos := "", after := #[], guard := none }, { dst := some 19, op := Go.Op.call { callee := Go.Callee.builtin Go.Builtin.len, args := #[Go.Operand.tmp 18], argTypes := #[9] }, type := 3, pos := "", after := #[], guard := none }, { dst := some 20, op := Go.Op.binOp Go.BinOp.gtr 3 (Go.Operand.tmp 19) (Go.Operand.const (Go.Value.int Go.IntKind.i64 20)) 3, type := 4, pos := "", after := #[], guard := none }] false) (Go.Code.cond (Go.Operand.tmp 20) (Go.Code.region 8 #[{ dst := some 21, op := Go.Op.fieldAddr 68 (Go.Operand.tmp 7) 0, type := 0, pos := "", after := #[], guard := none }, { dst := some 22, op := Go.Op.load 9 (Go.Operand.tmp 21), type := 9, pos := "", after := #[], guard := none }, { dst := some 23, op := Go.Op.slice 9 (Go.Operand.tmp 22) none (some (Go.Operand.const (Go.Value.int Go.IntKind.i64 20))) none, type := 9, pos := "", after := #[], guard := none }, { dst := some 24, op := Go.Op.fieldAddr 68 (Go.Operand.tmp 7) 0, type := 0, pos := "", after := #[], guard := none }, { dst := none, op := Go.Op.store 9 (Go.Operand.tmp 24) (Go.Operand.tmp 23), type := 0, pos := "", after := #[], guard := none }] false) Go.Code.skip)) (Go.Code.seq (Go.Code.seq (Go.Code.region 9 #[{ dst := some 25, op := Go.Op.fieldAddr 68 (Go.Operand.tmp 7) 1, type := 0, pos := "", after := #[], guard := none }, { dst := some 26, op := Go.Op.load 9 (Go.Operand.tmp 25), type := 9, pos := "", after := #[], guard := none }, { dst := some 27, op := Go.Op.call { callee := Go.Callee.builtin Go.Builtin.len, args := #[Go.Operand.tmp 26], argTypes := #[9] }, type := 3, pos := "", after := #[], guard := none }, { dst := some 28, op := Go.Op.binOp Go.BinOp.gtr 3 (Go.Operand.tmp 27) (Go.Operand.const (Go.Value.int Go.IntKind.i64 30)) 3, type := 4, pos := "", after := #[], guard := none }] false) (Go.Code.cond (Go.Operand.tmp 28) (Go.Code.region 10 #[{ dst := some 29, op := Go.Op.fieldAddr 68 (Go.Operand.tmp 7) 1, type := 0, pos := "", after := #[], guard := none }, { dst := some 30, op := Go.Op.load 9 (Go.Operand.tmp 29), type := 9, pos := "", after := #[], guard := none }, { dst := some 31, op := Go.Op.slice 9 (Go.Operand.tmp 30) none (some (Go.Operand.const (Go.Value.int Go.IntKind.i64 30))) none, type := 9, pos := "", after := #[], guard := none }, { dst := some 32, op := Go.Op.fieldAddr 68 (Go.Operand.tmp 7) 1, type := 0, pos := "", after := #[], guard := none }, { dst := none, op := Go.Op.store 9 (Go.Operand.tmp 32) (Go.Operand.tmp 31), type := 0, pos := "", after := #[], guard := none }] false) Go.Code.skip)) (Go.Code.seq (Go.Code.region 11 #[{ dst := some 33, op := Go.Op.move (Go.Operand.tmp 4), type := 25, pos := "", after := #[], guard := none }, { dst := some 34, op := Go.Op.fieldAddr 68 (Go.Operand.tmp 7) 0, type := 0, pos := "", after := #[], guard := none }, { dst := some 35, op := Go.Op.load 9 (Go.Operand.tmp 34), type := 9, pos := "", after := #[], guard := none }, { dst := some 36, op := Go.Op.fieldAddr 68 (Go.Operand.tmp 7) 1, type := 0, pos := "", after := #[], guard := none }, { dst := some 37, op := Go.Op.load 9 (Go.Operand.tmp 36), type := 9, pos := "", after := #[], guard := none }, { dst := some 38, op := Go.Op.build 59 #[(0, Go.Operand.tmp 35), (1, Go.Operand.tmp 37)], type := 59, pos := "", after := #[], guard := none }, { dst := some 39, op := Go.Op.buildSlice 25 1 #[(0, Go.Operand.tmp 38)], type := 25, pos := "", after := #[], guard := none }, { dst := some 40, op := Go.Op.call { callee := Go.Callee.builtin Go.Builtin.append, args := #[Go.Operand.tmp 33, Go.Operand.tmp 39], argTypes := #[25, 25] }, type := 25, pos := "", after := #[], guard := none }, { dst := some 4, op := Go.Op.assign (Go.Operand.tmp 40), type := 25, pos := "", after := #[], guard := none }] false) (Go.Code.region 12 #[{ dst := some 41, op := Go.Op.move (Go.Operand.tmp 5), type := 22, pos := "", after := #[], guard := none }, { dst := some 42, op := Go.Op.load 68 (Go.Operand.tmp 7), type := 68, pos := "", after := #[], guard := none }, { dst := some 43, op := Go.Op.buildSlice 22 1 #[(0, Go.Operand.tmp 42)], type := 22, pos := "", after := #[], guard := none }, { dst := some 44, op := Go.Op.call { callee := Go.Callee.builtin Go.Builtin.append, args := #[Go.Operand.tmp 41, Go.Operand.tmp 43], argTypes := #[22, 22] }, type := 22, pos := "", after := #[], guard := none }, { dst := some 5, op := Go.Op.assign (Go.Operand.tmp 44), type := 22, pos := "", after := #[], guard := none }] false))))))) (Go.Code.region 13 #[{ dst := some 45, op := Go.Op.binOp Go.BinOp.add 3 (Go.Operand.tmp 10) (Go.Operand.const (Go.Value.int Go.IntKind.i64 1)) 3, type := 3, pos := "", after := #[], guard := none }, { dst := some 10, op := Go.Op.move (Go.Operand.tmp 45), type := 3, pos := "", after := #[], guard := none }] false))))))) (Go.Code.seq (Go.Code.region 14 #[{ dst := some 46, op := Go.Op.move (Go.Operand.tmp 4), type := 25, pos := "", after := #[], guard := none }, { dst := some 47, op := Go.Op.move (Go.Operand.tmp 5), type := 22, pos := "", after := #[], guard := none }, { dst := some 2, op := Go.Op.assign (Go.Operand.tmp 46), type := 25, pos := "", after := #[], guard := none }, { dst := some 3, op := Go.Op.assign (Go.Operand.tmp 47), type := 22, pos := "", after := #[], guard := none }] false) Go.Code.ret))))
theorem s17 : Try.f17.body.map (slim cfg) = some g17 := by kernel_rfl
theorem u10 : type_of% (And.intro (show tagT Try.prog 29 = 0 from by kernel_rfl) (And.intro ag2 (And.intro sz2 (And.intro by2 (And.intro ze2 (And.intro Try.underlying2 (And.intro ag29 (And.intro sz29 (And.intro by29 (And.intro ze29 (And.intro bu29 (And.intro Try.underlying29 (And.intro fa29_2 (And.intro fd29_2 (And.intro fa29_3 fd29_3))))))))))))))) :=
  And.intro (show tagT Try.prog 29 = 0 from by kernel_rfl) (And.intro ag2 (And.intro sz2 (And.intro by2 (And.intro ze2 (And.intro Try.underlying2 (And.intro ag29 (And.intro sz29 (And.intro by29 (And.intro ze29 (And.intro bu29 (And.intro Try.underlying29 (And.intro fa29_2 (And.intro fd29_2 (And.intro fa29_3 fd29_3))))))))))))))
def g10 : Code :=
  Go.Code.seq (Go.Code.region 0 #[{ dst := some 2, op := Go.Op.box 29 (Go.Operand.tmp 0), type := 0, pos := "", after := #[], guard := none }, { dst := some 3, op := Go.Op.box 29 (Go.Operand.tmp 1), type := 0, pos := "", after := #[], guard := none }, { dst := some 4, op := Go.Op.alloc 29, type := 0, pos := "", after := #[], guard := none }] false) (Go.Code.seq (Go.Code.seq (Go.Code.region 1 #[{ dst := some 5, op := Go.Op.fieldAddr 29 (Go.Operand.tmp 3) 2, type := 0, pos := "", after := #[], guard := none }, { dst := some 6, op := Go.Op.load 2 (Go.Operand.tmp 5), type := 2, pos := "", after := #[], guard := none }, { dst := some 7, op := Go.Op.fieldAddr 29 (Go.Operand.tmp 2) 3, type := 0, pos := "", after := #[], guard := none }, { dst := some 8, op := Go.Op.load 2 (Go.Operand.tmp 7), type := 2, pos := "", after := #[], guard := none }, { dst := some 9, op := Go.Op.binOp Go.BinOp.leq 2 (Go.Operand.tmp 6) (Go.Operand.tmp 8) 2, type := 4, pos := "", after := #[], guard := none }] false) (Go.Code.cond (Go.Operand.tmp 9) (Go.Code.region 2 #[{ dst := some 10, op := Go.Op.fieldAddr 29 (Go.Operand.tmp 3) 2, type := 0, pos := "", after := #[], guard := none }, { dst := some 11, op := Go.Op.load 2 (Go.Operand.tmp 10), type := 2, pos := "", after := #[], guard := none }, { dst := some 12, op := Go.Op.fieldAddr 29 (Go.Operand.tmp 2) 2, type := 0, pos := "", after := #[], guard := none }, { dst := some 13, op := Go.Op.load 2 (Go.Operand.tmp 12), type := 2, pos := "", after := #[], guard := none }, { dst := some 14, op := Go.Op.call { callee := Go.Callee.builtin Go.Builtin.min, args := #[Go.Operand.tmp 11, Go.Operand.tmp 13], argTypes := #[2, 2] }, type := 2, pos := "", after := #[], guard := none }, { dst := some 15, op := Go.Op.fieldAddr 29 (Go.Operand.tmp 3) 2, type := 0, pos := "", after := #[], guard := none }, { dst := none, op := Go.Op.store 2 (Go.Operand.tmp 15) (Go.Operand.tmp 14), type := 0, pos := "", after := #[], guard := none }] false) Go.Code.skip)) (Go.Code.seq (Go.Code.region 3 #[{ dst := some 16, op := Go.Op.load 29 (Go.Operand.tmp 3), type := 29, pos := "", after := #[], guard := none }, { dst := none, op := Go.Op.store 29 (Go.Operand.tmp 4) (Go.Operand.tmp 16), type := 0, pos := "", after := #[], guard := none }] false) Go.Code.ret))
theorem s10 : Try.f10.body.map (slim cfg) = some g10 := by kernel_rfl
theorem u39 : type_of% (And.intro ag2 (And.intro sz2 (And.intro by2 (And.intro ze2 Try.underlying2)))) :=
  And.intro ag2 (And.intro sz2 (And.intro by2 (And.intro ze2 Try.underlying2)))
def g39 : Code :=
  Go.Code.seq (Go.Code.region 0 #[{ dst := some 2, op := Go.Op.assign (Go.Operand.const (Go.Value.bool false)), type := 4, pos := "", after := #[], guard := none }] false) (Go.Code.seq (Go.Code.region 1 #[{ dst := some 3, op := Go.Op.move (Go.Operand.tmp 0), type := 2, pos := "", after := #[], guard := none }, { dst := some 4, op := Go.Op.binOp Go.BinOp.geq 2 (Go.Operand.tmp 3) (Go.Operand.const (Go.Value.int Go.IntKind.i64 0)) 2, type := 4, pos := "", after := #[], guard := none }, { dst := some 5, op := Go.Op.move (Go.Operand.tmp 4), type := 4, pos := "", after := #[], guard := none }, { dst := some 6, op := Go.Op.move (Go.Operand.tmp 0), type := 2, pos := "", after := #[], guard := some (2, true) }, { dst := some 7, op := Go.Op.binOp Go.BinOp.leq 2 (Go.Operand.tmp 6) (Go.Operand.const (Go.Value.int Go.IntKind.i64 137438953472)) 2, type := 4, pos := "", after := #[], guard := some (2, true) }, { dst := some 8, op := Go.Op.pick (Go.Operand.tmp 5) (Go.Operand.tmp 7) (Go.Operand.const (Go.Value.bool false)), type := 4, pos := "", after := #[], guard := none }, { dst := some 2, op := Go.Op.assign (Go.Operand.tmp 8), type := 4, pos := "", after := #[], guard := none }] false) Go.Code.ret)
theorem s39 : Try.f39.body.map (slim cfg) = some g39 := by kernel_rfl
theorem u11 : type_of% (And.intro (show tagT Try.prog 24 = 0 from by kernel_rfl) (And.intro ag2 (And.intro sz2 (And.intro by2 (And.intro ze2 (And.intro Try.underlying2 (And.intro ag3 (And.intro sz3 (And.intro by3 (And.intro ze3 (And.intro Try.underlying3 (And.intro ag22 (And.intro sz22 (And.intro by22 (And.intro se22 (And.intro ze22 (And.intro Try.underlying22 (And.intro ag24 (And.intro sz24 (And.intro by24 (And.intro ze24 (And.intro bu24 (And.intro Try.underlying24 (And.intro ag68 (And.intro sz68 (And.intro by68 (And.intro ze68 (And.intro bu68 (And.intro Try.underlying68 (And.intro fa24_0 (And.intro fd24_0 (And.intro fa24_2 (And.intro fd24_2 (And.intro fa24_3 fd24_3)))))))))))))))))))))))))))))))))) :=
  And.intro (show tagT Try.prog 24 = 0 from by kernel_rfl) (And.intro ag2 (And.intro sz2 (And.intro by2 (And.intro ze2 (And.intro Try.underlying2 (And.intro ag3 (And.intro sz3 (And.intro by3 (And.intro ze3 (And.intro Try.underlying3 (And.intro ag22 (And.intro sz22 (And.intro by22 (And.intro se22 (And.intro ze22 (And.intro Try.underlying22 (And.intro ag24 (And.intro sz24 (And.intro by24 (And.intro ze24 (And.intro bu24 (And.intro Try.underlying24 (And.intro ag68 (And.intro sz68 (And.intro by68 (And.intro ze68 (And.intro bu68 (And.intro Try.underlying68 (And.intro fa24_0 (And.intro fd24_0 (And.intro fa24_2 (And.intro fd24_2 (And.intro fa24_3 fd24_3)))))))))))))))))))))))))))))))))
def g11 : Code :=
  Go.Code.seq (Go.Code.region 0 #[{ dst := some 1, op := Go.Op.box 24 (Go.Operand.tmp 0), type := 0, pos := "", after := #[], guard := none }, { dst := some 2, op := Go.Op.assign (Go.Operand.const (Go.Value.bool false)), type := 4, pos := "", after := #[], guard := none }] false) (Go.Code.seq (Go.Code.region 1 #[{ dst := some 3, op := Go.Op.fieldAddr 24 (Go.Operand.tmp 1) 0, type := 0, pos := "", after := #[], guard := none }, { dst := some 4, op := Go.Op.load 22 (Go.Operand.tmp 3), type := 22, pos := "", after := #[], guard := none }, { dst := some 5, op := Go.Op.call { callee := Go.Callee.builtin Go.Builtin.len, args := #[Go.Operand.tmp 4], argTypes := #[22] }, type := 3, pos := "", after := #[], guard := none }, { dst := some 6, op := Go.Op.binOp Go.BinOp.gtr 3 (Go.Operand.tmp 5) (Go.Operand.const (Go.Value.int Go.IntKind.i64 0)) 3, type := 4, pos := "", after := #[], guard := none }, { dst := some 7, op := Go.Op.move (Go.Operand.tmp 6), type := 4, pos := "", after := #[], guard := none }, { dst := some 8, op := Go.Op.fieldAddr 24 (Go.Operand.tmp 1) 2, type := 0, pos := "", after := #[], guard := some (4, true) }, { dst := some 9, op := Go.Op.load 2 (Go.Operand.tmp 8), type := 2, pos := "", after := #[], guard := some (4, true) }, { dst := some 10, op := Go.Op.call { callee := Go.Callee.value (Go.Operand.func 39), args := #[Go.Operand.tmp 9], argTypes := #[2] }, type := 4, pos := "", after := #[], guard := some (4, true) }, { dst := some 11, op := Go.Op.pick (Go.Operand.tmp 7) (Go.Operand.tmp 10) (Go.Operand.const (Go.Value.bool false)), type := 4, pos := "", after := #[], guard := none }, { dst := some 12, op := Go.Op.move (Go.Operand.tmp 11), type := 4, pos := "", after := #[], guard := none }, { dst := some 13, op := Go.Op.fieldAddr 24 (Go.Operand.tmp 1) 3, type := 0, pos := "", after := #[], guard := some (9, true) }, { dst := some 14, op := Go.Op.load 2 (Go.Operand.tmp 13), type := 2, pos := "", after := #[], guard := some (9, true) }, { dst := some 15, op := Go.Op.call { callee := Go.Callee.value (Go.Operand.func 39), args := #[Go.Operand.tmp 14], argTypes := #[2] }, type := 4, pos := "", after := #[], guard := some (9, true) }, { dst := some 16, op := Go.Op.pick (Go.Operand.tmp 12) (Go.Operand.tmp 15) (Go.Operand.const (Go.Value.bool false)), type := 4, pos := "", after := #[], guard := none }, { dst := some 17, op := Go.Op.move (Go.Operand.tmp 16), type := 4, pos := "", after := #[], guard := none }, { dst := some 18, op := Go.Op.fieldAddr 24 (Go.Operand.tmp 1) 3, type := 0, pos := "", after := #[], guard := some (14, true) }, { dst := some 19, op := Go.Op.load 2 (Go.Operand.tmp 18), type := 2, pos := "", after := #[], guard := some (14, true) }, { dst := some 20, op := Go.Op.fieldAddr 24 (Go.Operand.tmp 1) 2, type := 0, pos := "", after := #[], guard := some (14, true) }, { dst := some 21, op := Go.Op.load 2 (Go.Operand.tmp 20), type := 2, pos := "", after := #[], guard := some (14, true) }, { dst := some 22, op := Go.Op.binOp Go.BinOp.gtr 2 (Go.Operand.tmp 19) (Go.Operand.tmp 21) 2, type := 4, pos := "", after := #[], guard := some (14, true) }, { dst := some 23, op := Go.Op.pick (Go.Operand.tmp 17) (Go.Operand.tmp 22) (Go.Operand.const (Go.Value.bool false)), type := 4, pos := "", after := #[], guard := none }, { dst := some 2, op := Go.Op.assign (Go.Operand.tmp 23), type := 4, pos := "", after := #[], guard := none }] false) Go.Code.ret)
theorem s11 : Try.f11.body.map (slim cfg) = some g11 := by kernel_rfl
theorem u12 : type_of% (And.intro (show tagT Try.prog 24 = 0 from by kernel_rfl) (And.intro ag2 (And.intro sz2 (And.intro by2 (And.intro ze2 (And.intro Try.underlying2 (And.intro ag22 (And.intro sz22 (And.intro by22 (And.intro se22 (And.intro ze22 (And.intro Try.underlying22 (And.intro ag24 (And.intro sz24 (And.intro by24 (And.intro ze24 (And.intro bu24 (And.intro Try.underlying24 (And.intro ag68 (And.intro sz68 (And.intro by68 (And.intro ze68 (And.intro bu68 (And.intro Try.underlying68 (And.intro fa24_0 (And.intro fd24_0 (And.intro fa24_1 (And.intro fd24_1 (And.intro fa24_2 (And.intro fd24_2 (And.intro fa24_3 fd24_3))))))))))))))))))))))))))))))) :=
  And.intro (show tagT Try.prog 24 = 0 from by kernel_rfl) (And.intro ag2 (And.intro sz2 (And.intro by2 (And.intro ze2 (And.intro Try.underlying2 (And.intro ag22 (And.intro sz22 (And.intro by22 (And.intro se22 (And.intro ze22 (And.intro Try.underlying22 (And.intro ag24 (And.intro sz24 (And.intro by24 (And.intro ze24 (And.intro bu24 (And.intro Try.underlying24 (And.intro ag68 (And.intro sz68 (And.intro by68 (And.intro ze68 (And.intro bu68 (And.intro Try.underlying68 (And.intro fa24_0 (And.intro fd24_0 (And.intro fa24_1 (And.intro fd24_1 (And.intro fa24_2 (And.intro fd24_2 (And.intro fa24_3 fd24_3))))))))))))))))))))))))))))))
def g12 : Code :=
  Go.Code.seq (Go.Code.region 0 #[{ dst := some 2, op := Go.Op.box 24 (Go.Operand.tmp 0), type := 0, pos := "", after := #[], guard := none }, { dst := some 3, op := Go.Op.box 24 (Go.Operand.tmp 1), type := 0, pos := "", after := #[], guard := none }, { dst := some 4, op := Go.Op.assign (Go.Operand.const (Go.Value.bool false)), type := 4, pos := "", after := #[], guard := none }] false) (Go.Code.seq (Go.Code.region 1 #[{ dst := some 5, op := Go.Op.fieldAddr 24 (Go.Operand.tmp 2) 0, type := 0, pos := "", after := #[], guard := none }, { dst := some 6, op := Go.Op.load 22 (Go.Operand.tmp 5), type := 22, pos := "", after := #[], guard := none }, { dst := some 7, op := Go.Op.fieldAddr 24 (Go.Operand.tmp 3) 0, type := 0, pos := "", after := #[], guard := none }, { dst := some 8, op := Go.Op.load 22 (Go.Operand.tmp 7), type := 22, pos := "", after := #[], guard := none }, { dst := some 9, op := Go.Op.call { callee := Go.Callee.value (Go.Operand.func 20), args := #[Go.Operand.tmp 6, Go.Operand.tmp 8], argTypes := #[22, 22] }, type := 4, pos := "", after := #[], guard := none }, { dst := some 10, op := Go.Op.move (Go.Operand.tmp 9), type := 4, pos := "", after := #[], guard := none }, { dst := some 11, op := Go.Op.fieldAddr 24 (Go.Operand.tmp 2) 1, type := 0, pos := "", after := #[], guard := some (5, true) }, { dst := some 12, op := Go.Op.load 22 (Go.Operand.tmp 11), type := 22, pos := "", after := #[], guard := some (5, true) }, { dst := some 13, op := Go.Op.fieldAddr 24 (Go.Operand.tmp 3) 1, type := 0, pos := "", after := #[], guard := some (5, true) }, { dst := some 14, op := Go.Op.load 22 (Go.Operand.tmp 13), type := 22, pos := "", after := #[], guard := some (5, true) }, { dst := some 15, op := Go.Op.call { callee := Go.Callee.value (Go.Operand.func 20), args := #[Go.Operand.tmp 12, Go.Operand.tmp 14], argTypes := #[22, 22] }, type := 4, pos := "", after := #[], guard := some (5, true) }, { dst := some 16, op := Go.Op.pick (Go.Operand.tmp 10) (Go.Operand.tmp 15) (Go.Operand.const (Go.Value.bool false)), type := 4, pos := "", after := #[], guard := none }, { dst := some 17, op := Go.Op.move (Go.Operand.tmp 16), type := 4, pos := "", after := #[], guard := none }, { dst := some 18, op := Go.Op.fieldAddr 24 (Go.Operand.tmp 2) 2, type := 0, pos := "", after := #[], guard := some (12, true) }, { dst := some 19, op := Go.Op.load 2 (Go.Operand.tmp 18), type := 2, pos := "", after := #[], guard := some (12, true) }, { dst := some 20, op := Go.Op.fieldAddr 24 (Go.Operand.tmp 3) 2, type := 0, pos := "", after := #[], guard := some (12, true) }, { dst := some 21, op := Go.Op.load 2 (Go.Operand.tmp 20), type := 2, pos := "", after := #[], guard := some (12, true) }, { dst := some 22, op := Go.Op.binOp Go.BinOp.eql 2 (Go.Operand.tmp 19) (Go.Operand.tmp 21) 2, type := 4, pos := "", after := #[], guard := some (12, true) }, { dst := some 23, op := Go.Op.pick (Go.Operand.tmp 17) (Go.Operand.tmp 22) (Go.Operand.const (Go.Value.bool false)), type := 4, pos := "", after := #[], guard := none }, { dst := some 24, op := Go.Op.move (Go.Operand.tmp 23), type := 4, pos := "", after := #[], guard := none }, { dst := some 25, op := Go.Op.fieldAddr 24 (Go.Operand.tmp 2) 3, type := 0, pos := "", after := #[], guard := some (19, true) }, { dst := some 26, op := Go.Op.load 2 (Go.Operand.tmp 25), type := 2, pos := "", after := #[], guard := some (19, true) }, { dst := some 27, op := Go.Op.fieldAddr 24 (Go.Operand.tmp 3) 3, type := 0, pos := "", after := #[], guard := some (19, true) }, { dst := some 28, op := Go.Op.load 2 (Go.Operand.tmp 27), type := 2, pos := "", after := #[], guard := some (19, true) }, { dst := some 29, op := Go.Op.binOp Go.BinOp.eql 2 (Go.Operand.tmp 26) (Go.Operand.tmp 28) 2, type := 4, pos := "", after := #[], guard := some (19, true) }, { dst := some 30, op := Go.Op.pick (Go.Operand.tmp 24) (Go.Operand.tmp 29) (Go.Operand.const (Go.Value.bool false)), type := 4, pos := "", after := #[], guard := none }, { dst := some 4, op := Go.Op.assign (Go.Operand.tmp 30), type := 4, pos := "", after := #[], guard := none }] false) Go.Code.ret)
theorem s12 : Try.f12.body.map (slim cfg) = some g12 := by kernel_rfl
theorem u13 : type_of% (And.intro (show tagT Try.prog 29 = 0 from by kernel_rfl) (And.intro (show tagT Try.prog 24 = 0 from by kernel_rfl) (And.intro ag2 (And.intro sz2 (And.intro by2 (And.intro ze2 (And.intro Try.underlying2 (And.intro ag24 (And.intro sz24 (And.intro by24 (And.intro ze24 (And.intro bu24 (And.intro Try.underlying24 (And.intro ag27 (And.intro sz27 (And.intro by27 (And.intro ze27 (And.intro bu27 (And.intro Try.underlying27 (And.intro ag29 (And.intro sz29 (And.intro by29 (And.intro ze29 (And.intro bu29 (And.intro Try.underlying29 (And.intro fa29_0 (And.intro fd29_0 (And.intro fa29_1 (And.intro fd29_1 (And.intro fa29_2 (And.intro fd29_2 (And.intro fa29_3 fd29_3)))))))))))))))))))))))))))))))) :=
  And.intro (show tagT Try.prog 29 = 0 from by kernel_rfl) (And.intro (show tagT Try.prog 24 = 0 from by kernel_rfl) (And.intro ag2 (And.intro sz2 (And.intro by2 (And.intro ze2 (And.intro Try.underlying2 (And.intro ag24 (And.intro sz24 (And.intro by24 (And.intro ze24 (And.intro bu24 (And.intro Try.underlying24 (And.intro ag27 (And.intro sz27 (And.intro by27 (And.intro ze27 (And.intro bu27 (And.intro Try.underlying27 (And.intro ag29 (And.intro sz29 (And.intro by29 (And.intro ze29 (And.intro bu29 (And.intro Try.underlying29 (And.intro fa29_0 (And.intro fd29_0 (And.intro fa29_1 (And.intro fd29_1 (And.intro fa29_2 (And.intro fd29_2 (And.intro fa29_3 fd29_3)))))))))))))))))))))))))))))))
def g13 : Code :=
  Go.Code.seq (Go.Code.region 0 #[{ dst := some 1, op := Go.Op.box 29 (Go.Operand.tmp 0), type := 0, pos := "", after := #[], guard := none }, { dst := some 2, op := Go.Op.alloc 24, type := 0, pos := "", after := #[], guard := none }] false) (Go.Code.seq (Go.Code.region 1 #[{ dst := some 3, op := Go.Op.fieldAddr 29 (Go.Operand.tmp 1) 0, type := 0, pos := "", after := #[], guard := none }, { dst := some 4, op := Go.Op.load 27 (Go.Operand.tmp 3), type := 27, pos := "", after := #[], guard := none }, { dst := some 5, op := Go.Op.call { callee := Go.Callee.value (Go.Operand.func 21), args := #[Go.Operand.tmp 4], argTypes := #[27] }, type := 22, pos := "", after := #[], guard := none }, { dst := some 6, op := Go.Op.fieldAddr 29 (Go.Operand.tmp 1) 1, type := 0, pos := "", after := #[], guard := none }, { dst := some 7, op := Go.Op.load 27 (Go.Operand.tmp 6), type := 27, pos := "", after := #[], guard := none }, { dst := some 8, op := Go.Op.call { callee := Go.Callee.value (Go.Operand.func 21), args := #[Go.Operand.tmp 7], argTypes := #[27] }, type := 22, pos := "", after := #[], guard := none }, { dst := some 9, op := Go.Op.fieldAddr 29 (Go.Operand.tmp 1) 2, type := 0, pos := "", after := #[], guard := none }, { dst := some 10, op := Go.Op.load 2 (Go.Operand.tmp 9), type := 2, pos := "", after := #[], guard := none }, { dst := some 11, op := Go.Op.fieldAddr 29 (Go.Operand.tmp 1) 3, type := 0, pos := "", after := #[], guard := none }, { dst := some 12, op := Go.Op.load 2 (Go.Operand.tmp 11), type := 2, pos := "", after := #[], guard := none }, { dst := some 13, op := Go.Op.build 24 #[(0, Go.Operand.tmp 5), (1, Go.Operand.tmp 8), (2, Go.Operand.tmp 10), (3, Go.Operand.tmp 12)], type := 24, pos := "", after := #[], guard := none }, { dst := none, op := Go.Op.store 24 (Go.Operand.tmp 2) (Go.Operand.tmp 13), type := 0, pos := "", after := #[], guard := none }] false) Go.Code.ret)
theorem s13 : Try.f13.body.map (slim cfg) = some g13 := by kernel_rfl

def cutPr (x : Pr) : Pr := ⟨x.name.take 20, x.val.take 30⟩
def cutL (l : List Pr) : List Pr := (l.take 6).map cutPr
theorem cutL_len (l : List Pr) : (cutL l).length ≤ 6 := by simp [cutL]; omega

theorem str_cut {t : TypeId} (hu : Try.prog.underlying t = some .string) (s : List UInt8) (n : Nat) (h : n ≤ s.length) : aSlice Try.prog t (.str s) none (some (.int .i64 n)) none = some (.str (s.take n)) := by
  simp [aSlice, hu, aBounds, optInt, asNat, h]


theorem pairs_ok (l : List Pr) (w : AV) (hw : Sl encP w l) (hl : l.length ≤ 9223372036854775807) (prot : Nat) (H : Heap) (hp : prot ≤ H.length) :
    aLim cfg prot 17 [w] H = some (.tup [slv encP (cutL l), slv encP (cutL l)], none) := by
  have hsnap : snap H [w] = some ([w], false) := by cases hw <;> rfl
  refine pure_slim rfl (by kernel_rfl) Try.func17 s17 hp hsnap (by simp [Try.f17]) fun fr hlen h => ?_
  simp only [Has, Nat.zero_add] at h
  obtain ⟨a0, -⟩ := h
  simp only [Try.f17] at hlen ⊢
  unfold g17
  simp only [wk0, wk1, wk2, wk3, wk4, wk5, wk6, aWanted, aYield, Region.wanted, aOp, quiet, loud, aEvals, aParts, aOpt, aBuiltin, rd, win, AV.cells, AV.leaf, aNew, splice, fillA, Nat.reduceEqDiff, Nat.reduceLT, Nat.reduceAdd, Nat.reduceLeDiff, reduceCtorEq, Nat.reduceMul, cfgP, u17, hlen, a0, hw.len Try.underlying22]
  refine loop_rule (fun m fr H' => ∃ (i : Nat) (o p : AV), m = l.length - i ∧ i ≤ l.length ∧ i ≤ 6 ∧ fr.length = 48 ∧ fget fr 8 = w ∧ fget fr 9 = .int .i64 l.length ∧ fget fr 10 = .int .i64 i ∧ fget fr 4 = o ∧ fget fr 5 = p
    ∧ H.length ≤ H'.length ∧ Row encP 2 true H.length H' o (cutL (l.take i)) ∧ Row encP 2 true H.length H' p (cutL (l.take i)) ∧ (i = 0 → o = .nilS ∧ p = .nilS) ∧ (∀ s1 s2, o = .bs s1 → p = .bs s2 → s1.b ≠ s2.b)) ?_ l.length _ _ ⟨0, .nilS, .nilS, by simp [wk0, wk1, wk2, wk3, wk4, wk5, wk6, aWanted, aYield, Region.wanted, aOp, quiet, loud, aEvals, aParts, aOpt, aBuiltin, rd, win, AV.cells, AV.leaf, aNew, splice, fillA, Nat.reduceEqDiff, Nat.reduceLT, Nat.reduceAdd, Nat.reduceLeDiff, reduceCtorEq, Nat.reduceMul, cfgP, u17, hlen, a0, cutL, Row.nil]⟩
  rintro m fr H' ⟨i, o, p, rfl, hi, hi6, hlen, a8, a9, a10, a4, a5, hH, hrow, hrowp, hnil, hapart⟩ ih
  simp only [wk0, wk1, wk2, wk3, wk4, wk5, wk6, aWanted, aYield, Region.wanted, aOp, quiet, loud, aEvals, aParts, aOpt, aBuiltin, rd, win, AV.cells, AV.leaf, aNew, splice, fillA, Nat.reduceEqDiff, Nat.reduceLT, Nat.reduceAdd, Nat.reduceLeDiff, reduceCtorEq, Nat.reduceMul, cfgP, u17, hlen, a8, a9, a10, a4, a5]
  have fin : ∀ (K : Heap), Row encP 2 true H.length K o (cutL (l.take i)) → Row encP 2 true H.length K p (cutL (l.take i)) → (l.length ≤ i ∨ 6 ≤ i) → Frz K H.length (packR [o, p]) (.tup [slv encP (cutL l), slv encP (cutL l)]) := fun K h1 h2 h3 => by
    have e : cutL (l.take i) = cutL l := by
      unfold cutL
      congr 1
      rcases h3 with h3 | h3
      · rw [List.take_of_length_le (l := l) h3]
      · rw [List.take_take]
        congr 1
        omega
    have hne : ∀ q, (q = o ∨ q = p) → q = .nilS ∨ cutL (l.take i) ≠ [] := fun q hq => by
      by_cases h0 : i = 0
      · rcases hq with rfl | rfl
        · exact .inl (hnil h0).1
        · exact .inl (hnil h0).2
      · refine .inr ?_
        intro h
        have h1 : (cutL (l.take i)).length = 0 := by rw [h]; rfl
        have h2 : (cutL (l.take i)).length = i := by simp [cutL]; omega
        omega
    have f1 := h1.frozen encP_T (by decide) rfl (hne o (.inl rfl))
    have f2 := h2.frozen encP_T (by decide) rfl (hne p (.inr rfl))
    rw [e] at f1 f2
    exact .tup (.cons f1 (.cons f2 .nil))
  refine RC_split (fun h => ?_) (fun h => ?_)
  · have hlt : i < l.length := by simpa using h
    have hww : IntKind.i64.wrap ((i : Int) + 1) = ((i + 1 : Nat) : Int) := by rw [wrap64 (by omega) (by omega)]; simp
    have e1 := hw.at (k := .i64) Try.underlying22 sz68 encP_len hlt
    have htk : l.take (i + 1) = l.take i ++ [l[i]] := by simp
    have hcl : (cutL (l.take i)).length = i := by simp [cutL]; omega
    by_cases h6 : (6 : Int) ≤ i
    · generalize l[i] = x at *
      simp only [wk0, wk1, wk2, wk3, wk4, wk5, wk6, aWanted, aYield, Region.wanted, aOp, quiet, loud, aEvals, aParts, aOpt, aBuiltin, rd, win, AV.cells, AV.leaf, aNew, splice, fillA, Nat.reduceEqDiff, Nat.reduceLT, Nat.reduceAdd, Nat.reduceLeDiff, reduceCtorEq, Nat.reduceMul, cfgP, u17, hlen, a8, a9, a10, a4, a5, e1, encP, hH, h6]
      have hm := fin (H' ++ [Blk.cells 0 (encP x).cells]) (hrow.more _) (hrowp.more _) (.inr (by omega))
      simp only [encP, AV.cells] at hm
      exact Fin_pure (l := [o, p]) (by simp [wk0, wk1, wk2, wk3, wk4, wk5, wk6, aWanted, aYield, Region.wanted, aOp, quiet, loud, aEvals, aParts, aOpt, aBuiltin, rd, win, AV.cells, AV.leaf, aNew, splice, fillA, Nat.reduceEqDiff, Nat.reduceLT, Nat.reduceAdd, Nat.reduceLeDiff, reduceCtorEq, Nat.reduceMul, cfgP, u17, hlen, a4, a5, aResults, aResult]) hm (by simp)
    · have hcut : cutL (l.take (i + 1)) = cutL (l.take i) ++ [cutPr l[i]] := by
        have t1 : ∀ j, j ≤ 6 → (l.take j).take 6 = l.take j := fun j hj => by rw [List.take_take, Nat.min_eq_right hj]
        unfold cutL
        rw [t1 (i + 1) (by omega), t1 i (by omega), htk, List.map_append]
        rfl
      generalize l[i] = x at *
      have hsl : ∀ (s : List UInt8) K, aLen Try.prog K 9 (.str s) = some (.int .i64 s.length) := fun s K => by simp [aLen, Try.underlying9]
      have c1 : ∀ s : List UInt8, 20 < s.length → aSlice Try.prog 9 (.str s) none (some (.int .i64 20)) none = some (.str (s.take 20)) := fun s hs => str_cut Try.underlying9 s 20 (by omega)
      have c2 : ∀ s : List UInt8, 30 < s.length → aSlice Try.prog 9 (.str s) none (some (.int .i64 30)) none = some (.str (s.take 30)) := fun s hs => str_cut Try.underlying9 s 30 (by omega)
      have hrow2 := hrow.more [Blk.cells 0 (encP (cutPr x)).cells]
      have hrowp2 := hrowp.more [Blk.cells 0 (encP (cutPr x)).cells]
      obtain ⟨o', H2, happ, hrow3, hle, hno, hold, hblk⟩ := hrow2.appB (prot := H.length) (xt := 25) encP_T rowPr hxtPr (elem_vs encP_T [cutPr x] true) (by simp) (by simp [roomy]; omega) (Nat.le_refl _) (by simp; omega)
      have hrowp3 : Row encP 2 true H.length H2 p (cutL (l.take i)) := by
        rcases hrowp2 with ⟨h1, h2⟩ | ⟨b, ver, h1, h2, h3, h4⟩
        · exact .inl ⟨h1, h2⟩
        · exact .inr ⟨b, ver, h1, h2, hold b ver _ h3 (fun s hs => hapart _ _ hs h1), h4⟩
      obtain ⟨p', H3, happ2, hrowp4, hle2, hno2, hold2, hblk2⟩ := hrowp3.appB (prot := H.length) (xt := 22) encP_T rowRp (.inl ⟨_, Try.underlying22⟩) (elem_vs encP_T [cutPr x] true) (by simp) (by simp [roomy]; omega) (Nat.le_refl _) (by simp at hle; omega)
      have hlen2 : H'.length + 1 ≤ H2.length := by simpa using hle
      have hpb : ∀ s, p = .bs s → s.b < H'.length := fun s hs => by
        rcases hrowp with ⟨h1, _⟩ | ⟨b, ver, h1, h2, h3, h4⟩
        · rw [h1] at hs; cases hs
        · rw [h1] at hs; cases hs; exact hget_lt h3
      have hob : ∀ s, o = .bs s → s.b < H'.length := fun s hs => by
        rcases hrow with ⟨h1, _⟩ | ⟨b, ver, h1, h2, h3, h4⟩
        · rw [h1] at hs; cases hs
        · rw [h1] at hs; cases hs; exact hget_lt h3
      have hob' : ∀ s, o' = .bs s → s.b < H2.length := fun s hs => by
        rcases hrow3 with ⟨h1, _⟩ | ⟨b, ver, h1, h2, h3, h4⟩
        · exact absurd h1 hno
        · rw [h1] at hs; cases hs; exact hget_lt h3
      have hapart1 : ∀ s1 s2, o' = .bs s1 → p = .bs s2 → s1.b ≠ s2.b := fun s1 s2 h1 h2 => by
        rcases hblk s1 h1 with ⟨s, h3, h4⟩ | h4
        · rw [h4]; exact hapart s s2 h3 h2
        · have := hpb s2 h2
          rw [h4]; simp; omega
      have hrow4 : Row encP 2 true H.length H3 o' (cutL (l.take i) ++ [cutPr x]) := by
        rcases hrow3 with ⟨h1, h2⟩ | ⟨b, ver, h1, h2, h3, h4⟩
        · exact absurd h1 hno
        · exact .inr ⟨b, ver, h1, h2, hold2 b ver _ h3 (fun s hs h5 => hapart1 _ s h1 hs h5.symm), h4⟩
      have hapart2 : ∀ s1 s2, o' = .bs s1 → p' = .bs s2 → s1.b ≠ s2.b := fun s1 s2 h1 h2 => by
        rcases hblk2 s2 h2 with ⟨s, h3, h4⟩ | h4
        · rw [h4]; exact hapart1 s1 s h1 h3
        · have := hob' s1 h1
          rw [h4]; omega
      have hbox : hget H2 H'.length 0 = some (encP (cutPr x)).cells := hold _ _ _ (by rw [hget_new rfl]; rfl) (fun s hs => by have := hob s hs; omega)
      have hlit1 := litPp (cutPr x)
      have hlit2 := litRp (cutPr x)
      simp only [encP, AV.cells] at happ happ2 hbox
      have goon : ∀ (fr' : List AV), fr'.length = 48 → fget fr' 8 = w → fget fr' 9 = .int .i64 l.length → fget fr' 10 = .int .i64 ((i + 1 : Nat) : Int) → fget fr' 4 = o' → fget fr' 5 = p' → ∃ (j : Nat) (o p : AV), l.length - (i + 1) = l.length - j ∧ j ≤ l.length ∧ j ≤ 6 ∧ fr'.length = 48 ∧ fget fr' 8 = w ∧ fget fr' 9 = .int .i64 l.length ∧ fget fr' 10 = .int .i64 j ∧ fget fr' 4 = o ∧ fget fr' 5 = p
          ∧ H.length ≤ H3.length ∧ Row encP 2 true H.length H3 o (cutL (l.take j)) ∧ Row encP 2 true H.length H3 p (cutL (l.take j)) ∧ (j = 0 → o = .nilS ∧ p = .nilS) ∧ (∀ s1 s2, o = .bs s1 → p = .bs s2 → s1.b ≠ s2.b) := fun fr' b0 b1 b2 b3 b4 b5 =>
        ⟨i + 1, o', p', rfl, hlt, by omega, b0, b1, b2, b3, b4, b5, by omega, by rw [hcut]; exact hrow4, by rw [hcut]; exact hrowp4, fun h => by omega, hapart2⟩
      by_cases hn : (20 : Int) < x.name.length
      · have hn' : 20 < x.name.length := by omega
        by_cases hv : (30 : Int) < x.val.length
        · have hv' : 30 < x.val.length := by omega
          simp only [cutPr] at happ happ2 hlit1 hlit2 hbox
          simp only [wk0, wk1, wk2, wk3, wk4, wk5, wk6, aWanted, aYield, Region.wanted, aOp, quiet, loud, aEvals, aParts, aOpt, aBuiltin, rd, win, AV.cells, AV.leaf, aNew, splice, fillA, Nat.reduceEqDiff, Nat.reduceLT, Nat.reduceAdd, Nat.reduceLeDiff, reduceCtorEq, Nat.reduceMul, cfgP, u17, hlen, a8, a9, a10, a4, a5, e1, encP, hH, h6, hsl, hn, hv, c1 _ hn', c2 _ hv', hlit1, hlit2, happ, happ2, hbox, hww]
          refine ih _ _ (l.length - (i + 1)) (by omega) (goon _ ?_ ?_ ?_ ?_ ?_ ?_) <;> simp [wk0, wk1, wk2, wk3, wk4, wk5, wk6, aWanted, aYield, Region.wanted, aOp, quiet, loud, aEvals, aParts, aOpt, aBuiltin, rd, win, AV.cells, AV.leaf, aNew, splice, fillA, Nat.reduceEqDiff, Nat.reduceLT, Nat.reduceAdd, Nat.reduceLeDiff, reduceCtorEq, Nat.reduceMul, cfgP, u17, hlen, a8, a9]
        · have e2 : x.val.take 30 = x.val := List.take_of_length_le (by omega)
          simp only [cutPr, e2] at happ happ2 hlit1 hlit2 hbox
          simp only [wk0, wk1, wk2, wk3, wk4, wk5, wk6, aWanted, aYield, Region.wanted, aOp, quiet, loud, aEvals, aParts, aOpt, aBuiltin, rd, win, AV.cells, AV.leaf, aNew, splice, fillA, Nat.reduceEqDiff, Nat.reduceLT, Nat.reduceAdd, Nat.reduceLeDiff, reduceCtorEq, Nat.reduceMul, cfgP, u17, hlen, a8, a9, a10, a4, a5, e1, encP, hH, h6, hsl, hn, hv, c1 _ hn', hlit1, hlit2, happ, happ2, hbox, hww]
          refine ih _ _ (l.length - (i + 1)) (by omega) (goon _ ?_ ?_ ?_ ?_ ?_ ?_) <;> simp [wk0, wk1, wk2, wk3, wk4, wk5, wk6, aWanted, aYield, Region.wanted, aOp, quiet, loud, aEvals, aParts, aOpt, aBuiltin, rd, win, AV.cells, AV.leaf, aNew, splice, fillA, Nat.reduceEqDiff, Nat.reduceLT, Nat.reduceAdd, Nat.reduceLeDiff, reduceCtorEq, Nat.reduceMul, cfgP, u17, hlen, a8, a9]
      · have e3 : x.name.take 20 = x.name := List.take_of_length_le (by omega)
        by_cases hv : (30 : Int) < x.val.length
        · have hv' : 30 < x.val.length := by omega
          simp only [cutPr, e3] at happ happ2 hlit1 hlit2 hbox
          simp only [wk0, wk1, wk2, wk3, wk4, wk5, wk6, aWanted, aYield, Region.wanted, aOp, quiet, loud, aEvals, aParts, aOpt, aBuiltin, rd, win, AV.cells, AV.leaf, aNew, splice, fillA, Nat.reduceEqDiff, Nat.reduceLT, Nat.reduceAdd, Nat.reduceLeDiff, reduceCtorEq, Nat.reduceMul, cfgP, u17, hlen, a8, a9, a10, a4, a5, e1, encP, hH, h6, hsl, hn, hv, c2 _ hv', hlit1, hlit2, happ, happ2, hbox, hww]
          refine ih _ _ (l.length - (i + 1)) (by omega) (goon _ ?_ ?_ ?_ ?_ ?_ ?_) <;> simp [wk0, wk1, wk2, wk3, wk4, wk5, wk6, aWanted, aYield, Region.wanted, aOp, quiet, loud, aEvals, aParts, aOpt, aBuiltin, rd, win, AV.cells, AV.leaf, aNew, splice, fillA, Nat.reduceEqDiff, Nat.reduceLT, Nat.reduceAdd, Nat.reduceLeDiff, reduceCtorEq, Nat.reduceMul, cfgP, u17, hlen, a8, a9]
        · have e2 : x.val.take 30 = x.val := List.take_of_length_le (by omega)
          simp only [cutPr, e2, e3] at happ happ2 hlit1 hlit2 hbox
          simp only [wk0, wk1, wk2, wk3, wk4, wk5, wk6, aWanted, aYield, Region.wanted, aOp, quiet, loud, aEvals, aParts, aOpt, aBuiltin, rd, win, AV.cells, AV.leaf, aNew, splice, fillA, Nat.reduceEqDiff, Nat.reduceLT, Nat.reduceAdd, Nat.reduceLeDiff, reduceCtorEq, Nat.reduceMul, cfgP, u17, hlen, a8, a9, a10, a4, a5, e1, encP, hH, h6, hsl, hn, hv, hlit1, hlit2, happ, happ2, hbox, hww]
          refine ih _ _ (l.length - (i + 1)) (by omega) (goon _ ?_ ?_ ?_ ?_ ?_ ?_) <;> simp [wk0, wk1, wk2, wk3, wk4, wk5, wk6, aWanted, aYield, Region.wanted, aOp, quiet, loud, aEvals, aParts, aOpt, aBuiltin, rd, win, AV.cells, AV.leaf, aNew, splice, fillA, Nat.reduceEqDiff, Nat.reduceLT, Nat.reduceAdd, Nat.reduceLeDiff, reduceCtorEq, Nat.reduceMul, cfgP, u17, hlen, a8, a9]
  · have hnl : ¬ i < l.length := by simpa using h
    simp only [wk0, wk1, wk2, wk3, wk4, wk5, wk6, aWanted, aYield, Region.wanted, aOp, quiet, loud, aEvals, aParts, aOpt, aBuiltin, rd, win, AV.cells, AV.leaf, aNew, splice, fillA, Nat.reduceEqDiff, Nat.reduceLT, Nat.reduceAdd, Nat.reduceLeDiff, reduceCtorEq, Nat.reduceMul, cfgP, u17, hlen, a8, a9, a10, a4, a5]
    exact Fin_pure (l := [o, p]) (by simp [wk0, wk1, wk2, wk3, wk4, wk5, wk6, aWanted, aYield, Region.wanted, aOp, quiet, loud, aEvals, aParts, aOpt, aBuiltin, rd, win, AV.cells, AV.leaf, aNew, splice, fillA, Nat.reduceEqDiff, Nat.reduceLT, Nat.reduceAdd, Nat.reduceLeDiff, reduceCtorEq, Nat.reduceMul, cfgP, u17, hlen, a4, a5, aResults, aResult]) (fin _ hrow hrowp (.inl (by omega))) (by simp)

structure Al where
  labels : List Pr
  notes : List Pr
  starts : Int
  ends : Int
def mergeS (a b : Al) : Int := if b.starts ≤ a.ends then min b.starts a.starts else b.starts

theorem merge_ok (a b : Al) (v1 v2 w1 w2 : AV) (hv1 : v1.leaf = true) (hv2 : v2.leaf = true) (hw1 : w1.leaf = true) (hw2 : w2.leaf = true) (f1 : ∀ K n, Frz K n w1 w1) (f2 : ∀ K n, Frz K n w2 w2) (prot : Nat) (H : Heap) (hp : prot ≤ H.length) :
    aLim cfg prot 10 [.agg [v1, v2, .int .i64 a.starts, .int .i64 a.ends], .agg [w1, w2, .int .i64 b.starts, .int .i64 b.ends]] H = some (.agg [w1, w2, .int .i64 (mergeS a b), .int .i64 b.ends], none) := by
  have hsnap : snap H [.agg [v1, v2, .int .i64 a.starts, .int .i64 a.ends], .agg [w1, w2, .int .i64 b.starts, .int .i64 b.ends]] = some ([.agg [v1, v2, .int .i64 a.starts, .int .i64 a.ends], .agg [w1, w2, .int .i64 b.starts, .int .i64 b.ends]], false) := rfl
  have l1 := hw1
  have l2 := hw2
  unfold AV.leaf at hv1 hv2 hw1 hw2
  have lt1 : ∀ (K : Heap) (A : Blk), K.length < (K ++ [A]).length := fun K A => by simp
  have lt2 : ∀ (K : Heap) (A B : Blk), K.length < (K ++ [A] ++ [B]).length := fun K A B => by simp
  have le2 : ∀ (A B : Blk), H.length ≤ (H ++ [A] ++ [B]).length := fun A B => by simp
  have hput1 : ∀ (A C : Blk) (x : Int), hput H.length (H ++ [A] ++ [Blk.cells 0 [w1, w2, .int .i64 b.starts, .int .i64 b.ends]] ++ [C]) (H ++ [A]).length 0 2 [.int .i64 x] = some (H ++ [A] ++ [Blk.cells 0 [w1, w2, .int .i64 x, .int .i64 b.ends]] ++ [C]) := fun A C x => by
    rw [List.append_assoc, List.singleton_append, hput_new rfl (by simp) (by simp) (by simp [AV.leaf])]
    simp [splice]
  have hputC : ∀ (A B B' : Blk) (x : Int), hput H.length (H ++ [A] ++ [B'] ++ [Blk.cells 0 [.nilS, .nilS, .int .i64 0, .int .i64 0]]) (H ++ [A] ++ [B]).length 0 0 [w1, w2, .int .i64 x, .int .i64 b.ends] = some (H ++ [A] ++ [B'] ++ [Blk.cells 0 [w1, w2, .int .i64 x, .int .i64 b.ends]]) := fun A B B' x => by
    rw [show (H ++ [A] ++ [B]).length = (H ++ [A] ++ [B']).length by simp, hput_new rfl (by simp) (by simp) (by simp only [List.all_cons, l1, l2, List.all_nil]; rfl)]
    simp [splice]
  have hgetC : ∀ (A B B' : Blk) (cs : List AV), hget (H ++ [A] ++ [B'] ++ [Blk.cells 0 cs]) (H ++ [A] ++ [B]).length 0 = some cs := fun A B B' cs => by
    rw [show (H ++ [A] ++ [B]).length = (H ++ [A] ++ [B']).length by simp, hget_new rfl]; rfl
  have hfz : ∀ (K : Heap) (x : Int), Frz K H.length (packR [.agg [w1, w2, .int .i64 x, .int .i64 b.ends]]) (.agg [w1, w2, .int .i64 x, .int .i64 b.ends]) := fun K x => .agg (.cons (f1 _ _) (.cons (f2 _ _) (.cons (.still rfl) (.cons (.still rfl) .nil))))
  refine pure_slim rfl (by kernel_rfl) Try.func10 s10 hp hsnap (by simp [Try.f10]) fun fr hlen h => ?_
  simp only [Has, Nat.zero_add] at h
  obtain ⟨a0, a1, -⟩ := h
  simp only [Try.f10] at hlen ⊢
  unfold g10
  unfold mergeS
  by_cases h1 : b.starts ≤ a.ends
  · rw [if_pos h1]
    simp only [wk0, wk1, wk2, wk3, wk4, wk5, wk6, aWanted, aYield, Region.wanted, aOp, quiet, loud, aEvals, aParts, aOpt, aBuiltin, rd, win, AV.cells, AV.leaf, aNew, splice, fillA, Nat.reduceEqDiff, Nat.reduceLT, Nat.reduceAdd, Nat.reduceLeDiff, reduceCtorEq, Nat.reduceMul, cfgP, u10, hlen, a0, a1, hv1, hv2, hw1, hw2, lt1, lt2, le2, h1, hput1, hputC]
    exact Fin_pure (l := [.agg [w1, w2, .int .i64 (min b.starts a.starts), .int .i64 b.ends]]) (by simp only [wk0, wk1, wk2, wk3, wk4, wk5, wk6, aWanted, aYield, Region.wanted, aOp, quiet, loud, aEvals, aParts, aOpt, aBuiltin, rd, win, AV.cells, AV.leaf, aNew, splice, fillA, Nat.reduceEqDiff, Nat.reduceLT, Nat.reduceAdd, Nat.reduceLeDiff, reduceCtorEq, Nat.reduceMul, cfgP, u10, hlen, hgetC, aResults, aResult]) (hfz _ _) (by simp)
  · rw [if_neg h1]
    simp only [wk0, wk1, wk2, wk3, wk4, wk5, wk6, aWanted, aYield, Region.wanted, aOp, quiet, loud, aEvals, aParts, aOpt, aBuiltin, rd, win, AV.cells, AV.leaf, aNew, splice, fillA, Nat.reduceEqDiff, Nat.reduceLT, Nat.reduceAdd, Nat.reduceLeDiff, reduceCtorEq, Nat.reduceMul, cfgP, u10, hlen, a0, a1, hv1, hv2, hw1, hw2, lt1, lt2, le2, h1]
    exact Fin_pure (l := [.agg [w1, w2, .int .i64 b.starts, .int .i64 b.ends]]) (by simp only [wk0, wk1, wk2, wk3, wk4, wk5, wk6, aWanted, aYield, Region.wanted, aOp, quiet, loud, aEvals, aParts, aOpt, aBuiltin, rd, win, AV.cells, AV.leaf, aNew, splice, fillA, Nat.reduceEqDiff, Nat.reduceLT, Nat.reduceAdd, Nat.reduceLeDiff, reduceCtorEq, Nat.reduceMul, cfgP, u10, hlen, aResults, aResult]) (hfz _ _) (by simp)

def timeT (t : Int) : Bool := decide (0 ≤ t) && decide (t ≤ 137438953472)

theorem time_ok (t : Int) (prot : Nat) (H : Heap) (hp : prot ≤ H.length) : aLim cfg prot 39 [.int .i64 t] H = some (.bool (timeT t), none) := by
  have hsnap : snap H [.int .i64 t] = some ([.int .i64 t], false) := rfl
  unfold timeT
  refine pure_slim rfl (by kernel_rfl) Try.func39 s39 hp hsnap (by simp [Try.f39]) fun fr hlen h => ?_
  simp only [Has, Nat.zero_add] at h
  obtain ⟨a0, -⟩ := h
  simp only [Try.f39] at hlen ⊢
  unfold g39
  by_cases h1 : 0 ≤ t
  · simp only [wk0, wk1, wk2, wk3, wk4, wk5, wk6, aWanted, aYield, Region.wanted, aOp, quiet, loud, aEvals, aParts, aOpt, aBuiltin, rd, win, AV.cells, AV.leaf, aNew, splice, fillA, Nat.reduceEqDiff, Nat.reduceLT, Nat.reduceAdd, Nat.reduceLeDiff, reduceCtorEq, Nat.reduceMul, cfgP, u39, hlen, a0, h1]
    simp only [Bool.true_and, decide_true]
    exact Fin_pure (l := [.bool (decide (t ≤ 137438953472))]) (by simp [wk0, wk1, wk2, wk3, wk4, wk5, wk6, aWanted, aYield, Region.wanted, aOp, quiet, loud, aEvals, aParts, aOpt, aBuiltin, rd, win, AV.cells, AV.leaf, aNew, splice, fillA, Nat.reduceEqDiff, Nat.reduceLT, Nat.reduceAdd, Nat.reduceLeDiff, reduceCtorEq, Nat.reduceMul, cfgP, u39, aResults, aResult, hlen]) (.still rfl) (by simp)
  · simp only [wk0, wk1, wk2, wk3, wk4, wk5, wk6, aWanted, aYield, Region.wanted, aOp, quiet, loud, aEvals, aParts, aOpt, aBuiltin, rd, win, AV.cells, AV.leaf, aNew, splice, fillA, Nat.reduceEqDiff, Nat.reduceLT, Nat.reduceAdd, Nat.reduceLeDiff, reduceCtorEq, Nat.reduceMul, cfgP, u39, hlen, a0, h1, none_beq]
    simp only [Bool.false_and, decide_false]
    exact Fin_pure (l := [.bool false]) (by simp [wk0, wk1, wk2, wk3, wk4, wk5, wk6, aWanted, aYield, Region.wanted, aOp, quiet, loud, aEvals, aParts, aOpt, aBuiltin, rd, win, AV.cells, AV.leaf, aNew, splice, fillA, Nat.reduceEqDiff, Nat.reduceLT, Nat.reduceAdd, Nat.reduceLeDiff, reduceCtorEq, Nat.reduceMul, cfgP, u39, aResults, aResult, hlen]) (.still rfl) (by simp)

def rightA (labels : List Pr) (s e : Int) : Bool := decide ((0 : Int) < labels.length) && (timeT s && (timeT e && decide (s < e)))

theorem right_ok (l : List Pr) (v1 v2 : AV) (s e : Int) (hv : Sl encP v1 l) (hv2 : v2.leaf = true) (prot : Nat) (H : Heap) (hp : prot ≤ H.length) :
    aLim cfg prot 11 [.agg [v1, v2, .int .i64 s, .int .i64 e]] H = some (.bool (rightA l s e), none) := by
  have hsnap : snap H [.agg [v1, v2, .int .i64 s, .int .i64 e]] = some ([.agg [v1, v2, .int .i64 s, .int .i64 e]], false) := rfl
  have hv1 := Sl.leaf hv
  unfold AV.leaf at hv1 hv2
  have t1 := fun (K : Heap) (hK : H.length ≤ K.length) => time_ok s H.length K hK
  have t2 := fun (K : Heap) (hK : H.length ≤ K.length) => time_ok e H.length K hK
  unfold rightA
  refine pure_slim rfl (by kernel_rfl) Try.func11 s11 hp hsnap (by simp [Try.f11]) fun fr hlen h => ?_
  simp only [Has, Nat.zero_add] at h
  obtain ⟨a0, -⟩ := h
  simp only [Try.f11] at hlen ⊢
  unfold g11
  by_cases h1 : (0 : Int) < l.length
  · simp only [h1, decide_true, Bool.true_and]
    cases hs : timeT s with
    | false =>
      rw [hs] at t1
      simp only [Bool.false_and]
      simp only [wk0, wk1, wk2, wk3, wk4, wk5, wk6, aWanted, aYield, Region.wanted, aOp, quiet, loud, aEvals, aParts, aOpt, aBuiltin, rd, win, AV.cells, AV.leaf, aNew, splice, fillA, Nat.reduceEqDiff, Nat.reduceLT, Nat.reduceAdd, Nat.reduceLeDiff, reduceCtorEq, Nat.reduceMul, cfgP, u11, hlen, a0, hv1, hv2, hv.len Try.underlying22, h1, t1, none_beq]
      exact Fin_pure (l := [.bool false]) (by simp [wk0, wk1, wk2, wk3, wk4, wk5, wk6, aWanted, aYield, Region.wanted, aOp, quiet, loud, aEvals, aParts, aOpt, aBuiltin, rd, win, AV.cells, AV.leaf, aNew, splice, fillA, Nat.reduceEqDiff, Nat.reduceLT, Nat.reduceAdd, Nat.reduceLeDiff, reduceCtorEq, Nat.reduceMul, cfgP, u11, aResults, aResult, hlen]) (.still rfl) (by simp)
    | true =>
      rw [hs] at t1
      simp only [Bool.true_and]
      cases he : timeT e with
      | false =>
        rw [he] at t2
        simp only [Bool.false_and]
        simp only [wk0, wk1, wk2, wk3, wk4, wk5, wk6, aWanted, aYield, Region.wanted, aOp, quiet, loud, aEvals, aParts, aOpt, aBuiltin, rd, win, AV.cells, AV.leaf, aNew, splice, fillA, Nat.reduceEqDiff, Nat.reduceLT, Nat.reduceAdd, Nat.reduceLeDiff, reduceCtorEq, Nat.reduceMul, cfgP, u11, hlen, a0, hv1, hv2, hv.len Try.underlying22, h1, t1, t2, none_beq]
        exact Fin_pure (l := [.bool false]) (by simp [wk0, wk1, wk2, wk3, wk4, wk5, wk6, aWanted, aYield, Region.wanted, aOp, quiet, loud, aEvals, aParts, aOpt, aBuiltin, rd, win, AV.cells, AV.leaf, aNew, splice, fillA, Nat.reduceEqDiff, Nat.reduceLT, Nat.reduceAdd, Nat.reduceLeDiff, reduceCtorEq, Nat.reduceMul, cfgP, u11, aResults, aResult, hlen]) (.still rfl) (by simp)
      | true =>
        rw [he] at t2
        simp only [Bool.true_and]
        simp only [wk0, wk1, wk2, wk3, wk4, wk5, wk6, aWanted, aYield, Region.wanted, aOp, quiet, loud, aEvals, aParts, aOpt, aBuiltin, rd, win, AV.cells, AV.leaf, aNew, splice, fillA, Nat.reduceEqDiff, Nat.reduceLT, Nat.reduceAdd, Nat.reduceLeDiff, reduceCtorEq, Nat.reduceMul, cfgP, u11, hlen, a0, hv1, hv2, hv.len Try.underlying22, h1, t1, t2, none_beq]
        exact Fin_pure (l := [.bool (decide (s < e))]) (by simp [wk0, wk1, wk2, wk3, wk4, wk5, wk6, aWanted, aYield, Region.wanted, aOp, quiet, loud, aEvals, aParts, aOpt, aBuiltin, rd, win, AV.cells, AV.leaf, aNew, splice, fillA, Nat.reduceEqDiff, Nat.reduceLT, Nat.reduceAdd, Nat.reduceLeDiff, reduceCtorEq, Nat.reduceMul, cfgP, u11, aResults, aResult, hlen]) (.still rfl) (by simp)
  · simp only [h1, decide_false, Bool.false_and]
    simp only [wk0, wk1, wk2, wk3, wk4, wk5, wk6, aWanted, aYield, Region.wanted, aOp, quiet, loud, aEvals, aParts, aOpt, aBuiltin, rd, win, AV.cells, AV.leaf, aNew, splice, fillA, Nat.reduceEqDiff, Nat.reduceLT, Nat.reduceAdd, Nat.reduceLeDiff, reduceCtorEq, Nat.reduceMul, cfgP, u11, hlen, a0, hv1, hv2, hv.len Try.underlying22, h1, none_beq]
    exact Fin_pure (l := [.bool false]) (by simp [wk0, wk1, wk2, wk3, wk4, wk5, wk6, aWanted, aYield, Region.wanted, aOp, quiet, loud, aEvals, aParts, aOpt, aBuiltin, rd, win, AV.cells, AV.leaf, aNew, splice, fillA, Nat.reduceEqDiff, Nat.reduceLT, Nat.reduceAdd, Nat.reduceLeDiff, reduceCtorEq, Nat.reduceMul, cfgP, u11, aResults, aResult, hlen]) (.still rfl) (by simp)


theorem asame_ok (l n : List Pr) (v1 v2 w1 w2 : AV) (s e : Int) (h1 : Sl encP v1 l) (h2 : Sl encP v2 n) (h3 : Sl encP w1 l) (h4 : Sl encP w2 n) (hl : l.length < 1000000) (hn : n.length < 1000000) (prot : Nat) (H : Heap) (hp : prot ≤ H.length) :
    aLim cfg prot 12 [.agg [v1, v2, .int .i64 s, .int .i64 e], .agg [w1, w2, .int .i64 s, .int .i64 e]] H = some (.bool true, none) := by
  have hsnap : snap H [.agg [v1, v2, .int .i64 s, .int .i64 e], .agg [w1, w2, .int .i64 s, .int .i64 e]] = some ([.agg [v1, v2, .int .i64 s, .int .i64 e], .agg [w1, w2, .int .i64 s, .int .i64 e]], false) := rfl
  have k1 := Sl.leaf h1
  have k2 := Sl.leaf h2
  have k3 := Sl.leaf h3
  have k4 := Sl.leaf h4
  unfold AV.leaf at k1 k2 k3 k4
  have lt1 : ∀ (K : Heap) (A : Blk), K.length < (K ++ [A]).length := fun K A => by simp
  have le2 : ∀ (A B : Blk), H.length ≤ (H ++ [A] ++ [B]).length := fun A B => by simp
  have n1 := fun (K : Heap) (hK : H.length ≤ K.length) => lsame_ok l v1 w1 h1 h3 hl H.length K hK
  have n2 := fun (K : Heap) (hK : H.length ≤ K.length) => lsame_ok n v2 w2 h2 h4 hn H.length K hK
  refine pure_slim rfl (by kernel_rfl) Try.func12 s12 hp hsnap (by simp [Try.f12]) fun fr hlen h => ?_
  simp only [Has, Nat.zero_add] at h
  obtain ⟨a0, a1, -⟩ := h
  simp only [Try.f12] at hlen ⊢
  unfold g12
  simp only [wk0, wk1, wk2, wk3, wk4, wk5, wk6, aWanted, aYield, Region.wanted, aOp, quiet, loud, aEvals, aParts, aOpt, aBuiltin, rd, win, AV.cells, AV.leaf, aNew, splice, fillA, Nat.reduceEqDiff, Nat.reduceLT, Nat.reduceAdd, Nat.reduceLeDiff, reduceCtorEq, Nat.reduceMul, cfgP, u12, hlen, a0, a1, k1, k2, k3, k4, lt1, le2, n1, n2]
  exact Fin_pure (l := [.bool true]) (by simp [wk0, wk1, wk2, wk3, wk4, wk5, wk6, aWanted, aYield, Region.wanted, aOp, quiet, loud, aEvals, aParts, aOpt, aBuiltin, rd, win, AV.cells, AV.leaf, aNew, splice, fillA, Nat.reduceEqDiff, Nat.reduceLT, Nat.reduceAdd, Nat.reduceLeDiff, reduceCtorEq, Nat.reduceMul, cfgP, u12, aResults, aResult, hlen]) (.still rfl) (by simp)

theorem Sl.cells1 {v : AV} {l : List Pr} (h : Sl encP v l) : v.cells = [v] := by cases h <;> rfl
theorem Sl.frz {v : AV} {l : List Pr} (h : Sl encP v l) (K : Heap) (n : Nat) : Frz K n v v := by cases h <;> exact .still rfl

theorem plain22_ok (l n : List Pr) (v1 v2 : AV) (s e : Int) (h1 : Sl encP v1 l) (h2 : Sl encP v2 n) (hl : l.length < 1000000) (hn : n.length < 1000000) (prot : Nat) (H : Heap) (hp : prot ≤ H.length) :
    aLim cfg prot 13 [.agg [v1, v2, .int .i64 s, .int .i64 e]] H = some (.agg [slv encP l, slv encP n, .int .i64 s, .int .i64 e], none) := by
  have hsnap : snap H [.agg [v1, v2, .int .i64 s, .int .i64 e]] = some ([.agg [v1, v2, .int .i64 s, .int .i64 e]], false) := rfl
  have k1 := Sl.leaf h1
  have k2 := Sl.leaf h2
  have k3 := Sl.leaf (slv_sl encP l)
  have k4 := Sl.leaf (slv_sl encP n)
  have f1 := Sl.frz (slv_sl encP l)
  have f2 := Sl.frz (slv_sl encP n)
  have c1 := Sl.cells1 h1
  have c2 := Sl.cells1 h2
  have c3 := Sl.cells1 (slv_sl encP l)
  have c4 := Sl.cells1 (slv_sl encP n)
  unfold AV.leaf at k1 k2 k3 k4
  unfold AV.cells at c1 c2 c3 c4
  have lt1 : ∀ (K : Heap) (A : Blk), K.length < (K ++ [A]).length := fun K A => by simp
  have le2 : ∀ (A B : Blk), H.length ≤ (H ++ [A] ++ [B]).length := fun A B => by simp
  have n1 := fun (K : Heap) (hK : H.length ≤ K.length) => plain14_ok l v1 h1 hl H.length K hK
  have n2 := fun (K : Heap) (hK : H.length ≤ K.length) => plain14_ok n v2 h2 hn H.length K hK
  generalize slv encP l = x at *
  generalize slv encP n = y at *
  refine pure_slim rfl (by kernel_rfl) Try.func13 s13 hp hsnap (by simp [Try.f13]) fun fr hlen h => ?_
  simp only [Has, Nat.zero_add] at h
  obtain ⟨a0, -⟩ := h
  simp only [Try.f13] at hlen ⊢
  unfold g13
  simp only [wk0, wk1, wk2, wk3, wk4, wk5, wk6, aWanted, aYield, Region.wanted, aOp, quiet, loud, aEvals, aParts, aOpt, aBuiltin, rd, win, AV.cells, AV.leaf, aNew, splice, fillA, Nat.reduceEqDiff, Nat.reduceLT, Nat.reduceAdd, Nat.reduceLeDiff, reduceCtorEq, Nat.reduceMul, cfgP, u13, hlen, a0, k1, k2, k3, k4, c1, c2, c3, c4, lt1, le2, n1, n2]
  exact Fin_pure (l := [.agg [x, y, .int .i64 s, .int .i64 e]]) (by simp only [wk0, wk1, wk2, wk3, wk4, wk5, wk6, aWanted, aYield, Region.wanted, aOp, quiet, loud, aEvals, aParts, aOpt, aBuiltin, rd, win, AV.cells, AV.leaf, aNew, splice, fillA, Nat.reduceEqDiff, Nat.reduceLT, Nat.reduceAdd, Nat.reduceLeDiff, reduceCtorEq, Nat.reduceMul, cfgP, u13, hlen, aResults, aResult]) (.agg (.cons (f1 _ _) (.cons (f2 _ _) (.cons (.still rfl) (.cons (.still rfl) .nil))))) (by simp)
end Go.Proofs.Ytjhgmoaabflbfaa
