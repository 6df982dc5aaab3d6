import Derived.Test.YtjhgmoaabflbfaaLabel4
import Derived.Test.YtjhgmoaabflbfaaLord
import Derived.Test.YtjhgmoaabflbfaaAlertMerge
/-! The law AlertIs, walked. -/
set_option linter.unusedSimpArgs false
namespace Go.Proofs.Ytjhgmoaabflbfaa
open Go Go.Abs AbsSeat Ty

theorem u35 : type_of% (And.intro (show tagT Try.prog 29 = 0 from by kernel_rfl) (And.intro ag2 (And.intro sz2 (And.intro by2 (And.intro ze2 (And.intro Try.underlying2 (And.intro ag29 (And.intro sz29 (And.intro by29 (And.intro ze29 (And.intro bu29 (And.intro Try.underlying29 (And.intro fa29_2 (And.intro fd29_2 (And.intro fa29_3 fd29_3))))))))))))))) :=
  And.intro (show tagT Try.prog 29 = 0 from by kernel_rfl) (And.intro ag2 (And.intro sz2 (And.intro by2 (And.intro ze2 (And.intro Try.underlying2 (And.intro ag29 (And.intro sz29 (And.intro by29 (And.intro ze29 (And.intro bu29 (And.intro Try.underlying29 (And.intro fa29_2 (And.intro fd29_2 (And.intro fa29_3 fd29_3))))))))))))))
def g35 : Code :=
  Go.Code.seq (Go.Code.region 0 #[{ dst := some 2, op := Go.Op.box 29 (Go.Operand.tmp 0), type := 0, pos := "", after := #[], guard := none }, { dst := some 4, op := Go.Op.assign (Go.Operand.const (Go.Value.bool false)), type := 4, pos := "", after := #[], guard := none }] false) (Go.Code.seq (Go.Code.region 1 #[{ dst := some 5, op := Go.Op.move (Go.Operand.tmp 1), type := 2, pos := "", after := #[], guard := none }, { dst := some 6, op := Go.Op.fieldAddr 29 (Go.Operand.tmp 2) 2, type := 0, pos := "", after := #[], guard := none }, { dst := some 7, op := Go.Op.load 2 (Go.Operand.tmp 6), type := 2, pos := "", after := #[], guard := none }, { dst := some 8, op := Go.Op.binOp Go.BinOp.geq 2 (Go.Operand.tmp 5) (Go.Operand.tmp 7) 2, type := 4, pos := "", after := #[], guard := none }, { dst := some 9, op := Go.Op.move (Go.Operand.tmp 8), type := 4, pos := "", after := #[], guard := none }, { dst := some 10, op := Go.Op.move (Go.Operand.tmp 1), type := 2, pos := "", after := #[], guard := some (4, true) }, { dst := some 11, op := Go.Op.fieldAddr 29 (Go.Operand.tmp 2) 3, type := 0, pos := "", after := #[], guard := some (4, true) }, { dst := some 12, op := Go.Op.load 2 (Go.Operand.tmp 11), type := 2, pos := "", after := #[], guard := some (4, true) }, { dst := some 13, op := Go.Op.binOp Go.BinOp.lss 2 (Go.Operand.tmp 10) (Go.Operand.tmp 12) 2, type := 4, pos := "", after := #[], guard := some (4, true) }, { dst := some 14, op := Go.Op.pick (Go.Operand.tmp 9) (Go.Operand.tmp 13) (Go.Operand.const (Go.Value.bool false)), type := 4, pos := "", after := #[], guard := none }, { dst := some 4, op := Go.Op.assign (Go.Operand.tmp 14), type := 4, pos := "", after := #[], guard := none }] false) Go.Code.ret)
theorem s35 : Try.f35.body.map (slim cfg) = some g35 := by kernel_rfl
theorem u33 : type_of% (And.intro (show tagT Try.prog 29 = 0 from by kernel_rfl) (And.intro ag2 (And.intro sz2 (And.intro by2 (And.intro ze2 (And.intro Try.underlying2 (And.intro ag29 (And.intro sz29 (And.intro by29 (And.intro ze29 (And.intro bu29 (And.intro Try.underlying29 (And.intro fa29_2 (And.intro fd29_2 (And.intro fa29_3 fd29_3))))))))))))))) :=
  And.intro (show tagT Try.prog 29 = 0 from by kernel_rfl) (And.intro ag2 (And.intro sz2 (And.intro by2 (And.intro ze2 (And.intro Try.underlying2 (And.intro ag29 (And.intro sz29 (And.intro by29 (And.intro ze29 (And.intro bu29 (And.intro Try.underlying29 (And.intro fa29_2 (And.intro fd29_2 (And.intro fa29_3 fd29_3))))))))))))))
def g33 : Code :=
  Go.Code.seq (Go.Code.region 0 #[{ dst := some 2, op := Go.Op.box 29 (Go.Operand.tmp 0), type := 0, pos := "", after := #[], guard := none }, { dst := some 4, op := Go.Op.alloc 29, type := 0, pos := "", after := #[], guard := none }] false) (Go.Code.seq (Go.Code.seq (Go.Code.region 1 #[{ dst := some 5, op := Go.Op.load 29 (Go.Operand.tmp 2), type := 29, pos := "", after := #[], guard := none }, { dst := some 6, op := Go.Op.move (Go.Operand.tmp 1), type := 2, pos := "", after := #[], guard := none }, { dst := some 7, op := Go.Op.call { callee := Go.Callee.value (Go.Operand.func 35), args := #[Go.Operand.tmp 5, Go.Operand.tmp 6], argTypes := #[29, 2] }, type := 4, pos := "", after := #[], guard := none }] false) (Go.Code.cond (Go.Operand.tmp 7) (Go.Code.seq (Go.Code.region 2 #[{ dst := some 8, op := Go.Op.move (Go.Operand.tmp 1), type := 2, pos := "", after := #[], guard := none }, { dst := some 9, op := Go.Op.fieldAddr 29 (Go.Operand.tmp 2) 3, type := 0, pos := "", after := #[], guard := none }, { dst := none, op := Go.Op.store 2 (Go.Operand.tmp 9) (Go.Operand.tmp 8), type := 0, pos := "", after := #[], guard := none }] false) (Go.Code.seq (Go.Code.region 3 #[{ dst := some 10, op := Go.Op.move (Go.Operand.tmp 1), type := 2, pos := "", after := #[], guard := none }, { dst := some 11, op := Go.Op.fieldAddr 29 (Go.Operand.tmp 2) 2, type := 0, pos := "", after := #[], guard := none }, { dst := some 12, op := Go.Op.load 2 (Go.Operand.tmp 11), type := 2, pos := "", after := #[], guard := none }, { dst := some 13, op := Go.Op.binOp Go.BinOp.eql 2 (Go.Operand.tmp 10) (Go.Operand.tmp 12) 2, type := 4, pos := "", after := #[], guard := none }] false) (Go.Code.cond (Go.Operand.tmp 13) (Go.Code.region 4 #[{ dst := some 14, op := Go.Op.fieldAddr 29 (Go.Operand.tmp 2) 3, type := 0, pos := "", after := #[], guard := none }, { dst := some 15, op := Go.Op.load 2 (Go.Operand.tmp 14), type := 2, pos := "", after := #[], guard := none }, { dst := some 16, op := Go.Op.binOp Go.BinOp.add 2 (Go.Operand.tmp 15) (Go.Operand.const (Go.Value.int Go.IntKind.i64 1)) 2, type := 2, pos := "", after := #[], guard := none }, { dst := some 17, op := Go.Op.fieldAddr 29 (Go.Operand.tmp 2) 3, type := 0, pos := "", after := #[], guard := none }, { dst := none, op := Go.Op.store 2 (Go.Operand.tmp 17) (Go.Operand.tmp 16), type := 0, pos := "", after := #[], guard := none }] false) Go.Code.skip))) Go.Code.skip)) (Go.Code.seq (Go.Code.region 5 #[{ dst := some 18, op := Go.Op.load 29 (Go.Operand.tmp 2), type := 29, pos := "", after := #[], guard := none }, { dst := none, op := Go.Op.store 29 (Go.Operand.tmp 4) (Go.Operand.tmp 18), type := 0, pos := "", after := #[], guard := none }] false) Go.Code.ret))
theorem s33 : Try.f33.body.map (slim cfg) = some g33 := by kernel_rfl
theorem u37 : type_of% (And.intro (show tagT Try.prog 29 = 0 from by kernel_rfl) (And.intro ag27 (And.intro sz27 (And.intro by27 (And.intro ze27 (And.intro bu27 (And.intro Try.underlying27 (And.intro ag29 (And.intro sz29 (And.intro by29 (And.intro ze29 (And.intro bu29 (And.intro Try.underlying29 (And.intro fa29_0 fd29_0)))))))))))))) :=
  And.intro (show tagT Try.prog 29 = 0 from by kernel_rfl) (And.intro ag27 (And.intro sz27 (And.intro by27 (And.intro ze27 (And.intro bu27 (And.intro Try.underlying27 (And.intro ag29 (And.intro sz29 (And.intro by29 (And.intro ze29 (And.intro bu29 (And.intro Try.underlying29 (And.intro fa29_0 fd29_0)))))))))))))
def g37 : Code :=
  Go.Code.seq (Go.Code.region 0 #[{ dst := some 1, op := Go.Op.box 29 (Go.Operand.tmp 0), type := 0, pos := "", after := #[], guard := none }, { dst := some 2, op := Go.Op.assign (Go.Operand.const (Go.Value.string { data := #[] })), type := 9, pos := "", after := #[], guard := none }] false) (Go.Code.seq (Go.Code.region 1 #[{ dst := some 3, op := Go.Op.fieldAddr 29 (Go.Operand.tmp 1) 0, type := 0, pos := "", after := #[], guard := none }, { dst := some 4, op := Go.Op.load 27 (Go.Operand.tmp 3), type := 27, pos := "", after := #[], guard := none }, { dst := some 5, op := Go.Op.call { callee := Go.Callee.value (Go.Operand.func 23), args := #[Go.Operand.tmp 4], argTypes := #[27] }, type := 9, pos := "", after := #[], guard := none }, { dst := some 6, op := Go.Op.binOp Go.BinOp.add 9 (Go.Operand.const (Go.Value.string { data := #[97, 47] })) (Go.Operand.tmp 5) 9, type := 9, pos := "", after := #[], guard := none }, { dst := some 2, op := Go.Op.assign (Go.Operand.tmp 6), type := 9, pos := "", after := #[], guard := none }] false) Go.Code.ret)
theorem s37 : Try.f37.body.map (slim cfg) = some g37 := by kernel_rfl
theorem u36 : type_of% (And.intro (show tagT Try.prog 24 = 0 from by kernel_rfl) (And.intro ag2 (And.intro sz2 (And.intro by2 (And.intro ze2 (And.intro Try.underlying2 (And.intro ag24 (And.intro sz24 (And.intro by24 (And.intro ze24 (And.intro bu24 (And.intro Try.underlying24 (And.intro fa24_2 (And.intro fd24_2 (And.intro fa24_3 fd24_3))))))))))))))) :=
  And.intro (show tagT Try.prog 24 = 0 from by kernel_rfl) (And.intro ag2 (And.intro sz2 (And.intro by2 (And.intro ze2 (And.intro Try.underlying2 (And.intro ag24 (And.intro sz24 (And.intro by24 (And.intro ze24 (And.intro bu24 (And.intro Try.underlying24 (And.intro fa24_2 (And.intro fd24_2 (And.intro fa24_3 fd24_3))))))))))))))
def g36 : Code :=
  Go.Code.seq (Go.Code.region 0 #[{ dst := some 2, op := Go.Op.box 24 (Go.Operand.tmp 0), type := 0, pos := "", after := #[], guard := none }, { dst := some 4, op := Go.Op.assign (Go.Operand.const (Go.Value.bool false)), type := 4, pos := "", after := #[], guard := none }] false) (Go.Code.seq (Go.Code.region 1 #[{ dst := some 5, op := Go.Op.fieldAddr 24 (Go.Operand.tmp 2) 2, type := 0, pos := "", after := #[], guard := none }, { dst := some 6, op := Go.Op.load 2 (Go.Operand.tmp 5), type := 2, pos := "", after := #[], guard := none }, { dst := some 7, op := Go.Op.move (Go.Operand.tmp 1), type := 2, pos := "", after := #[], guard := none }, { dst := some 8, op := Go.Op.binOp Go.BinOp.leq 2 (Go.Operand.tmp 6) (Go.Operand.tmp 7) 2, type := 4, pos := "", after := #[], guard := none }, { dst := some 9, op := Go.Op.move (Go.Operand.tmp 8), type := 4, pos := "", after := #[], guard := none }, { dst := some 10, op := Go.Op.move (Go.Operand.tmp 1), type := 2, pos := "", after := #[], guard := some (4, true) }, { dst := some 11, op := Go.Op.fieldAddr 24 (Go.Operand.tmp 2) 3, type := 0, pos := "", after := #[], guard := some (4, true) }, { dst := some 12, op := Go.Op.load 2 (Go.Operand.tmp 11), type := 2, pos := "", after := #[], guard := some (4, true) }, { dst := some 13, op := Go.Op.binOp Go.BinOp.lss 2 (Go.Operand.tmp 10) (Go.Operand.tmp 12) 2, type := 4, pos := "", after := #[], guard := some (4, true) }, { dst := some 14, op := Go.Op.pick (Go.Operand.tmp 9) (Go.Operand.tmp 13) (Go.Operand.const (Go.Value.bool false)), type := 4, pos := "", after := #[], guard := none }, { dst := some 4, op := Go.Op.assign (Go.Operand.tmp 14), type := 4, pos := "", after := #[], guard := none }] false) Go.Code.ret)
theorem s36 : Try.f36.body.map (slim cfg) = some g36 := by kernel_rfl
theorem u34 : type_of% (And.intro (show tagT Try.prog 24 = 0 from by kernel_rfl) (And.intro ag2 (And.intro sz2 (And.intro by2 (And.intro ze2 (And.intro Try.underlying2 (And.intro ag24 (And.intro sz24 (And.intro by24 (And.intro ze24 (And.intro bu24 (And.intro Try.underlying24 (And.intro fa24_2 (And.intro fd24_2 (And.intro fa24_3 fd24_3))))))))))))))) :=
  And.intro (show tagT Try.prog 24 = 0 from by kernel_rfl) (And.intro ag2 (And.intro sz2 (And.intro by2 (And.intro ze2 (And.intro Try.underlying2 (And.intro ag24 (And.intro sz24 (And.intro by24 (And.intro ze24 (And.intro bu24 (And.intro Try.underlying24 (And.intro fa24_2 (And.intro fd24_2 (And.intro fa24_3 fd24_3))))))))))))))
def g34 : Code :=
  Go.Code.seq (Go.Code.region 0 #[{ dst := some 2, op := Go.Op.box 24 (Go.Operand.tmp 0), type := 0, pos := "", after := #[], guard := none }, { dst := some 4, op := Go.Op.alloc 24, type := 0, pos := "", after := #[], guard := none }] false) (Go.Code.seq (Go.Code.seq (Go.Code.region 1 #[{ dst := some 5, op := Go.Op.load 24 (Go.Operand.tmp 2), type := 24, pos := "", after := #[], guard := none }, { dst := some 6, op := Go.Op.move (Go.Operand.tmp 1), type := 2, pos := "", after := #[], guard := none }, { dst := some 7, op := Go.Op.call { callee := Go.Callee.value (Go.Operand.func 36), args := #[Go.Operand.tmp 5, Go.Operand.tmp 6], argTypes := #[24, 2] }, type := 4, pos := "", after := #[], guard := none }, { dst := some 8, op := Go.Op.unOp Go.UnOp.not 4 (Go.Operand.tmp 7), type := 4, pos := "", after := #[], guard := none }] false) (Go.Code.cond (Go.Operand.tmp 8) (Go.Code.seq (Go.Code.region 2 #[{ dst := some 9, op := Go.Op.load 24 (Go.Operand.tmp 2), type := 24, pos := "", after := #[], guard := none }, { dst := none, op := Go.Op.store 24 (Go.Operand.tmp 4) (Go.Operand.tmp 9), type := 0, pos := "", after := #[], guard := none }] false) Go.Code.ret) Go.Code.skip)) (Go.Code.seq (Go.Code.seq (Go.Code.region 3 #[{ dst := some 10, op := Go.Op.move (Go.Operand.tmp 1), type := 2, pos := "", after := #[], guard := none }, { dst := some 11, op := Go.Op.fieldAddr 24 (Go.Operand.tmp 2) 2, type := 0, pos := "", after := #[], guard := none }, { dst := some 12, op := Go.Op.load 2 (Go.Operand.tmp 11), type := 2, pos := "", after := #[], guard := none }, { dst := some 13, op := Go.Op.binOp Go.BinOp.eql 2 (Go.Operand.tmp 10) (Go.Operand.tmp 12) 2, type := 4, pos := "", after := #[], guard := none }] false) (Go.Code.cond (Go.Operand.tmp 13) (Go.Code.region 4 #[{ dst := some 14, op := Go.Op.move (Go.Operand.tmp 1), type := 2, pos := "", after := #[], guard := none }, { dst := some 15, op := Go.Op.binOp Go.BinOp.add 2 (Go.Operand.tmp 14) (Go.Operand.const (Go.Value.int Go.IntKind.i64 1)) 2, type := 2, pos := "", after := #[], guard := none }, { dst := some 16, op := Go.Op.fieldAddr 24 (Go.Operand.tmp 2) 3, type := 0, pos := "", after := #[], guard := none }, { dst := none, op := Go.Op.store 2 (Go.Operand.tmp 16) (Go.Operand.tmp 15), type := 0, pos := "", after := #[], guard := none }] false) (Go.Code.region 5 #[{ dst := some 17, op := Go.Op.move (Go.Operand.tmp 1), type := 2, pos := "", after := #[], guard := none }, { dst := some 18, op := Go.Op.fieldAddr 24 (Go.Operand.tmp 2) 3, type := 0, pos := "", after := #[], guard := none }, { dst := none, op := Go.Op.store 2 (Go.Operand.tmp 18) (Go.Operand.tmp 17), type := 0, pos := "", after := #[], guard := none }] false))) (Go.Code.seq (Go.Code.region 6 #[{ dst := some 19, op := Go.Op.load 24 (Go.Operand.tmp 2), type := 24, pos := "", after := #[], guard := none }, { dst := none, op := Go.Op.store 24 (Go.Operand.tmp 4) (Go.Operand.tmp 19), type := 0, pos := "", after := #[], guard := none }] false) Go.Code.ret)))
theorem s34 : Try.f34.body.map (slim cfg) = some g34 := by kernel_rfl
theorem u7 : type_of% (And.intro (show tagT Try.prog 24 = 0 from by kernel_rfl) (And.intro (show tagT Try.prog 29 = 0 from by kernel_rfl) (And.intro ag2 (And.intro sz2 (And.intro by2 (And.intro ze2 (And.intro Try.underlying2 (And.intro ag4 (And.intro sz4 (And.intro by4 (And.intro ze4 (And.intro Try.underlying4 (And.intro ag9 (And.intro sz9 (And.intro by9 (And.intro ze9 (And.intro Try.underlying9 (And.intro ag22 (And.intro sz22 (And.intro by22 (And.intro se22 (And.intro ze22 (And.intro Try.underlying22 (And.intro ag24 (And.intro sz24 (And.intro by24 (And.intro ze24 (And.intro bu24 (And.intro Try.underlying24 (And.intro ag29 (And.intro sz29 (And.intro by29 (And.intro ze29 (And.intro bu29 (And.intro Try.underlying29 (And.intro ag38 (And.intro sz38 (And.intro by38 (And.intro ze38 (And.intro Try.underlying38 (And.intro ag68 (And.intro sz68 (And.intro by68 (And.intro ze68 (And.intro bu68 (And.intro Try.underlying68 (And.intro fa24_0 fd24_0))))))))))))))))))))))))))))))))))))))))))))))) :=
  And.intro (show tagT Try.prog 24 = 0 from by kernel_rfl) (And.intro (show tagT Try.prog 29 = 0 from by kernel_rfl) (And.intro ag2 (And.intro sz2 (And.intro by2 (And.intro ze2 (And.intro Try.underlying2 (And.intro ag4 (And.intro sz4 (And.intro by4 (And.intro ze4 (And.intro Try.underlying4 (And.intro ag9 (And.intro sz9 (And.intro by9 (And.intro ze9 (And.intro Try.underlying9 (And.intro ag22 (And.intro sz22 (And.intro by22 (And.intro se22 (And.intro ze22 (And.intro Try.underlying22 (And.intro ag24 (And.intro sz24 (And.intro by24 (And.intro ze24 (And.intro bu24 (And.intro Try.underlying24 (And.intro ag29 (And.intro sz29 (And.intro by29 (And.intro ze29 (And.intro bu29 (And.intro Try.underlying29 (And.intro ag38 (And.intro sz38 (And.intro by38 (And.intro ze38 (And.intro Try.underlying38 (And.intro ag68 (And.intro sz68 (And.intro by68 (And.intro ze68 (And.intro bu68 (And.intro Try.underlying68 (And.intro fa24_0 fd24_0))))))))))))))))))))))))))))))))))))))))))))))
def g7 : Code :=
  Go.Code.seq (Go.Code.region 0 #[{ dst := some 2, op := Go.Op.box 24 (Go.Operand.tmp 0), type := 0, pos := "", after := #[], guard := none }, { dst := some 4, op := Go.Op.assign (Go.Operand.const (Go.Value.bool false)), type := 4, pos := "", after := #[], guard := none }] false) (Go.Code.seq (Go.Code.region 1 #[{ dst := some 10, op := Go.Op.load 24 (Go.Operand.tmp 2), type := 24, pos := "", after := #[], guard := none }, { dst := some 11, op := Go.Op.call { callee := Go.Callee.value (Go.Operand.func 9), args := #[Go.Operand.tmp 10], argTypes := #[24] }, type := 30, pos := "", after := #[], guard := none }, { dst := some 9, op := Go.Op.move (Go.Operand.tmp 11), type := 30, pos := "", after := #[], guard := none }, { dst := some 12, op := Go.Op.extract (Go.Operand.tmp 9) 0, type := 29, pos := "", after := #[], guard := none }, { dst := some 13, op := Go.Op.extract (Go.Operand.tmp 9) 1, type := 24, pos := "", after := #[], guard := none }, { dst := some 5, op := Go.Op.alloc 29, type := 0, pos := "", after := #[], guard := none }, { dst := some 6, op := Go.Op.alloc 24, type := 0, pos := "", after := #[], guard := none }, { dst := none, op := Go.Op.store 29 (Go.Operand.tmp 5) (Go.Operand.tmp 12), type := 0, pos := "", after := #[], guard := none }, { dst := none, op := Go.Op.store 24 (Go.Operand.tmp 6) (Go.Operand.tmp 13), type := 0, pos := "", after := #[], guard := none }] false) (Go.Code.seq (Go.Code.region 2 #[{ dst := some 14, op := Go.Op.load 29 (Go.Operand.tmp 5), type := 29, pos := "", after := #[], guard := none }, { dst := some 15, op := Go.Op.call { callee := Go.Callee.value (Go.Operand.func 16), args := #[Go.Operand.tmp 14], argTypes := #[29] }, type := 38, pos := "", after := #[], guard := none }, { dst := some 7, op := Go.Op.assign (Go.Operand.tmp 15), type := 38, pos := "", after := #[], guard := none }] false) (Go.Code.seq (Go.Code.seq (Go.Code.region 3 #[{ dst := some 16, op := Go.Op.move (Go.Operand.tmp 7), type := 38, pos := "", after := #[], guard := none }, { dst := some 17, op := Go.Op.binOp Go.BinOp.eql 38 (Go.Operand.tmp 16) (Go.Operand.const (Go.Value.int Go.IntKind.i64 0)) 38, type := 4, pos := "", after := #[], guard := none }, { dst := some 18, op := Go.Op.load 24 (Go.Operand.tmp 6), type := 24, pos := "", after := #[], guard := none }, { dst := some 19, op := Go.Op.call { callee := Go.Callee.value (Go.Operand.func 11), args := #[Go.Operand.tmp 18], argTypes := #[24] }, type := 4, pos := "", after := #[], guard := none }, { dst := some 20, op := Go.Op.binOp Go.BinOp.neq 4 (Go.Operand.tmp 17) (Go.Operand.tmp 19) 4, type := 4, pos := "", after := #[], guard := none }, { dst := some 21, op := Go.Op.move (Go.Operand.tmp 20), type := 4, pos := "", after := #[], guard := none }, { dst := some 22, op := Go.Op.move (Go.Operand.tmp 7), type := 38, pos := "", after := #[], guard := some (5, false) }, { dst := some 23, op := Go.Op.binOp Go.BinOp.neq 38 (Go.Operand.tmp 22) (Go.Operand.const (Go.Value.int Go.IntKind.i64 0)) 38, type := 4, pos := "", after := #[], guard := some (5, false) }, { dst := some 24, op := Go.Op.move (Go.Operand.tmp 23), type := 4, pos := "", after := #[], guard := some (5, false) }, { dst := some 25, op := Go.Op.move (Go.Operand.tmp 7), type := 38, pos := "", after := #[], guard := some (8, true) }, { dst := some 26, op := Go.Op.binOp Go.BinOp.neq 38 (Go.Operand.tmp 25) (Go.Operand.const (Go.Value.int Go.IntKind.i64 1)) 38, type := 4, pos := "", after := #[], guard := some (8, true) }, { dst := some 27, op := Go.Op.pick (Go.Operand.tmp 24) (Go.Operand.tmp 26) (Go.Operand.const (Go.Value.bool false)), type := 4, pos := "", after := #[], guard := some (5, false) }, { dst := some 28, op := Go.Op.pick (Go.Operand.tmp 21) (Go.Operand.const (Go.Value.bool true)) (Go.Operand.tmp 27), type := 4, pos := "", after := #[], guard := none }] false) (Go.Code.cond (Go.Operand.tmp 28) (Go.Code.seq (Go.Code.region 4 #[{ dst := some 4, op := Go.Op.assign (Go.Operand.const (Go.Value.bool false)), type := 4, pos := "", after := #[], guard := none }] false) Go.Code.ret) Go.Code.skip)) (Go.Code.seq (Go.Code.region 5 #[{ dst := some 29, op := Go.Op.load 29 (Go.Operand.tmp 5), type := 29, pos := "", after := #[], guard := none }, { dst := some 30, op := Go.Op.move (Go.Operand.tmp 1), type := 2, pos := "", after := #[], guard := none }, { dst := some 31, op := Go.Op.call { callee := Go.Callee.value (Go.Operand.func 33), args := #[Go.Operand.tmp 29, Go.Operand.tmp 30], argTypes := #[29, 2] }, type := 29, pos := "", after := #[], guard := none }, { dst := some 8, op := Go.Op.alloc 29, type := 0, pos := "", after := #[], guard := none }, { dst := none, op := Go.Op.store 29 (Go.Operand.tmp 8) (Go.Operand.tmp 31), type := 0, pos := "", after := #[], guard := none }] false) (Go.Code.seq (Go.Code.seq (Go.Code.region 6 #[{ dst := some 32, op := Go.Op.load 29 (Go.Operand.tmp 8), type := 29, pos := "", after := #[], guard := none }, { dst := some 33, op := Go.Op.call { callee := Go.Callee.value (Go.Operand.func 13), args := #[Go.Operand.tmp 32], argTypes := #[29] }, type := 24, pos := "", after := #[], guard := none }, { dst := some 34, op := Go.Op.load 24 (Go.Operand.tmp 6), type := 24, pos := "", after := #[], guard := none }, { dst := some 35, op := Go.Op.move (Go.Operand.tmp 1), type := 2, pos := "", after := #[], guard := none }, { dst := some 36, op := Go.Op.call { callee := Go.Callee.value (Go.Operand.func 34), args := #[Go.Operand.tmp 34, Go.Operand.tmp 35], argTypes := #[24, 2] }, type := 24, pos := "", after := #[], guard := none }, { dst := some 37, op := Go.Op.call { callee := Go.Callee.value (Go.Operand.func 12), args := #[Go.Operand.tmp 33, Go.Operand.tmp 36], argTypes := #[24, 24] }, type := 4, pos := "", after := #[], guard := none }, { dst := some 38, op := Go.Op.unOp Go.UnOp.not 4 (Go.Operand.tmp 37), type := 4, pos := "", after := #[], guard := none }, { dst := some 39, op := Go.Op.move (Go.Operand.tmp 38), type := 4, pos := "", after := #[], guard := none }, { dst := some 40, op := Go.Op.load 24 (Go.Operand.tmp 6), type := 24, pos := "", after := #[], guard := some (7, false) }, { dst := some 41, op := Go.Op.call { callee := Go.Callee.value (Go.Operand.func 11), args := #[Go.Operand.tmp 40], argTypes := #[24] }, type := 4, pos := "", after := #[], guard := some (7, false) }, { dst := some 42, op := Go.Op.move (Go.Operand.tmp 41), type := 4, pos := "", after := #[], guard := some (7, false) }, { dst := some 43, op := Go.Op.load 29 (Go.Operand.tmp 8), type := 29, pos := "", after := #[], guard := some (10, true) }, { dst := some 44, op := Go.Op.call { callee := Go.Callee.value (Go.Operand.func 13), args := #[Go.Operand.tmp 43], argTypes := #[29] }, type := 24, pos := "", after := #[], guard := some (10, true) }, { dst := some 45, op := Go.Op.call { callee := Go.Callee.value (Go.Operand.func 11), args := #[Go.Operand.tmp 44], argTypes := #[24] }, type := 4, pos := "", after := #[], guard := some (10, true) }, { dst := some 46, op := Go.Op.unOp Go.UnOp.not 4 (Go.Operand.tmp 45), type := 4, pos := "", after := #[], guard := some (10, true) }, { dst := some 47, op := Go.Op.pick (Go.Operand.tmp 42) (Go.Operand.tmp 46) (Go.Operand.const (Go.Value.bool false)), type := 4, pos := "", after := #[], guard := some (7, false) }, { dst := some 48, op := Go.Op.pick (Go.Operand.tmp 39) (Go.Operand.const (Go.Value.bool true)) (Go.Operand.tmp 47), type := 4, pos := "", after := #[], guard := none }] false) (Go.Code.cond (Go.Operand.tmp 48) (Go.Code.seq (Go.Code.region 7 #[{ dst := some 4, op := Go.Op.assign (Go.Operand.const (Go.Value.bool false)), type := 4, pos := "", after := #[], guard := none }] false) Go.Code.ret) Go.Code.skip)) (Go.Code.seq (Go.Code.region 8 #[{ dst := some 49, op := Go.Op.load 29 (Go.Operand.tmp 5), type := 29, pos := "", after := #[], guard := none }, { dst := some 50, op := Go.Op.move (Go.Operand.tmp 1), type := 2, pos := "", after := #[], guard := none }, { dst := some 51, op := Go.Op.call { callee := Go.Callee.value (Go.Operand.func 35), args := #[Go.Operand.tmp 49, Go.Operand.tmp 50], argTypes := #[29, 2] }, type := 4, pos := "", after := #[], guard := none }, { dst := some 52, op := Go.Op.load 24 (Go.Operand.tmp 6), type := 24, pos := "", after := #[], guard := none }, { dst := some 53, op := Go.Op.move (Go.Operand.tmp 1), type := 2, pos := "", after := #[], guard := none }, { dst := some 54, op := Go.Op.call { callee := Go.Callee.value (Go.Operand.func 36), args := #[Go.Operand.tmp 52, Go.Operand.tmp 53], argTypes := #[24, 2] }, type := 4, pos := "", after := #[], guard := none }, { dst := some 55, op := Go.Op.binOp Go.BinOp.eql 4 (Go.Operand.tmp 51) (Go.Operand.tmp 54) 4, type := 4, pos := "", after := #[], guard := none }, { dst := some 56, op := Go.Op.move (Go.Operand.tmp 55), type := 4, pos := "", after := #[], guard := none }, { dst := some 57, op := Go.Op.load 29 (Go.Operand.tmp 5), type := 29, pos := "", after := #[], guard := some (7, true) }, { dst := some 58, op := Go.Op.call { callee := Go.Callee.value (Go.Operand.func 37), args := #[Go.Operand.tmp 57], argTypes := #[29] }, type := 9, pos := "", after := #[], guard := some (7, true) }, { dst := some 59, op := Go.Op.fieldAddr 24 (Go.Operand.tmp 6) 0, type := 0, pos := "", after := #[], guard := some (7, true) }, { dst := some 60, op := Go.Op.load 22 (Go.Operand.tmp 59), type := 22, pos := "", after := #[], guard := some (7, true) }, { dst := some 61, op := Go.Op.call { callee := Go.Callee.value (Go.Operand.func 24), args := #[Go.Operand.tmp 60], argTypes := #[22] }, type := 9, pos := "", after := #[], guard := some (7, true) }, { dst := some 62, op := Go.Op.binOp Go.BinOp.add 9 (Go.Operand.const (Go.Value.string { data := #[97, 47] })) (Go.Operand.tmp 61) 9, type := 9, pos := "", after := #[], guard := some (7, true) }, { dst := some 63, op := Go.Op.binOp Go.BinOp.eql 9 (Go.Operand.tmp 58) (Go.Operand.tmp 62) 9, type := 4, pos := "", after := #[], guard := some (7, true) }, { dst := some 64, op := Go.Op.pick (Go.Operand.tmp 56) (Go.Operand.tmp 63) (Go.Operand.const (Go.Value.bool false)), type := 4, pos := "", after := #[], guard := none }, { dst := some 65, op := Go.Op.move (Go.Operand.tmp 64), type := 4, pos := "", after := #[], guard := none }, { dst := some 66, op := Go.Op.call { callee := Go.Callee.value (Go.Operand.func 14), args := #[], argTypes := #[] }, type := 4, pos := "", after := #[], guard := some (16, true) }, { dst := some 67, op := Go.Op.pick (Go.Operand.tmp 65) (Go.Operand.tmp 66) (Go.Operand.const (Go.Value.bool false)), type := 4, pos := "", after := #[], guard := none }, { dst := some 4, op := Go.Op.assign (Go.Operand.tmp 67), type := 4, pos := "", after := #[], guard := none }] false) Go.Code.ret))))))
theorem s7 : Try.f7.body.map (slim cfg) = some g7 := by kernel_rfl

theorem setL_small (l : List Pr) : ∀ x ∈ setL l, Small x := by
  intro x hx
  have h : ∀ x ∈ cutL l, Small x := by
    intro x hx
    obtain ⟨y, _, rfl⟩ := List.mem_map.1 hx
    simp [Small, cutPr]; omega
  refine h x ?_
  unfold setL ofP at hx
  split at hx
  · simp at hx
  · split at hx
    · simp at hx
    · exact (isortP_perm _).mem_iff.1 hx
theorem setL_valid (l : List Pr) : ∀ x ∈ setL l, validU x.val = true := by
  intro x hx
  unfold setL ofP at hx
  split at hx
  · simp at hx
  · rename_i hb
    split at hx
    · simp at hx
    · have hm := (isortP_perm _).mem_iff.1 hx
      cases hv : validU x.val with
      | true => rfl
      | false => exact absurd (List.any_eq_true.2 ⟨x, hm, by simp [badP, hv]⟩) hb


theorem rightG_ok (l : List Pr) (w1 w2 : AV) (s e : Int) (hv : Sl encP w1 l) (hv2 : w2.leaf = true) (prot : Nat) (H : Heap) (hp : prot ≤ H.length) :
    aLim cfg prot 16 [.agg [w1, w2, .int .i64 s, .int .i64 e]] H = some (.int .i64 (if rightA l s e then 0 else 1), none) := by
  have hsnap : snap H [.agg [w1, w2, .int .i64 s, .int .i64 e]] = some ([.agg [w1, w2, .int .i64 s, .int .i64 e]], false) := rfl
  have hv1 := Sl.leaf hv
  unfold AV.leaf at hv1 hv2
  have t1 := fun (K : Heap) (hK : H.length ≤ K.length) => timely_ok s H.length K hK
  have t2 := fun (K : Heap) (hK : H.length ≤ K.length) => timely_ok e H.length K hK
  have n1 := fun (K : Heap) (hK : H.length ≤ K.length) => setLen_ok l w1 hv H.length K hK
  unfold rightA
  by_cases h0 : 0 < l.length
  · have hz : decide ((l.length : Int) = 0) = false := decide_eq_false (by omega)
    have hz2 : decide ((0 : Int) < (l.length : Int)) = true := decide_eq_true (by omega)
    rw [hz2]
    cases h1 : timeT s with
    | false =>
      rw [h1] at t1
      refine pure_slim rfl (by kernel_rfl) Try.func16 s16 hp hsnap (by simp [Try.f16]) fun fr hlen h => ?_
      simp only [Has, Nat.zero_add] at h
      obtain ⟨a0, -⟩ := h
      simp only [Try.f16] at hlen ⊢
      unfold g16
      simp only [wk0, wk1, wk2, wk3, wk4, wk5, wk6, aWanted, aYield, Region.wanted, aOp, quiet, loud, aEvals, aParts, aOpt, aBuiltin, rd, win, AV.cells, AV.leaf, aNew, splice, fillA, Nat.reduceEqDiff, Nat.reduceLT, Nat.reduceAdd, Nat.reduceLeDiff, reduceCtorEq, Nat.reduceMul, cfgP, u16, hlen, a0, hv1, hv2, n1, hz, t1, none_beq]
      exact Fin_pure (l := [.int .i64 1]) (by simp [wk0, wk1, wk2, wk3, wk4, wk5, wk6, aWanted, aYield, Region.wanted, aOp, quiet, loud, aEvals, aParts, aOpt, aBuiltin, rd, win, AV.cells, AV.leaf, aNew, splice, fillA, Nat.reduceEqDiff, Nat.reduceLT, Nat.reduceAdd, Nat.reduceLeDiff, reduceCtorEq, Nat.reduceMul, cfgP, u16, aResults, aResult, hlen]) (.still rfl) (by simp)
    | true =>
      rw [h1] at t1
      cases h2 : timeT e with
      | false =>
        rw [h2] at t2
        refine pure_slim rfl (by kernel_rfl) Try.func16 s16 hp hsnap (by simp [Try.f16]) fun fr hlen h => ?_
        simp only [Has, Nat.zero_add] at h
        obtain ⟨a0, -⟩ := h
        simp only [Try.f16] at hlen ⊢
        unfold g16
        simp only [wk0, wk1, wk2, wk3, wk4, wk5, wk6, aWanted, aYield, Region.wanted, aOp, quiet, loud, aEvals, aParts, aOpt, aBuiltin, rd, win, AV.cells, AV.leaf, aNew, splice, fillA, Nat.reduceEqDiff, Nat.reduceLT, Nat.reduceAdd, Nat.reduceLeDiff, reduceCtorEq, Nat.reduceMul, cfgP, u16, hlen, a0, hv1, hv2, n1, hz, t1, t2, none_beq]
        exact Fin_pure (l := [.int .i64 1]) (by simp [wk0, wk1, wk2, wk3, wk4, wk5, wk6, aWanted, aYield, Region.wanted, aOp, quiet, loud, aEvals, aParts, aOpt, aBuiltin, rd, win, AV.cells, AV.leaf, aNew, splice, fillA, Nat.reduceEqDiff, Nat.reduceLT, Nat.reduceAdd, Nat.reduceLeDiff, reduceCtorEq, Nat.reduceMul, cfgP, u16, aResults, aResult, hlen]) (.still rfl) (by simp)
      | true =>
        rw [h2] at t2
        by_cases h3 : s < e
        · have h4 : decide (e ≤ s) = false := decide_eq_false (by omega)
          have h5 : decide (s < e) = true := decide_eq_true h3
          rw [h5]
          refine pure_slim rfl (by kernel_rfl) Try.func16 s16 hp hsnap (by simp [Try.f16]) fun fr hlen h => ?_
          simp only [Has, Nat.zero_add] at h
          obtain ⟨a0, -⟩ := h
          simp only [Try.f16] at hlen ⊢
          unfold g16
          simp only [wk0, wk1, wk2, wk3, wk4, wk5, wk6, aWanted, aYield, Region.wanted, aOp, quiet, loud, aEvals, aParts, aOpt, aBuiltin, rd, win, AV.cells, AV.leaf, aNew, splice, fillA, Nat.reduceEqDiff, Nat.reduceLT, Nat.reduceAdd, Nat.reduceLeDiff, reduceCtorEq, Nat.reduceMul, cfgP, u16, hlen, a0, hv1, hv2, n1, hz, t1, t2, h4, none_beq]
          exact Fin_pure (l := [.int .i64 0]) (by simp [wk0, wk1, wk2, wk3, wk4, wk5, wk6, aWanted, aYield, Region.wanted, aOp, quiet, loud, aEvals, aParts, aOpt, aBuiltin, rd, win, AV.cells, AV.leaf, aNew, splice, fillA, Nat.reduceEqDiff, Nat.reduceLT, Nat.reduceAdd, Nat.reduceLeDiff, reduceCtorEq, Nat.reduceMul, cfgP, u16, aResults, aResult, hlen]) (.still rfl) (by simp)
        · have h4 : decide (e ≤ s) = true := decide_eq_true (by omega)
          have h5 : decide (s < e) = false := decide_eq_false h3
          rw [h5]
          refine pure_slim rfl (by kernel_rfl) Try.func16 s16 hp hsnap (by simp [Try.f16]) fun fr hlen h => ?_
          simp only [Has, Nat.zero_add] at h
          obtain ⟨a0, -⟩ := h
          simp only [Try.f16] at hlen ⊢
          unfold g16
          simp only [wk0, wk1, wk2, wk3, wk4, wk5, wk6, aWanted, aYield, Region.wanted, aOp, quiet, loud, aEvals, aParts, aOpt, aBuiltin, rd, win, AV.cells, AV.leaf, aNew, splice, fillA, Nat.reduceEqDiff, Nat.reduceLT, Nat.reduceAdd, Nat.reduceLeDiff, reduceCtorEq, Nat.reduceMul, cfgP, u16, hlen, a0, hv1, hv2, n1, hz, t1, t2, h4, none_beq]
          exact Fin_pure (l := [.int .i64 1]) (by simp [wk0, wk1, wk2, wk3, wk4, wk5, wk6, aWanted, aYield, Region.wanted, aOp, quiet, loud, aEvals, aParts, aOpt, aBuiltin, rd, win, AV.cells, AV.leaf, aNew, splice, fillA, Nat.reduceEqDiff, Nat.reduceLT, Nat.reduceAdd, Nat.reduceLeDiff, reduceCtorEq, Nat.reduceMul, cfgP, u16, aResults, aResult, hlen]) (.still rfl) (by simp)
  · have hz : decide ((l.length : Int) = 0) = true := decide_eq_true (by omega)
    have hz2 : decide ((0 : Int) < (l.length : Int)) = false := decide_eq_false (by omega)
    rw [hz2]
    refine pure_slim rfl (by kernel_rfl) Try.func16 s16 hp hsnap (by simp [Try.f16]) fun fr hlen h => ?_
    simp only [Has, Nat.zero_add] at h
    obtain ⟨a0, -⟩ := h
    simp only [Try.f16] at hlen ⊢
    unfold g16
    simp only [wk0, wk1, wk2, wk3, wk4, wk5, wk6, aWanted, aYield, Region.wanted, aOp, quiet, loud, aEvals, aParts, aOpt, aBuiltin, rd, win, AV.cells, AV.leaf, aNew, splice, fillA, Nat.reduceEqDiff, Nat.reduceLT, Nat.reduceAdd, Nat.reduceLeDiff, reduceCtorEq, Nat.reduceMul, cfgP, u16, hlen, a0, hv1, hv2, n1, hz, none_beq]
    exact Fin_pure (l := [.int .i64 1]) (by simp [wk0, wk1, wk2, wk3, wk4, wk5, wk6, aWanted, aYield, Region.wanted, aOp, quiet, loud, aEvals, aParts, aOpt, aBuiltin, rd, win, AV.cells, AV.leaf, aNew, splice, fillA, Nat.reduceEqDiff, Nat.reduceLT, Nat.reduceAdd, Nat.reduceLeDiff, reduceCtorEq, Nat.reduceMul, cfgP, u16, aResults, aResult, hlen]) (.still rfl) (by simp)

def activeA (s e now : Int) : Bool := decide (s ≤ now) && decide (now < e)

theorem active_ok (w1 w2 : AV) (s e now : Int) (hv : w1.leaf = true) (hv2 : w2.leaf = true) (prot : Nat) (H : Heap) (hp : prot ≤ H.length) :
    aLim cfg prot 35 [.agg [w1, w2, .int .i64 s, .int .i64 e], .int .i64 now] H = some (.bool (activeA s e now), none) := by
  have hsnap : snap H [.agg [w1, w2, .int .i64 s, .int .i64 e], .int .i64 now] = some ([.agg [w1, w2, .int .i64 s, .int .i64 e], .int .i64 now], false) := rfl
  unfold AV.leaf at hv hv2
  unfold activeA
  refine pure_slim rfl (by kernel_rfl) Try.func35 s35 hp hsnap (by simp [Try.f35]) fun fr hlen h => ?_
  simp only [Has, Nat.zero_add] at h
  obtain ⟨a0, a1, -⟩ := h
  simp only [Try.f35] at hlen ⊢
  unfold g35
  by_cases h1 : s ≤ now
  · simp only [wk0, wk1, wk2, wk3, wk4, wk5, wk6, aWanted, aYield, Region.wanted, aOp, quiet, loud, aEvals, aParts, aOpt, aBuiltin, rd, win, AV.cells, AV.leaf, aNew, splice, fillA, Nat.reduceEqDiff, Nat.reduceLT, Nat.reduceAdd, Nat.reduceLeDiff, reduceCtorEq, Nat.reduceMul, cfgP, u35, hlen, a0, a1, hv, hv2, h1]
    simp only [Bool.true_and, decide_true]
    exact Fin_pure (l := [.bool (decide (now < e))]) (by simp [wk0, wk1, wk2, wk3, wk4, wk5, wk6, aWanted, aYield, Region.wanted, aOp, quiet, loud, aEvals, aParts, aOpt, aBuiltin, rd, win, AV.cells, AV.leaf, aNew, splice, fillA, Nat.reduceEqDiff, Nat.reduceLT, Nat.reduceAdd, Nat.reduceLeDiff, reduceCtorEq, Nat.reduceMul, cfgP, u35, aResults, aResult, hlen]) (.still rfl) (by simp)
  · simp only [wk0, wk1, wk2, wk3, wk4, wk5, wk6, aWanted, aYield, Region.wanted, aOp, quiet, loud, aEvals, aParts, aOpt, aBuiltin, rd, win, AV.cells, AV.leaf, aNew, splice, fillA, Nat.reduceEqDiff, Nat.reduceLT, Nat.reduceAdd, Nat.reduceLeDiff, reduceCtorEq, Nat.reduceMul, cfgP, u35, hlen, a0, a1, hv, hv2, h1, none_beq]
    simp only [Bool.false_and, decide_false]
    exact Fin_pure (l := [.bool false]) (by simp [wk0, wk1, wk2, wk3, wk4, wk5, wk6, aWanted, aYield, Region.wanted, aOp, quiet, loud, aEvals, aParts, aOpt, aBuiltin, rd, win, AV.cells, AV.leaf, aNew, splice, fillA, Nat.reduceEqDiff, Nat.reduceLT, Nat.reduceAdd, Nat.reduceLeDiff, reduceCtorEq, Nat.reduceMul, cfgP, u35, aResults, aResult, hlen]) (.still rfl) (by simp)

theorem ractive_ok (w1 w2 : AV) (s e now : Int) (hv : w1.leaf = true) (hv2 : w2.leaf = true) (prot : Nat) (H : Heap) (hp : prot ≤ H.length) :
    aLim cfg prot 36 [.agg [w1, w2, .int .i64 s, .int .i64 e], .int .i64 now] H = some (.bool (activeA s e now), none) := by
  have hsnap : snap H [.agg [w1, w2, .int .i64 s, .int .i64 e], .int .i64 now] = some ([.agg [w1, w2, .int .i64 s, .int .i64 e], .int .i64 now], false) := rfl
  unfold AV.leaf at hv hv2
  unfold activeA
  refine pure_slim rfl (by kernel_rfl) Try.func36 s36 hp hsnap (by simp [Try.f36]) fun fr hlen h => ?_
  simp only [Has, Nat.zero_add] at h
  obtain ⟨a0, a1, -⟩ := h
  simp only [Try.f36] at hlen ⊢
  unfold g36
  by_cases h1 : s ≤ now
  · simp only [wk0, wk1, wk2, wk3, wk4, wk5, wk6, aWanted, aYield, Region.wanted, aOp, quiet, loud, aEvals, aParts, aOpt, aBuiltin, rd, win, AV.cells, AV.leaf, aNew, splice, fillA, Nat.reduceEqDiff, Nat.reduceLT, Nat.reduceAdd, Nat.reduceLeDiff, reduceCtorEq, Nat.reduceMul, cfgP, u36, hlen, a0, a1, hv, hv2, h1]
    simp only [Bool.true_and, decide_true]
    exact Fin_pure (l := [.bool (decide (now < e))]) (by simp [wk0, wk1, wk2, wk3, wk4, wk5, wk6, aWanted, aYield, Region.wanted, aOp, quiet, loud, aEvals, aParts, aOpt, aBuiltin, rd, win, AV.cells, AV.leaf, aNew, splice, fillA, Nat.reduceEqDiff, Nat.reduceLT, Nat.reduceAdd, Nat.reduceLeDiff, reduceCtorEq, Nat.reduceMul, cfgP, u36, aResults, aResult, hlen]) (.still rfl) (by simp)
  · simp only [wk0, wk1, wk2, wk3, wk4, wk5, wk6, aWanted, aYield, Region.wanted, aOp, quiet, loud, aEvals, aParts, aOpt, aBuiltin, rd, win, AV.cells, AV.leaf, aNew, splice, fillA, Nat.reduceEqDiff, Nat.reduceLT, Nat.reduceAdd, Nat.reduceLeDiff, reduceCtorEq, Nat.reduceMul, cfgP, u36, hlen, a0, a1, hv, hv2, h1, none_beq]
    simp only [Bool.false_and, decide_false]
    exact Fin_pure (l := [.bool false]) (by simp [wk0, wk1, wk2, wk3, wk4, wk5, wk6, aWanted, aYield, Region.wanted, aOp, quiet, loud, aEvals, aParts, aOpt, aBuiltin, rd, win, AV.cells, AV.leaf, aNew, splice, fillA, Nat.reduceEqDiff, Nat.reduceLT, Nat.reduceAdd, Nat.reduceLeDiff, reduceCtorEq, Nat.reduceMul, cfgP, u36, aResults, aResult, hlen]) (.still rfl) (by simp)
def resE (s e now : Int) : Int := if activeA s e now then (if now = s then IntKind.i64.wrap (now + 1) else now) else e

theorem resolve_ok (w1 w2 : AV) (s e now : Int) (hv : w1.leaf = true) (hv2 : w2.leaf = true) (f1 : ∀ K n, Frz K n w1 w1) (f2 : ∀ K n, Frz K n w2 w2) (prot : Nat) (H : Heap) (hp : prot ≤ H.length) :
    aLim cfg prot 33 [.agg [w1, w2, .int .i64 s, .int .i64 e], .int .i64 now] H = some (.agg [w1, w2, .int .i64 s, .int .i64 (resE s e now)], none) := by
  have hsnap : snap H [.agg [w1, w2, .int .i64 s, .int .i64 e], .int .i64 now] = some ([.agg [w1, w2, .int .i64 s, .int .i64 e], .int .i64 now], false) := rfl
  have n1 := fun (K : Heap) (hK : H.length ≤ K.length) => active_ok w1 w2 s e now hv hv2 H.length K hK
  have fz : ∀ (K : Heap) (x : Int), Frz K H.length (packR [.agg [w1, w2, .int .i64 s, .int .i64 x]]) (.agg [w1, w2, .int .i64 s, .int .i64 x]) := fun K x => .agg (.cons (f1 _ _) (.cons (f2 _ _) (.cons (.still rfl) (.cons (.still rfl) .nil))))
  unfold AV.leaf at hv hv2
  have lt1 : ∀ (K : Heap) (A : Blk), K.length < (K ++ [A]).length := fun K A => by simp
  have le2 : ∀ (A B : Blk), H.length ≤ (H ++ [A] ++ [B]).length := fun A B => by simp
  have i1 : ∀ (s' e' x : Int) (B : List AV), hput H.length (H ++ [Blk.cells 0 [w1, w2, .int .i64 s', .int .i64 e']] ++ [Blk.cells 0 B]) H.length 0 3 [.int .i64 x] = some (H ++ [Blk.cells 0 [w1, w2, .int .i64 s', .int .i64 x]] ++ [Blk.cells 0 B]) := fun s' e' x B => by
    rw [hput_eq (cs := [w1, w2, .int .i64 s', .int .i64 e']) (by simp [hget]) (Nat.le_refl _) (by simp) (by simp [AV.leaf])]
    simp [splice]
  have i2 : ∀ (A : Blk) (z : List AV) (B : Blk), z.length = 4 → z.all AV.leaf = true → hput H.length (H ++ [A] ++ [Blk.cells 0 [.nilS, .nilS, .int .i64 0, .int .i64 0]]) (H ++ [B]).length 0 0 z = some (H ++ [A] ++ [Blk.cells 0 z]) := fun A z B hz hl => by
    rw [hput_eq (cs := [.nilS, .nilS, .int .i64 0, .int .i64 0]) (by simp [hget]) (by simp) (by simp [hz]) hl]
    simp [splice, hz]
  have g2 : ∀ (A B : Blk) (z : List AV), hget (H ++ [A] ++ [Blk.cells 0 z]) (H ++ [B]).length 0 = some z := fun A B z => by simp [hget]
  refine pure_slim rfl (by kernel_rfl) Try.func33 s33 hp hsnap (by simp [Try.f33]) fun fr hlen h => ?_
  simp only [Has, Nat.zero_add] at h
  obtain ⟨a0, a1, -⟩ := h
  simp only [Try.f33] at hlen ⊢
  unfold g33
  unfold resE
  cases ha : activeA s e now with
  | false =>
    rw [ha] at n1
    simp only [wk0, wk1, wk2, wk3, wk4, wk5, wk6, aWanted, aYield, Region.wanted, aOp, quiet, loud, aEvals, aParts, aOpt, aBuiltin, rd, win, AV.cells, AV.leaf, aNew, splice, fillA, Nat.reduceEqDiff, Nat.reduceLT, Nat.reduceAdd, Nat.reduceLeDiff, reduceCtorEq, Nat.reduceMul, cfgP, u33, hlen, a0, a1, hv, hv2, lt1, le2, n1, i1, i2, g2]
    exact Fin_pure (l := [.agg [w1, w2, .int .i64 s, .int .i64 e]]) (by simp [wk0, wk1, wk2, wk3, wk4, wk5, wk6, aWanted, aYield, Region.wanted, aOp, quiet, loud, aEvals, aParts, aOpt, aBuiltin, rd, win, AV.cells, AV.leaf, aNew, splice, fillA, Nat.reduceEqDiff, Nat.reduceLT, Nat.reduceAdd, Nat.reduceLeDiff, reduceCtorEq, Nat.reduceMul, cfgP, u33, hlen, aResults, aResult, hget]) (fz _ _) (by simp)
  | true =>
    rw [ha] at n1
    by_cases h1 : now = s
    · subst h1
      have hd : decide (now = now) = true := by simp
      simp only [wk0, wk1, wk2, wk3, wk4, wk5, wk6, aWanted, aYield, Region.wanted, aOp, quiet, loud, aEvals, aParts, aOpt, aBuiltin, rd, win, AV.cells, AV.leaf, aNew, splice, fillA, Nat.reduceEqDiff, Nat.reduceLT, Nat.reduceAdd, Nat.reduceLeDiff, reduceCtorEq, Nat.reduceMul, cfgP, u33, hlen, a0, a1, hv, hv2, lt1, le2, n1, i1, i2, g2, hd]
      exact Fin_pure (l := [.agg [w1, w2, .int .i64 now, .int .i64 (IntKind.i64.wrap (now + 1))]]) (by simp [wk0, wk1, wk2, wk3, wk4, wk5, wk6, aWanted, aYield, Region.wanted, aOp, quiet, loud, aEvals, aParts, aOpt, aBuiltin, rd, win, AV.cells, AV.leaf, aNew, splice, fillA, Nat.reduceEqDiff, Nat.reduceLT, Nat.reduceAdd, Nat.reduceLeDiff, reduceCtorEq, Nat.reduceMul, cfgP, u33, hlen, aResults, aResult, hget]) (fz _ _) (by simp)
    · have hd : decide (now = s) = false := decide_eq_false h1
      simp only [wk0, wk1, wk2, wk3, wk4, wk5, wk6, aWanted, aYield, Region.wanted, aOp, quiet, loud, aEvals, aParts, aOpt, aBuiltin, rd, win, AV.cells, AV.leaf, aNew, splice, fillA, Nat.reduceEqDiff, Nat.reduceLT, Nat.reduceAdd, Nat.reduceLeDiff, reduceCtorEq, Nat.reduceMul, cfgP, u33, hlen, a0, a1, hv, hv2, lt1, le2, n1, i1, i2, g2, hd]
      simp only [if_neg h1]
      exact Fin_pure (l := [.agg [w1, w2, .int .i64 s, .int .i64 now]]) (by simp [wk0, wk1, wk2, wk3, wk4, wk5, wk6, aWanted, aYield, Region.wanted, aOp, quiet, loud, aEvals, aParts, aOpt, aBuiltin, rd, win, AV.cells, AV.leaf, aNew, splice, fillA, Nat.reduceEqDiff, Nat.reduceLT, Nat.reduceAdd, Nat.reduceLeDiff, reduceCtorEq, Nat.reduceMul, cfgP, u33, hlen, aResults, aResult, hget]) (fz _ _) (by simp)

theorem rresolve_ok (w1 w2 : AV) (s e now : Int) (hv : w1.leaf = true) (hv2 : w2.leaf = true) (f1 : ∀ K n, Frz K n w1 w1) (f2 : ∀ K n, Frz K n w2 w2) (prot : Nat) (H : Heap) (hp : prot ≤ H.length) :
    aLim cfg prot 34 [.agg [w1, w2, .int .i64 s, .int .i64 e], .int .i64 now] H = some (.agg [w1, w2, .int .i64 s, .int .i64 (resE s e now)], none) := by
  have hsnap : snap H [.agg [w1, w2, .int .i64 s, .int .i64 e], .int .i64 now] = some ([.agg [w1, w2, .int .i64 s, .int .i64 e], .int .i64 now], false) := rfl
  have n1 := fun (K : Heap) (hK : H.length ≤ K.length) => ractive_ok w1 w2 s e now hv hv2 H.length K hK
  have fz : ∀ (K : Heap) (x : Int), Frz K H.length (packR [.agg [w1, w2, .int .i64 s, .int .i64 x]]) (.agg [w1, w2, .int .i64 s, .int .i64 x]) := fun K x => .agg (.cons (f1 _ _) (.cons (f2 _ _) (.cons (.still rfl) (.cons (.still rfl) .nil))))
  unfold AV.leaf at hv hv2
  have lt1 : ∀ (K : Heap) (A : Blk), K.length < (K ++ [A]).length := fun K A => by simp
  have le2 : ∀ (A B : Blk), H.length ≤ (H ++ [A] ++ [B]).length := fun A B => by simp
  have i1 : ∀ (s' e' x : Int) (B : List AV), hput H.length (H ++ [Blk.cells 0 [w1, w2, .int .i64 s', .int .i64 e']] ++ [Blk.cells 0 B]) H.length 0 3 [.int .i64 x] = some (H ++ [Blk.cells 0 [w1, w2, .int .i64 s', .int .i64 x]] ++ [Blk.cells 0 B]) := fun s' e' x B => by
    rw [hput_eq (cs := [w1, w2, .int .i64 s', .int .i64 e']) (by simp [hget]) (Nat.le_refl _) (by simp) (by simp [AV.leaf])]
    simp [splice]
  have i2 : ∀ (A : Blk) (z : List AV) (B : Blk), z.length = 4 → z.all AV.leaf = true → hput H.length (H ++ [A] ++ [Blk.cells 0 [.nilS, .nilS, .int .i64 0, .int .i64 0]]) (H ++ [B]).length 0 0 z = some (H ++ [A] ++ [Blk.cells 0 z]) := fun A z B hz hl => by
    rw [hput_eq (cs := [.nilS, .nilS, .int .i64 0, .int .i64 0]) (by simp [hget]) (by simp) (by simp [hz]) hl]
    simp [splice, hz]
  have g2 : ∀ (A B : Blk) (z : List AV), hget (H ++ [A] ++ [Blk.cells 0 z]) (H ++ [B]).length 0 = some z := fun A B z => by simp [hget]
  refine pure_slim rfl (by kernel_rfl) Try.func34 s34 hp hsnap (by simp [Try.f34]) fun fr hlen h => ?_
  simp only [Has, Nat.zero_add] at h
  obtain ⟨a0, a1, -⟩ := h
  simp only [Try.f34] at hlen ⊢
  unfold g34
  unfold resE
  cases ha : activeA s e now with
  | false =>
    rw [ha] at n1
    simp only [wk0, wk1, wk2, wk3, wk4, wk5, wk6, aWanted, aYield, Region.wanted, aOp, quiet, loud, aEvals, aParts, aOpt, aBuiltin, rd, win, AV.cells, AV.leaf, aNew, splice, fillA, Nat.reduceEqDiff, Nat.reduceLT, Nat.reduceAdd, Nat.reduceLeDiff, reduceCtorEq, Nat.reduceMul, cfgP, u34, hlen, a0, a1, hv, hv2, lt1, le2, n1, i1, i2, g2]
    exact Fin_pure (l := [.agg [w1, w2, .int .i64 s, .int .i64 e]]) (by simp [wk0, wk1, wk2, wk3, wk4, wk5, wk6, aWanted, aYield, Region.wanted, aOp, quiet, loud, aEvals, aParts, aOpt, aBuiltin, rd, win, AV.cells, AV.leaf, aNew, splice, fillA, Nat.reduceEqDiff, Nat.reduceLT, Nat.reduceAdd, Nat.reduceLeDiff, reduceCtorEq, Nat.reduceMul, cfgP, u34, hlen, aResults, aResult, hget]) (fz _ _) (by simp)
  | true =>
    rw [ha] at n1
    by_cases h1 : now = s
    · subst h1
      have hd : decide (now = now) = true := by simp
      simp only [wk0, wk1, wk2, wk3, wk4, wk5, wk6, aWanted, aYield, Region.wanted, aOp, quiet, loud, aEvals, aParts, aOpt, aBuiltin, rd, win, AV.cells, AV.leaf, aNew, splice, fillA, Nat.reduceEqDiff, Nat.reduceLT, Nat.reduceAdd, Nat.reduceLeDiff, reduceCtorEq, Nat.reduceMul, cfgP, u34, hlen, a0, a1, hv, hv2, lt1, le2, n1, i1, i2, g2, hd]
      exact Fin_pure (l := [.agg [w1, w2, .int .i64 now, .int .i64 (IntKind.i64.wrap (now + 1))]]) (by simp [wk0, wk1, wk2, wk3, wk4, wk5, wk6, aWanted, aYield, Region.wanted, aOp, quiet, loud, aEvals, aParts, aOpt, aBuiltin, rd, win, AV.cells, AV.leaf, aNew, splice, fillA, Nat.reduceEqDiff, Nat.reduceLT, Nat.reduceAdd, Nat.reduceLeDiff, reduceCtorEq, Nat.reduceMul, cfgP, u34, hlen, aResults, aResult, hget]) (fz _ _) (by simp)
    · have hd : decide (now = s) = false := decide_eq_false h1
      simp only [wk0, wk1, wk2, wk3, wk4, wk5, wk6, aWanted, aYield, Region.wanted, aOp, quiet, loud, aEvals, aParts, aOpt, aBuiltin, rd, win, AV.cells, AV.leaf, aNew, splice, fillA, Nat.reduceEqDiff, Nat.reduceLT, Nat.reduceAdd, Nat.reduceLeDiff, reduceCtorEq, Nat.reduceMul, cfgP, u34, hlen, a0, a1, hv, hv2, lt1, le2, n1, i1, i2, g2, hd]
      simp only [if_neg h1]
      exact Fin_pure (l := [.agg [w1, w2, .int .i64 s, .int .i64 now]]) (by simp [wk0, wk1, wk2, wk3, wk4, wk5, wk6, aWanted, aYield, Region.wanted, aOp, quiet, loud, aEvals, aParts, aOpt, aBuiltin, rd, win, AV.cells, AV.leaf, aNew, splice, fillA, Nat.reduceEqDiff, Nat.reduceLT, Nat.reduceAdd, Nat.reduceLeDiff, reduceCtorEq, Nat.reduceMul, cfgP, u34, hlen, aResults, aResult, hget]) (fz _ _) (by simp)

theorem key_ok (l : List Pr) (w1 w2 : AV) (s e : Int) (hv : Sl encP w1 l) (hv2 : w2.leaf = true) (hs : ∀ x ∈ l, Small x) (hl : l.length < 1000) (prot : Nat) (H : Heap) (hp : prot ≤ H.length) :
    aLim cfg prot 37 [.agg [w1, w2, .int .i64 s, .int .i64 e]] H = some (.str (97 :: 47 :: textP l), none) := by
  have hsnap : snap H [.agg [w1, w2, .int .i64 s, .int .i64 e]] = some ([.agg [w1, w2, .int .i64 s, .int .i64 e]], false) := rfl
  have n1 := fun (K : Heap) (hK : H.length ≤ K.length) => setText_ok l w1 hv hs hl H.length K hK
  have hv1 := Sl.leaf hv
  unfold AV.leaf at hv1 hv2
  have hln := textP_len hs hl
  have t1 : aStr .add [97, 47] (textP l) = some (.str (97 :: 47 :: textP l)) := by rw [str_add (by simp only [List.length_cons, List.length_nil]; omega)]; rfl
  refine pure_slim rfl (by kernel_rfl) Try.func37 s37 hp hsnap (by simp [Try.f37]) fun fr hlen h => ?_
  simp only [Has, Nat.zero_add] at h
  obtain ⟨a0, -⟩ := h
  simp only [Try.f37] at hlen ⊢
  unfold g37
  simp only [wk0, wk1, wk2, wk3, wk4, wk5, wk6, aWanted, aYield, Region.wanted, aOp, quiet, loud, aEvals, aParts, aOpt, aBuiltin, rd, win, AV.cells, AV.leaf, aNew, splice, fillA, Nat.reduceEqDiff, Nat.reduceLT, Nat.reduceAdd, Nat.reduceLeDiff, reduceCtorEq, Nat.reduceMul, cfgP, u37, hlen, a0, hv1, hv2, n1, t1]
  exact Fin_pure (l := [.str (97 :: 47 :: textP l)]) (by simp [wk0, wk1, wk2, wk3, wk4, wk5, wk6, aWanted, aYield, Region.wanted, aOp, quiet, loud, aEvals, aParts, aOpt, aBuiltin, rd, win, AV.cells, AV.leaf, aNew, splice, fillA, Nat.reduceEqDiff, Nat.reduceLT, Nat.reduceAdd, Nat.reduceLeDiff, reduceCtorEq, Nat.reduceMul, cfgP, u37, aResults, aResult, hlen]) (.still rfl) (by simp)


theorem alertIs_ok (l n : List Pr) (z1 z2 : AV) (s e now : Int) (h1 : Sl encP z1 l) (h2 : Sl encP z2 n) (hl : l.length ≤ 9223372036854775807) (hn : n.length ≤ 9223372036854775807) (prot : Nat) (H : Heap) (hp : prot ≤ H.length) :
    aLim cfg prot 7 [.agg [z1, z2, .int .i64 s, .int .i64 e], .int .i64 now] H = some (.bool true, none) := by
  have hsnap : snap H [.agg [z1, z2, .int .i64 s, .int .i64 e], .int .i64 now] = some ([.agg [z1, z2, .int .i64 s, .int .i64 e], .int .i64 now], false) := rfl
  have sl := setL_len l
  have sn := setL_len n
  obtain ⟨v1, v2, r1, r2, o1⟩ := ours_ok l n z1 z2 s e h1 h2 hl hn H.length (H ++ [Blk.cells 0 [z1, z2, .int .i64 s, .int .i64 e]]) (by simp)
  have k1 := Sl.leaf h1
  have k2 := Sl.leaf h2
  have k3 := Sl.leaf r1
  have k4 := Sl.leaf r2
  have pl := fun (t : Int) (K : Heap) (hK : H.length ≤ K.length) => plain22_ok (setL l) (setL n) v1 v2 s t r1 r2 (by omega) (by omega) H.length K hK
  have q1 := slv_sl encP (setL l)
  have q2 := slv_sl encP (setL n)
  generalize slv encP (setL l) = x1 at *
  generalize slv encP (setL n) = x2 at *
  have k5 := Sl.leaf q1
  have k6 := Sl.leaf q2
  have rp := fun (K : Heap) (hK : H.length ≤ K.length) => rightG_ok (setL l) v1 v2 s e r1 k4 H.length K hK
  have rr := fun (t : Int) (K : Heap) (hK : H.length ≤ K.length) => right_ok (setL l) x1 x2 s t q1 k6 H.length K hK
  have rv := fun (K : Heap) (hK : H.length ≤ K.length) => resolve_ok v1 v2 s e now k3 k4 (Sl.frz r1) (Sl.frz r2) H.length K hK
  have rv2 := fun (K : Heap) (hK : H.length ≤ K.length) => rresolve_ok x1 x2 s e now k5 k6 (Sl.frz q1) (Sl.frz q2) H.length K hK
  have sm := fun (t : Int) (K : Heap) (hK : H.length ≤ K.length) => asame_ok (setL l) (setL n) x1 x2 x1 x2 s t q1 q2 q1 q2 (by omega) (by omega) H.length K hK
  have ac := fun (K : Heap) (hK : H.length ≤ K.length) => active_ok v1 v2 s e now k3 k4 H.length K hK
  have ac2 := fun (K : Heap) (hK : H.length ≤ K.length) => ractive_ok x1 x2 s e now k5 k6 H.length K hK
  have ky := fun (K : Heap) (hK : H.length ≤ K.length) => key_ok (setL l) v1 v2 s e r1 k4 (setL_small l) (by omega) H.length K hK
  have tx := fun (K : Heap) (hK : H.length ≤ K.length) => rtext_ok (setL l) x1 q1 (setL_small l) (setL_valid l) (by omega) H.length K hK
  have hln := textP_len (setL_small l) (by omega : (setL l).length < 1000)
  have t1 : aStr .add [97, 47] (textP (setL l)) = some (.str (97 :: 47 :: textP (setL l))) := by rw [str_add (by simp only [List.length_cons, List.length_nil]; omega)]; rfl
  have hright : rightA (setL l) s e = true → rightA (setL l) s (resE s e now) = true := by
    intro h
    unfold rightA timeT at h ⊢
    simp only [Bool.and_eq_true, decide_eq_true_eq] at h ⊢
    obtain ⟨b1, ⟨b2, b3⟩, ⟨b4, b5⟩, b6⟩ := h
    unfold resE activeA
    split
    · rename_i ha
      simp only [Bool.and_eq_true, decide_eq_true_eq] at ha
      split
      · rw [wrap64 (by omega) (by omega)]; omega
      · omega
    · omega
  generalize resE s e now = e' at *
  generalize activeA s e now = ab at *
  generalize textP (setL l) = tt at *
  have lf1 : ([v1, v2, .int .i64 s, .int .i64 e] : List AV).all AV.leaf = true := by simp only [List.all_cons, k3, k4, List.all_nil]; rfl
  have lf2 : ([x1, x2, .int .i64 s, .int .i64 e] : List AV).all AV.leaf = true := by simp only [List.all_cons, k5, k6, List.all_nil]; rfl
  have i1 := fun (K : Heap) (hK : H.length ≤ K.length) (B : Blk) => hput_mid H.length K hK [v1, v2, .int .i64 s, .int .i64 e] [.nilS, .nilS, .int .i64 0, .int .i64 0] B rfl lf1
  have i2 := fun (K : Heap) (hK : H.length ≤ K.length) (B B' : Blk) => hput_last H.length K hK [x1, x2, .int .i64 s, .int .i64 e] [.nilS, .nilS, .int .i64 0, .int .i64 0] B B' rfl lf2
  have g0 : ∀ (K : Heap) (B B' : Blk) (cs : List AV), hget (K ++ [B'] ++ [Blk.cells 0 cs]) (K ++ [B]).length 0 = some cs := fun K B B' cs => by simp [hget]
  have g1 : ∀ (K : Heap) (B B' M : Blk) (cs : List AV), hget (K ++ [B'] ++ [Blk.cells 0 cs] ++ [M]) (K ++ [B]).length 0 = some cs := fun K B B' M cs => by simp [hget]
  have eb : ∀ x : Bool, (x == x) = true := fun x => by cases x <;> rfl
  have es : ∀ x : List UInt8, aStr .eql x x = some (.bool true) := fun x => by simp [aStr]
  have d0 : decide ((0 : Int) = 0) = true := rfl
  have d1 : decide ((1 : Int) = 0) = false := rfl
  have d2 : decide ((0 : Int) ≠ 0) = false := rfl
  have d3 : decide ((1 : Int) ≠ 0) = true := rfl
  have d4 : decide ((1 : Int) ≠ 1) = false := rfl
  unfold AV.leaf at k1 k2 k3 k4 k5 k6
  have rr0 := rr e
  have rr1 := rr e'
  refine pure_slim rfl (by kernel_rfl) Try.func7 s7 hp hsnap (by simp [Try.f7]) fun fr hlen h => ?_
  simp only [Has, Nat.zero_add] at h
  obtain ⟨a0, a1, -⟩ := h
  simp only [Try.f7] at hlen ⊢
  unfold g7
  cases hr : rightA (setL l) s e with
  | false =>
    rw [hr] at rp rr0
    simp only [Bool.false_eq_true, if_false] at rp
    simp only [wk0, wk1, wk2, wk3, wk4, wk5, wk6, aWanted, aYield, Region.wanted, aOp, quiet, loud, aEvals, aParts, aOpt, aBuiltin, rd, win, AV.cells, AV.leaf, aNew, splice, fillA, Nat.reduceEqDiff, Nat.reduceLT, Nat.reduceAdd, Nat.reduceLeDiff, reduceCtorEq, Nat.reduceMul, cfgP, u7, hlen, a0, a1, k1, k2, k3, k4, k5, k6, o1, i1, i2, g0, g1, rp, rr0, rv, rv2, pl, sm, ac, ac2, ky, tx, t1, eb, es, d0, d1, d2, d3, d4, aawake_ok, none_beq, lts1, lts2, lts3, lts4, lts5, les2, les3, les4, les5]
    exact Fin_pure (l := [.bool true]) (by simp [wk0, wk1, wk2, wk3, wk4, wk5, wk6, aWanted, aYield, Region.wanted, aOp, quiet, loud, aEvals, aParts, aOpt, aBuiltin, rd, win, AV.cells, AV.leaf, aNew, splice, fillA, Nat.reduceEqDiff, Nat.reduceLT, Nat.reduceAdd, Nat.reduceLeDiff, reduceCtorEq, Nat.reduceMul, cfgP, u7, aResults, aResult, hlen]) (.still rfl) (by simp)
  | true =>
    rw [hr] at rp rr0
    rw [hright hr] at rr1
    simp only [if_true] at rp
    simp only [wk0, wk1, wk2, wk3, wk4, wk5, wk6, aWanted, aYield, Region.wanted, aOp, quiet, loud, aEvals, aParts, aOpt, aBuiltin, rd, win, AV.cells, AV.leaf, aNew, splice, fillA, Nat.reduceEqDiff, Nat.reduceLT, Nat.reduceAdd, Nat.reduceLeDiff, reduceCtorEq, Nat.reduceMul, cfgP, u7, hlen, a0, a1, k1, k2, k3, k4, k5, k6, o1, i1, i2, g0, g1, rp, rr0, rr1, rv, rv2, pl, sm, ac, ac2, ky, tx, t1, eb, es, d0, d1, d2, d3, d4, aawake_ok, none_beq, lts1, lts2, lts3, lts4, lts5, les2, les3, les4, les5]
    exact Fin_pure (l := [.bool true]) (by simp [wk0, wk1, wk2, wk3, wk4, wk5, wk6, aWanted, aYield, Region.wanted, aOp, quiet, loud, aEvals, aParts, aOpt, aBuiltin, rd, win, AV.cells, AV.leaf, aNew, splice, fillA, Nat.reduceEqDiff, Nat.reduceLT, Nat.reduceAdd, Nat.reduceLeDiff, reduceCtorEq, Nat.reduceMul, cfgP, u7, aResults, aResult, hlen]) (.still rfl) (by simp)
end Go.Proofs.Ytjhgmoaabflbfaa
