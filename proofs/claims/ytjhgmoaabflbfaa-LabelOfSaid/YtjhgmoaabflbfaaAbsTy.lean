import Derived.Test.YtjhgmoaabflbfaaAbsSeat
import Derived.Test.YtjhgmoaabflbfaaAbsWalk
/-! Closed facts of the seat's types. -/
namespace Go.Proofs.Ytjhgmoaabflbfaa.Ty
open Go Go.Abs Go.Proofs

theorem ag0 : isAggT Try.prog 0 = some false := by kernel_rfl
theorem sz0 : sizeT Try.prog 0 = some 1 := by kernel_rfl
theorem by0 : bytesT Try.prog 0 = some 0 := by kernel_rfl
theorem ag1 : isAggT Try.prog 1 = some false := by kernel_rfl
theorem sz1 : sizeT Try.prog 1 = some 1 := by kernel_rfl
theorem by1 : bytesT Try.prog 1 = some 8 := by kernel_rfl
theorem ze1 : zeroT Try.prog 1 = some (.nilF) := by kernel_rfl
theorem ag2 : isAggT Try.prog 2 = some false := by kernel_rfl
theorem sz2 : sizeT Try.prog 2 = some 1 := by kernel_rfl
theorem by2 : bytesT Try.prog 2 = some 8 := by kernel_rfl
theorem ze2 : zeroT Try.prog 2 = some (.int .i64 0) := by kernel_rfl
theorem ag3 : isAggT Try.prog 3 = some false := by kernel_rfl
theorem sz3 : sizeT Try.prog 3 = some 1 := by kernel_rfl
theorem by3 : bytesT Try.prog 3 = some 8 := by kernel_rfl
theorem ze3 : zeroT Try.prog 3 = some (.int .i64 0) := by kernel_rfl
theorem ag4 : isAggT Try.prog 4 = some false := by kernel_rfl
theorem sz4 : sizeT Try.prog 4 = some 1 := by kernel_rfl
theorem by4 : bytesT Try.prog 4 = some 1 := by kernel_rfl
theorem ze4 : zeroT Try.prog 4 = some (.bool false) := by kernel_rfl
theorem ag5 : isAggT Try.prog 5 = some false := by kernel_rfl
theorem sz5 : sizeT Try.prog 5 = some 1 := by kernel_rfl
theorem by5 : bytesT Try.prog 5 = some 1 := by kernel_rfl
theorem ze5 : zeroT Try.prog 5 = some (.int .u8 0) := by kernel_rfl
theorem ag6 : isAggT Try.prog 6 = some false := by kernel_rfl
theorem sz6 : sizeT Try.prog 6 = some 1 := by kernel_rfl
theorem by6 : bytesT Try.prog 6 = some 1 := by kernel_rfl
theorem ze6 : zeroT Try.prog 6 = some (.int .u8 0) := by kernel_rfl
theorem ag7 : isAggT Try.prog 7 = some true := by kernel_rfl
theorem sz7 : sizeT Try.prog 7 = some 4 := by kernel_rfl
theorem by7 : bytesT Try.prog 7 = some 24 := by kernel_rfl
theorem ze7 : zeroT Try.prog 7 = some (.agg [.int .i64 0, .int .i64 0, .bool false, .int .u8 0]) := by kernel_rfl
theorem fa7_0 (a : AV) : aFieldAddr Try.prog 7 0 a = fieldOff 0 a := by cases a <;> kernel_rfl
theorem fd7_0 (a : AV) : aField Try.prog 7 0 a = fieldVal Try.prog 2 0 a := by cases a <;> kernel_rfl
theorem fa7_1 (a : AV) : aFieldAddr Try.prog 7 1 a = fieldOff 1 a := by cases a <;> kernel_rfl
theorem fd7_1 (a : AV) : aField Try.prog 7 1 a = fieldVal Try.prog 3 1 a := by cases a <;> kernel_rfl
theorem fa7_2 (a : AV) : aFieldAddr Try.prog 7 2 a = fieldOff 2 a := by cases a <;> kernel_rfl
theorem fd7_2 (a : AV) : aField Try.prog 7 2 a = fieldVal Try.prog 4 2 a := by cases a <;> kernel_rfl
theorem fa7_3 (a : AV) : aFieldAddr Try.prog 7 3 a = fieldOff 3 a := by cases a <;> kernel_rfl
theorem fd7_3 (a : AV) : aField Try.prog 7 3 a = fieldVal Try.prog 6 3 a := by cases a <;> kernel_rfl
theorem bu7 (ps : List (Nat × AV)) : aBuild Try.prog 7 ps = (fillA (fun i => [(0, 1), (1, 1), (2, 1), (3, 1)][i]?) (AV.cells (.agg [.int .i64 0, .int .i64 0, .bool false, .int .u8 0])) ps).map .agg := by kernel_rfl
theorem ag8 : isAggT Try.prog 8 = some true := by kernel_rfl
theorem sz8 : sizeT Try.prog 8 = some 4 := by kernel_rfl
theorem by8 : bytesT Try.prog 8 = some 24 := by kernel_rfl
theorem ze8 : zeroT Try.prog 8 = some (.agg [.int .i64 0, .int .i64 0, .bool false, .int .u8 0]) := by kernel_rfl
theorem fa8_0 (a : AV) : aFieldAddr Try.prog 8 0 a = fieldOff 0 a := by cases a <;> kernel_rfl
theorem fd8_0 (a : AV) : aField Try.prog 8 0 a = fieldVal Try.prog 2 0 a := by cases a <;> kernel_rfl
theorem fa8_1 (a : AV) : aFieldAddr Try.prog 8 1 a = fieldOff 1 a := by cases a <;> kernel_rfl
theorem fd8_1 (a : AV) : aField Try.prog 8 1 a = fieldVal Try.prog 3 1 a := by cases a <;> kernel_rfl
theorem fa8_2 (a : AV) : aFieldAddr Try.prog 8 2 a = fieldOff 2 a := by cases a <;> kernel_rfl
theorem fd8_2 (a : AV) : aField Try.prog 8 2 a = fieldVal Try.prog 4 2 a := by cases a <;> kernel_rfl
theorem fa8_3 (a : AV) : aFieldAddr Try.prog 8 3 a = fieldOff 3 a := by cases a <;> kernel_rfl
theorem fd8_3 (a : AV) : aField Try.prog 8 3 a = fieldVal Try.prog 6 3 a := by cases a <;> kernel_rfl
theorem bu8 (ps : List (Nat × AV)) : aBuild Try.prog 8 ps = (fillA (fun i => [(0, 1), (1, 1), (2, 1), (3, 1)][i]?) (AV.cells (.agg [.int .i64 0, .int .i64 0, .bool false, .int .u8 0])) ps).map .agg := by kernel_rfl
theorem ag9 : isAggT Try.prog 9 = some false := by kernel_rfl
theorem sz9 : sizeT Try.prog 9 = some 1 := by kernel_rfl
theorem by9 : bytesT Try.prog 9 = some 16 := by kernel_rfl
theorem ze9 : zeroT Try.prog 9 = some (.str []) := by kernel_rfl
theorem ag10 : isAggT Try.prog 10 = some false := by kernel_rfl
theorem sz10 : sizeT Try.prog 10 = some 1 := by kernel_rfl
theorem by10 : bytesT Try.prog 10 = some 16 := by kernel_rfl
theorem ze10 : zeroT Try.prog 10 = some (.str []) := by kernel_rfl
theorem ag11 : isAggT Try.prog 11 = some false := by kernel_rfl
theorem sz11 : sizeT Try.prog 11 = some 1 := by kernel_rfl
theorem by11 : bytesT Try.prog 11 = some 16 := by kernel_rfl
theorem ze11 : zeroT Try.prog 11 = some (.str []) := by kernel_rfl
theorem ag12 : isAggT Try.prog 12 = some false := by kernel_rfl
theorem sz12 : sizeT Try.prog 12 = some 1 := by kernel_rfl
theorem by12 : bytesT Try.prog 12 = some 8 := by kernel_rfl
theorem ze12 : zeroT Try.prog 12 = some (.int .u64 0) := by kernel_rfl
theorem ag13 : isAggT Try.prog 13 = some true := by kernel_rfl
theorem sz13 : sizeT Try.prog 13 = some 2 := by kernel_rfl
theorem by13 : bytesT Try.prog 13 = some 24 := by kernel_rfl
theorem ze13 : zeroT Try.prog 13 = some (.agg [.str [], .int .u64 0]) := by kernel_rfl
theorem fa13_0 (a : AV) : aFieldAddr Try.prog 13 0 a = fieldOff 0 a := by cases a <;> kernel_rfl
theorem fd13_0 (a : AV) : aField Try.prog 13 0 a = fieldVal Try.prog 9 0 a := by cases a <;> kernel_rfl
theorem fa13_1 (a : AV) : aFieldAddr Try.prog 13 1 a = fieldOff 1 a := by cases a <;> kernel_rfl
theorem fd13_1 (a : AV) : aField Try.prog 13 1 a = fieldVal Try.prog 12 1 a := by cases a <;> kernel_rfl
theorem bu13 (ps : List (Nat × AV)) : aBuild Try.prog 13 ps = (fillA (fun i => [(0, 1), (1, 1)][i]?) (AV.cells (.agg [.str [], .int .u64 0])) ps).map .agg := by kernel_rfl
theorem ag14 : isAggT Try.prog 14 = some true := by kernel_rfl
theorem sz14 : sizeT Try.prog 14 = some 2 := by kernel_rfl
theorem by14 : bytesT Try.prog 14 = some 24 := by kernel_rfl
theorem ze14 : zeroT Try.prog 14 = some (.agg [.str [], .int .u64 0]) := by kernel_rfl
theorem fa14_0 (a : AV) : aFieldAddr Try.prog 14 0 a = fieldOff 0 a := by cases a <;> kernel_rfl
theorem fd14_0 (a : AV) : aField Try.prog 14 0 a = fieldVal Try.prog 9 0 a := by cases a <;> kernel_rfl
theorem fa14_1 (a : AV) : aFieldAddr Try.prog 14 1 a = fieldOff 1 a := by cases a <;> kernel_rfl
theorem fd14_1 (a : AV) : aField Try.prog 14 1 a = fieldVal Try.prog 12 1 a := by cases a <;> kernel_rfl
theorem bu14 (ps : List (Nat × AV)) : aBuild Try.prog 14 ps = (fillA (fun i => [(0, 1), (1, 1)][i]?) (AV.cells (.agg [.str [], .int .u64 0])) ps).map .agg := by kernel_rfl
theorem ag15 : isAggT Try.prog 15 = some false := by kernel_rfl
theorem sz15 : sizeT Try.prog 15 = some 1 := by kernel_rfl
theorem by15 : bytesT Try.prog 15 = some 8 := by kernel_rfl
theorem ze15 : zeroT Try.prog 15 = some (.nil) := by kernel_rfl
theorem ag16 : isAggT Try.prog 16 = some false := by kernel_rfl
theorem sz16 : sizeT Try.prog 16 = some 1 := by kernel_rfl
theorem by16 : bytesT Try.prog 16 = some 8 := by kernel_rfl
theorem ze16 : zeroT Try.prog 16 = some (.nil) := by kernel_rfl
theorem ag17 : isAggT Try.prog 17 = some false := by kernel_rfl
theorem sz17 : sizeT Try.prog 17 = some 1 := by kernel_rfl
theorem by17 : bytesT Try.prog 17 = some 8 := by kernel_rfl
theorem ze17 : zeroT Try.prog 17 = some (.nil) := by kernel_rfl
theorem ag18 : isAggT Try.prog 18 = some true := by kernel_rfl
theorem sz18 : sizeT Try.prog 18 = some 1 := by kernel_rfl
theorem by18 : bytesT Try.prog 18 = some 8 := by kernel_rfl
theorem ze18 : zeroT Try.prog 18 = some (.agg [.nil]) := by kernel_rfl
theorem fa18_0 (a : AV) : aFieldAddr Try.prog 18 0 a = fieldOff 0 a := by cases a <;> kernel_rfl
theorem fd18_0 (a : AV) : aField Try.prog 18 0 a = fieldVal Try.prog 17 0 a := by cases a <;> kernel_rfl
theorem bu18 (ps : List (Nat × AV)) : aBuild Try.prog 18 ps = (fillA (fun i => [(0, 1)][i]?) (AV.cells (.agg [.nil])) ps).map .agg := by kernel_rfl
theorem ag19 : isAggT Try.prog 19 = some true := by kernel_rfl
theorem sz19 : sizeT Try.prog 19 = some 1 := by kernel_rfl
theorem by19 : bytesT Try.prog 19 = some 8 := by kernel_rfl
theorem ze19 : zeroT Try.prog 19 = some (.agg [.nil]) := by kernel_rfl
theorem fa19_0 (a : AV) : aFieldAddr Try.prog 19 0 a = fieldOff 0 a := by cases a <;> kernel_rfl
theorem fd19_0 (a : AV) : aField Try.prog 19 0 a = fieldVal Try.prog 17 0 a := by cases a <;> kernel_rfl
theorem bu19 (ps : List (Nat × AV)) : aBuild Try.prog 19 ps = (fillA (fun i => [(0, 1)][i]?) (AV.cells (.agg [.nil])) ps).map .agg := by kernel_rfl
theorem ag20 : isAggT Try.prog 20 = some false := by kernel_rfl
theorem sz20 : sizeT Try.prog 20 = some 1 := by kernel_rfl
theorem by20 : bytesT Try.prog 20 = some 16 := by kernel_rfl
theorem ze20 : zeroT Try.prog 20 = some (.nilI) := by kernel_rfl
theorem ag21 : isAggT Try.prog 21 = some false := by kernel_rfl
theorem sz21 : sizeT Try.prog 21 = some 1 := by kernel_rfl
theorem by21 : bytesT Try.prog 21 = some 4 := by kernel_rfl
theorem ze21 : zeroT Try.prog 21 = some (.int .i32 0) := by kernel_rfl
theorem ag22 : isAggT Try.prog 22 = some false := by kernel_rfl
theorem sz22 : sizeT Try.prog 22 = some 1 := by kernel_rfl
theorem by22 : bytesT Try.prog 22 = some 24 := by kernel_rfl
theorem se22 : sliceElem Try.prog 22 = some 68 := by kernel_rfl
theorem ze22 : zeroT Try.prog 22 = some (.nilS) := by kernel_rfl
theorem ag23 : isAggT Try.prog 23 = some true := by kernel_rfl
theorem sz23 : sizeT Try.prog 23 = some 4 := by kernel_rfl
theorem by23 : bytesT Try.prog 23 = some 64 := by kernel_rfl
theorem ze23 : zeroT Try.prog 23 = some (.agg [.nilS, .nilS, .int .i64 0, .int .i64 0]) := by kernel_rfl
theorem fa23_0 (a : AV) : aFieldAddr Try.prog 23 0 a = fieldOff 0 a := by cases a <;> kernel_rfl
theorem fd23_0 (a : AV) : aField Try.prog 23 0 a = fieldVal Try.prog 22 0 a := by cases a <;> kernel_rfl
theorem fa23_1 (a : AV) : aFieldAddr Try.prog 23 1 a = fieldOff 1 a := by cases a <;> kernel_rfl
theorem fd23_1 (a : AV) : aField Try.prog 23 1 a = fieldVal Try.prog 22 1 a := by cases a <;> kernel_rfl
theorem fa23_2 (a : AV) : aFieldAddr Try.prog 23 2 a = fieldOff 2 a := by cases a <;> kernel_rfl
theorem fd23_2 (a : AV) : aField Try.prog 23 2 a = fieldVal Try.prog 2 2 a := by cases a <;> kernel_rfl
theorem fa23_3 (a : AV) : aFieldAddr Try.prog 23 3 a = fieldOff 3 a := by cases a <;> kernel_rfl
theorem fd23_3 (a : AV) : aField Try.prog 23 3 a = fieldVal Try.prog 2 3 a := by cases a <;> kernel_rfl
theorem bu23 (ps : List (Nat × AV)) : aBuild Try.prog 23 ps = (fillA (fun i => [(0, 1), (1, 1), (2, 1), (3, 1)][i]?) (AV.cells (.agg [.nilS, .nilS, .int .i64 0, .int .i64 0])) ps).map .agg := by kernel_rfl
theorem ag24 : isAggT Try.prog 24 = some true := by kernel_rfl
theorem sz24 : sizeT Try.prog 24 = some 4 := by kernel_rfl
theorem by24 : bytesT Try.prog 24 = some 64 := by kernel_rfl
theorem ze24 : zeroT Try.prog 24 = some (.agg [.nilS, .nilS, .int .i64 0, .int .i64 0]) := by kernel_rfl
theorem fa24_0 (a : AV) : aFieldAddr Try.prog 24 0 a = fieldOff 0 a := by cases a <;> kernel_rfl
theorem fd24_0 (a : AV) : aField Try.prog 24 0 a = fieldVal Try.prog 22 0 a := by cases a <;> kernel_rfl
theorem fa24_1 (a : AV) : aFieldAddr Try.prog 24 1 a = fieldOff 1 a := by cases a <;> kernel_rfl
theorem fd24_1 (a : AV) : aField Try.prog 24 1 a = fieldVal Try.prog 22 1 a := by cases a <;> kernel_rfl
theorem fa24_2 (a : AV) : aFieldAddr Try.prog 24 2 a = fieldOff 2 a := by cases a <;> kernel_rfl
theorem fd24_2 (a : AV) : aField Try.prog 24 2 a = fieldVal Try.prog 2 2 a := by cases a <;> kernel_rfl
theorem fa24_3 (a : AV) : aFieldAddr Try.prog 24 3 a = fieldOff 3 a := by cases a <;> kernel_rfl
theorem fd24_3 (a : AV) : aField Try.prog 24 3 a = fieldVal Try.prog 2 3 a := by cases a <;> kernel_rfl
theorem bu24 (ps : List (Nat × AV)) : aBuild Try.prog 24 ps = (fillA (fun i => [(0, 1), (1, 1), (2, 1), (3, 1)][i]?) (AV.cells (.agg [.nilS, .nilS, .int .i64 0, .int .i64 0])) ps).map .agg := by kernel_rfl
theorem ag25 : isAggT Try.prog 25 = some false := by kernel_rfl
theorem sz25 : sizeT Try.prog 25 = some 1 := by kernel_rfl
theorem by25 : bytesT Try.prog 25 = some 24 := by kernel_rfl
theorem se25 : sliceElem Try.prog 25 = some 59 := by kernel_rfl
theorem ze25 : zeroT Try.prog 25 = some (.nilS) := by kernel_rfl
theorem ag26 : isAggT Try.prog 26 = some true := by kernel_rfl
theorem sz26 : sizeT Try.prog 26 = some 1 := by kernel_rfl
theorem by26 : bytesT Try.prog 26 = some 24 := by kernel_rfl
theorem ze26 : zeroT Try.prog 26 = some (.agg [.nilS]) := by kernel_rfl
theorem fa26_0 (a : AV) : aFieldAddr Try.prog 26 0 a = fieldOff 0 a := by cases a <;> kernel_rfl
theorem fd26_0 (a : AV) : aField Try.prog 26 0 a = fieldVal Try.prog 25 0 a := by cases a <;> kernel_rfl
theorem bu26 (ps : List (Nat × AV)) : aBuild Try.prog 26 ps = (fillA (fun i => [(0, 1)][i]?) (AV.cells (.agg [.nilS])) ps).map .agg := by kernel_rfl
theorem ag27 : isAggT Try.prog 27 = some true := by kernel_rfl
theorem sz27 : sizeT Try.prog 27 = some 1 := by kernel_rfl
theorem by27 : bytesT Try.prog 27 = some 24 := by kernel_rfl
theorem ze27 : zeroT Try.prog 27 = some (.agg [.nilS]) := by kernel_rfl
theorem fa27_0 (a : AV) : aFieldAddr Try.prog 27 0 a = fieldOff 0 a := by cases a <;> kernel_rfl
theorem fd27_0 (a : AV) : aField Try.prog 27 0 a = fieldVal Try.prog 25 0 a := by cases a <;> kernel_rfl
theorem bu27 (ps : List (Nat × AV)) : aBuild Try.prog 27 ps = (fillA (fun i => [(0, 1)][i]?) (AV.cells (.agg [.nilS])) ps).map .agg := by kernel_rfl
theorem ag28 : isAggT Try.prog 28 = some true := by kernel_rfl
theorem sz28 : sizeT Try.prog 28 = some 4 := by kernel_rfl
theorem by28 : bytesT Try.prog 28 = some 64 := by kernel_rfl
theorem ze28 : zeroT Try.prog 28 = some (.agg [.nilS, .nilS, .int .i64 0, .int .i64 0]) := by kernel_rfl
theorem fa28_0 (a : AV) : aFieldAddr Try.prog 28 0 a = fieldOff 0 a := by cases a <;> kernel_rfl
theorem fd28_0 (a : AV) : aField Try.prog 28 0 a = fieldVal Try.prog 27 0 a := by cases a <;> kernel_rfl
theorem fa28_1 (a : AV) : aFieldAddr Try.prog 28 1 a = fieldOff 1 a := by cases a <;> kernel_rfl
theorem fd28_1 (a : AV) : aField Try.prog 28 1 a = fieldVal Try.prog 27 1 a := by cases a <;> kernel_rfl
theorem fa28_2 (a : AV) : aFieldAddr Try.prog 28 2 a = fieldOff 2 a := by cases a <;> kernel_rfl
theorem fd28_2 (a : AV) : aField Try.prog 28 2 a = fieldVal Try.prog 2 2 a := by cases a <;> kernel_rfl
theorem fa28_3 (a : AV) : aFieldAddr Try.prog 28 3 a = fieldOff 3 a := by cases a <;> kernel_rfl
theorem fd28_3 (a : AV) : aField Try.prog 28 3 a = fieldVal Try.prog 2 3 a := by cases a <;> kernel_rfl
theorem bu28 (ps : List (Nat × AV)) : aBuild Try.prog 28 ps = (fillA (fun i => [(0, 1), (1, 1), (2, 1), (3, 1)][i]?) (AV.cells (.agg [.nilS, .nilS, .int .i64 0, .int .i64 0])) ps).map .agg := by kernel_rfl
theorem ag29 : isAggT Try.prog 29 = some true := by kernel_rfl
theorem sz29 : sizeT Try.prog 29 = some 4 := by kernel_rfl
theorem by29 : bytesT Try.prog 29 = some 64 := by kernel_rfl
theorem ze29 : zeroT Try.prog 29 = some (.agg [.nilS, .nilS, .int .i64 0, .int .i64 0]) := by kernel_rfl
theorem fa29_0 (a : AV) : aFieldAddr Try.prog 29 0 a = fieldOff 0 a := by cases a <;> kernel_rfl
theorem fd29_0 (a : AV) : aField Try.prog 29 0 a = fieldVal Try.prog 27 0 a := by cases a <;> kernel_rfl
theorem fa29_1 (a : AV) : aFieldAddr Try.prog 29 1 a = fieldOff 1 a := by cases a <;> kernel_rfl
theorem fd29_1 (a : AV) : aField Try.prog 29 1 a = fieldVal Try.prog 27 1 a := by cases a <;> kernel_rfl
theorem fa29_2 (a : AV) : aFieldAddr Try.prog 29 2 a = fieldOff 2 a := by cases a <;> kernel_rfl
theorem fd29_2 (a : AV) : aField Try.prog 29 2 a = fieldVal Try.prog 2 2 a := by cases a <;> kernel_rfl
theorem fa29_3 (a : AV) : aFieldAddr Try.prog 29 3 a = fieldOff 3 a := by cases a <;> kernel_rfl
theorem fd29_3 (a : AV) : aField Try.prog 29 3 a = fieldVal Try.prog 2 3 a := by cases a <;> kernel_rfl
theorem bu29 (ps : List (Nat × AV)) : aBuild Try.prog 29 ps = (fillA (fun i => [(0, 1), (1, 1), (2, 1), (3, 1)][i]?) (AV.cells (.agg [.nilS, .nilS, .int .i64 0, .int .i64 0])) ps).map .agg := by kernel_rfl
theorem ag30 : isAggT Try.prog 30 = some false := by kernel_rfl
theorem sz30 : sizeT Try.prog 30 = some 1 := by kernel_rfl
theorem by30 : bytesT Try.prog 30 = some 0 := by kernel_rfl
theorem ag31 : isAggT Try.prog 31 = some false := by kernel_rfl
theorem sz31 : sizeT Try.prog 31 = some 1 := by kernel_rfl
theorem by31 : bytesT Try.prog 31 = some 8 := by kernel_rfl
theorem ze31 : zeroT Try.prog 31 = some (.nilF) := by kernel_rfl
theorem ag32 : isAggT Try.prog 32 = some false := by kernel_rfl
theorem sz32 : sizeT Try.prog 32 = some 1 := by kernel_rfl
theorem by32 : bytesT Try.prog 32 = some 8 := by kernel_rfl
theorem ze32 : zeroT Try.prog 32 = some (.nilF) := by kernel_rfl
theorem ag33 : isAggT Try.prog 33 = some false := by kernel_rfl
theorem sz33 : sizeT Try.prog 33 = some 1 := by kernel_rfl
theorem by33 : bytesT Try.prog 33 = some 8 := by kernel_rfl
theorem ze33 : zeroT Try.prog 33 = some (.nilF) := by kernel_rfl
theorem ag34 : isAggT Try.prog 34 = some false := by kernel_rfl
theorem sz34 : sizeT Try.prog 34 = some 1 := by kernel_rfl
theorem by34 : bytesT Try.prog 34 = some 8 := by kernel_rfl
theorem ze34 : zeroT Try.prog 34 = some (.nilF) := by kernel_rfl
theorem ag35 : isAggT Try.prog 35 = some false := by kernel_rfl
theorem sz35 : sizeT Try.prog 35 = some 1 := by kernel_rfl
theorem by35 : bytesT Try.prog 35 = some 8 := by kernel_rfl
theorem ze35 : zeroT Try.prog 35 = some (.nilF) := by kernel_rfl
theorem ag36 : isAggT Try.prog 36 = some false := by kernel_rfl
theorem sz36 : sizeT Try.prog 36 = some 1 := by kernel_rfl
theorem by36 : bytesT Try.prog 36 = some 8 := by kernel_rfl
theorem ze36 : zeroT Try.prog 36 = some (.nilF) := by kernel_rfl
theorem ag37 : isAggT Try.prog 37 = some false := by kernel_rfl
theorem sz37 : sizeT Try.prog 37 = some 1 := by kernel_rfl
theorem by37 : bytesT Try.prog 37 = some 8 := by kernel_rfl
theorem ze37 : zeroT Try.prog 37 = some (.nilF) := by kernel_rfl
theorem ag38 : isAggT Try.prog 38 = some false := by kernel_rfl
theorem sz38 : sizeT Try.prog 38 = some 1 := by kernel_rfl
theorem by38 : bytesT Try.prog 38 = some 8 := by kernel_rfl
theorem ze38 : zeroT Try.prog 38 = some (.int .i64 0) := by kernel_rfl
theorem ag39 : isAggT Try.prog 39 = some false := by kernel_rfl
theorem sz39 : sizeT Try.prog 39 = some 1 := by kernel_rfl
theorem by39 : bytesT Try.prog 39 = some 8 := by kernel_rfl
theorem ze39 : zeroT Try.prog 39 = some (.nilF) := by kernel_rfl
theorem ag40 : isAggT Try.prog 40 = some false := by kernel_rfl
theorem sz40 : sizeT Try.prog 40 = some 1 := by kernel_rfl
theorem by40 : bytesT Try.prog 40 = some 0 := by kernel_rfl
theorem ag41 : isAggT Try.prog 41 = some false := by kernel_rfl
theorem sz41 : sizeT Try.prog 41 = some 1 := by kernel_rfl
theorem by41 : bytesT Try.prog 41 = some 8 := by kernel_rfl
theorem ze41 : zeroT Try.prog 41 = some (.nilF) := by kernel_rfl
theorem ag42 : isAggT Try.prog 42 = some false := by kernel_rfl
theorem sz42 : sizeT Try.prog 42 = some 1 := by kernel_rfl
theorem by42 : bytesT Try.prog 42 = some 0 := by kernel_rfl
theorem ag43 : isAggT Try.prog 43 = some false := by kernel_rfl
theorem sz43 : sizeT Try.prog 43 = some 1 := by kernel_rfl
theorem by43 : bytesT Try.prog 43 = some 8 := by kernel_rfl
theorem ze43 : zeroT Try.prog 43 = some (.nilF) := by kernel_rfl
theorem ag44 : isAggT Try.prog 44 = some false := by kernel_rfl
theorem sz44 : sizeT Try.prog 44 = some 1 := by kernel_rfl
theorem by44 : bytesT Try.prog 44 = some 0 := by kernel_rfl
theorem ag45 : isAggT Try.prog 45 = some false := by kernel_rfl
theorem sz45 : sizeT Try.prog 45 = some 1 := by kernel_rfl
theorem by45 : bytesT Try.prog 45 = some 8 := by kernel_rfl
theorem ze45 : zeroT Try.prog 45 = some (.nilF) := by kernel_rfl
theorem ag46 : isAggT Try.prog 46 = some false := by kernel_rfl
theorem sz46 : sizeT Try.prog 46 = some 1 := by kernel_rfl
theorem by46 : bytesT Try.prog 46 = some 8 := by kernel_rfl
theorem ze46 : zeroT Try.prog 46 = some (.nilF) := by kernel_rfl
theorem ag47 : isAggT Try.prog 47 = some false := by kernel_rfl
theorem sz47 : sizeT Try.prog 47 = some 1 := by kernel_rfl
theorem by47 : bytesT Try.prog 47 = some 8 := by kernel_rfl
theorem ze47 : zeroT Try.prog 47 = some (.nilF) := by kernel_rfl
theorem ag48 : isAggT Try.prog 48 = some false := by kernel_rfl
theorem sz48 : sizeT Try.prog 48 = some 1 := by kernel_rfl
theorem by48 : bytesT Try.prog 48 = some 8 := by kernel_rfl
theorem ze48 : zeroT Try.prog 48 = some (.nilF) := by kernel_rfl
theorem ag49 : isAggT Try.prog 49 = some false := by kernel_rfl
theorem sz49 : sizeT Try.prog 49 = some 1 := by kernel_rfl
theorem by49 : bytesT Try.prog 49 = some 8 := by kernel_rfl
theorem ze49 : zeroT Try.prog 49 = some (.nilF) := by kernel_rfl
theorem ag50 : isAggT Try.prog 50 = some false := by kernel_rfl
theorem sz50 : sizeT Try.prog 50 = some 1 := by kernel_rfl
theorem by50 : bytesT Try.prog 50 = some 8 := by kernel_rfl
theorem ze50 : zeroT Try.prog 50 = some (.nilF) := by kernel_rfl
theorem ag51 : isAggT Try.prog 51 = some false := by kernel_rfl
theorem sz51 : sizeT Try.prog 51 = some 1 := by kernel_rfl
theorem by51 : bytesT Try.prog 51 = some 8 := by kernel_rfl
theorem ze51 : zeroT Try.prog 51 = some (.int .u64 0) := by kernel_rfl
theorem ag52 : isAggT Try.prog 52 = some false := by kernel_rfl
theorem sz52 : sizeT Try.prog 52 = some 1 := by kernel_rfl
theorem by52 : bytesT Try.prog 52 = some 8 := by kernel_rfl
theorem ze52 : zeroT Try.prog 52 = some (.nilF) := by kernel_rfl
theorem ag53 : isAggT Try.prog 53 = some false := by kernel_rfl
theorem sz53 : sizeT Try.prog 53 = some 1 := by kernel_rfl
theorem by53 : bytesT Try.prog 53 = some 8 := by kernel_rfl
theorem ze53 : zeroT Try.prog 53 = some (.nilF) := by kernel_rfl
theorem ag54 : isAggT Try.prog 54 = some false := by kernel_rfl
theorem sz54 : sizeT Try.prog 54 = some 1 := by kernel_rfl
theorem by54 : bytesT Try.prog 54 = some 8 := by kernel_rfl
theorem ze54 : zeroT Try.prog 54 = some (.nilF) := by kernel_rfl
theorem ag55 : isAggT Try.prog 55 = some false := by kernel_rfl
theorem sz55 : sizeT Try.prog 55 = some 1 := by kernel_rfl
theorem by55 : bytesT Try.prog 55 = some 8 := by kernel_rfl
theorem ze55 : zeroT Try.prog 55 = some (.nilF) := by kernel_rfl
theorem ag56 : isAggT Try.prog 56 = some false := by kernel_rfl
theorem sz56 : sizeT Try.prog 56 = some 1 := by kernel_rfl
theorem by56 : bytesT Try.prog 56 = some 8 := by kernel_rfl
theorem ze56 : zeroT Try.prog 56 = some (.nilF) := by kernel_rfl
theorem ag57 : isAggT Try.prog 57 = some false := by kernel_rfl
theorem sz57 : sizeT Try.prog 57 = some 1 := by kernel_rfl
theorem by57 : bytesT Try.prog 57 = some 8 := by kernel_rfl
theorem ze57 : zeroT Try.prog 57 = some (.nilF) := by kernel_rfl
theorem ag58 : isAggT Try.prog 58 = some true := by kernel_rfl
theorem sz58 : sizeT Try.prog 58 = some 2 := by kernel_rfl
theorem by58 : bytesT Try.prog 58 = some 32 := by kernel_rfl
theorem ze58 : zeroT Try.prog 58 = some (.agg [.str [], .str []]) := by kernel_rfl
theorem fa58_0 (a : AV) : aFieldAddr Try.prog 58 0 a = fieldOff 0 a := by cases a <;> kernel_rfl
theorem fd58_0 (a : AV) : aField Try.prog 58 0 a = fieldVal Try.prog 9 0 a := by cases a <;> kernel_rfl
theorem fa58_1 (a : AV) : aFieldAddr Try.prog 58 1 a = fieldOff 1 a := by cases a <;> kernel_rfl
theorem fd58_1 (a : AV) : aField Try.prog 58 1 a = fieldVal Try.prog 9 1 a := by cases a <;> kernel_rfl
theorem bu58 (ps : List (Nat × AV)) : aBuild Try.prog 58 ps = (fillA (fun i => [(0, 1), (1, 1)][i]?) (AV.cells (.agg [.str [], .str []])) ps).map .agg := by kernel_rfl
theorem ag59 : isAggT Try.prog 59 = some true := by kernel_rfl
theorem sz59 : sizeT Try.prog 59 = some 2 := by kernel_rfl
theorem by59 : bytesT Try.prog 59 = some 32 := by kernel_rfl
theorem ze59 : zeroT Try.prog 59 = some (.agg [.str [], .str []]) := by kernel_rfl
theorem fa59_0 (a : AV) : aFieldAddr Try.prog 59 0 a = fieldOff 0 a := by cases a <;> kernel_rfl
theorem fd59_0 (a : AV) : aField Try.prog 59 0 a = fieldVal Try.prog 9 0 a := by cases a <;> kernel_rfl
theorem fa59_1 (a : AV) : aFieldAddr Try.prog 59 1 a = fieldOff 1 a := by cases a <;> kernel_rfl
theorem fd59_1 (a : AV) : aField Try.prog 59 1 a = fieldVal Try.prog 9 1 a := by cases a <;> kernel_rfl
theorem bu59 (ps : List (Nat × AV)) : aBuild Try.prog 59 ps = (fillA (fun i => [(0, 1), (1, 1)][i]?) (AV.cells (.agg [.str [], .str []])) ps).map .agg := by kernel_rfl
theorem ag60 : isAggT Try.prog 60 = some false := by kernel_rfl
theorem sz60 : sizeT Try.prog 60 = some 1 := by kernel_rfl
theorem by60 : bytesT Try.prog 60 = some 8 := by kernel_rfl
theorem ze60 : zeroT Try.prog 60 = some (.nilF) := by kernel_rfl
theorem ag61 : isAggT Try.prog 61 = some false := by kernel_rfl
theorem sz61 : sizeT Try.prog 61 = some 1 := by kernel_rfl
theorem by61 : bytesT Try.prog 61 = some 8 := by kernel_rfl
theorem ze61 : zeroT Try.prog 61 = some (.nilF) := by kernel_rfl
theorem ag62 : isAggT Try.prog 62 = some false := by kernel_rfl
theorem sz62 : sizeT Try.prog 62 = some 1 := by kernel_rfl
theorem by62 : bytesT Try.prog 62 = some 8 := by kernel_rfl
theorem ze62 : zeroT Try.prog 62 = some (.nilF) := by kernel_rfl
theorem ag63 : isAggT Try.prog 63 = some false := by kernel_rfl
theorem sz63 : sizeT Try.prog 63 = some 1 := by kernel_rfl
theorem by63 : bytesT Try.prog 63 = some 8 := by kernel_rfl
theorem ze63 : zeroT Try.prog 63 = some (.nilF) := by kernel_rfl
theorem ag64 : isAggT Try.prog 64 = some false := by kernel_rfl
theorem sz64 : sizeT Try.prog 64 = some 1 := by kernel_rfl
theorem by64 : bytesT Try.prog 64 = some 8 := by kernel_rfl
theorem ze64 : zeroT Try.prog 64 = some (.nilF) := by kernel_rfl
theorem ag65 : isAggT Try.prog 65 = some false := by kernel_rfl
theorem sz65 : sizeT Try.prog 65 = some 1 := by kernel_rfl
theorem by65 : bytesT Try.prog 65 = some 8 := by kernel_rfl
theorem ze65 : zeroT Try.prog 65 = some (.nilF) := by kernel_rfl
theorem ag66 : isAggT Try.prog 66 = some false := by kernel_rfl
theorem sz66 : sizeT Try.prog 66 = some 1 := by kernel_rfl
theorem by66 : bytesT Try.prog 66 = some 8 := by kernel_rfl
theorem ze66 : zeroT Try.prog 66 = some (.nilF) := by kernel_rfl
theorem ag67 : isAggT Try.prog 67 = some false := by kernel_rfl
theorem sz67 : sizeT Try.prog 67 = some 1 := by kernel_rfl
theorem by67 : bytesT Try.prog 67 = some 24 := by kernel_rfl
theorem se67 : sliceElem Try.prog 67 = some 9 := by kernel_rfl
theorem ze67 : zeroT Try.prog 67 = some (.nilS) := by kernel_rfl
theorem ag68 : isAggT Try.prog 68 = some true := by kernel_rfl
theorem sz68 : sizeT Try.prog 68 = some 2 := by kernel_rfl
theorem by68 : bytesT Try.prog 68 = some 32 := by kernel_rfl
theorem ze68 : zeroT Try.prog 68 = some (.agg [.str [], .str []]) := by kernel_rfl
theorem fa68_0 (a : AV) : aFieldAddr Try.prog 68 0 a = fieldOff 0 a := by cases a <;> kernel_rfl
theorem fd68_0 (a : AV) : aField Try.prog 68 0 a = fieldVal Try.prog 9 0 a := by cases a <;> kernel_rfl
theorem fa68_1 (a : AV) : aFieldAddr Try.prog 68 1 a = fieldOff 1 a := by cases a <;> kernel_rfl
theorem fd68_1 (a : AV) : aField Try.prog 68 1 a = fieldVal Try.prog 9 1 a := by cases a <;> kernel_rfl
theorem bu68 (ps : List (Nat × AV)) : aBuild Try.prog 68 ps = (fillA (fun i => [(0, 1), (1, 1)][i]?) (AV.cells (.agg [.str [], .str []])) ps).map .agg := by kernel_rfl
theorem ag69 : isAggT Try.prog 69 = some false := by kernel_rfl
theorem sz69 : sizeT Try.prog 69 = some 1 := by kernel_rfl
theorem by69 : bytesT Try.prog 69 = some 8 := by kernel_rfl
theorem ze69 : zeroT Try.prog 69 = some (.nilF) := by kernel_rfl
theorem ag70 : isAggT Try.prog 70 = some false := by kernel_rfl
theorem sz70 : sizeT Try.prog 70 = some 1 := by kernel_rfl
theorem by70 : bytesT Try.prog 70 = some 8 := by kernel_rfl
theorem ze70 : zeroT Try.prog 70 = some (.nilF) := by kernel_rfl
theorem ag71 : isAggT Try.prog 71 = some false := by kernel_rfl
theorem sz71 : sizeT Try.prog 71 = some 1 := by kernel_rfl
theorem by71 : bytesT Try.prog 71 = some 8 := by kernel_rfl
theorem ze71 : zeroT Try.prog 71 = some (.nilF) := by kernel_rfl
theorem ag72 : isAggT Try.prog 72 = some false := by kernel_rfl
theorem sz72 : sizeT Try.prog 72 = some 1 := by kernel_rfl
theorem by72 : bytesT Try.prog 72 = some 8 := by kernel_rfl
theorem ze72 : zeroT Try.prog 72 = some (.nilF) := by kernel_rfl
theorem ag73 : isAggT Try.prog 73 = some false := by kernel_rfl
theorem sz73 : sizeT Try.prog 73 = some 1 := by kernel_rfl
theorem by73 : bytesT Try.prog 73 = some 8 := by kernel_rfl
theorem ze73 : zeroT Try.prog 73 = some (.nilF) := by kernel_rfl
theorem ag74 : isAggT Try.prog 74 = some false := by kernel_rfl
theorem sz74 : sizeT Try.prog 74 = some 1 := by kernel_rfl
theorem by74 : bytesT Try.prog 74 = some 8 := by kernel_rfl
theorem ze74 : zeroT Try.prog 74 = some (.nilF) := by kernel_rfl
theorem ag75 : isAggT Try.prog 75 = some false := by kernel_rfl
theorem sz75 : sizeT Try.prog 75 = some 1 := by kernel_rfl
theorem by75 : bytesT Try.prog 75 = some 8 := by kernel_rfl
theorem ze75 : zeroT Try.prog 75 = some (.nilF) := by kernel_rfl
theorem ag76 : isAggT Try.prog 76 = some false := by kernel_rfl
theorem sz76 : sizeT Try.prog 76 = some 1 := by kernel_rfl
theorem by76 : bytesT Try.prog 76 = some 8 := by kernel_rfl
theorem ze76 : zeroT Try.prog 76 = some (.nilF) := by kernel_rfl
theorem ag77 : isAggT Try.prog 77 = some false := by kernel_rfl
theorem sz77 : sizeT Try.prog 77 = some 1 := by kernel_rfl
theorem by77 : bytesT Try.prog 77 = some 8 := by kernel_rfl
theorem ze77 : zeroT Try.prog 77 = some (.nilF) := by kernel_rfl
theorem ag78 : isAggT Try.prog 78 = some false := by kernel_rfl
theorem sz78 : sizeT Try.prog 78 = some 1 := by kernel_rfl
theorem by78 : bytesT Try.prog 78 = some 8 := by kernel_rfl
theorem ze78 : zeroT Try.prog 78 = some (.nilF) := by kernel_rfl
theorem ag79 : isAggT Try.prog 79 = some false := by kernel_rfl
theorem sz79 : sizeT Try.prog 79 = some 1 := by kernel_rfl
theorem by79 : bytesT Try.prog 79 = some 8 := by kernel_rfl
theorem ze79 : zeroT Try.prog 79 = some (.nil) := by kernel_rfl
theorem ag80 : isAggT Try.prog 80 = some false := by kernel_rfl
theorem sz80 : sizeT Try.prog 80 = some 1 := by kernel_rfl
theorem by80 : bytesT Try.prog 80 = some 24 := by kernel_rfl
theorem se80 : sliceElem Try.prog 80 = some 5 := by kernel_rfl
theorem ze80 : zeroT Try.prog 80 = some (.nilS) := by kernel_rfl
theorem ag81 : isAggT Try.prog 81 = some true := by kernel_rfl
theorem sz81 : sizeT Try.prog 81 = some 2 := by kernel_rfl
theorem by81 : bytesT Try.prog 81 = some 32 := by kernel_rfl
theorem ze81 : zeroT Try.prog 81 = some (.agg [.nil, .nilS]) := by kernel_rfl
theorem fa81_0 (a : AV) : aFieldAddr Try.prog 81 0 a = fieldOff 0 a := by cases a <;> kernel_rfl
theorem fd81_0 (a : AV) : aField Try.prog 81 0 a = fieldVal Try.prog 79 0 a := by cases a <;> kernel_rfl
theorem fa81_1 (a : AV) : aFieldAddr Try.prog 81 1 a = fieldOff 1 a := by cases a <;> kernel_rfl
theorem fd81_1 (a : AV) : aField Try.prog 81 1 a = fieldVal Try.prog 80 1 a := by cases a <;> kernel_rfl
theorem bu81 (ps : List (Nat × AV)) : aBuild Try.prog 81 ps = (fillA (fun i => [(0, 1), (1, 1)][i]?) (AV.cells (.agg [.nil, .nilS])) ps).map .agg := by kernel_rfl
theorem ag82 : isAggT Try.prog 82 = some true := by kernel_rfl
theorem sz82 : sizeT Try.prog 82 = some 2 := by kernel_rfl
theorem by82 : bytesT Try.prog 82 = some 32 := by kernel_rfl
theorem ze82 : zeroT Try.prog 82 = some (.agg [.nil, .nilS]) := by kernel_rfl
theorem fa82_0 (a : AV) : aFieldAddr Try.prog 82 0 a = fieldOff 0 a := by cases a <;> kernel_rfl
theorem fd82_0 (a : AV) : aField Try.prog 82 0 a = fieldVal Try.prog 79 0 a := by cases a <;> kernel_rfl
theorem fa82_1 (a : AV) : aFieldAddr Try.prog 82 1 a = fieldOff 1 a := by cases a <;> kernel_rfl
theorem fd82_1 (a : AV) : aField Try.prog 82 1 a = fieldVal Try.prog 80 1 a := by cases a <;> kernel_rfl
theorem bu82 (ps : List (Nat × AV)) : aBuild Try.prog 82 ps = (fillA (fun i => [(0, 1), (1, 1)][i]?) (AV.cells (.agg [.nil, .nilS])) ps).map .agg := by kernel_rfl
theorem ag83 : isAggT Try.prog 83 = some false := by kernel_rfl
theorem sz83 : sizeT Try.prog 83 = some 1 := by kernel_rfl
theorem by83 : bytesT Try.prog 83 = some 16 := by kernel_rfl
theorem ze83 : zeroT Try.prog 83 = some (.nilI) := by kernel_rfl
theorem ag84 : isAggT Try.prog 84 = some false := by kernel_rfl
theorem sz84 : sizeT Try.prog 84 = some 1 := by kernel_rfl
theorem by84 : bytesT Try.prog 84 = some 16 := by kernel_rfl
theorem ze84 : zeroT Try.prog 84 = some (.nilI) := by kernel_rfl
theorem ag85 : isAggT Try.prog 85 = some false := by kernel_rfl
theorem sz85 : sizeT Try.prog 85 = some 1 := by kernel_rfl
theorem by85 : bytesT Try.prog 85 = some 8 := by kernel_rfl
theorem ze85 : zeroT Try.prog 85 = some (.nilF) := by kernel_rfl
theorem ag86 : isAggT Try.prog 86 = some false := by kernel_rfl
theorem sz86 : sizeT Try.prog 86 = some 1 := by kernel_rfl
theorem by86 : bytesT Try.prog 86 = some 0 := by kernel_rfl
theorem ag87 : isAggT Try.prog 87 = some false := by kernel_rfl
theorem sz87 : sizeT Try.prog 87 = some 1 := by kernel_rfl
theorem by87 : bytesT Try.prog 87 = some 8 := by kernel_rfl
theorem ze87 : zeroT Try.prog 87 = some (.nilF) := by kernel_rfl
theorem ag88 : isAggT Try.prog 88 = some false := by kernel_rfl
theorem sz88 : sizeT Try.prog 88 = some 1 := by kernel_rfl
theorem by88 : bytesT Try.prog 88 = some 0 := by kernel_rfl
theorem ag89 : isAggT Try.prog 89 = some false := by kernel_rfl
theorem sz89 : sizeT Try.prog 89 = some 1 := by kernel_rfl
theorem by89 : bytesT Try.prog 89 = some 8 := by kernel_rfl
theorem ze89 : zeroT Try.prog 89 = some (.nilF) := by kernel_rfl
theorem ag90 : isAggT Try.prog 90 = some false := by kernel_rfl
theorem sz90 : sizeT Try.prog 90 = some 1 := by kernel_rfl
theorem by90 : bytesT Try.prog 90 = some 8 := by kernel_rfl
theorem ze90 : zeroT Try.prog 90 = some (.nilF) := by kernel_rfl
theorem ag91 : isAggT Try.prog 91 = some false := by kernel_rfl
theorem sz91 : sizeT Try.prog 91 = some 1 := by kernel_rfl
theorem by91 : bytesT Try.prog 91 = some 8 := by kernel_rfl
theorem ze91 : zeroT Try.prog 91 = some (.nilF) := by kernel_rfl
theorem ag92 : isAggT Try.prog 92 = some false := by kernel_rfl
theorem sz92 : sizeT Try.prog 92 = some 1 := by kernel_rfl
theorem by92 : bytesT Try.prog 92 = some 8 := by kernel_rfl
theorem ze92 : zeroT Try.prog 92 = some (.nilF) := by kernel_rfl
theorem ag93 : isAggT Try.prog 93 = some false := by kernel_rfl
theorem sz93 : sizeT Try.prog 93 = some 1 := by kernel_rfl
theorem by93 : bytesT Try.prog 93 = some 8 := by kernel_rfl
theorem ze93 : zeroT Try.prog 93 = some (.nilF) := by kernel_rfl
theorem ag94 : isAggT Try.prog 94 = some false := by kernel_rfl
theorem sz94 : sizeT Try.prog 94 = some 1 := by kernel_rfl
theorem by94 : bytesT Try.prog 94 = some 8 := by kernel_rfl
theorem ze94 : zeroT Try.prog 94 = some (.nilF) := by kernel_rfl
theorem ag95 : isAggT Try.prog 95 = some false := by kernel_rfl
theorem sz95 : sizeT Try.prog 95 = some 1 := by kernel_rfl
theorem by95 : bytesT Try.prog 95 = some 0 := by kernel_rfl
theorem ag96 : isAggT Try.prog 96 = some false := by kernel_rfl
theorem sz96 : sizeT Try.prog 96 = some 1 := by kernel_rfl
theorem by96 : bytesT Try.prog 96 = some 8 := by kernel_rfl
theorem ze96 : zeroT Try.prog 96 = some (.nilF) := by kernel_rfl
theorem ag97 : isAggT Try.prog 97 = some false := by kernel_rfl
theorem sz97 : sizeT Try.prog 97 = some 1 := by kernel_rfl
theorem by97 : bytesT Try.prog 97 = some 8 := by kernel_rfl
theorem ze97 : zeroT Try.prog 97 = some (.nilF) := by kernel_rfl
theorem ag98 : isAggT Try.prog 98 = some false := by kernel_rfl
theorem sz98 : sizeT Try.prog 98 = some 1 := by kernel_rfl
theorem by98 : bytesT Try.prog 98 = some 8 := by kernel_rfl
theorem ze98 : zeroT Try.prog 98 = some (.nilF) := by kernel_rfl
theorem ag99 : isAggT Try.prog 99 = some false := by kernel_rfl
theorem sz99 : sizeT Try.prog 99 = some 1 := by kernel_rfl
theorem by99 : bytesT Try.prog 99 = some 8 := by kernel_rfl
theorem ze99 : zeroT Try.prog 99 = some (.int .u64 0) := by kernel_rfl
theorem ag100 : isAggT Try.prog 100 = some false := by kernel_rfl
theorem sz100 : sizeT Try.prog 100 = some 1 := by kernel_rfl
theorem by100 : bytesT Try.prog 100 = some 8 := by kernel_rfl
theorem ze100 : zeroT Try.prog 100 = some (.nilF) := by kernel_rfl
theorem ag101 : isAggT Try.prog 101 = some false := by kernel_rfl
theorem sz101 : sizeT Try.prog 101 = some 1 := by kernel_rfl
theorem by101 : bytesT Try.prog 101 = some 8 := by kernel_rfl
theorem ze101 : zeroT Try.prog 101 = some (.nilF) := by kernel_rfl
theorem ag102 : isAggT Try.prog 102 = some false := by kernel_rfl
theorem sz102 : sizeT Try.prog 102 = some 1 := by kernel_rfl
theorem by102 : bytesT Try.prog 102 = some 8 := by kernel_rfl
theorem ze102 : zeroT Try.prog 102 = some (.nil) := by kernel_rfl
theorem ag103 : isAggT Try.prog 103 = some false := by kernel_rfl
theorem sz103 : sizeT Try.prog 103 = some 1 := by kernel_rfl
theorem by103 : bytesT Try.prog 103 = some 8 := by kernel_rfl
theorem ze103 : zeroT Try.prog 103 = some (.nilF) := by kernel_rfl
theorem ag104 : isAggT Try.prog 104 = some false := by kernel_rfl
theorem sz104 : sizeT Try.prog 104 = some 1 := by kernel_rfl
theorem by104 : bytesT Try.prog 104 = some 8 := by kernel_rfl
theorem ze104 : zeroT Try.prog 104 = some (.nilF) := by kernel_rfl
theorem ag105 : isAggT Try.prog 105 = some false := by kernel_rfl
theorem sz105 : sizeT Try.prog 105 = some 1 := by kernel_rfl
theorem by105 : bytesT Try.prog 105 = some 0 := by kernel_rfl
theorem ag106 : isAggT Try.prog 106 = some false := by kernel_rfl
theorem sz106 : sizeT Try.prog 106 = some 1 := by kernel_rfl
theorem by106 : bytesT Try.prog 106 = some 8 := by kernel_rfl
theorem ze106 : zeroT Try.prog 106 = some (.nilF) := by kernel_rfl
theorem ag107 : isAggT Try.prog 107 = some false := by kernel_rfl
theorem sz107 : sizeT Try.prog 107 = some 1 := by kernel_rfl
theorem by107 : bytesT Try.prog 107 = some 8 := by kernel_rfl
theorem ze107 : zeroT Try.prog 107 = some (.nilF) := by kernel_rfl
theorem ag108 : isAggT Try.prog 108 = some false := by kernel_rfl
theorem sz108 : sizeT Try.prog 108 = some 1 := by kernel_rfl
theorem by108 : bytesT Try.prog 108 = some 8 := by kernel_rfl
theorem ze108 : zeroT Try.prog 108 = some (.int .i64 0) := by kernel_rfl
theorem ag109 : isAggT Try.prog 109 = some false := by kernel_rfl
theorem sz109 : sizeT Try.prog 109 = some 1 := by kernel_rfl
theorem by109 : bytesT Try.prog 109 = some 0 := by kernel_rfl
theorem ag110 : isAggT Try.prog 110 = some false := by kernel_rfl
theorem sz110 : sizeT Try.prog 110 = some 1 := by kernel_rfl
theorem by110 : bytesT Try.prog 110 = some 8 := by kernel_rfl
theorem ze110 : zeroT Try.prog 110 = some (.nilF) := by kernel_rfl
theorem ag111 : isAggT Try.prog 111 = some false := by kernel_rfl
theorem sz111 : sizeT Try.prog 111 = some 1 := by kernel_rfl
theorem by111 : bytesT Try.prog 111 = some 8 := by kernel_rfl
theorem ze111 : zeroT Try.prog 111 = some (.nilF) := by kernel_rfl
theorem ag112 : isAggT Try.prog 112 = some false := by kernel_rfl
theorem sz112 : sizeT Try.prog 112 = some 1 := by kernel_rfl
theorem by112 : bytesT Try.prog 112 = some 8 := by kernel_rfl
theorem ze112 : zeroT Try.prog 112 = some (.nilF) := by kernel_rfl
theorem ag113 : isAggT Try.prog 113 = some false := by kernel_rfl
theorem sz113 : sizeT Try.prog 113 = some 1 := by kernel_rfl
theorem by113 : bytesT Try.prog 113 = some 0 := by kernel_rfl
theorem ag114 : isAggT Try.prog 114 = some false := by kernel_rfl
theorem sz114 : sizeT Try.prog 114 = some 1 := by kernel_rfl
theorem by114 : bytesT Try.prog 114 = some 8 := by kernel_rfl
theorem ze114 : zeroT Try.prog 114 = some (.nilF) := by kernel_rfl
theorem ag115 : isAggT Try.prog 115 = some false := by kernel_rfl
theorem sz115 : sizeT Try.prog 115 = some 1 := by kernel_rfl
theorem by115 : bytesT Try.prog 115 = some 8 := by kernel_rfl
theorem ze115 : zeroT Try.prog 115 = some (.nilF) := by kernel_rfl
theorem ag116 : isAggT Try.prog 116 = some false := by kernel_rfl
theorem sz116 : sizeT Try.prog 116 = some 1 := by kernel_rfl
theorem by116 : bytesT Try.prog 116 = some 4 := by kernel_rfl
theorem ze116 : zeroT Try.prog 116 = some (.int .u32 0) := by kernel_rfl
theorem ag117 : isAggT Try.prog 117 = some false := by kernel_rfl
theorem sz117 : sizeT Try.prog 117 = some 1 := by kernel_rfl
theorem by117 : bytesT Try.prog 117 = some 8 := by kernel_rfl
theorem ze117 : zeroT Try.prog 117 = some (.nilF) := by kernel_rfl
theorem ag118 : isAggT Try.prog 118 = some false := by kernel_rfl
theorem sz118 : sizeT Try.prog 118 = some 1 := by kernel_rfl
theorem by118 : bytesT Try.prog 118 = some 8 := by kernel_rfl
theorem ze118 : zeroT Try.prog 118 = some (.nilF) := by kernel_rfl
theorem ag119 : isAggT Try.prog 119 = some false := by kernel_rfl
theorem sz119 : sizeT Try.prog 119 = some 1 := by kernel_rfl
theorem by119 : bytesT Try.prog 119 = some 8 := by kernel_rfl
theorem ze119 : zeroT Try.prog 119 = some (.nil) := by kernel_rfl
theorem ag120 : isAggT Try.prog 120 = some false := by kernel_rfl
theorem sz120 : sizeT Try.prog 120 = some 1 := by kernel_rfl
theorem by120 : bytesT Try.prog 120 = some 8 := by kernel_rfl
theorem ze120 : zeroT Try.prog 120 = some (.nilF) := by kernel_rfl
theorem ag121 : isAggT Try.prog 121 = some false := by kernel_rfl
theorem sz121 : sizeT Try.prog 121 = some 1 := by kernel_rfl
theorem by121 : bytesT Try.prog 121 = some 8 := by kernel_rfl
theorem ze121 : zeroT Try.prog 121 = some (.nilF) := by kernel_rfl
theorem ag122 : isAggT Try.prog 122 = some false := by kernel_rfl
theorem sz122 : sizeT Try.prog 122 = some 1 := by kernel_rfl
theorem by122 : bytesT Try.prog 122 = some 8 := by kernel_rfl
theorem ze122 : zeroT Try.prog 122 = some (.nilF) := by kernel_rfl
theorem ag123 : isAggT Try.prog 123 = some false := by kernel_rfl
theorem sz123 : sizeT Try.prog 123 = some 1 := by kernel_rfl
theorem by123 : bytesT Try.prog 123 = some 8 := by kernel_rfl
theorem ze123 : zeroT Try.prog 123 = some (.nilF) := by kernel_rfl
theorem ag124 : isAggT Try.prog 124 = some false := by kernel_rfl
theorem sz124 : sizeT Try.prog 124 = some 1 := by kernel_rfl
theorem by124 : bytesT Try.prog 124 = some 8 := by kernel_rfl
theorem ze124 : zeroT Try.prog 124 = some (.nilF) := by kernel_rfl
theorem ag125 : isAggT Try.prog 125 = some false := by kernel_rfl
theorem sz125 : sizeT Try.prog 125 = some 1 := by kernel_rfl
theorem by125 : bytesT Try.prog 125 = some 8 := by kernel_rfl
theorem ze125 : zeroT Try.prog 125 = some (.int .u64 0) := by kernel_rfl
theorem ag126 : isAggT Try.prog 126 = some false := by kernel_rfl
theorem sz126 : sizeT Try.prog 126 = some 1 := by kernel_rfl
theorem by126 : bytesT Try.prog 126 = some 8 := by kernel_rfl
theorem ze126 : zeroT Try.prog 126 = some (.nilF) := by kernel_rfl
theorem ag127 : isAggT Try.prog 127 = some false := by kernel_rfl
theorem sz127 : sizeT Try.prog 127 = some 1 := by kernel_rfl
theorem by127 : bytesT Try.prog 127 = some 8 := by kernel_rfl
theorem ze127 : zeroT Try.prog 127 = some (.nilF) := by kernel_rfl
theorem ag128 : isAggT Try.prog 128 = some false := by kernel_rfl
theorem sz128 : sizeT Try.prog 128 = some 1 := by kernel_rfl
theorem by128 : bytesT Try.prog 128 = some 8 := by kernel_rfl
theorem ze128 : zeroT Try.prog 128 = some (.nil) := by kernel_rfl
theorem ag129 : isAggT Try.prog 129 = some false := by kernel_rfl
theorem sz129 : sizeT Try.prog 129 = some 1 := by kernel_rfl
theorem by129 : bytesT Try.prog 129 = some 8 := by kernel_rfl
theorem ze129 : zeroT Try.prog 129 = some (.nilF) := by kernel_rfl
theorem ag130 : isAggT Try.prog 130 = some false := by kernel_rfl
theorem sz130 : sizeT Try.prog 130 = some 1 := by kernel_rfl
theorem by130 : bytesT Try.prog 130 = some 8 := by kernel_rfl
theorem ze130 : zeroT Try.prog 130 = some (.nilF) := by kernel_rfl
theorem ag131 : isAggT Try.prog 131 = some false := by kernel_rfl
theorem sz131 : sizeT Try.prog 131 = some 1 := by kernel_rfl
theorem by131 : bytesT Try.prog 131 = some 8 := by kernel_rfl
theorem ze131 : zeroT Try.prog 131 = some (.nilF) := by kernel_rfl
theorem ag132 : isAggT Try.prog 132 = some false := by kernel_rfl
theorem sz132 : sizeT Try.prog 132 = some 1 := by kernel_rfl
theorem by132 : bytesT Try.prog 132 = some 8 := by kernel_rfl
theorem ze132 : zeroT Try.prog 132 = some (.nilF) := by kernel_rfl
theorem ag133 : isAggT Try.prog 133 = some false := by kernel_rfl
theorem sz133 : sizeT Try.prog 133 = some 1 := by kernel_rfl
theorem by133 : bytesT Try.prog 133 = some 8 := by kernel_rfl
theorem ze133 : zeroT Try.prog 133 = some (.nilF) := by kernel_rfl
theorem ag134 : isAggT Try.prog 134 = some true := by kernel_rfl
theorem sz134 : sizeT Try.prog 134 = some 5 := by kernel_rfl
theorem by134 : bytesT Try.prog 134 = some 20 := by kernel_rfl
theorem ze134 : zeroT Try.prog 134 = some (.agg [.int .i32 0, .int .i32 0, .int .i32 0, .int .i32 0, .int .i32 0]) := by kernel_rfl
theorem ag135 : isAggT Try.prog 135 = some false := by kernel_rfl
theorem sz135 : sizeT Try.prog 135 = some 1 := by kernel_rfl
theorem by135 : bytesT Try.prog 135 = some 8 := by kernel_rfl
theorem ze135 : zeroT Try.prog 135 = some (.nil) := by kernel_rfl
theorem ag136 : isAggT Try.prog 136 = some false := by kernel_rfl
theorem sz136 : sizeT Try.prog 136 = some 1 := by kernel_rfl
theorem by136 : bytesT Try.prog 136 = some 8 := by kernel_rfl
theorem ze136 : zeroT Try.prog 136 = some (.nilF) := by kernel_rfl
theorem ag137 : isAggT Try.prog 137 = some false := by kernel_rfl
theorem sz137 : sizeT Try.prog 137 = some 1 := by kernel_rfl
theorem by137 : bytesT Try.prog 137 = some 24 := by kernel_rfl
theorem se137 : sliceElem Try.prog 137 = some 3 := by kernel_rfl
theorem ze137 : zeroT Try.prog 137 = some (.nilS) := by kernel_rfl
theorem ag138 : isAggT Try.prog 138 = some true := by kernel_rfl
theorem sz138 : sizeT Try.prog 138 = some 4 := by kernel_rfl
theorem by138 : bytesT Try.prog 138 = some 40 := by kernel_rfl
theorem ze138 : zeroT Try.prog 138 = some (.agg [.nil, .nil, .nil, .str []]) := by kernel_rfl
theorem fa138_0 (a : AV) : aFieldAddr Try.prog 138 0 a = fieldOff 0 a := by cases a <;> kernel_rfl
theorem fd138_0 (a : AV) : aField Try.prog 138 0 a = fieldVal Try.prog 17 0 a := by cases a <;> kernel_rfl
theorem fa138_1 (a : AV) : aFieldAddr Try.prog 138 1 a = fieldOff 1 a := by cases a <;> kernel_rfl
theorem fd138_1 (a : AV) : aField Try.prog 138 1 a = fieldVal Try.prog 17 1 a := by cases a <;> kernel_rfl
theorem fa138_2 (a : AV) : aFieldAddr Try.prog 138 2 a = fieldOff 2 a := by cases a <;> kernel_rfl
theorem fd138_2 (a : AV) : aField Try.prog 138 2 a = fieldVal Try.prog 17 2 a := by cases a <;> kernel_rfl
theorem fa138_3 (a : AV) : aFieldAddr Try.prog 138 3 a = fieldOff 3 a := by cases a <;> kernel_rfl
theorem fd138_3 (a : AV) : aField Try.prog 138 3 a = fieldVal Try.prog 9 3 a := by cases a <;> kernel_rfl
theorem bu138 (ps : List (Nat × AV)) : aBuild Try.prog 138 ps = (fillA (fun i => [(0, 1), (1, 1), (2, 1), (3, 1)][i]?) (AV.cells (.agg [.nil, .nil, .nil, .str []])) ps).map .agg := by kernel_rfl
theorem ag139 : isAggT Try.prog 139 = some true := by kernel_rfl
theorem sz139 : sizeT Try.prog 139 = some 4 := by kernel_rfl
theorem by139 : bytesT Try.prog 139 = some 40 := by kernel_rfl
theorem ze139 : zeroT Try.prog 139 = some (.agg [.nil, .nil, .nil, .str []]) := by kernel_rfl
theorem fa139_0 (a : AV) : aFieldAddr Try.prog 139 0 a = fieldOff 0 a := by cases a <;> kernel_rfl
theorem fd139_0 (a : AV) : aField Try.prog 139 0 a = fieldVal Try.prog 17 0 a := by cases a <;> kernel_rfl
theorem fa139_1 (a : AV) : aFieldAddr Try.prog 139 1 a = fieldOff 1 a := by cases a <;> kernel_rfl
theorem fd139_1 (a : AV) : aField Try.prog 139 1 a = fieldVal Try.prog 17 1 a := by cases a <;> kernel_rfl
theorem fa139_2 (a : AV) : aFieldAddr Try.prog 139 2 a = fieldOff 2 a := by cases a <;> kernel_rfl
theorem fd139_2 (a : AV) : aField Try.prog 139 2 a = fieldVal Try.prog 17 2 a := by cases a <;> kernel_rfl
theorem fa139_3 (a : AV) : aFieldAddr Try.prog 139 3 a = fieldOff 3 a := by cases a <;> kernel_rfl
theorem fd139_3 (a : AV) : aField Try.prog 139 3 a = fieldVal Try.prog 9 3 a := by cases a <;> kernel_rfl
theorem bu139 (ps : List (Nat × AV)) : aBuild Try.prog 139 ps = (fillA (fun i => [(0, 1), (1, 1), (2, 1), (3, 1)][i]?) (AV.cells (.agg [.nil, .nil, .nil, .str []])) ps).map .agg := by kernel_rfl
theorem ag140 : isAggT Try.prog 140 = some true := by kernel_rfl
theorem sz140 : sizeT Try.prog 140 = some 0 := by kernel_rfl
theorem by140 : bytesT Try.prog 140 = some 0 := by kernel_rfl
theorem ze140 : zeroT Try.prog 140 = some (.agg []) := by kernel_rfl
theorem ag141 : isAggT Try.prog 141 = some true := by kernel_rfl
theorem sz141 : sizeT Try.prog 141 = some 0 := by kernel_rfl
theorem by141 : bytesT Try.prog 141 = some 0 := by kernel_rfl
theorem ze141 : zeroT Try.prog 141 = some (.agg []) := by kernel_rfl
theorem bu141 (ps : List (Nat × AV)) : aBuild Try.prog 141 ps = (fillA (fun i => [(0, 0)][i]?) (AV.cells (.agg [])) ps).map .agg := by kernel_rfl
theorem ag142 : isAggT Try.prog 142 = some true := by kernel_rfl
theorem sz142 : sizeT Try.prog 142 = some 0 := by kernel_rfl
theorem by142 : bytesT Try.prog 142 = some 0 := by kernel_rfl
theorem ze142 : zeroT Try.prog 142 = some (.agg []) := by kernel_rfl
theorem bu142 (ps : List (Nat × AV)) : aBuild Try.prog 142 ps = (fillA (fun i => [(0, 0)][i]?) (AV.cells (.agg [])) ps).map .agg := by kernel_rfl
theorem ag143 : isAggT Try.prog 143 = some false := by kernel_rfl
theorem sz143 : sizeT Try.prog 143 = some 1 := by kernel_rfl
theorem by143 : bytesT Try.prog 143 = some 1 := by kernel_rfl
theorem ze143 : zeroT Try.prog 143 = some (.int .u8 0) := by kernel_rfl
theorem ag144 : isAggT Try.prog 144 = some false := by kernel_rfl
theorem sz144 : sizeT Try.prog 144 = some 1 := by kernel_rfl
theorem by144 : bytesT Try.prog 144 = some 1 := by kernel_rfl
theorem ze144 : zeroT Try.prog 144 = some (.int .u8 0) := by kernel_rfl
theorem ag145 : isAggT Try.prog 145 = some false := by kernel_rfl
theorem sz145 : sizeT Try.prog 145 = some 1 := by kernel_rfl
theorem by145 : bytesT Try.prog 145 = some 8 := by kernel_rfl
theorem ze145 : zeroT Try.prog 145 = some (.nilF) := by kernel_rfl
theorem ag146 : isAggT Try.prog 146 = some false := by kernel_rfl
theorem sz146 : sizeT Try.prog 146 = some 1 := by kernel_rfl
theorem by146 : bytesT Try.prog 146 = some 4 := by kernel_rfl
theorem ze146 : zeroT Try.prog 146 = some (.int .i32 0) := by kernel_rfl
theorem ag147 : isAggT Try.prog 147 = some false := by kernel_rfl
theorem sz147 : sizeT Try.prog 147 = some 1 := by kernel_rfl
theorem by147 : bytesT Try.prog 147 = some 4 := by kernel_rfl
theorem ze147 : zeroT Try.prog 147 = some (.int .i32 0) := by kernel_rfl
theorem ag148 : isAggT Try.prog 148 = some true := by kernel_rfl
theorem sz148 : sizeT Try.prog 148 = some 11 := by kernel_rfl
theorem by148 : bytesT Try.prog 148 = some 48 := by kernel_rfl
theorem ze148 : zeroT Try.prog 148 = some (.agg [.int .u64 0, .int .u64 0, .int .u32 0, .int .u8 0, .int .u8 0, .int .u8 0, .int .u8 0, .nilF, .nil, .int .i32 0, .int .i32 0]) := by kernel_rfl
theorem fa148_0 (a : AV) : aFieldAddr Try.prog 148 0 a = fieldOff 0 a := by cases a <;> kernel_rfl
theorem fd148_0 (a : AV) : aField Try.prog 148 0 a = fieldVal Try.prog 12 0 a := by cases a <;> kernel_rfl
theorem fa148_1 (a : AV) : aFieldAddr Try.prog 148 1 a = fieldOff 1 a := by cases a <;> kernel_rfl
theorem fd148_1 (a : AV) : aField Try.prog 148 1 a = fieldVal Try.prog 12 1 a := by cases a <;> kernel_rfl
theorem fa148_2 (a : AV) : aFieldAddr Try.prog 148 2 a = fieldOff 2 a := by cases a <;> kernel_rfl
theorem fd148_2 (a : AV) : aField Try.prog 148 2 a = fieldVal Try.prog 116 2 a := by cases a <;> kernel_rfl
theorem fa148_3 (a : AV) : aFieldAddr Try.prog 148 3 a = fieldOff 3 a := by cases a <;> kernel_rfl
theorem fd148_3 (a : AV) : aField Try.prog 148 3 a = fieldVal Try.prog 143 3 a := by cases a <;> kernel_rfl
theorem fa148_4 (a : AV) : aFieldAddr Try.prog 148 4 a = fieldOff 4 a := by cases a <;> kernel_rfl
theorem fd148_4 (a : AV) : aField Try.prog 148 4 a = fieldVal Try.prog 5 4 a := by cases a <;> kernel_rfl
theorem fa148_5 (a : AV) : aFieldAddr Try.prog 148 5 a = fieldOff 5 a := by cases a <;> kernel_rfl
theorem fd148_5 (a : AV) : aField Try.prog 148 5 a = fieldVal Try.prog 5 5 a := by cases a <;> kernel_rfl
theorem fa148_6 (a : AV) : aFieldAddr Try.prog 148 6 a = fieldOff 6 a := by cases a <;> kernel_rfl
theorem fd148_6 (a : AV) : aField Try.prog 148 6 a = fieldVal Try.prog 144 6 a := by cases a <;> kernel_rfl
theorem fa148_7 (a : AV) : aFieldAddr Try.prog 148 7 a = fieldOff 7 a := by cases a <;> kernel_rfl
theorem fd148_7 (a : AV) : aField Try.prog 148 7 a = fieldVal Try.prog 145 7 a := by cases a <;> kernel_rfl
theorem fa148_8 (a : AV) : aFieldAddr Try.prog 148 8 a = fieldOff 8 a := by cases a <;> kernel_rfl
theorem fd148_8 (a : AV) : aField Try.prog 148 8 a = fieldVal Try.prog 102 8 a := by cases a <;> kernel_rfl
theorem fa148_9 (a : AV) : aFieldAddr Try.prog 148 9 a = fieldOff 9 a := by cases a <;> kernel_rfl
theorem fd148_9 (a : AV) : aField Try.prog 148 9 a = fieldVal Try.prog 146 9 a := by cases a <;> kernel_rfl
theorem fa148_10 (a : AV) : aFieldAddr Try.prog 148 10 a = fieldOff 10 a := by cases a <;> kernel_rfl
theorem fd148_10 (a : AV) : aField Try.prog 148 10 a = fieldVal Try.prog 147 10 a := by cases a <;> kernel_rfl
theorem bu148 (ps : List (Nat × AV)) : aBuild Try.prog 148 ps = (fillA (fun i => [(0, 1), (1, 1), (2, 1), (3, 1), (4, 1), (5, 1), (6, 1), (7, 1), (8, 1), (9, 1), (10, 1)][i]?) (AV.cells (.agg [.int .u64 0, .int .u64 0, .int .u32 0, .int .u8 0, .int .u8 0, .int .u8 0, .int .u8 0, .nilF, .nil, .int .i32 0, .int .i32 0])) ps).map .agg := by kernel_rfl
theorem ag149 : isAggT Try.prog 149 = some true := by kernel_rfl
theorem sz149 : sizeT Try.prog 149 = some 11 := by kernel_rfl
theorem by149 : bytesT Try.prog 149 = some 48 := by kernel_rfl
theorem ze149 : zeroT Try.prog 149 = some (.agg [.int .u64 0, .int .u64 0, .int .u32 0, .int .u8 0, .int .u8 0, .int .u8 0, .int .u8 0, .nilF, .nil, .int .i32 0, .int .i32 0]) := by kernel_rfl
theorem fa149_0 (a : AV) : aFieldAddr Try.prog 149 0 a = fieldOff 0 a := by cases a <;> kernel_rfl
theorem fd149_0 (a : AV) : aField Try.prog 149 0 a = fieldVal Try.prog 12 0 a := by cases a <;> kernel_rfl
theorem fa149_1 (a : AV) : aFieldAddr Try.prog 149 1 a = fieldOff 1 a := by cases a <;> kernel_rfl
theorem fd149_1 (a : AV) : aField Try.prog 149 1 a = fieldVal Try.prog 12 1 a := by cases a <;> kernel_rfl
theorem fa149_2 (a : AV) : aFieldAddr Try.prog 149 2 a = fieldOff 2 a := by cases a <;> kernel_rfl
theorem fd149_2 (a : AV) : aField Try.prog 149 2 a = fieldVal Try.prog 116 2 a := by cases a <;> kernel_rfl
theorem fa149_3 (a : AV) : aFieldAddr Try.prog 149 3 a = fieldOff 3 a := by cases a <;> kernel_rfl
theorem fd149_3 (a : AV) : aField Try.prog 149 3 a = fieldVal Try.prog 143 3 a := by cases a <;> kernel_rfl
theorem fa149_4 (a : AV) : aFieldAddr Try.prog 149 4 a = fieldOff 4 a := by cases a <;> kernel_rfl
theorem fd149_4 (a : AV) : aField Try.prog 149 4 a = fieldVal Try.prog 5 4 a := by cases a <;> kernel_rfl
theorem fa149_5 (a : AV) : aFieldAddr Try.prog 149 5 a = fieldOff 5 a := by cases a <;> kernel_rfl
theorem fd149_5 (a : AV) : aField Try.prog 149 5 a = fieldVal Try.prog 5 5 a := by cases a <;> kernel_rfl
theorem fa149_6 (a : AV) : aFieldAddr Try.prog 149 6 a = fieldOff 6 a := by cases a <;> kernel_rfl
theorem fd149_6 (a : AV) : aField Try.prog 149 6 a = fieldVal Try.prog 144 6 a := by cases a <;> kernel_rfl
theorem fa149_7 (a : AV) : aFieldAddr Try.prog 149 7 a = fieldOff 7 a := by cases a <;> kernel_rfl
theorem fd149_7 (a : AV) : aField Try.prog 149 7 a = fieldVal Try.prog 145 7 a := by cases a <;> kernel_rfl
theorem fa149_8 (a : AV) : aFieldAddr Try.prog 149 8 a = fieldOff 8 a := by cases a <;> kernel_rfl
theorem fd149_8 (a : AV) : aField Try.prog 149 8 a = fieldVal Try.prog 102 8 a := by cases a <;> kernel_rfl
theorem fa149_9 (a : AV) : aFieldAddr Try.prog 149 9 a = fieldOff 9 a := by cases a <;> kernel_rfl
theorem fd149_9 (a : AV) : aField Try.prog 149 9 a = fieldVal Try.prog 146 9 a := by cases a <;> kernel_rfl
theorem fa149_10 (a : AV) : aFieldAddr Try.prog 149 10 a = fieldOff 10 a := by cases a <;> kernel_rfl
theorem fd149_10 (a : AV) : aField Try.prog 149 10 a = fieldVal Try.prog 147 10 a := by cases a <;> kernel_rfl
theorem bu149 (ps : List (Nat × AV)) : aBuild Try.prog 149 ps = (fillA (fun i => [(0, 1), (1, 1), (2, 1), (3, 1), (4, 1), (5, 1), (6, 1), (7, 1), (8, 1), (9, 1), (10, 1)][i]?) (AV.cells (.agg [.int .u64 0, .int .u64 0, .int .u32 0, .int .u8 0, .int .u8 0, .int .u8 0, .int .u8 0, .nilF, .nil, .int .i32 0, .int .i32 0])) ps).map .agg := by kernel_rfl
end Go.Proofs.Ytjhgmoaabflbfaa.Ty
