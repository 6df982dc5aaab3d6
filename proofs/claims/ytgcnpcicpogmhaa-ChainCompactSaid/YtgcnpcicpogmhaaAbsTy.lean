import Derived.Test.YtgcnpcicpogmhaaAbsSeat
import Derived.Test.YtgcnpcicpogmhaaAbsWalk
/-! Closed facts of the seat's types. -/
namespace Go.Proofs.Ytgcnpcicpogmhaa.Ty
open Go Go.Abs Go.Proofs

theorem ag0 : isAggT Try.prog 0 = some false := by kernel_rfl
theorem sz0 : sizeT Try.prog 0 = some 1 := by kernel_rfl
theorem by0 : bytesT Try.prog 0 = some 0 := by kernel_rfl
theorem ag1 : isAggT Try.prog 1 = some false := by kernel_rfl
theorem sz1 : sizeT Try.prog 1 = some 1 := by kernel_rfl
theorem by1 : bytesT Try.prog 1 = some 8 := by kernel_rfl
theorem ze1 : zeroT Try.prog 1 = some (.nilF) := by kernel_rfl
theorem ag2 : isAggT Try.prog 2 = some false := by kernel_rfl
theorem sz2 : sizeT Try.prog 2 = some 1 := by kernel_rfl
theorem by2 : bytesT Try.prog 2 = some 8 := by kernel_rfl
theorem ze2 : zeroT Try.prog 2 = some (.int .i64 0) := by kernel_rfl
theorem ag3 : isAggT Try.prog 3 = some false := by kernel_rfl
theorem sz3 : sizeT Try.prog 3 = some 1 := by kernel_rfl
theorem by3 : bytesT Try.prog 3 = some 8 := by kernel_rfl
theorem ze3 : zeroT Try.prog 3 = some (.int .i64 0) := by kernel_rfl
theorem ag4 : isAggT Try.prog 4 = some false := by kernel_rfl
theorem sz4 : sizeT Try.prog 4 = some 1 := by kernel_rfl
theorem by4 : bytesT Try.prog 4 = some 1 := by kernel_rfl
theorem ze4 : zeroT Try.prog 4 = some (.bool false) := by kernel_rfl
theorem ag5 : isAggT Try.prog 5 = some false := by kernel_rfl
theorem sz5 : sizeT Try.prog 5 = some 1 := by kernel_rfl
theorem by5 : bytesT Try.prog 5 = some 1 := by kernel_rfl
theorem ze5 : zeroT Try.prog 5 = some (.int .u8 0) := by kernel_rfl
theorem ag6 : isAggT Try.prog 6 = some false := by kernel_rfl
theorem sz6 : sizeT Try.prog 6 = some 1 := by kernel_rfl
theorem by6 : bytesT Try.prog 6 = some 1 := by kernel_rfl
theorem ze6 : zeroT Try.prog 6 = some (.int .u8 0) := by kernel_rfl
theorem ag7 : isAggT Try.prog 7 = some true := by kernel_rfl
theorem sz7 : sizeT Try.prog 7 = some 4 := by kernel_rfl
theorem by7 : bytesT Try.prog 7 = some 24 := by kernel_rfl
theorem ze7 : zeroT Try.prog 7 = some (.agg [.int .i64 0, .int .i64 0, .bool false, .int .u8 0]) := by kernel_rfl
theorem fa7_0 (a : AV) : aFieldAddr Try.prog 7 0 a = fieldOff 0 a := by cases a <;> kernel_rfl
theorem fd7_0 (a : AV) : aField Try.prog 7 0 a = fieldVal Try.prog 2 0 a := by cases a <;> kernel_rfl
theorem fa7_1 (a : AV) : aFieldAddr Try.prog 7 1 a = fieldOff 1 a := by cases a <;> kernel_rfl
theorem fd7_1 (a : AV) : aField Try.prog 7 1 a = fieldVal Try.prog 3 1 a := by cases a <;> kernel_rfl
theorem fa7_2 (a : AV) : aFieldAddr Try.prog 7 2 a = fieldOff 2 a := by cases a <;> kernel_rfl
theorem fd7_2 (a : AV) : aField Try.prog 7 2 a = fieldVal Try.prog 4 2 a := by cases a <;> kernel_rfl
theorem fa7_3 (a : AV) : aFieldAddr Try.prog 7 3 a = fieldOff 3 a := by cases a <;> kernel_rfl
theorem fd7_3 (a : AV) : aField Try.prog 7 3 a = fieldVal Try.prog 6 3 a := by cases a <;> kernel_rfl
theorem bu7 (ps : List (Nat × AV)) : aBuild Try.prog 7 ps = (fillA (fun i => [(0, 1), (1, 1), (2, 1), (3, 1)][i]?) (AV.cells (.agg [.int .i64 0, .int .i64 0, .bool false, .int .u8 0])) ps).map .agg := by kernel_rfl
theorem ag8 : isAggT Try.prog 8 = some true := by kernel_rfl
theorem sz8 : sizeT Try.prog 8 = some 4 := by kernel_rfl
theorem by8 : bytesT Try.prog 8 = some 24 := by kernel_rfl
theorem ze8 : zeroT Try.prog 8 = some (.agg [.int .i64 0, .int .i64 0, .bool false, .int .u8 0]) := by kernel_rfl
theorem fa8_0 (a : AV) : aFieldAddr Try.prog 8 0 a = fieldOff 0 a := by cases a <;> kernel_rfl
theorem fd8_0 (a : AV) : aField Try.prog 8 0 a = fieldVal Try.prog 2 0 a := by cases a <;> kernel_rfl
theorem fa8_1 (a : AV) : aFieldAddr Try.prog 8 1 a = fieldOff 1 a := by cases a <;> kernel_rfl
theorem fd8_1 (a : AV) : aField Try.prog 8 1 a = fieldVal Try.prog 3 1 a := by cases a <;> kernel_rfl
theorem fa8_2 (a : AV) : aFieldAddr Try.prog 8 2 a = fieldOff 2 a := by cases a <;> kernel_rfl
theorem fd8_2 (a : AV) : aField Try.prog 8 2 a = fieldVal Try.prog 4 2 a := by cases a <;> kernel_rfl
theorem fa8_3 (a : AV) : aFieldAddr Try.prog 8 3 a = fieldOff 3 a := by cases a <;> kernel_rfl
theorem fd8_3 (a : AV) : aField Try.prog 8 3 a = fieldVal Try.prog 6 3 a := by cases a <;> kernel_rfl
theorem bu8 (ps : List (Nat × AV)) : aBuild Try.prog 8 ps = (fillA (fun i => [(0, 1), (1, 1), (2, 1), (3, 1)][i]?) (AV.cells (.agg [.int .i64 0, .int .i64 0, .bool false, .int .u8 0])) ps).map .agg := by kernel_rfl
theorem ag9 : isAggT Try.prog 9 = some false := by kernel_rfl
theorem sz9 : sizeT Try.prog 9 = some 1 := by kernel_rfl
theorem by9 : bytesT Try.prog 9 = some 16 := by kernel_rfl
theorem ze9 : zeroT Try.prog 9 = some (.str []) := by kernel_rfl
theorem ag10 : isAggT Try.prog 10 = some false := by kernel_rfl
theorem sz10 : sizeT Try.prog 10 = some 1 := by kernel_rfl
theorem by10 : bytesT Try.prog 10 = some 16 := by kernel_rfl
theorem ze10 : zeroT Try.prog 10 = some (.str []) := by kernel_rfl
theorem ag11 : isAggT Try.prog 11 = some false := by kernel_rfl
theorem sz11 : sizeT Try.prog 11 = some 1 := by kernel_rfl
theorem by11 : bytesT Try.prog 11 = some 16 := by kernel_rfl
theorem ze11 : zeroT Try.prog 11 = some (.str []) := by kernel_rfl
theorem ag12 : isAggT Try.prog 12 = some false := by kernel_rfl
theorem sz12 : sizeT Try.prog 12 = some 1 := by kernel_rfl
theorem by12 : bytesT Try.prog 12 = some 8 := by kernel_rfl
theorem ze12 : zeroT Try.prog 12 = some (.int .u64 0) := by kernel_rfl
theorem ag13 : isAggT Try.prog 13 = some true := by kernel_rfl
theorem sz13 : sizeT Try.prog 13 = some 2 := by kernel_rfl
theorem by13 : bytesT Try.prog 13 = some 24 := by kernel_rfl
theorem ze13 : zeroT Try.prog 13 = some (.agg [.str [], .int .u64 0]) := by kernel_rfl
theorem fa13_0 (a : AV) : aFieldAddr Try.prog 13 0 a = fieldOff 0 a := by cases a <;> kernel_rfl
theorem fd13_0 (a : AV) : aField Try.prog 13 0 a = fieldVal Try.prog 9 0 a := by cases a <;> kernel_rfl
theorem fa13_1 (a : AV) : aFieldAddr Try.prog 13 1 a = fieldOff 1 a := by cases a <;> kernel_rfl
theorem fd13_1 (a : AV) : aField Try.prog 13 1 a = fieldVal Try.prog 12 1 a := by cases a <;> kernel_rfl
theorem bu13 (ps : List (Nat × AV)) : aBuild Try.prog 13 ps = (fillA (fun i => [(0, 1), (1, 1)][i]?) (AV.cells (.agg [.str [], .int .u64 0])) ps).map .agg := by kernel_rfl
theorem ag14 : isAggT Try.prog 14 = some true := by kernel_rfl
theorem sz14 : sizeT Try.prog 14 = some 2 := by kernel_rfl
theorem by14 : bytesT Try.prog 14 = some 24 := by kernel_rfl
theorem ze14 : zeroT Try.prog 14 = some (.agg [.str [], .int .u64 0]) := by kernel_rfl
theorem fa14_0 (a : AV) : aFieldAddr Try.prog 14 0 a = fieldOff 0 a := by cases a <;> kernel_rfl
theorem fd14_0 (a : AV) : aField Try.prog 14 0 a = fieldVal Try.prog 9 0 a := by cases a <;> kernel_rfl
theorem fa14_1 (a : AV) : aFieldAddr Try.prog 14 1 a = fieldOff 1 a := by cases a <;> kernel_rfl
theorem fd14_1 (a : AV) : aField Try.prog 14 1 a = fieldVal Try.prog 12 1 a := by cases a <;> kernel_rfl
theorem bu14 (ps : List (Nat × AV)) : aBuild Try.prog 14 ps = (fillA (fun i => [(0, 1), (1, 1)][i]?) (AV.cells (.agg [.str [], .int .u64 0])) ps).map .agg := by kernel_rfl
theorem ag15 : isAggT Try.prog 15 = some false := by kernel_rfl
theorem sz15 : sizeT Try.prog 15 = some 1 := by kernel_rfl
theorem by15 : bytesT Try.prog 15 = some 8 := by kernel_rfl
theorem ze15 : zeroT Try.prog 15 = some (.nil) := by kernel_rfl
theorem ag16 : isAggT Try.prog 16 = some false := by kernel_rfl
theorem sz16 : sizeT Try.prog 16 = some 1 := by kernel_rfl
theorem by16 : bytesT Try.prog 16 = some 8 := by kernel_rfl
theorem ze16 : zeroT Try.prog 16 = some (.nil) := by kernel_rfl
theorem ag17 : isAggT Try.prog 17 = some false := by kernel_rfl
theorem sz17 : sizeT Try.prog 17 = some 1 := by kernel_rfl
theorem by17 : bytesT Try.prog 17 = some 8 := by kernel_rfl
theorem ze17 : zeroT Try.prog 17 = some (.nil) := by kernel_rfl
theorem ag18 : isAggT Try.prog 18 = some true := by kernel_rfl
theorem sz18 : sizeT Try.prog 18 = some 1 := by kernel_rfl
theorem by18 : bytesT Try.prog 18 = some 8 := by kernel_rfl
theorem ze18 : zeroT Try.prog 18 = some (.agg [.nil]) := by kernel_rfl
theorem fa18_0 (a : AV) : aFieldAddr Try.prog 18 0 a = fieldOff 0 a := by cases a <;> kernel_rfl
theorem fd18_0 (a : AV) : aField Try.prog 18 0 a = fieldVal Try.prog 17 0 a := by cases a <;> kernel_rfl
theorem bu18 (ps : List (Nat × AV)) : aBuild Try.prog 18 ps = (fillA (fun i => [(0, 1)][i]?) (AV.cells (.agg [.nil])) ps).map .agg := by kernel_rfl
theorem ag19 : isAggT Try.prog 19 = some true := by kernel_rfl
theorem sz19 : sizeT Try.prog 19 = some 1 := by kernel_rfl
theorem by19 : bytesT Try.prog 19 = some 8 := by kernel_rfl
theorem ze19 : zeroT Try.prog 19 = some (.agg [.nil]) := by kernel_rfl
theorem fa19_0 (a : AV) : aFieldAddr Try.prog 19 0 a = fieldOff 0 a := by cases a <;> kernel_rfl
theorem fd19_0 (a : AV) : aField Try.prog 19 0 a = fieldVal Try.prog 17 0 a := by cases a <;> kernel_rfl
theorem bu19 (ps : List (Nat × AV)) : aBuild Try.prog 19 ps = (fillA (fun i => [(0, 1)][i]?) (AV.cells (.agg [.nil])) ps).map .agg := by kernel_rfl
theorem ag20 : isAggT Try.prog 20 = some false := by kernel_rfl
theorem sz20 : sizeT Try.prog 20 = some 1 := by kernel_rfl
theorem by20 : bytesT Try.prog 20 = some 16 := by kernel_rfl
theorem ze20 : zeroT Try.prog 20 = some (.nilI) := by kernel_rfl
theorem ag21 : isAggT Try.prog 21 = some false := by kernel_rfl
theorem sz21 : sizeT Try.prog 21 = some 1 := by kernel_rfl
theorem by21 : bytesT Try.prog 21 = some 4 := by kernel_rfl
theorem ze21 : zeroT Try.prog 21 = some (.int .i32 0) := by kernel_rfl
theorem ag22 : isAggT Try.prog 22 = some false := by kernel_rfl
theorem sz22 : sizeT Try.prog 22 = some 1 := by kernel_rfl
theorem by22 : bytesT Try.prog 22 = some 8 := by kernel_rfl
theorem ze22 : zeroT Try.prog 22 = some (.nil) := by kernel_rfl
theorem ag23 : isAggT Try.prog 23 = some false := by kernel_rfl
theorem sz23 : sizeT Try.prog 23 = some 1 := by kernel_rfl
theorem by23 : bytesT Try.prog 23 = some 8 := by kernel_rfl
theorem ze23 : zeroT Try.prog 23 = some (.int .i64 0) := by kernel_rfl
theorem ag24 : isAggT Try.prog 24 = some false := by kernel_rfl
theorem sz24 : sizeT Try.prog 24 = some 1 := by kernel_rfl
theorem by24 : bytesT Try.prog 24 = some 8 := by kernel_rfl
theorem ze24 : zeroT Try.prog 24 = some (.nilF) := by kernel_rfl
theorem ag25 : isAggT Try.prog 25 = some false := by kernel_rfl
theorem sz25 : sizeT Try.prog 25 = some 1 := by kernel_rfl
theorem by25 : bytesT Try.prog 25 = some 24 := by kernel_rfl
theorem se25 : sliceElem Try.prog 25 = some 182 := by kernel_rfl
theorem ze25 : zeroT Try.prog 25 = some (.nilS) := by kernel_rfl
theorem ag26 : isAggT Try.prog 26 = some true := by kernel_rfl
theorem sz26 : sizeT Try.prog 26 = some 7 := by kernel_rfl
theorem by26 : bytesT Try.prog 26 = some 88 := by kernel_rfl
theorem ze26 : zeroT Try.prog 26 = some (.agg [.int .i64 0, .str [], .int .i64 0, .int .i64 0, .str [], .str [], .str []]) := by kernel_rfl
theorem fa26_0 (a : AV) : aFieldAddr Try.prog 26 0 a = fieldOff 0 a := by cases a <;> kernel_rfl
theorem fd26_0 (a : AV) : aField Try.prog 26 0 a = fieldVal Try.prog 2 0 a := by cases a <;> kernel_rfl
theorem fa26_1 (a : AV) : aFieldAddr Try.prog 26 1 a = fieldOff 1 a := by cases a <;> kernel_rfl
theorem fd26_1 (a : AV) : aField Try.prog 26 1 a = fieldVal Try.prog 9 1 a := by cases a <;> kernel_rfl
theorem fa26_2 (a : AV) : aFieldAddr Try.prog 26 2 a = fieldOff 2 a := by cases a <;> kernel_rfl
theorem fd26_2 (a : AV) : aField Try.prog 26 2 a = fieldVal Try.prog 2 2 a := by cases a <;> kernel_rfl
theorem fa26_3 (a : AV) : aFieldAddr Try.prog 26 3 a = fieldOff 3 a := by cases a <;> kernel_rfl
theorem fd26_3 (a : AV) : aField Try.prog 26 3 a = fieldVal Try.prog 2 3 a := by cases a <;> kernel_rfl
theorem fa26_4 (a : AV) : aFieldAddr Try.prog 26 4 a = fieldOff 4 a := by cases a <;> kernel_rfl
theorem fd26_4 (a : AV) : aField Try.prog 26 4 a = fieldVal Try.prog 9 4 a := by cases a <;> kernel_rfl
theorem fa26_5 (a : AV) : aFieldAddr Try.prog 26 5 a = fieldOff 5 a := by cases a <;> kernel_rfl
theorem fd26_5 (a : AV) : aField Try.prog 26 5 a = fieldVal Try.prog 9 5 a := by cases a <;> kernel_rfl
theorem fa26_6 (a : AV) : aFieldAddr Try.prog 26 6 a = fieldOff 6 a := by cases a <;> kernel_rfl
theorem fd26_6 (a : AV) : aField Try.prog 26 6 a = fieldVal Try.prog 9 6 a := by cases a <;> kernel_rfl
theorem bu26 (ps : List (Nat × AV)) : aBuild Try.prog 26 ps = (fillA (fun i => [(0, 1), (1, 1), (2, 1), (3, 1), (4, 1), (5, 1), (6, 1)][i]?) (AV.cells (.agg [.int .i64 0, .str [], .int .i64 0, .int .i64 0, .str [], .str [], .str []])) ps).map .agg := by kernel_rfl
theorem ag27 : isAggT Try.prog 27 = some true := by kernel_rfl
theorem sz27 : sizeT Try.prog 27 = some 7 := by kernel_rfl
theorem by27 : bytesT Try.prog 27 = some 88 := by kernel_rfl
theorem ze27 : zeroT Try.prog 27 = some (.agg [.int .i64 0, .str [], .int .i64 0, .int .i64 0, .str [], .str [], .str []]) := by kernel_rfl
theorem fa27_0 (a : AV) : aFieldAddr Try.prog 27 0 a = fieldOff 0 a := by cases a <;> kernel_rfl
theorem fd27_0 (a : AV) : aField Try.prog 27 0 a = fieldVal Try.prog 2 0 a := by cases a <;> kernel_rfl
theorem fa27_1 (a : AV) : aFieldAddr Try.prog 27 1 a = fieldOff 1 a := by cases a <;> kernel_rfl
theorem fd27_1 (a : AV) : aField Try.prog 27 1 a = fieldVal Try.prog 9 1 a := by cases a <;> kernel_rfl
theorem fa27_2 (a : AV) : aFieldAddr Try.prog 27 2 a = fieldOff 2 a := by cases a <;> kernel_rfl
theorem fd27_2 (a : AV) : aField Try.prog 27 2 a = fieldVal Try.prog 2 2 a := by cases a <;> kernel_rfl
theorem fa27_3 (a : AV) : aFieldAddr Try.prog 27 3 a = fieldOff 3 a := by cases a <;> kernel_rfl
theorem fd27_3 (a : AV) : aField Try.prog 27 3 a = fieldVal Try.prog 2 3 a := by cases a <;> kernel_rfl
theorem fa27_4 (a : AV) : aFieldAddr Try.prog 27 4 a = fieldOff 4 a := by cases a <;> kernel_rfl
theorem fd27_4 (a : AV) : aField Try.prog 27 4 a = fieldVal Try.prog 9 4 a := by cases a <;> kernel_rfl
theorem fa27_5 (a : AV) : aFieldAddr Try.prog 27 5 a = fieldOff 5 a := by cases a <;> kernel_rfl
theorem fd27_5 (a : AV) : aField Try.prog 27 5 a = fieldVal Try.prog 9 5 a := by cases a <;> kernel_rfl
theorem fa27_6 (a : AV) : aFieldAddr Try.prog 27 6 a = fieldOff 6 a := by cases a <;> kernel_rfl
theorem fd27_6 (a : AV) : aField Try.prog 27 6 a = fieldVal Try.prog 9 6 a := by cases a <;> kernel_rfl
theorem bu27 (ps : List (Nat × AV)) : aBuild Try.prog 27 ps = (fillA (fun i => [(0, 1), (1, 1), (2, 1), (3, 1), (4, 1), (5, 1), (6, 1)][i]?) (AV.cells (.agg [.int .i64 0, .str [], .int .i64 0, .int .i64 0, .str [], .str [], .str []])) ps).map .agg := by kernel_rfl
theorem ag28 : isAggT Try.prog 28 = some false := by kernel_rfl
theorem sz28 : sizeT Try.prog 28 = some 1 := by kernel_rfl
theorem by28 : bytesT Try.prog 28 = some 24 := by kernel_rfl
theorem se28 : sliceElem Try.prog 28 = some 113 := by kernel_rfl
theorem ze28 : zeroT Try.prog 28 = some (.nilS) := by kernel_rfl
theorem ag29 : isAggT Try.prog 29 = some true := by kernel_rfl
theorem sz29 : sizeT Try.prog 29 = some 2 := by kernel_rfl
theorem by29 : bytesT Try.prog 29 = some 32 := by kernel_rfl
theorem ze29 : zeroT Try.prog 29 = some (.agg [.bool false, .nilS]) := by kernel_rfl
theorem fa29_0 (a : AV) : aFieldAddr Try.prog 29 0 a = fieldOff 0 a := by cases a <;> kernel_rfl
theorem fd29_0 (a : AV) : aField Try.prog 29 0 a = fieldVal Try.prog 4 0 a := by cases a <;> kernel_rfl
theorem fa29_1 (a : AV) : aFieldAddr Try.prog 29 1 a = fieldOff 1 a := by cases a <;> kernel_rfl
theorem fd29_1 (a : AV) : aField Try.prog 29 1 a = fieldVal Try.prog 28 1 a := by cases a <;> kernel_rfl
theorem bu29 (ps : List (Nat × AV)) : aBuild Try.prog 29 ps = (fillA (fun i => [(0, 1), (1, 1)][i]?) (AV.cells (.agg [.bool false, .nilS])) ps).map .agg := by kernel_rfl
theorem ag30 : isAggT Try.prog 30 = some true := by kernel_rfl
theorem sz30 : sizeT Try.prog 30 = some 2 := by kernel_rfl
theorem by30 : bytesT Try.prog 30 = some 32 := by kernel_rfl
theorem ze30 : zeroT Try.prog 30 = some (.agg [.bool false, .nilS]) := by kernel_rfl
theorem fa30_0 (a : AV) : aFieldAddr Try.prog 30 0 a = fieldOff 0 a := by cases a <;> kernel_rfl
theorem fd30_0 (a : AV) : aField Try.prog 30 0 a = fieldVal Try.prog 4 0 a := by cases a <;> kernel_rfl
theorem fa30_1 (a : AV) : aFieldAddr Try.prog 30 1 a = fieldOff 1 a := by cases a <;> kernel_rfl
theorem fd30_1 (a : AV) : aField Try.prog 30 1 a = fieldVal Try.prog 28 1 a := by cases a <;> kernel_rfl
theorem bu30 (ps : List (Nat × AV)) : aBuild Try.prog 30 ps = (fillA (fun i => [(0, 1), (1, 1)][i]?) (AV.cells (.agg [.bool false, .nilS])) ps).map .agg := by kernel_rfl
theorem ag31 : isAggT Try.prog 31 = some false := by kernel_rfl
theorem sz31 : sizeT Try.prog 31 = some 1 := by kernel_rfl
theorem by31 : bytesT Try.prog 31 = some 8 := by kernel_rfl
theorem ze31 : zeroT Try.prog 31 = some (.nil) := by kernel_rfl
theorem ag32 : isAggT Try.prog 32 = some false := by kernel_rfl
theorem sz32 : sizeT Try.prog 32 = some 1 := by kernel_rfl
theorem by32 : bytesT Try.prog 32 = some 24 := by kernel_rfl
theorem se32 : sliceElem Try.prog 32 = some 9 := by kernel_rfl
theorem ze32 : zeroT Try.prog 32 = some (.nilS) := by kernel_rfl
theorem ag33 : isAggT Try.prog 33 = some true := by kernel_rfl
theorem sz33 : sizeT Try.prog 33 = some 2 := by kernel_rfl
theorem by33 : bytesT Try.prog 33 = some 16 := by kernel_rfl
theorem ze33 : zeroT Try.prog 33 = some (.agg [.int .i64 0, .int .i64 0]) := by kernel_rfl
theorem fa33_0 (a : AV) : aFieldAddr Try.prog 33 0 a = fieldOff 0 a := by cases a <;> kernel_rfl
theorem fd33_0 (a : AV) : aField Try.prog 33 0 a = fieldVal Try.prog 2 0 a := by cases a <;> kernel_rfl
theorem fa33_1 (a : AV) : aFieldAddr Try.prog 33 1 a = fieldOff 1 a := by cases a <;> kernel_rfl
theorem fd33_1 (a : AV) : aField Try.prog 33 1 a = fieldVal Try.prog 3 1 a := by cases a <;> kernel_rfl
theorem bu33 (ps : List (Nat × AV)) : aBuild Try.prog 33 ps = (fillA (fun i => [(0, 1), (1, 1)][i]?) (AV.cells (.agg [.int .i64 0, .int .i64 0])) ps).map .agg := by kernel_rfl
theorem ag34 : isAggT Try.prog 34 = some true := by kernel_rfl
theorem sz34 : sizeT Try.prog 34 = some 2 := by kernel_rfl
theorem by34 : bytesT Try.prog 34 = some 16 := by kernel_rfl
theorem ze34 : zeroT Try.prog 34 = some (.agg [.int .i64 0, .int .i64 0]) := by kernel_rfl
theorem fa34_0 (a : AV) : aFieldAddr Try.prog 34 0 a = fieldOff 0 a := by cases a <;> kernel_rfl
theorem fd34_0 (a : AV) : aField Try.prog 34 0 a = fieldVal Try.prog 2 0 a := by cases a <;> kernel_rfl
theorem fa34_1 (a : AV) : aFieldAddr Try.prog 34 1 a = fieldOff 1 a := by cases a <;> kernel_rfl
theorem fd34_1 (a : AV) : aField Try.prog 34 1 a = fieldVal Try.prog 3 1 a := by cases a <;> kernel_rfl
theorem bu34 (ps : List (Nat × AV)) : aBuild Try.prog 34 ps = (fillA (fun i => [(0, 1), (1, 1)][i]?) (AV.cells (.agg [.int .i64 0, .int .i64 0])) ps).map .agg := by kernel_rfl
theorem ag35 : isAggT Try.prog 35 = some true := by kernel_rfl
theorem sz35 : sizeT Try.prog 35 = some 19 := by kernel_rfl
theorem by35 : bytesT Try.prog 35 = some 232 := by kernel_rfl
theorem ze35 : zeroT Try.prog 35 = some (.agg [.int .i64 0, .nilS, .int .i64 0, .str [], .int .i64 0, .int .i64 0, .str [], .str [], .str [], .int .i64 0, .bool false, .nilS, .nil, .nilS, .int .i64 0, .int .i64 0, .int .i64 0, .int .i64 0, .int .i64 0]) := by kernel_rfl
theorem fa35_0 (a : AV) : aFieldAddr Try.prog 35 0 a = fieldOff 0 a := by cases a <;> kernel_rfl
theorem fd35_0 (a : AV) : aField Try.prog 35 0 a = fieldVal Try.prog 3 0 a := by cases a <;> kernel_rfl
theorem fa35_1 (a : AV) : aFieldAddr Try.prog 35 1 a = fieldOff 1 a := by cases a <;> kernel_rfl
theorem fd35_1 (a : AV) : aField Try.prog 35 1 a = fieldVal Try.prog 25 1 a := by cases a <;> kernel_rfl
theorem fa35_2 (a : AV) : aFieldAddr Try.prog 35 2 a = fieldOff 2 a := by cases a <;> kernel_rfl
theorem fd35_2 (a : AV) : aField Try.prog 35 2 a = fieldVal Try.prog 27 2 a := by cases a <;> kernel_rfl
theorem fa35_3 (a : AV) : aFieldAddr Try.prog 35 3 a = fieldOff 9 a := by cases a <;> kernel_rfl
theorem fd35_3 (a : AV) : aField Try.prog 35 3 a = fieldVal Try.prog 2 9 a := by cases a <;> kernel_rfl
theorem fa35_4 (a : AV) : aFieldAddr Try.prog 35 4 a = fieldOff 10 a := by cases a <;> kernel_rfl
theorem fd35_4 (a : AV) : aField Try.prog 35 4 a = fieldVal Try.prog 30 10 a := by cases a <;> kernel_rfl
theorem fa35_5 (a : AV) : aFieldAddr Try.prog 35 5 a = fieldOff 12 a := by cases a <;> kernel_rfl
theorem fd35_5 (a : AV) : aField Try.prog 35 5 a = fieldVal Try.prog 31 12 a := by cases a <;> kernel_rfl
theorem fa35_6 (a : AV) : aFieldAddr Try.prog 35 6 a = fieldOff 13 a := by cases a <;> kernel_rfl
theorem fd35_6 (a : AV) : aField Try.prog 35 6 a = fieldVal Try.prog 32 13 a := by cases a <;> kernel_rfl
theorem fa35_7 (a : AV) : aFieldAddr Try.prog 35 7 a = fieldOff 14 a := by cases a <;> kernel_rfl
theorem fd35_7 (a : AV) : aField Try.prog 35 7 a = fieldVal Try.prog 3 14 a := by cases a <;> kernel_rfl
theorem fa35_8 (a : AV) : aFieldAddr Try.prog 35 8 a = fieldOff 15 a := by cases a <;> kernel_rfl
theorem fd35_8 (a : AV) : aField Try.prog 35 8 a = fieldVal Try.prog 34 15 a := by cases a <;> kernel_rfl
theorem fa35_9 (a : AV) : aFieldAddr Try.prog 35 9 a = fieldOff 17 a := by cases a <;> kernel_rfl
theorem fd35_9 (a : AV) : aField Try.prog 35 9 a = fieldVal Try.prog 2 17 a := by cases a <;> kernel_rfl
theorem fa35_10 (a : AV) : aFieldAddr Try.prog 35 10 a = fieldOff 18 a := by cases a <;> kernel_rfl
theorem fd35_10 (a : AV) : aField Try.prog 35 10 a = fieldVal Try.prog 2 18 a := by cases a <;> kernel_rfl
theorem bu35 (ps : List (Nat × AV)) : aBuild Try.prog 35 ps = (fillA (fun i => [(0, 1), (1, 1), (2, 7), (9, 1), (10, 2), (12, 1), (13, 1), (14, 1), (15, 2), (17, 1), (18, 1)][i]?) (AV.cells (.agg [.int .i64 0, .nilS, .int .i64 0, .str [], .int .i64 0, .int .i64 0, .str [], .str [], .str [], .int .i64 0, .bool false, .nilS, .nil, .nilS, .int .i64 0, .int .i64 0, .int .i64 0, .int .i64 0, .int .i64 0])) ps).map .agg := by kernel_rfl
theorem ag36 : isAggT Try.prog 36 = some true := by kernel_rfl
theorem sz36 : sizeT Try.prog 36 = some 19 := by kernel_rfl
theorem by36 : bytesT Try.prog 36 = some 232 := by kernel_rfl
theorem ze36 : zeroT Try.prog 36 = some (.agg [.int .i64 0, .nilS, .int .i64 0, .str [], .int .i64 0, .int .i64 0, .str [], .str [], .str [], .int .i64 0, .bool false, .nilS, .nil, .nilS, .int .i64 0, .int .i64 0, .int .i64 0, .int .i64 0, .int .i64 0]) := by kernel_rfl
theorem fa36_0 (a : AV) : aFieldAddr Try.prog 36 0 a = fieldOff 0 a := by cases a <;> kernel_rfl
theorem fd36_0 (a : AV) : aField Try.prog 36 0 a = fieldVal Try.prog 3 0 a := by cases a <;> kernel_rfl
theorem fa36_1 (a : AV) : aFieldAddr Try.prog 36 1 a = fieldOff 1 a := by cases a <;> kernel_rfl
theorem fd36_1 (a : AV) : aField Try.prog 36 1 a = fieldVal Try.prog 25 1 a := by cases a <;> kernel_rfl
theorem fa36_2 (a : AV) : aFieldAddr Try.prog 36 2 a = fieldOff 2 a := by cases a <;> kernel_rfl
theorem fd36_2 (a : AV) : aField Try.prog 36 2 a = fieldVal Try.prog 27 2 a := by cases a <;> kernel_rfl
theorem fa36_3 (a : AV) : aFieldAddr Try.prog 36 3 a = fieldOff 9 a := by cases a <;> kernel_rfl
theorem fd36_3 (a : AV) : aField Try.prog 36 3 a = fieldVal Try.prog 2 9 a := by cases a <;> kernel_rfl
theorem fa36_4 (a : AV) : aFieldAddr Try.prog 36 4 a = fieldOff 10 a := by cases a <;> kernel_rfl
theorem fd36_4 (a : AV) : aField Try.prog 36 4 a = fieldVal Try.prog 30 10 a := by cases a <;> kernel_rfl
theorem fa36_5 (a : AV) : aFieldAddr Try.prog 36 5 a = fieldOff 12 a := by cases a <;> kernel_rfl
theorem fd36_5 (a : AV) : aField Try.prog 36 5 a = fieldVal Try.prog 31 12 a := by cases a <;> kernel_rfl
theorem fa36_6 (a : AV) : aFieldAddr Try.prog 36 6 a = fieldOff 13 a := by cases a <;> kernel_rfl
theorem fd36_6 (a : AV) : aField Try.prog 36 6 a = fieldVal Try.prog 32 13 a := by cases a <;> kernel_rfl
theorem fa36_7 (a : AV) : aFieldAddr Try.prog 36 7 a = fieldOff 14 a := by cases a <;> kernel_rfl
theorem fd36_7 (a : AV) : aField Try.prog 36 7 a = fieldVal Try.prog 3 14 a := by cases a <;> kernel_rfl
theorem fa36_8 (a : AV) : aFieldAddr Try.prog 36 8 a = fieldOff 15 a := by cases a <;> kernel_rfl
theorem fd36_8 (a : AV) : aField Try.prog 36 8 a = fieldVal Try.prog 34 15 a := by cases a <;> kernel_rfl
theorem fa36_9 (a : AV) : aFieldAddr Try.prog 36 9 a = fieldOff 17 a := by cases a <;> kernel_rfl
theorem fd36_9 (a : AV) : aField Try.prog 36 9 a = fieldVal Try.prog 2 17 a := by cases a <;> kernel_rfl
theorem fa36_10 (a : AV) : aFieldAddr Try.prog 36 10 a = fieldOff 18 a := by cases a <;> kernel_rfl
theorem fd36_10 (a : AV) : aField Try.prog 36 10 a = fieldVal Try.prog 2 18 a := by cases a <;> kernel_rfl
theorem bu36 (ps : List (Nat × AV)) : aBuild Try.prog 36 ps = (fillA (fun i => [(0, 1), (1, 1), (2, 7), (9, 1), (10, 2), (12, 1), (13, 1), (14, 1), (15, 2), (17, 1), (18, 1)][i]?) (AV.cells (.agg [.int .i64 0, .nilS, .int .i64 0, .str [], .int .i64 0, .int .i64 0, .str [], .str [], .str [], .int .i64 0, .bool false, .nilS, .nil, .nilS, .int .i64 0, .int .i64 0, .int .i64 0, .int .i64 0, .int .i64 0])) ps).map .agg := by kernel_rfl
theorem ag37 : isAggT Try.prog 37 = some false := by kernel_rfl
theorem sz37 : sizeT Try.prog 37 = some 1 := by kernel_rfl
theorem by37 : bytesT Try.prog 37 = some 8 := by kernel_rfl
theorem ze37 : zeroT Try.prog 37 = some (.nilF) := by kernel_rfl
theorem ag38 : isAggT Try.prog 38 = some false := by kernel_rfl
theorem sz38 : sizeT Try.prog 38 = some 1 := by kernel_rfl
theorem by38 : bytesT Try.prog 38 = some 8 := by kernel_rfl
theorem ze38 : zeroT Try.prog 38 = some (.nilF) := by kernel_rfl
theorem ag39 : isAggT Try.prog 39 = some false := by kernel_rfl
theorem sz39 : sizeT Try.prog 39 = some 1 := by kernel_rfl
theorem by39 : bytesT Try.prog 39 = some 24 := by kernel_rfl
theorem se39 : sliceElem Try.prog 39 = some 120 := by kernel_rfl
theorem ze39 : zeroT Try.prog 39 = some (.nilS) := by kernel_rfl
theorem ag40 : isAggT Try.prog 40 = some false := by kernel_rfl
theorem sz40 : sizeT Try.prog 40 = some 1 := by kernel_rfl
theorem by40 : bytesT Try.prog 40 = some 8 := by kernel_rfl
theorem ze40 : zeroT Try.prog 40 = some (.nilF) := by kernel_rfl
theorem ag41 : isAggT Try.prog 41 = some false := by kernel_rfl
theorem sz41 : sizeT Try.prog 41 = some 1 := by kernel_rfl
theorem by41 : bytesT Try.prog 41 = some 8 := by kernel_rfl
theorem ze41 : zeroT Try.prog 41 = some (.nilF) := by kernel_rfl
theorem ag42 : isAggT Try.prog 42 = some false := by kernel_rfl
theorem sz42 : sizeT Try.prog 42 = some 1 := by kernel_rfl
theorem by42 : bytesT Try.prog 42 = some 8 := by kernel_rfl
theorem ze42 : zeroT Try.prog 42 = some (.nilF) := by kernel_rfl
theorem ag43 : isAggT Try.prog 43 = some false := by kernel_rfl
theorem sz43 : sizeT Try.prog 43 = some 1 := by kernel_rfl
theorem by43 : bytesT Try.prog 43 = some 24 := by kernel_rfl
theorem se43 : sliceElem Try.prog 43 = some 50 := by kernel_rfl
theorem ze43 : zeroT Try.prog 43 = some (.nilS) := by kernel_rfl
theorem ag44 : isAggT Try.prog 44 = some false := by kernel_rfl
theorem sz44 : sizeT Try.prog 44 = some 1 := by kernel_rfl
theorem by44 : bytesT Try.prog 44 = some 8 := by kernel_rfl
theorem ze44 : zeroT Try.prog 44 = some (.nil) := by kernel_rfl
theorem ag45 : isAggT Try.prog 45 = some false := by kernel_rfl
theorem sz45 : sizeT Try.prog 45 = some 1 := by kernel_rfl
theorem by45 : bytesT Try.prog 45 = some 8 := by kernel_rfl
theorem ze45 : zeroT Try.prog 45 = some (.nilF) := by kernel_rfl
theorem ag46 : isAggT Try.prog 46 = some false := by kernel_rfl
theorem sz46 : sizeT Try.prog 46 = some 1 := by kernel_rfl
theorem by46 : bytesT Try.prog 46 = some 24 := by kernel_rfl
theorem se46 : sliceElem Try.prog 46 = some 48 := by kernel_rfl
theorem ze46 : zeroT Try.prog 46 = some (.nilS) := by kernel_rfl
theorem ag47 : isAggT Try.prog 47 = some true := by kernel_rfl
theorem sz47 : sizeT Try.prog 47 = some 3 := by kernel_rfl
theorem by47 : bytesT Try.prog 47 = some 32 := by kernel_rfl
theorem ze47 : zeroT Try.prog 47 = some (.agg [.int .i64 0, .str [], .bool false]) := by kernel_rfl
theorem fa47_0 (a : AV) : aFieldAddr Try.prog 47 0 a = fieldOff 0 a := by cases a <;> kernel_rfl
theorem fd47_0 (a : AV) : aField Try.prog 47 0 a = fieldVal Try.prog 2 0 a := by cases a <;> kernel_rfl
theorem fa47_1 (a : AV) : aFieldAddr Try.prog 47 1 a = fieldOff 1 a := by cases a <;> kernel_rfl
theorem fd47_1 (a : AV) : aField Try.prog 47 1 a = fieldVal Try.prog 9 1 a := by cases a <;> kernel_rfl
theorem fa47_2 (a : AV) : aFieldAddr Try.prog 47 2 a = fieldOff 2 a := by cases a <;> kernel_rfl
theorem fd47_2 (a : AV) : aField Try.prog 47 2 a = fieldVal Try.prog 4 2 a := by cases a <;> kernel_rfl
theorem bu47 (ps : List (Nat × AV)) : aBuild Try.prog 47 ps = (fillA (fun i => [(0, 1), (1, 1), (2, 1)][i]?) (AV.cells (.agg [.int .i64 0, .str [], .bool false])) ps).map .agg := by kernel_rfl
theorem ag48 : isAggT Try.prog 48 = some true := by kernel_rfl
theorem sz48 : sizeT Try.prog 48 = some 3 := by kernel_rfl
theorem by48 : bytesT Try.prog 48 = some 32 := by kernel_rfl
theorem ze48 : zeroT Try.prog 48 = some (.agg [.int .i64 0, .str [], .bool false]) := by kernel_rfl
theorem fa48_0 (a : AV) : aFieldAddr Try.prog 48 0 a = fieldOff 0 a := by cases a <;> kernel_rfl
theorem fd48_0 (a : AV) : aField Try.prog 48 0 a = fieldVal Try.prog 2 0 a := by cases a <;> kernel_rfl
theorem fa48_1 (a : AV) : aFieldAddr Try.prog 48 1 a = fieldOff 1 a := by cases a <;> kernel_rfl
theorem fd48_1 (a : AV) : aField Try.prog 48 1 a = fieldVal Try.prog 9 1 a := by cases a <;> kernel_rfl
theorem fa48_2 (a : AV) : aFieldAddr Try.prog 48 2 a = fieldOff 2 a := by cases a <;> kernel_rfl
theorem fd48_2 (a : AV) : aField Try.prog 48 2 a = fieldVal Try.prog 4 2 a := by cases a <;> kernel_rfl
theorem bu48 (ps : List (Nat × AV)) : aBuild Try.prog 48 ps = (fillA (fun i => [(0, 1), (1, 1), (2, 1)][i]?) (AV.cells (.agg [.int .i64 0, .str [], .bool false])) ps).map .agg := by kernel_rfl
theorem ag49 : isAggT Try.prog 49 = some true := by kernel_rfl
theorem sz49 : sizeT Try.prog 49 = some 6 := by kernel_rfl
theorem by49 : bytesT Try.prog 49 = some 56 := by kernel_rfl
theorem ze49 : zeroT Try.prog 49 = some (.agg [.int .i64 0, .int .i64 0, .str [], .bool false, .bool false, .int .i64 0]) := by kernel_rfl
theorem fa49_0 (a : AV) : aFieldAddr Try.prog 49 0 a = fieldOff 0 a := by cases a <;> kernel_rfl
theorem fd49_0 (a : AV) : aField Try.prog 49 0 a = fieldVal Try.prog 3 0 a := by cases a <;> kernel_rfl
theorem fa49_1 (a : AV) : aFieldAddr Try.prog 49 1 a = fieldOff 1 a := by cases a <;> kernel_rfl
theorem fd49_1 (a : AV) : aField Try.prog 49 1 a = fieldVal Try.prog 48 1 a := by cases a <;> kernel_rfl
theorem fa49_2 (a : AV) : aFieldAddr Try.prog 49 2 a = fieldOff 4 a := by cases a <;> kernel_rfl
theorem fd49_2 (a : AV) : aField Try.prog 49 2 a = fieldVal Try.prog 4 4 a := by cases a <;> kernel_rfl
theorem fa49_3 (a : AV) : aFieldAddr Try.prog 49 3 a = fieldOff 5 a := by cases a <;> kernel_rfl
theorem fd49_3 (a : AV) : aField Try.prog 49 3 a = fieldVal Try.prog 2 5 a := by cases a <;> kernel_rfl
theorem bu49 (ps : List (Nat × AV)) : aBuild Try.prog 49 ps = (fillA (fun i => [(0, 1), (1, 3), (4, 1), (5, 1)][i]?) (AV.cells (.agg [.int .i64 0, .int .i64 0, .str [], .bool false, .bool false, .int .i64 0])) ps).map .agg := by kernel_rfl
theorem ag50 : isAggT Try.prog 50 = some true := by kernel_rfl
theorem sz50 : sizeT Try.prog 50 = some 6 := by kernel_rfl
theorem by50 : bytesT Try.prog 50 = some 56 := by kernel_rfl
theorem ze50 : zeroT Try.prog 50 = some (.agg [.int .i64 0, .int .i64 0, .str [], .bool false, .bool false, .int .i64 0]) := by kernel_rfl
theorem fa50_0 (a : AV) : aFieldAddr Try.prog 50 0 a = fieldOff 0 a := by cases a <;> kernel_rfl
theorem fd50_0 (a : AV) : aField Try.prog 50 0 a = fieldVal Try.prog 3 0 a := by cases a <;> kernel_rfl
theorem fa50_1 (a : AV) : aFieldAddr Try.prog 50 1 a = fieldOff 1 a := by cases a <;> kernel_rfl
theorem fd50_1 (a : AV) : aField Try.prog 50 1 a = fieldVal Try.prog 48 1 a := by cases a <;> kernel_rfl
theorem fa50_2 (a : AV) : aFieldAddr Try.prog 50 2 a = fieldOff 4 a := by cases a <;> kernel_rfl
theorem fd50_2 (a : AV) : aField Try.prog 50 2 a = fieldVal Try.prog 4 4 a := by cases a <;> kernel_rfl
theorem fa50_3 (a : AV) : aFieldAddr Try.prog 50 3 a = fieldOff 5 a := by cases a <;> kernel_rfl
theorem fd50_3 (a : AV) : aField Try.prog 50 3 a = fieldVal Try.prog 2 5 a := by cases a <;> kernel_rfl
theorem bu50 (ps : List (Nat × AV)) : aBuild Try.prog 50 ps = (fillA (fun i => [(0, 1), (1, 3), (4, 1), (5, 1)][i]?) (AV.cells (.agg [.int .i64 0, .int .i64 0, .str [], .bool false, .bool false, .int .i64 0])) ps).map .agg := by kernel_rfl
theorem ag51 : isAggT Try.prog 51 = some false := by kernel_rfl
theorem sz51 : sizeT Try.prog 51 = some 1 := by kernel_rfl
theorem by51 : bytesT Try.prog 51 = some 0 := by kernel_rfl
theorem ag52 : isAggT Try.prog 52 = some false := by kernel_rfl
theorem sz52 : sizeT Try.prog 52 = some 1 := by kernel_rfl
theorem by52 : bytesT Try.prog 52 = some 8 := by kernel_rfl
theorem ze52 : zeroT Try.prog 52 = some (.nilF) := by kernel_rfl
theorem ag53 : isAggT Try.prog 53 = some true := by kernel_rfl
theorem sz53 : sizeT Try.prog 53 = some 3 := by kernel_rfl
theorem by53 : bytesT Try.prog 53 = some 32 := by kernel_rfl
theorem ze53 : zeroT Try.prog 53 = some (.agg [.int .i64 0, .str [], .bool false]) := by kernel_rfl
theorem fa53_0 (a : AV) : aFieldAddr Try.prog 53 0 a = fieldOff 0 a := by cases a <;> kernel_rfl
theorem fd53_0 (a : AV) : aField Try.prog 53 0 a = fieldVal Try.prog 2 0 a := by cases a <;> kernel_rfl
theorem fa53_1 (a : AV) : aFieldAddr Try.prog 53 1 a = fieldOff 1 a := by cases a <;> kernel_rfl
theorem fd53_1 (a : AV) : aField Try.prog 53 1 a = fieldVal Try.prog 9 1 a := by cases a <;> kernel_rfl
theorem fa53_2 (a : AV) : aFieldAddr Try.prog 53 2 a = fieldOff 2 a := by cases a <;> kernel_rfl
theorem fd53_2 (a : AV) : aField Try.prog 53 2 a = fieldVal Try.prog 4 2 a := by cases a <;> kernel_rfl
theorem bu53 (ps : List (Nat × AV)) : aBuild Try.prog 53 ps = (fillA (fun i => [(0, 1), (1, 1), (2, 1)][i]?) (AV.cells (.agg [.int .i64 0, .str [], .bool false])) ps).map .agg := by kernel_rfl
theorem ag54 : isAggT Try.prog 54 = some false := by kernel_rfl
theorem sz54 : sizeT Try.prog 54 = some 1 := by kernel_rfl
theorem by54 : bytesT Try.prog 54 = some 0 := by kernel_rfl
theorem ag55 : isAggT Try.prog 55 = some false := by kernel_rfl
theorem sz55 : sizeT Try.prog 55 = some 1 := by kernel_rfl
theorem by55 : bytesT Try.prog 55 = some 8 := by kernel_rfl
theorem ze55 : zeroT Try.prog 55 = some (.nilF) := by kernel_rfl
theorem ag56 : isAggT Try.prog 56 = some false := by kernel_rfl
theorem sz56 : sizeT Try.prog 56 = some 1 := by kernel_rfl
theorem by56 : bytesT Try.prog 56 = some 8 := by kernel_rfl
theorem ze56 : zeroT Try.prog 56 = some (.nilF) := by kernel_rfl
theorem ag57 : isAggT Try.prog 57 = some false := by kernel_rfl
theorem sz57 : sizeT Try.prog 57 = some 1 := by kernel_rfl
theorem by57 : bytesT Try.prog 57 = some 8 := by kernel_rfl
theorem ze57 : zeroT Try.prog 57 = some (.nilF) := by kernel_rfl
theorem ag58 : isAggT Try.prog 58 = some false := by kernel_rfl
theorem sz58 : sizeT Try.prog 58 = some 1 := by kernel_rfl
theorem by58 : bytesT Try.prog 58 = some 0 := by kernel_rfl
theorem ag59 : isAggT Try.prog 59 = some false := by kernel_rfl
theorem sz59 : sizeT Try.prog 59 = some 1 := by kernel_rfl
theorem by59 : bytesT Try.prog 59 = some 8 := by kernel_rfl
theorem ze59 : zeroT Try.prog 59 = some (.nilF) := by kernel_rfl
theorem ag60 : isAggT Try.prog 60 = some false := by kernel_rfl
theorem sz60 : sizeT Try.prog 60 = some 1 := by kernel_rfl
theorem by60 : bytesT Try.prog 60 = some 8 := by kernel_rfl
theorem ze60 : zeroT Try.prog 60 = some (.nilF) := by kernel_rfl
theorem ag61 : isAggT Try.prog 61 = some false := by kernel_rfl
theorem sz61 : sizeT Try.prog 61 = some 1 := by kernel_rfl
theorem by61 : bytesT Try.prog 61 = some 8 := by kernel_rfl
theorem ze61 : zeroT Try.prog 61 = some (.nilF) := by kernel_rfl
theorem ag62 : isAggT Try.prog 62 = some false := by kernel_rfl
theorem sz62 : sizeT Try.prog 62 = some 1 := by kernel_rfl
theorem by62 : bytesT Try.prog 62 = some 24 := by kernel_rfl
theorem se62 : sliceElem Try.prog 62 = some 53 := by kernel_rfl
theorem ze62 : zeroT Try.prog 62 = some (.nilS) := by kernel_rfl
theorem ag63 : isAggT Try.prog 63 = some false := by kernel_rfl
theorem sz63 : sizeT Try.prog 63 = some 1 := by kernel_rfl
theorem by63 : bytesT Try.prog 63 = some 8 := by kernel_rfl
theorem ze63 : zeroT Try.prog 63 = some (.nilF) := by kernel_rfl
theorem ag64 : isAggT Try.prog 64 = some false := by kernel_rfl
theorem sz64 : sizeT Try.prog 64 = some 1 := by kernel_rfl
theorem by64 : bytesT Try.prog 64 = some 8 := by kernel_rfl
theorem ze64 : zeroT Try.prog 64 = some (.nilF) := by kernel_rfl
theorem ag65 : isAggT Try.prog 65 = some false := by kernel_rfl
theorem sz65 : sizeT Try.prog 65 = some 1 := by kernel_rfl
theorem by65 : bytesT Try.prog 65 = some 8 := by kernel_rfl
theorem ze65 : zeroT Try.prog 65 = some (.nilF) := by kernel_rfl
theorem ag66 : isAggT Try.prog 66 = some false := by kernel_rfl
theorem sz66 : sizeT Try.prog 66 = some 1 := by kernel_rfl
theorem by66 : bytesT Try.prog 66 = some 8 := by kernel_rfl
theorem ze66 : zeroT Try.prog 66 = some (.nilF) := by kernel_rfl
theorem ag67 : isAggT Try.prog 67 = some false := by kernel_rfl
theorem sz67 : sizeT Try.prog 67 = some 1 := by kernel_rfl
theorem by67 : bytesT Try.prog 67 = some 24 := by kernel_rfl
theorem se67 : sliceElem Try.prog 67 = some 76 := by kernel_rfl
theorem ze67 : zeroT Try.prog 67 = some (.nilS) := by kernel_rfl
theorem ag68 : isAggT Try.prog 68 = some false := by kernel_rfl
theorem sz68 : sizeT Try.prog 68 = some 1 := by kernel_rfl
theorem by68 : bytesT Try.prog 68 = some 8 := by kernel_rfl
theorem ze68 : zeroT Try.prog 68 = some (.nil) := by kernel_rfl
theorem ag69 : isAggT Try.prog 69 = some false := by kernel_rfl
theorem sz69 : sizeT Try.prog 69 = some 1 := by kernel_rfl
theorem by69 : bytesT Try.prog 69 = some 8 := by kernel_rfl
theorem ze69 : zeroT Try.prog 69 = some (.nilF) := by kernel_rfl
theorem ag70 : isAggT Try.prog 70 = some true := by kernel_rfl
theorem sz70 : sizeT Try.prog 70 = some 2 := by kernel_rfl
theorem by70 : bytesT Try.prog 70 = some 16 := by kernel_rfl
theorem ze70 : zeroT Try.prog 70 = some (.agg [.int .i64 0, .int .i64 0]) := by kernel_rfl
theorem fa70_0 (a : AV) : aFieldAddr Try.prog 70 0 a = fieldOff 0 a := by cases a <;> kernel_rfl
theorem fd70_0 (a : AV) : aField Try.prog 70 0 a = fieldVal Try.prog 3 0 a := by cases a <;> kernel_rfl
theorem fa70_1 (a : AV) : aFieldAddr Try.prog 70 1 a = fieldOff 1 a := by cases a <;> kernel_rfl
theorem fd70_1 (a : AV) : aField Try.prog 70 1 a = fieldVal Try.prog 3 1 a := by cases a <;> kernel_rfl
theorem bu70 (ps : List (Nat × AV)) : aBuild Try.prog 70 ps = (fillA (fun i => [(0, 1), (1, 1)][i]?) (AV.cells (.agg [.int .i64 0, .int .i64 0])) ps).map .agg := by kernel_rfl
theorem ag71 : isAggT Try.prog 71 = some true := by kernel_rfl
theorem sz71 : sizeT Try.prog 71 = some 2 := by kernel_rfl
theorem by71 : bytesT Try.prog 71 = some 16 := by kernel_rfl
theorem ze71 : zeroT Try.prog 71 = some (.agg [.int .i64 0, .int .i64 0]) := by kernel_rfl
theorem fa71_0 (a : AV) : aFieldAddr Try.prog 71 0 a = fieldOff 0 a := by cases a <;> kernel_rfl
theorem fd71_0 (a : AV) : aField Try.prog 71 0 a = fieldVal Try.prog 3 0 a := by cases a <;> kernel_rfl
theorem fa71_1 (a : AV) : aFieldAddr Try.prog 71 1 a = fieldOff 1 a := by cases a <;> kernel_rfl
theorem fd71_1 (a : AV) : aField Try.prog 71 1 a = fieldVal Try.prog 3 1 a := by cases a <;> kernel_rfl
theorem bu71 (ps : List (Nat × AV)) : aBuild Try.prog 71 ps = (fillA (fun i => [(0, 1), (1, 1)][i]?) (AV.cells (.agg [.int .i64 0, .int .i64 0])) ps).map .agg := by kernel_rfl
theorem ag72 : isAggT Try.prog 72 = some false := by kernel_rfl
theorem sz72 : sizeT Try.prog 72 = some 1 := by kernel_rfl
theorem by72 : bytesT Try.prog 72 = some 8 := by kernel_rfl
theorem ze72 : zeroT Try.prog 72 = some (.nil) := by kernel_rfl
theorem ag73 : isAggT Try.prog 73 = some false := by kernel_rfl
theorem sz73 : sizeT Try.prog 73 = some 1 := by kernel_rfl
theorem by73 : bytesT Try.prog 73 = some 8 := by kernel_rfl
theorem ze73 : zeroT Try.prog 73 = some (.nilF) := by kernel_rfl
theorem ag74 : isAggT Try.prog 74 = some false := by kernel_rfl
theorem sz74 : sizeT Try.prog 74 = some 1 := by kernel_rfl
theorem by74 : bytesT Try.prog 74 = some 24 := by kernel_rfl
theorem se74 : sliceElem Try.prog 74 = some 153 := by kernel_rfl
theorem ze74 : zeroT Try.prog 74 = some (.nilS) := by kernel_rfl
theorem ag75 : isAggT Try.prog 75 = some true := by kernel_rfl
theorem sz75 : sizeT Try.prog 75 = some 6 := by kernel_rfl
theorem by75 : bytesT Try.prog 75 = some 80 := by kernel_rfl
theorem ze75 : zeroT Try.prog 75 = some (.agg [.int .i64 0, .nilS, .int .i64 0, .str [], .str [], .int .i64 0]) := by kernel_rfl
theorem fa75_0 (a : AV) : aFieldAddr Try.prog 75 0 a = fieldOff 0 a := by cases a <;> kernel_rfl
theorem fd75_0 (a : AV) : aField Try.prog 75 0 a = fieldVal Try.prog 3 0 a := by cases a <;> kernel_rfl
theorem fa75_1 (a : AV) : aFieldAddr Try.prog 75 1 a = fieldOff 1 a := by cases a <;> kernel_rfl
theorem fd75_1 (a : AV) : aField Try.prog 75 1 a = fieldVal Try.prog 74 1 a := by cases a <;> kernel_rfl
theorem fa75_2 (a : AV) : aFieldAddr Try.prog 75 2 a = fieldOff 2 a := by cases a <;> kernel_rfl
theorem fd75_2 (a : AV) : aField Try.prog 75 2 a = fieldVal Try.prog 2 2 a := by cases a <;> kernel_rfl
theorem fa75_3 (a : AV) : aFieldAddr Try.prog 75 3 a = fieldOff 3 a := by cases a <;> kernel_rfl
theorem fd75_3 (a : AV) : aField Try.prog 75 3 a = fieldVal Try.prog 9 3 a := by cases a <;> kernel_rfl
theorem fa75_4 (a : AV) : aFieldAddr Try.prog 75 4 a = fieldOff 4 a := by cases a <;> kernel_rfl
theorem fd75_4 (a : AV) : aField Try.prog 75 4 a = fieldVal Try.prog 9 4 a := by cases a <;> kernel_rfl
theorem fa75_5 (a : AV) : aFieldAddr Try.prog 75 5 a = fieldOff 5 a := by cases a <;> kernel_rfl
theorem fd75_5 (a : AV) : aField Try.prog 75 5 a = fieldVal Try.prog 3 5 a := by cases a <;> kernel_rfl
theorem bu75 (ps : List (Nat × AV)) : aBuild Try.prog 75 ps = (fillA (fun i => [(0, 1), (1, 1), (2, 1), (3, 1), (4, 1), (5, 1)][i]?) (AV.cells (.agg [.int .i64 0, .nilS, .int .i64 0, .str [], .str [], .int .i64 0])) ps).map .agg := by kernel_rfl
theorem ag76 : isAggT Try.prog 76 = some true := by kernel_rfl
theorem sz76 : sizeT Try.prog 76 = some 6 := by kernel_rfl
theorem by76 : bytesT Try.prog 76 = some 80 := by kernel_rfl
theorem ze76 : zeroT Try.prog 76 = some (.agg [.int .i64 0, .nilS, .int .i64 0, .str [], .str [], .int .i64 0]) := by kernel_rfl
theorem fa76_0 (a : AV) : aFieldAddr Try.prog 76 0 a = fieldOff 0 a := by cases a <;> kernel_rfl
theorem fd76_0 (a : AV) : aField Try.prog 76 0 a = fieldVal Try.prog 3 0 a := by cases a <;> kernel_rfl
theorem fa76_1 (a : AV) : aFieldAddr Try.prog 76 1 a = fieldOff 1 a := by cases a <;> kernel_rfl
theorem fd76_1 (a : AV) : aField Try.prog 76 1 a = fieldVal Try.prog 74 1 a := by cases a <;> kernel_rfl
theorem fa76_2 (a : AV) : aFieldAddr Try.prog 76 2 a = fieldOff 2 a := by cases a <;> kernel_rfl
theorem fd76_2 (a : AV) : aField Try.prog 76 2 a = fieldVal Try.prog 2 2 a := by cases a <;> kernel_rfl
theorem fa76_3 (a : AV) : aFieldAddr Try.prog 76 3 a = fieldOff 3 a := by cases a <;> kernel_rfl
theorem fd76_3 (a : AV) : aField Try.prog 76 3 a = fieldVal Try.prog 9 3 a := by cases a <;> kernel_rfl
theorem fa76_4 (a : AV) : aFieldAddr Try.prog 76 4 a = fieldOff 4 a := by cases a <;> kernel_rfl
theorem fd76_4 (a : AV) : aField Try.prog 76 4 a = fieldVal Try.prog 9 4 a := by cases a <;> kernel_rfl
theorem fa76_5 (a : AV) : aFieldAddr Try.prog 76 5 a = fieldOff 5 a := by cases a <;> kernel_rfl
theorem fd76_5 (a : AV) : aField Try.prog 76 5 a = fieldVal Try.prog 3 5 a := by cases a <;> kernel_rfl
theorem bu76 (ps : List (Nat × AV)) : aBuild Try.prog 76 ps = (fillA (fun i => [(0, 1), (1, 1), (2, 1), (3, 1), (4, 1), (5, 1)][i]?) (AV.cells (.agg [.int .i64 0, .nilS, .int .i64 0, .str [], .str [], .int .i64 0])) ps).map .agg := by kernel_rfl
theorem ag77 : isAggT Try.prog 77 = some false := by kernel_rfl
theorem sz77 : sizeT Try.prog 77 = some 1 := by kernel_rfl
theorem by77 : bytesT Try.prog 77 = some 8 := by kernel_rfl
theorem ze77 : zeroT Try.prog 77 = some (.nilF) := by kernel_rfl
theorem ag78 : isAggT Try.prog 78 = some false := by kernel_rfl
theorem sz78 : sizeT Try.prog 78 = some 1 := by kernel_rfl
theorem by78 : bytesT Try.prog 78 = some 24 := by kernel_rfl
theorem se78 : sliceElem Try.prog 78 = some 83 := by kernel_rfl
theorem ze78 : zeroT Try.prog 78 = some (.nilS) := by kernel_rfl
theorem ag79 : isAggT Try.prog 79 = some false := by kernel_rfl
theorem sz79 : sizeT Try.prog 79 = some 1 := by kernel_rfl
theorem by79 : bytesT Try.prog 79 = some 0 := by kernel_rfl
theorem ag80 : isAggT Try.prog 80 = some false := by kernel_rfl
theorem sz80 : sizeT Try.prog 80 = some 1 := by kernel_rfl
theorem by80 : bytesT Try.prog 80 = some 8 := by kernel_rfl
theorem ze80 : zeroT Try.prog 80 = some (.nilF) := by kernel_rfl
theorem ag81 : isAggT Try.prog 81 = some false := by kernel_rfl
theorem sz81 : sizeT Try.prog 81 = some 1 := by kernel_rfl
theorem by81 : bytesT Try.prog 81 = some 8 := by kernel_rfl
theorem ze81 : zeroT Try.prog 81 = some (.nilF) := by kernel_rfl
theorem ag82 : isAggT Try.prog 82 = some true := by kernel_rfl
theorem sz82 : sizeT Try.prog 82 = some 3 := by kernel_rfl
theorem by82 : bytesT Try.prog 82 = some 40 := by kernel_rfl
theorem ze82 : zeroT Try.prog 82 = some (.agg [.str [], .str [], .int .i64 0]) := by kernel_rfl
theorem fa82_0 (a : AV) : aFieldAddr Try.prog 82 0 a = fieldOff 0 a := by cases a <;> kernel_rfl
theorem fd82_0 (a : AV) : aField Try.prog 82 0 a = fieldVal Try.prog 9 0 a := by cases a <;> kernel_rfl
theorem fa82_1 (a : AV) : aFieldAddr Try.prog 82 1 a = fieldOff 1 a := by cases a <;> kernel_rfl
theorem fd82_1 (a : AV) : aField Try.prog 82 1 a = fieldVal Try.prog 9 1 a := by cases a <;> kernel_rfl
theorem fa82_2 (a : AV) : aFieldAddr Try.prog 82 2 a = fieldOff 2 a := by cases a <;> kernel_rfl
theorem fd82_2 (a : AV) : aField Try.prog 82 2 a = fieldVal Try.prog 2 2 a := by cases a <;> kernel_rfl
theorem bu82 (ps : List (Nat × AV)) : aBuild Try.prog 82 ps = (fillA (fun i => [(0, 1), (1, 1), (2, 1)][i]?) (AV.cells (.agg [.str [], .str [], .int .i64 0])) ps).map .agg := by kernel_rfl
theorem ag83 : isAggT Try.prog 83 = some true := by kernel_rfl
theorem sz83 : sizeT Try.prog 83 = some 3 := by kernel_rfl
theorem by83 : bytesT Try.prog 83 = some 40 := by kernel_rfl
theorem ze83 : zeroT Try.prog 83 = some (.agg [.str [], .str [], .int .i64 0]) := by kernel_rfl
theorem fa83_0 (a : AV) : aFieldAddr Try.prog 83 0 a = fieldOff 0 a := by cases a <;> kernel_rfl
theorem fd83_0 (a : AV) : aField Try.prog 83 0 a = fieldVal Try.prog 9 0 a := by cases a <;> kernel_rfl
theorem fa83_1 (a : AV) : aFieldAddr Try.prog 83 1 a = fieldOff 1 a := by cases a <;> kernel_rfl
theorem fd83_1 (a : AV) : aField Try.prog 83 1 a = fieldVal Try.prog 9 1 a := by cases a <;> kernel_rfl
theorem fa83_2 (a : AV) : aFieldAddr Try.prog 83 2 a = fieldOff 2 a := by cases a <;> kernel_rfl
theorem fd83_2 (a : AV) : aField Try.prog 83 2 a = fieldVal Try.prog 2 2 a := by cases a <;> kernel_rfl
theorem bu83 (ps : List (Nat × AV)) : aBuild Try.prog 83 ps = (fillA (fun i => [(0, 1), (1, 1), (2, 1)][i]?) (AV.cells (.agg [.str [], .str [], .int .i64 0])) ps).map .agg := by kernel_rfl
theorem ag84 : isAggT Try.prog 84 = some false := by kernel_rfl
theorem sz84 : sizeT Try.prog 84 = some 1 := by kernel_rfl
theorem by84 : bytesT Try.prog 84 = some 8 := by kernel_rfl
theorem ze84 : zeroT Try.prog 84 = some (.nilF) := by kernel_rfl
theorem ag85 : isAggT Try.prog 85 = some false := by kernel_rfl
theorem sz85 : sizeT Try.prog 85 = some 1 := by kernel_rfl
theorem by85 : bytesT Try.prog 85 = some 8 := by kernel_rfl
theorem ze85 : zeroT Try.prog 85 = some (.nilF) := by kernel_rfl
theorem ag86 : isAggT Try.prog 86 = some false := by kernel_rfl
theorem sz86 : sizeT Try.prog 86 = some 1 := by kernel_rfl
theorem by86 : bytesT Try.prog 86 = some 24 := by kernel_rfl
theorem se86 : sliceElem Try.prog 86 = some 90 := by kernel_rfl
theorem ze86 : zeroT Try.prog 86 = some (.nilS) := by kernel_rfl
theorem ag87 : isAggT Try.prog 87 = some false := by kernel_rfl
theorem sz87 : sizeT Try.prog 87 = some 1 := by kernel_rfl
theorem by87 : bytesT Try.prog 87 = some 24 := by kernel_rfl
theorem se87 : sliceElem Try.prog 87 = some 46 := by kernel_rfl
theorem ze87 : zeroT Try.prog 87 = some (.nilS) := by kernel_rfl
theorem ag88 : isAggT Try.prog 88 = some true := by kernel_rfl
theorem sz88 : sizeT Try.prog 88 = some 6 := by kernel_rfl
theorem by88 : bytesT Try.prog 88 = some 96 := by kernel_rfl
theorem ze88 : zeroT Try.prog 88 = some (.agg [.nilS, .int .i64 0, .int .i64 0, .int .i64 0, .nilS, .nilS]) := by kernel_rfl
theorem fa88_0 (a : AV) : aFieldAddr Try.prog 88 0 a = fieldOff 0 a := by cases a <;> kernel_rfl
theorem fd88_0 (a : AV) : aField Try.prog 88 0 a = fieldVal Try.prog 86 0 a := by cases a <;> kernel_rfl
theorem fa88_1 (a : AV) : aFieldAddr Try.prog 88 1 a = fieldOff 1 a := by cases a <;> kernel_rfl
theorem fd88_1 (a : AV) : aField Try.prog 88 1 a = fieldVal Try.prog 3 1 a := by cases a <;> kernel_rfl
theorem fa88_2 (a : AV) : aFieldAddr Try.prog 88 2 a = fieldOff 2 a := by cases a <;> kernel_rfl
theorem fd88_2 (a : AV) : aField Try.prog 88 2 a = fieldVal Try.prog 3 2 a := by cases a <;> kernel_rfl
theorem fa88_3 (a : AV) : aFieldAddr Try.prog 88 3 a = fieldOff 3 a := by cases a <;> kernel_rfl
theorem fd88_3 (a : AV) : aField Try.prog 88 3 a = fieldVal Try.prog 2 3 a := by cases a <;> kernel_rfl
theorem fa88_4 (a : AV) : aFieldAddr Try.prog 88 4 a = fieldOff 4 a := by cases a <;> kernel_rfl
theorem fd88_4 (a : AV) : aField Try.prog 88 4 a = fieldVal Try.prog 32 4 a := by cases a <;> kernel_rfl
theorem fa88_5 (a : AV) : aFieldAddr Try.prog 88 5 a = fieldOff 5 a := by cases a <;> kernel_rfl
theorem fd88_5 (a : AV) : aField Try.prog 88 5 a = fieldVal Try.prog 87 5 a := by cases a <;> kernel_rfl
theorem bu88 (ps : List (Nat × AV)) : aBuild Try.prog 88 ps = (fillA (fun i => [(0, 1), (1, 1), (2, 1), (3, 1), (4, 1), (5, 1)][i]?) (AV.cells (.agg [.nilS, .int .i64 0, .int .i64 0, .int .i64 0, .nilS, .nilS])) ps).map .agg := by kernel_rfl
theorem ag89 : isAggT Try.prog 89 = some true := by kernel_rfl
theorem sz89 : sizeT Try.prog 89 = some 6 := by kernel_rfl
theorem by89 : bytesT Try.prog 89 = some 96 := by kernel_rfl
theorem ze89 : zeroT Try.prog 89 = some (.agg [.nilS, .int .i64 0, .int .i64 0, .int .i64 0, .nilS, .nilS]) := by kernel_rfl
theorem fa89_0 (a : AV) : aFieldAddr Try.prog 89 0 a = fieldOff 0 a := by cases a <;> kernel_rfl
theorem fd89_0 (a : AV) : aField Try.prog 89 0 a = fieldVal Try.prog 86 0 a := by cases a <;> kernel_rfl
theorem fa89_1 (a : AV) : aFieldAddr Try.prog 89 1 a = fieldOff 1 a := by cases a <;> kernel_rfl
theorem fd89_1 (a : AV) : aField Try.prog 89 1 a = fieldVal Try.prog 3 1 a := by cases a <;> kernel_rfl
theorem fa89_2 (a : AV) : aFieldAddr Try.prog 89 2 a = fieldOff 2 a := by cases a <;> kernel_rfl
theorem fd89_2 (a : AV) : aField Try.prog 89 2 a = fieldVal Try.prog 3 2 a := by cases a <;> kernel_rfl
theorem fa89_3 (a : AV) : aFieldAddr Try.prog 89 3 a = fieldOff 3 a := by cases a <;> kernel_rfl
theorem fd89_3 (a : AV) : aField Try.prog 89 3 a = fieldVal Try.prog 2 3 a := by cases a <;> kernel_rfl
theorem fa89_4 (a : AV) : aFieldAddr Try.prog 89 4 a = fieldOff 4 a := by cases a <;> kernel_rfl
theorem fd89_4 (a : AV) : aField Try.prog 89 4 a = fieldVal Try.prog 32 4 a := by cases a <;> kernel_rfl
theorem fa89_5 (a : AV) : aFieldAddr Try.prog 89 5 a = fieldOff 5 a := by cases a <;> kernel_rfl
theorem fd89_5 (a : AV) : aField Try.prog 89 5 a = fieldVal Try.prog 87 5 a := by cases a <;> kernel_rfl
theorem bu89 (ps : List (Nat × AV)) : aBuild Try.prog 89 ps = (fillA (fun i => [(0, 1), (1, 1), (2, 1), (3, 1), (4, 1), (5, 1)][i]?) (AV.cells (.agg [.nilS, .int .i64 0, .int .i64 0, .int .i64 0, .nilS, .nilS])) ps).map .agg := by kernel_rfl
theorem ag90 : isAggT Try.prog 90 = some false := by kernel_rfl
theorem sz90 : sizeT Try.prog 90 = some 1 := by kernel_rfl
theorem by90 : bytesT Try.prog 90 = some 24 := by kernel_rfl
theorem se90 : sliceElem Try.prog 90 = some 136 := by kernel_rfl
theorem ze90 : zeroT Try.prog 90 = some (.nilS) := by kernel_rfl
theorem ag91 : isAggT Try.prog 91 = some false := by kernel_rfl
theorem sz91 : sizeT Try.prog 91 = some 1 := by kernel_rfl
theorem by91 : bytesT Try.prog 91 = some 8 := by kernel_rfl
theorem ze91 : zeroT Try.prog 91 = some (.nilF) := by kernel_rfl
theorem ag92 : isAggT Try.prog 92 = some false := by kernel_rfl
theorem sz92 : sizeT Try.prog 92 = some 1 := by kernel_rfl
theorem by92 : bytesT Try.prog 92 = some 8 := by kernel_rfl
theorem ze92 : zeroT Try.prog 92 = some (.nilF) := by kernel_rfl
theorem ag93 : isAggT Try.prog 93 = some false := by kernel_rfl
theorem sz93 : sizeT Try.prog 93 = some 1 := by kernel_rfl
theorem by93 : bytesT Try.prog 93 = some 0 := by kernel_rfl
theorem ag94 : isAggT Try.prog 94 = some false := by kernel_rfl
theorem sz94 : sizeT Try.prog 94 = some 1 := by kernel_rfl
theorem by94 : bytesT Try.prog 94 = some 8 := by kernel_rfl
theorem ze94 : zeroT Try.prog 94 = some (.nilF) := by kernel_rfl
theorem ag95 : isAggT Try.prog 95 = some false := by kernel_rfl
theorem sz95 : sizeT Try.prog 95 = some 1 := by kernel_rfl
theorem by95 : bytesT Try.prog 95 = some 0 := by kernel_rfl
theorem ag96 : isAggT Try.prog 96 = some false := by kernel_rfl
theorem sz96 : sizeT Try.prog 96 = some 1 := by kernel_rfl
theorem by96 : bytesT Try.prog 96 = some 8 := by kernel_rfl
theorem ze96 : zeroT Try.prog 96 = some (.nilF) := by kernel_rfl
theorem ag97 : isAggT Try.prog 97 = some true := by kernel_rfl
theorem sz97 : sizeT Try.prog 97 = some 3 := by kernel_rfl
theorem by97 : bytesT Try.prog 97 = some 40 := by kernel_rfl
theorem ze97 : zeroT Try.prog 97 = some (.agg [.str [], .str [], .bool false]) := by kernel_rfl
theorem fa97_0 (a : AV) : aFieldAddr Try.prog 97 0 a = fieldOff 0 a := by cases a <;> kernel_rfl
theorem fd97_0 (a : AV) : aField Try.prog 97 0 a = fieldVal Try.prog 9 0 a := by cases a <;> kernel_rfl
theorem fa97_1 (a : AV) : aFieldAddr Try.prog 97 1 a = fieldOff 1 a := by cases a <;> kernel_rfl
theorem fd97_1 (a : AV) : aField Try.prog 97 1 a = fieldVal Try.prog 9 1 a := by cases a <;> kernel_rfl
theorem fa97_2 (a : AV) : aFieldAddr Try.prog 97 2 a = fieldOff 2 a := by cases a <;> kernel_rfl
theorem fd97_2 (a : AV) : aField Try.prog 97 2 a = fieldVal Try.prog 4 2 a := by cases a <;> kernel_rfl
theorem bu97 (ps : List (Nat × AV)) : aBuild Try.prog 97 ps = (fillA (fun i => [(0, 1), (1, 1), (2, 1)][i]?) (AV.cells (.agg [.str [], .str [], .bool false])) ps).map .agg := by kernel_rfl
theorem ag98 : isAggT Try.prog 98 = some true := by kernel_rfl
theorem sz98 : sizeT Try.prog 98 = some 3 := by kernel_rfl
theorem by98 : bytesT Try.prog 98 = some 40 := by kernel_rfl
theorem ze98 : zeroT Try.prog 98 = some (.agg [.str [], .str [], .bool false]) := by kernel_rfl
theorem fa98_0 (a : AV) : aFieldAddr Try.prog 98 0 a = fieldOff 0 a := by cases a <;> kernel_rfl
theorem fd98_0 (a : AV) : aField Try.prog 98 0 a = fieldVal Try.prog 9 0 a := by cases a <;> kernel_rfl
theorem fa98_1 (a : AV) : aFieldAddr Try.prog 98 1 a = fieldOff 1 a := by cases a <;> kernel_rfl
theorem fd98_1 (a : AV) : aField Try.prog 98 1 a = fieldVal Try.prog 9 1 a := by cases a <;> kernel_rfl
theorem fa98_2 (a : AV) : aFieldAddr Try.prog 98 2 a = fieldOff 2 a := by cases a <;> kernel_rfl
theorem fd98_2 (a : AV) : aField Try.prog 98 2 a = fieldVal Try.prog 4 2 a := by cases a <;> kernel_rfl
theorem bu98 (ps : List (Nat × AV)) : aBuild Try.prog 98 ps = (fillA (fun i => [(0, 1), (1, 1), (2, 1)][i]?) (AV.cells (.agg [.str [], .str [], .bool false])) ps).map .agg := by kernel_rfl
theorem ag99 : isAggT Try.prog 99 = some false := by kernel_rfl
theorem sz99 : sizeT Try.prog 99 = some 1 := by kernel_rfl
theorem by99 : bytesT Try.prog 99 = some 24 := by kernel_rfl
theorem se99 : sliceElem Try.prog 99 = some 98 := by kernel_rfl
theorem ze99 : zeroT Try.prog 99 = some (.nilS) := by kernel_rfl
theorem ag100 : isAggT Try.prog 100 = some false := by kernel_rfl
theorem sz100 : sizeT Try.prog 100 = some 1 := by kernel_rfl
theorem by100 : bytesT Try.prog 100 = some 8 := by kernel_rfl
theorem ze100 : zeroT Try.prog 100 = some (.nilF) := by kernel_rfl
theorem ag101 : isAggT Try.prog 101 = some false := by kernel_rfl
theorem sz101 : sizeT Try.prog 101 = some 1 := by kernel_rfl
theorem by101 : bytesT Try.prog 101 = some 8 := by kernel_rfl
theorem ze101 : zeroT Try.prog 101 = some (.nilF) := by kernel_rfl
theorem ag102 : isAggT Try.prog 102 = some false := by kernel_rfl
theorem sz102 : sizeT Try.prog 102 = some 1 := by kernel_rfl
theorem by102 : bytesT Try.prog 102 = some 8 := by kernel_rfl
theorem ze102 : zeroT Try.prog 102 = some (.nilF) := by kernel_rfl
theorem ag103 : isAggT Try.prog 103 = some false := by kernel_rfl
theorem sz103 : sizeT Try.prog 103 = some 1 := by kernel_rfl
theorem by103 : bytesT Try.prog 103 = some 24 := by kernel_rfl
theorem se103 : sliceElem Try.prog 103 = some 107 := by kernel_rfl
theorem ze103 : zeroT Try.prog 103 = some (.nilS) := by kernel_rfl
theorem ag104 : isAggT Try.prog 104 = some true := by kernel_rfl
theorem sz104 : sizeT Try.prog 104 = some 2 := by kernel_rfl
theorem by104 : bytesT Try.prog 104 = some 32 := by kernel_rfl
theorem ze104 : zeroT Try.prog 104 = some (.agg [.nilS, .int .i64 0]) := by kernel_rfl
theorem fa104_0 (a : AV) : aFieldAddr Try.prog 104 0 a = fieldOff 0 a := by cases a <;> kernel_rfl
theorem fd104_0 (a : AV) : aField Try.prog 104 0 a = fieldVal Try.prog 103 0 a := by cases a <;> kernel_rfl
theorem fa104_1 (a : AV) : aFieldAddr Try.prog 104 1 a = fieldOff 1 a := by cases a <;> kernel_rfl
theorem fd104_1 (a : AV) : aField Try.prog 104 1 a = fieldVal Try.prog 3 1 a := by cases a <;> kernel_rfl
theorem bu104 (ps : List (Nat × AV)) : aBuild Try.prog 104 ps = (fillA (fun i => [(0, 1), (1, 1)][i]?) (AV.cells (.agg [.nilS, .int .i64 0])) ps).map .agg := by kernel_rfl
theorem ag105 : isAggT Try.prog 105 = some true := by kernel_rfl
theorem sz105 : sizeT Try.prog 105 = some 2 := by kernel_rfl
theorem by105 : bytesT Try.prog 105 = some 32 := by kernel_rfl
theorem ze105 : zeroT Try.prog 105 = some (.agg [.nilS, .int .i64 0]) := by kernel_rfl
theorem fa105_0 (a : AV) : aFieldAddr Try.prog 105 0 a = fieldOff 0 a := by cases a <;> kernel_rfl
theorem fd105_0 (a : AV) : aField Try.prog 105 0 a = fieldVal Try.prog 103 0 a := by cases a <;> kernel_rfl
theorem fa105_1 (a : AV) : aFieldAddr Try.prog 105 1 a = fieldOff 1 a := by cases a <;> kernel_rfl
theorem fd105_1 (a : AV) : aField Try.prog 105 1 a = fieldVal Try.prog 3 1 a := by cases a <;> kernel_rfl
theorem bu105 (ps : List (Nat × AV)) : aBuild Try.prog 105 ps = (fillA (fun i => [(0, 1), (1, 1)][i]?) (AV.cells (.agg [.nilS, .int .i64 0])) ps).map .agg := by kernel_rfl
theorem ag106 : isAggT Try.prog 106 = some true := by kernel_rfl
theorem sz106 : sizeT Try.prog 106 = some 21 := by kernel_rfl
theorem by106 : bytesT Try.prog 106 = some 248 := by kernel_rfl
theorem ze106 : zeroT Try.prog 106 = some (.agg [.int .i64 0, .int .i64 0, .nilS, .int .i64 0, .str [], .int .i64 0, .int .i64 0, .str [], .str [], .str [], .int .i64 0, .bool false, .nilS, .nil, .nilS, .int .i64 0, .int .i64 0, .int .i64 0, .int .i64 0, .int .i64 0, .int .i64 0]) := by kernel_rfl
theorem fa106_0 (a : AV) : aFieldAddr Try.prog 106 0 a = fieldOff 0 a := by cases a <;> kernel_rfl
theorem fd106_0 (a : AV) : aField Try.prog 106 0 a = fieldVal Try.prog 3 0 a := by cases a <;> kernel_rfl
theorem fa106_1 (a : AV) : aFieldAddr Try.prog 106 1 a = fieldOff 1 a := by cases a <;> kernel_rfl
theorem fd106_1 (a : AV) : aField Try.prog 106 1 a = fieldVal Try.prog 36 1 a := by cases a <;> kernel_rfl
theorem fa106_2 (a : AV) : aFieldAddr Try.prog 106 2 a = fieldOff 20 a := by cases a <;> kernel_rfl
theorem fd106_2 (a : AV) : aField Try.prog 106 2 a = fieldVal Try.prog 2 20 a := by cases a <;> kernel_rfl
theorem bu106 (ps : List (Nat × AV)) : aBuild Try.prog 106 ps = (fillA (fun i => [(0, 1), (1, 19), (20, 1)][i]?) (AV.cells (.agg [.int .i64 0, .int .i64 0, .nilS, .int .i64 0, .str [], .int .i64 0, .int .i64 0, .str [], .str [], .str [], .int .i64 0, .bool false, .nilS, .nil, .nilS, .int .i64 0, .int .i64 0, .int .i64 0, .int .i64 0, .int .i64 0, .int .i64 0])) ps).map .agg := by kernel_rfl
theorem ag107 : isAggT Try.prog 107 = some true := by kernel_rfl
theorem sz107 : sizeT Try.prog 107 = some 21 := by kernel_rfl
theorem by107 : bytesT Try.prog 107 = some 248 := by kernel_rfl
theorem ze107 : zeroT Try.prog 107 = some (.agg [.int .i64 0, .int .i64 0, .nilS, .int .i64 0, .str [], .int .i64 0, .int .i64 0, .str [], .str [], .str [], .int .i64 0, .bool false, .nilS, .nil, .nilS, .int .i64 0, .int .i64 0, .int .i64 0, .int .i64 0, .int .i64 0, .int .i64 0]) := by kernel_rfl
theorem fa107_0 (a : AV) : aFieldAddr Try.prog 107 0 a = fieldOff 0 a := by cases a <;> kernel_rfl
theorem fd107_0 (a : AV) : aField Try.prog 107 0 a = fieldVal Try.prog 3 0 a := by cases a <;> kernel_rfl
theorem fa107_1 (a : AV) : aFieldAddr Try.prog 107 1 a = fieldOff 1 a := by cases a <;> kernel_rfl
theorem fd107_1 (a : AV) : aField Try.prog 107 1 a = fieldVal Try.prog 36 1 a := by cases a <;> kernel_rfl
theorem fa107_2 (a : AV) : aFieldAddr Try.prog 107 2 a = fieldOff 20 a := by cases a <;> kernel_rfl
theorem fd107_2 (a : AV) : aField Try.prog 107 2 a = fieldVal Try.prog 2 20 a := by cases a <;> kernel_rfl
theorem bu107 (ps : List (Nat × AV)) : aBuild Try.prog 107 ps = (fillA (fun i => [(0, 1), (1, 19), (20, 1)][i]?) (AV.cells (.agg [.int .i64 0, .int .i64 0, .nilS, .int .i64 0, .str [], .int .i64 0, .int .i64 0, .str [], .str [], .str [], .int .i64 0, .bool false, .nilS, .nil, .nilS, .int .i64 0, .int .i64 0, .int .i64 0, .int .i64 0, .int .i64 0, .int .i64 0])) ps).map .agg := by kernel_rfl
theorem ag108 : isAggT Try.prog 108 = some false := by kernel_rfl
theorem sz108 : sizeT Try.prog 108 = some 1 := by kernel_rfl
theorem by108 : bytesT Try.prog 108 = some 8 := by kernel_rfl
theorem ze108 : zeroT Try.prog 108 = some (.nilF) := by kernel_rfl
theorem ag109 : isAggT Try.prog 109 = some false := by kernel_rfl
theorem sz109 : sizeT Try.prog 109 = some 1 := by kernel_rfl
theorem by109 : bytesT Try.prog 109 = some 8 := by kernel_rfl
theorem ze109 : zeroT Try.prog 109 = some (.nilF) := by kernel_rfl
theorem ag110 : isAggT Try.prog 110 = some false := by kernel_rfl
theorem sz110 : sizeT Try.prog 110 = some 1 := by kernel_rfl
theorem by110 : bytesT Try.prog 110 = some 8 := by kernel_rfl
theorem ze110 : zeroT Try.prog 110 = some (.nilF) := by kernel_rfl
theorem ag111 : isAggT Try.prog 111 = some false := by kernel_rfl
theorem sz111 : sizeT Try.prog 111 = some 1 := by kernel_rfl
theorem by111 : bytesT Try.prog 111 = some 8 := by kernel_rfl
theorem ze111 : zeroT Try.prog 111 = some (.nilF) := by kernel_rfl
theorem ag112 : isAggT Try.prog 112 = some true := by kernel_rfl
theorem sz112 : sizeT Try.prog 112 = some 2 := by kernel_rfl
theorem by112 : bytesT Try.prog 112 = some 24 := by kernel_rfl
theorem ze112 : zeroT Try.prog 112 = some (.agg [.bool false, .str []]) := by kernel_rfl
theorem fa112_0 (a : AV) : aFieldAddr Try.prog 112 0 a = fieldOff 0 a := by cases a <;> kernel_rfl
theorem fd112_0 (a : AV) : aField Try.prog 112 0 a = fieldVal Try.prog 4 0 a := by cases a <;> kernel_rfl
theorem fa112_1 (a : AV) : aFieldAddr Try.prog 112 1 a = fieldOff 1 a := by cases a <;> kernel_rfl
theorem fd112_1 (a : AV) : aField Try.prog 112 1 a = fieldVal Try.prog 9 1 a := by cases a <;> kernel_rfl
theorem bu112 (ps : List (Nat × AV)) : aBuild Try.prog 112 ps = (fillA (fun i => [(0, 1), (1, 1)][i]?) (AV.cells (.agg [.bool false, .str []])) ps).map .agg := by kernel_rfl
theorem ag113 : isAggT Try.prog 113 = some true := by kernel_rfl
theorem sz113 : sizeT Try.prog 113 = some 2 := by kernel_rfl
theorem by113 : bytesT Try.prog 113 = some 24 := by kernel_rfl
theorem ze113 : zeroT Try.prog 113 = some (.agg [.bool false, .str []]) := by kernel_rfl
theorem fa113_0 (a : AV) : aFieldAddr Try.prog 113 0 a = fieldOff 0 a := by cases a <;> kernel_rfl
theorem fd113_0 (a : AV) : aField Try.prog 113 0 a = fieldVal Try.prog 4 0 a := by cases a <;> kernel_rfl
theorem fa113_1 (a : AV) : aFieldAddr Try.prog 113 1 a = fieldOff 1 a := by cases a <;> kernel_rfl
theorem fd113_1 (a : AV) : aField Try.prog 113 1 a = fieldVal Try.prog 9 1 a := by cases a <;> kernel_rfl
theorem bu113 (ps : List (Nat × AV)) : aBuild Try.prog 113 ps = (fillA (fun i => [(0, 1), (1, 1)][i]?) (AV.cells (.agg [.bool false, .str []])) ps).map .agg := by kernel_rfl
theorem ag114 : isAggT Try.prog 114 = some false := by kernel_rfl
theorem sz114 : sizeT Try.prog 114 = some 1 := by kernel_rfl
theorem by114 : bytesT Try.prog 114 = some 24 := by kernel_rfl
theorem se114 : sliceElem Try.prog 114 = some 190 := by kernel_rfl
theorem ze114 : zeroT Try.prog 114 = some (.nilS) := by kernel_rfl
theorem ag115 : isAggT Try.prog 115 = some false := by kernel_rfl
theorem sz115 : sizeT Try.prog 115 = some 1 := by kernel_rfl
theorem by115 : bytesT Try.prog 115 = some 24 := by kernel_rfl
theorem se115 : sliceElem Try.prog 115 = some 192 := by kernel_rfl
theorem ze115 : zeroT Try.prog 115 = some (.nilS) := by kernel_rfl
theorem ag116 : isAggT Try.prog 116 = some false := by kernel_rfl
theorem sz116 : sizeT Try.prog 116 = some 1 := by kernel_rfl
theorem by116 : bytesT Try.prog 116 = some 24 := by kernel_rfl
theorem se116 : sliceElem Try.prog 116 = some 194 := by kernel_rfl
theorem ze116 : zeroT Try.prog 116 = some (.nilS) := by kernel_rfl
theorem ag117 : isAggT Try.prog 117 = some true := by kernel_rfl
theorem sz117 : sizeT Try.prog 117 = some 16 := by kernel_rfl
theorem by117 : bytesT Try.prog 117 = some 216 := by kernel_rfl
theorem ze117 : zeroT Try.prog 117 = some (.agg [.int .i64 0, .int .i64 0, .int .i64 0, .str [], .int .i64 0, .int .i64 0, .str [], .str [], .str [], .bool false, .str [], .nilS, .int .i64 0, .int .i64 0, .nilS, .nilS]) := by kernel_rfl
theorem fa117_0 (a : AV) : aFieldAddr Try.prog 117 0 a = fieldOff 0 a := by cases a <;> kernel_rfl
theorem fd117_0 (a : AV) : aField Try.prog 117 0 a = fieldVal Try.prog 23 0 a := by cases a <;> kernel_rfl
theorem fa117_1 (a : AV) : aFieldAddr Try.prog 117 1 a = fieldOff 1 a := by cases a <;> kernel_rfl
theorem fd117_1 (a : AV) : aField Try.prog 117 1 a = fieldVal Try.prog 2 1 a := by cases a <;> kernel_rfl
theorem fa117_2 (a : AV) : aFieldAddr Try.prog 117 2 a = fieldOff 2 a := by cases a <;> kernel_rfl
theorem fd117_2 (a : AV) : aField Try.prog 117 2 a = fieldVal Try.prog 27 2 a := by cases a <;> kernel_rfl
theorem fa117_3 (a : AV) : aFieldAddr Try.prog 117 3 a = fieldOff 9 a := by cases a <;> kernel_rfl
theorem fd117_3 (a : AV) : aField Try.prog 117 3 a = fieldVal Try.prog 113 9 a := by cases a <;> kernel_rfl
theorem fa117_4 (a : AV) : aFieldAddr Try.prog 117 4 a = fieldOff 11 a := by cases a <;> kernel_rfl
theorem fd117_4 (a : AV) : aField Try.prog 117 4 a = fieldVal Try.prog 114 11 a := by cases a <;> kernel_rfl
theorem fa117_5 (a : AV) : aFieldAddr Try.prog 117 5 a = fieldOff 12 a := by cases a <;> kernel_rfl
theorem fd117_5 (a : AV) : aField Try.prog 117 5 a = fieldVal Try.prog 34 12 a := by cases a <;> kernel_rfl
theorem fa117_6 (a : AV) : aFieldAddr Try.prog 117 6 a = fieldOff 14 a := by cases a <;> kernel_rfl
theorem fd117_6 (a : AV) : aField Try.prog 117 6 a = fieldVal Try.prog 115 14 a := by cases a <;> kernel_rfl
theorem fa117_7 (a : AV) : aFieldAddr Try.prog 117 7 a = fieldOff 15 a := by cases a <;> kernel_rfl
theorem fd117_7 (a : AV) : aField Try.prog 117 7 a = fieldVal Try.prog 116 15 a := by cases a <;> kernel_rfl
theorem bu117 (ps : List (Nat × AV)) : aBuild Try.prog 117 ps = (fillA (fun i => [(0, 1), (1, 1), (2, 7), (9, 2), (11, 1), (12, 2), (14, 1), (15, 1)][i]?) (AV.cells (.agg [.int .i64 0, .int .i64 0, .int .i64 0, .str [], .int .i64 0, .int .i64 0, .str [], .str [], .str [], .bool false, .str [], .nilS, .int .i64 0, .int .i64 0, .nilS, .nilS])) ps).map .agg := by kernel_rfl
theorem ag118 : isAggT Try.prog 118 = some true := by kernel_rfl
theorem sz118 : sizeT Try.prog 118 = some 16 := by kernel_rfl
theorem by118 : bytesT Try.prog 118 = some 216 := by kernel_rfl
theorem ze118 : zeroT Try.prog 118 = some (.agg [.int .i64 0, .int .i64 0, .int .i64 0, .str [], .int .i64 0, .int .i64 0, .str [], .str [], .str [], .bool false, .str [], .nilS, .int .i64 0, .int .i64 0, .nilS, .nilS]) := by kernel_rfl
theorem fa118_0 (a : AV) : aFieldAddr Try.prog 118 0 a = fieldOff 0 a := by cases a <;> kernel_rfl
theorem fd118_0 (a : AV) : aField Try.prog 118 0 a = fieldVal Try.prog 23 0 a := by cases a <;> kernel_rfl
theorem fa118_1 (a : AV) : aFieldAddr Try.prog 118 1 a = fieldOff 1 a := by cases a <;> kernel_rfl
theorem fd118_1 (a : AV) : aField Try.prog 118 1 a = fieldVal Try.prog 2 1 a := by cases a <;> kernel_rfl
theorem fa118_2 (a : AV) : aFieldAddr Try.prog 118 2 a = fieldOff 2 a := by cases a <;> kernel_rfl
theorem fd118_2 (a : AV) : aField Try.prog 118 2 a = fieldVal Try.prog 27 2 a := by cases a <;> kernel_rfl
theorem fa118_3 (a : AV) : aFieldAddr Try.prog 118 3 a = fieldOff 9 a := by cases a <;> kernel_rfl
theorem fd118_3 (a : AV) : aField Try.prog 118 3 a = fieldVal Try.prog 113 9 a := by cases a <;> kernel_rfl
theorem fa118_4 (a : AV) : aFieldAddr Try.prog 118 4 a = fieldOff 11 a := by cases a <;> kernel_rfl
theorem fd118_4 (a : AV) : aField Try.prog 118 4 a = fieldVal Try.prog 114 11 a := by cases a <;> kernel_rfl
theorem fa118_5 (a : AV) : aFieldAddr Try.prog 118 5 a = fieldOff 12 a := by cases a <;> kernel_rfl
theorem fd118_5 (a : AV) : aField Try.prog 118 5 a = fieldVal Try.prog 34 12 a := by cases a <;> kernel_rfl
theorem fa118_6 (a : AV) : aFieldAddr Try.prog 118 6 a = fieldOff 14 a := by cases a <;> kernel_rfl
theorem fd118_6 (a : AV) : aField Try.prog 118 6 a = fieldVal Try.prog 115 14 a := by cases a <;> kernel_rfl
theorem fa118_7 (a : AV) : aFieldAddr Try.prog 118 7 a = fieldOff 15 a := by cases a <;> kernel_rfl
theorem fd118_7 (a : AV) : aField Try.prog 118 7 a = fieldVal Try.prog 116 15 a := by cases a <;> kernel_rfl
theorem bu118 (ps : List (Nat × AV)) : aBuild Try.prog 118 ps = (fillA (fun i => [(0, 1), (1, 1), (2, 7), (9, 2), (11, 1), (12, 2), (14, 1), (15, 1)][i]?) (AV.cells (.agg [.int .i64 0, .int .i64 0, .int .i64 0, .str [], .int .i64 0, .int .i64 0, .str [], .str [], .str [], .bool false, .str [], .nilS, .int .i64 0, .int .i64 0, .nilS, .nilS])) ps).map .agg := by kernel_rfl
theorem ag119 : isAggT Try.prog 119 = some true := by kernel_rfl
theorem sz119 : sizeT Try.prog 119 = some 36 := by kernel_rfl
theorem by119 : bytesT Try.prog 119 = some 456 := by kernel_rfl
theorem ze119 : zeroT Try.prog 119 = some (.agg [.int .i64 0, .int .i64 0, .nilS, .int .i64 0, .str [], .int .i64 0, .int .i64 0, .str [], .str [], .str [], .int .i64 0, .bool false, .nilS, .nil, .nilS, .int .i64 0, .int .i64 0, .int .i64 0, .int .i64 0, .int .i64 0, .int .i64 0, .int .i64 0, .int .i64 0, .str [], .int .i64 0, .int .i64 0, .str [], .str [], .str [], .bool false, .str [], .nilS, .int .i64 0, .int .i64 0, .nilS, .nilS]) := by kernel_rfl
theorem fa119_0 (a : AV) : aFieldAddr Try.prog 119 0 a = fieldOff 0 a := by cases a <;> kernel_rfl
theorem fd119_0 (a : AV) : aField Try.prog 119 0 a = fieldVal Try.prog 3 0 a := by cases a <;> kernel_rfl
theorem fa119_1 (a : AV) : aFieldAddr Try.prog 119 1 a = fieldOff 1 a := by cases a <;> kernel_rfl
theorem fd119_1 (a : AV) : aField Try.prog 119 1 a = fieldVal Try.prog 36 1 a := by cases a <;> kernel_rfl
theorem fa119_2 (a : AV) : aFieldAddr Try.prog 119 2 a = fieldOff 20 a := by cases a <;> kernel_rfl
theorem fd119_2 (a : AV) : aField Try.prog 119 2 a = fieldVal Try.prog 118 20 a := by cases a <;> kernel_rfl
theorem bu119 (ps : List (Nat × AV)) : aBuild Try.prog 119 ps = (fillA (fun i => [(0, 1), (1, 19), (20, 16)][i]?) (AV.cells (.agg [.int .i64 0, .int .i64 0, .nilS, .int .i64 0, .str [], .int .i64 0, .int .i64 0, .str [], .str [], .str [], .int .i64 0, .bool false, .nilS, .nil, .nilS, .int .i64 0, .int .i64 0, .int .i64 0, .int .i64 0, .int .i64 0, .int .i64 0, .int .i64 0, .int .i64 0, .str [], .int .i64 0, .int .i64 0, .str [], .str [], .str [], .bool false, .str [], .nilS, .int .i64 0, .int .i64 0, .nilS, .nilS])) ps).map .agg := by kernel_rfl
theorem ag120 : isAggT Try.prog 120 = some true := by kernel_rfl
theorem sz120 : sizeT Try.prog 120 = some 36 := by kernel_rfl
theorem by120 : bytesT Try.prog 120 = some 456 := by kernel_rfl
theorem ze120 : zeroT Try.prog 120 = some (.agg [.int .i64 0, .int .i64 0, .nilS, .int .i64 0, .str [], .int .i64 0, .int .i64 0, .str [], .str [], .str [], .int .i64 0, .bool false, .nilS, .nil, .nilS, .int .i64 0, .int .i64 0, .int .i64 0, .int .i64 0, .int .i64 0, .int .i64 0, .int .i64 0, .int .i64 0, .str [], .int .i64 0, .int .i64 0, .str [], .str [], .str [], .bool false, .str [], .nilS, .int .i64 0, .int .i64 0, .nilS, .nilS]) := by kernel_rfl
theorem fa120_0 (a : AV) : aFieldAddr Try.prog 120 0 a = fieldOff 0 a := by cases a <;> kernel_rfl
theorem fd120_0 (a : AV) : aField Try.prog 120 0 a = fieldVal Try.prog 3 0 a := by cases a <;> kernel_rfl
theorem fa120_1 (a : AV) : aFieldAddr Try.prog 120 1 a = fieldOff 1 a := by cases a <;> kernel_rfl
theorem fd120_1 (a : AV) : aField Try.prog 120 1 a = fieldVal Try.prog 36 1 a := by cases a <;> kernel_rfl
theorem fa120_2 (a : AV) : aFieldAddr Try.prog 120 2 a = fieldOff 20 a := by cases a <;> kernel_rfl
theorem fd120_2 (a : AV) : aField Try.prog 120 2 a = fieldVal Try.prog 118 20 a := by cases a <;> kernel_rfl
theorem bu120 (ps : List (Nat × AV)) : aBuild Try.prog 120 ps = (fillA (fun i => [(0, 1), (1, 19), (20, 16)][i]?) (AV.cells (.agg [.int .i64 0, .int .i64 0, .nilS, .int .i64 0, .str [], .int .i64 0, .int .i64 0, .str [], .str [], .str [], .int .i64 0, .bool false, .nilS, .nil, .nilS, .int .i64 0, .int .i64 0, .int .i64 0, .int .i64 0, .int .i64 0, .int .i64 0, .int .i64 0, .int .i64 0, .str [], .int .i64 0, .int .i64 0, .str [], .str [], .str [], .bool false, .str [], .nilS, .int .i64 0, .int .i64 0, .nilS, .nilS])) ps).map .agg := by kernel_rfl
theorem ag121 : isAggT Try.prog 121 = some false := by kernel_rfl
theorem sz121 : sizeT Try.prog 121 = some 1 := by kernel_rfl
theorem by121 : bytesT Try.prog 121 = some 8 := by kernel_rfl
theorem ze121 : zeroT Try.prog 121 = some (.nilF) := by kernel_rfl
theorem ag122 : isAggT Try.prog 122 = some true := by kernel_rfl
theorem sz122 : sizeT Try.prog 122 = some 1 := by kernel_rfl
theorem by122 : bytesT Try.prog 122 = some 24 := by kernel_rfl
theorem ze122 : zeroT Try.prog 122 = some (.agg [.nilS]) := by kernel_rfl
theorem fa122_0 (a : AV) : aFieldAddr Try.prog 122 0 a = fieldOff 0 a := by cases a <;> kernel_rfl
theorem fd122_0 (a : AV) : aField Try.prog 122 0 a = fieldVal Try.prog 62 0 a := by cases a <;> kernel_rfl
theorem bu122 (ps : List (Nat × AV)) : aBuild Try.prog 122 ps = (fillA (fun i => [(0, 1)][i]?) (AV.cells (.agg [.nilS])) ps).map .agg := by kernel_rfl
theorem ag123 : isAggT Try.prog 123 = some true := by kernel_rfl
theorem sz123 : sizeT Try.prog 123 = some 1 := by kernel_rfl
theorem by123 : bytesT Try.prog 123 = some 24 := by kernel_rfl
theorem ze123 : zeroT Try.prog 123 = some (.agg [.nilS]) := by kernel_rfl
theorem fa123_0 (a : AV) : aFieldAddr Try.prog 123 0 a = fieldOff 0 a := by cases a <;> kernel_rfl
theorem fd123_0 (a : AV) : aField Try.prog 123 0 a = fieldVal Try.prog 62 0 a := by cases a <;> kernel_rfl
theorem bu123 (ps : List (Nat × AV)) : aBuild Try.prog 123 ps = (fillA (fun i => [(0, 1)][i]?) (AV.cells (.agg [.nilS])) ps).map .agg := by kernel_rfl
theorem ag124 : isAggT Try.prog 124 = some false := by kernel_rfl
theorem sz124 : sizeT Try.prog 124 = some 1 := by kernel_rfl
theorem by124 : bytesT Try.prog 124 = some 0 := by kernel_rfl
theorem ag125 : isAggT Try.prog 125 = some false := by kernel_rfl
theorem sz125 : sizeT Try.prog 125 = some 1 := by kernel_rfl
theorem by125 : bytesT Try.prog 125 = some 8 := by kernel_rfl
theorem ze125 : zeroT Try.prog 125 = some (.nilF) := by kernel_rfl
theorem ag126 : isAggT Try.prog 126 = some false := by kernel_rfl
theorem sz126 : sizeT Try.prog 126 = some 1 := by kernel_rfl
theorem by126 : bytesT Try.prog 126 = some 8 := by kernel_rfl
theorem ze126 : zeroT Try.prog 126 = some (.nilF) := by kernel_rfl
theorem ag127 : isAggT Try.prog 127 = some false := by kernel_rfl
theorem sz127 : sizeT Try.prog 127 = some 1 := by kernel_rfl
theorem by127 : bytesT Try.prog 127 = some 8 := by kernel_rfl
theorem ze127 : zeroT Try.prog 127 = some (.nilF) := by kernel_rfl
theorem ag128 : isAggT Try.prog 128 = some false := by kernel_rfl
theorem sz128 : sizeT Try.prog 128 = some 1 := by kernel_rfl
theorem by128 : bytesT Try.prog 128 = some 8 := by kernel_rfl
theorem ze128 : zeroT Try.prog 128 = some (.nilF) := by kernel_rfl
theorem ag129 : isAggT Try.prog 129 = some false := by kernel_rfl
theorem sz129 : sizeT Try.prog 129 = some 1 := by kernel_rfl
theorem by129 : bytesT Try.prog 129 = some 8 := by kernel_rfl
theorem ze129 : zeroT Try.prog 129 = some (.nilM) := by kernel_rfl
theorem ag130 : isAggT Try.prog 130 = some true := by kernel_rfl
theorem sz130 : sizeT Try.prog 130 = some 8 := by kernel_rfl
theorem by130 : bytesT Try.prog 130 = some 80 := by kernel_rfl
theorem ze130 : zeroT Try.prog 130 = some (.agg [.int .i64 0, .int .i64 0, .nilM, .nilS, .int .i64 0, .int .i64 0, .int .i64 0, .int .i64 0]) := by kernel_rfl
theorem fa130_0 (a : AV) : aFieldAddr Try.prog 130 0 a = fieldOff 0 a := by cases a <;> kernel_rfl
theorem fd130_0 (a : AV) : aField Try.prog 130 0 a = fieldVal Try.prog 71 0 a := by cases a <;> kernel_rfl
theorem fa130_1 (a : AV) : aFieldAddr Try.prog 130 1 a = fieldOff 2 a := by cases a <;> kernel_rfl
theorem fd130_1 (a : AV) : aField Try.prog 130 1 a = fieldVal Try.prog 129 2 a := by cases a <;> kernel_rfl
theorem fa130_2 (a : AV) : aFieldAddr Try.prog 130 2 a = fieldOff 3 a := by cases a <;> kernel_rfl
theorem fd130_2 (a : AV) : aField Try.prog 130 2 a = fieldVal Try.prog 32 3 a := by cases a <;> kernel_rfl
theorem fa130_3 (a : AV) : aFieldAddr Try.prog 130 3 a = fieldOff 4 a := by cases a <;> kernel_rfl
theorem fd130_3 (a : AV) : aField Try.prog 130 3 a = fieldVal Try.prog 3 4 a := by cases a <;> kernel_rfl
theorem fa130_4 (a : AV) : aFieldAddr Try.prog 130 4 a = fieldOff 5 a := by cases a <;> kernel_rfl
theorem fd130_4 (a : AV) : aField Try.prog 130 4 a = fieldVal Try.prog 3 5 a := by cases a <;> kernel_rfl
theorem fa130_5 (a : AV) : aFieldAddr Try.prog 130 5 a = fieldOff 6 a := by cases a <;> kernel_rfl
theorem fd130_5 (a : AV) : aField Try.prog 130 5 a = fieldVal Try.prog 2 6 a := by cases a <;> kernel_rfl
theorem fa130_6 (a : AV) : aFieldAddr Try.prog 130 6 a = fieldOff 7 a := by cases a <;> kernel_rfl
theorem fd130_6 (a : AV) : aField Try.prog 130 6 a = fieldVal Try.prog 2 7 a := by cases a <;> kernel_rfl
theorem bu130 (ps : List (Nat × AV)) : aBuild Try.prog 130 ps = (fillA (fun i => [(0, 2), (2, 1), (3, 1), (4, 1), (5, 1), (6, 1), (7, 1)][i]?) (AV.cells (.agg [.int .i64 0, .int .i64 0, .nilM, .nilS, .int .i64 0, .int .i64 0, .int .i64 0, .int .i64 0])) ps).map .agg := by kernel_rfl
theorem ag131 : isAggT Try.prog 131 = some true := by kernel_rfl
theorem sz131 : sizeT Try.prog 131 = some 8 := by kernel_rfl
theorem by131 : bytesT Try.prog 131 = some 80 := by kernel_rfl
theorem ze131 : zeroT Try.prog 131 = some (.agg [.int .i64 0, .int .i64 0, .nilM, .nilS, .int .i64 0, .int .i64 0, .int .i64 0, .int .i64 0]) := by kernel_rfl
theorem fa131_0 (a : AV) : aFieldAddr Try.prog 131 0 a = fieldOff 0 a := by cases a <;> kernel_rfl
theorem fd131_0 (a : AV) : aField Try.prog 131 0 a = fieldVal Try.prog 71 0 a := by cases a <;> kernel_rfl
theorem fa131_1 (a : AV) : aFieldAddr Try.prog 131 1 a = fieldOff 2 a := by cases a <;> kernel_rfl
theorem fd131_1 (a : AV) : aField Try.prog 131 1 a = fieldVal Try.prog 129 2 a := by cases a <;> kernel_rfl
theorem fa131_2 (a : AV) : aFieldAddr Try.prog 131 2 a = fieldOff 3 a := by cases a <;> kernel_rfl
theorem fd131_2 (a : AV) : aField Try.prog 131 2 a = fieldVal Try.prog 32 3 a := by cases a <;> kernel_rfl
theorem fa131_3 (a : AV) : aFieldAddr Try.prog 131 3 a = fieldOff 4 a := by cases a <;> kernel_rfl
theorem fd131_3 (a : AV) : aField Try.prog 131 3 a = fieldVal Try.prog 3 4 a := by cases a <;> kernel_rfl
theorem fa131_4 (a : AV) : aFieldAddr Try.prog 131 4 a = fieldOff 5 a := by cases a <;> kernel_rfl
theorem fd131_4 (a : AV) : aField Try.prog 131 4 a = fieldVal Try.prog 3 5 a := by cases a <;> kernel_rfl
theorem fa131_5 (a : AV) : aFieldAddr Try.prog 131 5 a = fieldOff 6 a := by cases a <;> kernel_rfl
theorem fd131_5 (a : AV) : aField Try.prog 131 5 a = fieldVal Try.prog 2 6 a := by cases a <;> kernel_rfl
theorem fa131_6 (a : AV) : aFieldAddr Try.prog 131 6 a = fieldOff 7 a := by cases a <;> kernel_rfl
theorem fd131_6 (a : AV) : aField Try.prog 131 6 a = fieldVal Try.prog 2 7 a := by cases a <;> kernel_rfl
theorem bu131 (ps : List (Nat × AV)) : aBuild Try.prog 131 ps = (fillA (fun i => [(0, 2), (2, 1), (3, 1), (4, 1), (5, 1), (6, 1), (7, 1)][i]?) (AV.cells (.agg [.int .i64 0, .int .i64 0, .nilM, .nilS, .int .i64 0, .int .i64 0, .int .i64 0, .int .i64 0])) ps).map .agg := by kernel_rfl
theorem ag132 : isAggT Try.prog 132 = some false := by kernel_rfl
theorem sz132 : sizeT Try.prog 132 = some 1 := by kernel_rfl
theorem by132 : bytesT Try.prog 132 = some 0 := by kernel_rfl
theorem ag133 : isAggT Try.prog 133 = some false := by kernel_rfl
theorem sz133 : sizeT Try.prog 133 = some 1 := by kernel_rfl
theorem by133 : bytesT Try.prog 133 = some 8 := by kernel_rfl
theorem ze133 : zeroT Try.prog 133 = some (.nilF) := by kernel_rfl
theorem ag134 : isAggT Try.prog 134 = some false := by kernel_rfl
theorem sz134 : sizeT Try.prog 134 = some 1 := by kernel_rfl
theorem by134 : bytesT Try.prog 134 = some 8 := by kernel_rfl
theorem ze134 : zeroT Try.prog 134 = some (.nilF) := by kernel_rfl
theorem ag135 : isAggT Try.prog 135 = some false := by kernel_rfl
theorem sz135 : sizeT Try.prog 135 = some 1 := by kernel_rfl
theorem by135 : bytesT Try.prog 135 = some 8 := by kernel_rfl
theorem ze135 : zeroT Try.prog 135 = some (.nilF) := by kernel_rfl
theorem ag136 : isAggT Try.prog 136 = some true := by kernel_rfl
theorem sz136 : sizeT Try.prog 136 = some 3 := by kernel_rfl
theorem by136 : bytesT Try.prog 136 = some 40 := by kernel_rfl
theorem ze136 : zeroT Try.prog 136 = some (.agg [.str [], .str [], .int .i64 0]) := by kernel_rfl
theorem fa136_0 (a : AV) : aFieldAddr Try.prog 136 0 a = fieldOff 0 a := by cases a <;> kernel_rfl
theorem fd136_0 (a : AV) : aField Try.prog 136 0 a = fieldVal Try.prog 9 0 a := by cases a <;> kernel_rfl
theorem fa136_1 (a : AV) : aFieldAddr Try.prog 136 1 a = fieldOff 1 a := by cases a <;> kernel_rfl
theorem fd136_1 (a : AV) : aField Try.prog 136 1 a = fieldVal Try.prog 9 1 a := by cases a <;> kernel_rfl
theorem fa136_2 (a : AV) : aFieldAddr Try.prog 136 2 a = fieldOff 2 a := by cases a <;> kernel_rfl
theorem fd136_2 (a : AV) : aField Try.prog 136 2 a = fieldVal Try.prog 2 2 a := by cases a <;> kernel_rfl
theorem bu136 (ps : List (Nat × AV)) : aBuild Try.prog 136 ps = (fillA (fun i => [(0, 1), (1, 1), (2, 1)][i]?) (AV.cells (.agg [.str [], .str [], .int .i64 0])) ps).map .agg := by kernel_rfl
theorem ag137 : isAggT Try.prog 137 = some false := by kernel_rfl
theorem sz137 : sizeT Try.prog 137 = some 1 := by kernel_rfl
theorem by137 : bytesT Try.prog 137 = some 0 := by kernel_rfl
theorem ag138 : isAggT Try.prog 138 = some false := by kernel_rfl
theorem sz138 : sizeT Try.prog 138 = some 1 := by kernel_rfl
theorem by138 : bytesT Try.prog 138 = some 8 := by kernel_rfl
theorem ze138 : zeroT Try.prog 138 = some (.nilF) := by kernel_rfl
theorem ag139 : isAggT Try.prog 139 = some false := by kernel_rfl
theorem sz139 : sizeT Try.prog 139 = some 1 := by kernel_rfl
theorem by139 : bytesT Try.prog 139 = some 0 := by kernel_rfl
theorem ag140 : isAggT Try.prog 140 = some false := by kernel_rfl
theorem sz140 : sizeT Try.prog 140 = some 1 := by kernel_rfl
theorem by140 : bytesT Try.prog 140 = some 8 := by kernel_rfl
theorem ze140 : zeroT Try.prog 140 = some (.nilF) := by kernel_rfl
theorem ag141 : isAggT Try.prog 141 = some false := by kernel_rfl
theorem sz141 : sizeT Try.prog 141 = some 1 := by kernel_rfl
theorem by141 : bytesT Try.prog 141 = some 0 := by kernel_rfl
theorem ag142 : isAggT Try.prog 142 = some false := by kernel_rfl
theorem sz142 : sizeT Try.prog 142 = some 1 := by kernel_rfl
theorem by142 : bytesT Try.prog 142 = some 8 := by kernel_rfl
theorem ze142 : zeroT Try.prog 142 = some (.nilF) := by kernel_rfl
theorem ag143 : isAggT Try.prog 143 = some false := by kernel_rfl
theorem sz143 : sizeT Try.prog 143 = some 1 := by kernel_rfl
theorem by143 : bytesT Try.prog 143 = some 8 := by kernel_rfl
theorem ze143 : zeroT Try.prog 143 = some (.nilF) := by kernel_rfl
theorem ag144 : isAggT Try.prog 144 = some false := by kernel_rfl
theorem sz144 : sizeT Try.prog 144 = some 1 := by kernel_rfl
theorem by144 : bytesT Try.prog 144 = some 8 := by kernel_rfl
theorem ze144 : zeroT Try.prog 144 = some (.nilF) := by kernel_rfl
theorem ag145 : isAggT Try.prog 145 = some false := by kernel_rfl
theorem sz145 : sizeT Try.prog 145 = some 1 := by kernel_rfl
theorem by145 : bytesT Try.prog 145 = some 0 := by kernel_rfl
theorem ag146 : isAggT Try.prog 146 = some false := by kernel_rfl
theorem sz146 : sizeT Try.prog 146 = some 1 := by kernel_rfl
theorem by146 : bytesT Try.prog 146 = some 8 := by kernel_rfl
theorem ze146 : zeroT Try.prog 146 = some (.nilF) := by kernel_rfl
theorem ag147 : isAggT Try.prog 147 = some false := by kernel_rfl
theorem sz147 : sizeT Try.prog 147 = some 1 := by kernel_rfl
theorem by147 : bytesT Try.prog 147 = some 8 := by kernel_rfl
theorem ze147 : zeroT Try.prog 147 = some (.nilM) := by kernel_rfl
theorem ag148 : isAggT Try.prog 148 = some false := by kernel_rfl
theorem sz148 : sizeT Try.prog 148 = some 1 := by kernel_rfl
theorem by148 : bytesT Try.prog 148 = some 8 := by kernel_rfl
theorem ze148 : zeroT Try.prog 148 = some (.nilF) := by kernel_rfl
theorem ag149 : isAggT Try.prog 149 = some false := by kernel_rfl
theorem sz149 : sizeT Try.prog 149 = some 1 := by kernel_rfl
theorem by149 : bytesT Try.prog 149 = some 8 := by kernel_rfl
theorem ze149 : zeroT Try.prog 149 = some (.nilF) := by kernel_rfl
theorem ag150 : isAggT Try.prog 150 = some false := by kernel_rfl
theorem sz150 : sizeT Try.prog 150 = some 1 := by kernel_rfl
theorem by150 : bytesT Try.prog 150 = some 8 := by kernel_rfl
theorem ze150 : zeroT Try.prog 150 = some (.nilF) := by kernel_rfl
theorem ag151 : isAggT Try.prog 151 = some false := by kernel_rfl
theorem sz151 : sizeT Try.prog 151 = some 1 := by kernel_rfl
theorem by151 : bytesT Try.prog 151 = some 8 := by kernel_rfl
theorem ze151 : zeroT Try.prog 151 = some (.nilF) := by kernel_rfl
theorem ag152 : isAggT Try.prog 152 = some false := by kernel_rfl
theorem sz152 : sizeT Try.prog 152 = some 1 := by kernel_rfl
theorem by152 : bytesT Try.prog 152 = some 8 := by kernel_rfl
theorem ze152 : zeroT Try.prog 152 = some (.nilF) := by kernel_rfl
theorem ag153 : isAggT Try.prog 153 = some true := by kernel_rfl
theorem sz153 : sizeT Try.prog 153 = some 3 := by kernel_rfl
theorem by153 : bytesT Try.prog 153 = some 40 := by kernel_rfl
theorem ze153 : zeroT Try.prog 153 = some (.agg [.str [], .str [], .bool false]) := by kernel_rfl
theorem fa153_0 (a : AV) : aFieldAddr Try.prog 153 0 a = fieldOff 0 a := by cases a <;> kernel_rfl
theorem fd153_0 (a : AV) : aField Try.prog 153 0 a = fieldVal Try.prog 9 0 a := by cases a <;> kernel_rfl
theorem fa153_1 (a : AV) : aFieldAddr Try.prog 153 1 a = fieldOff 1 a := by cases a <;> kernel_rfl
theorem fd153_1 (a : AV) : aField Try.prog 153 1 a = fieldVal Try.prog 9 1 a := by cases a <;> kernel_rfl
theorem fa153_2 (a : AV) : aFieldAddr Try.prog 153 2 a = fieldOff 2 a := by cases a <;> kernel_rfl
theorem fd153_2 (a : AV) : aField Try.prog 153 2 a = fieldVal Try.prog 4 2 a := by cases a <;> kernel_rfl
theorem bu153 (ps : List (Nat × AV)) : aBuild Try.prog 153 ps = (fillA (fun i => [(0, 1), (1, 1), (2, 1)][i]?) (AV.cells (.agg [.str [], .str [], .bool false])) ps).map .agg := by kernel_rfl
theorem ag154 : isAggT Try.prog 154 = some false := by kernel_rfl
theorem sz154 : sizeT Try.prog 154 = some 1 := by kernel_rfl
theorem by154 : bytesT Try.prog 154 = some 0 := by kernel_rfl
theorem ag155 : isAggT Try.prog 155 = some false := by kernel_rfl
theorem sz155 : sizeT Try.prog 155 = some 1 := by kernel_rfl
theorem by155 : bytesT Try.prog 155 = some 8 := by kernel_rfl
theorem ze155 : zeroT Try.prog 155 = some (.nilF) := by kernel_rfl
theorem ag156 : isAggT Try.prog 156 = some false := by kernel_rfl
theorem sz156 : sizeT Try.prog 156 = some 1 := by kernel_rfl
theorem by156 : bytesT Try.prog 156 = some 8 := by kernel_rfl
theorem ze156 : zeroT Try.prog 156 = some (.nilF) := by kernel_rfl
theorem ag157 : isAggT Try.prog 157 = some false := by kernel_rfl
theorem sz157 : sizeT Try.prog 157 = some 1 := by kernel_rfl
theorem by157 : bytesT Try.prog 157 = some 8 := by kernel_rfl
theorem ze157 : zeroT Try.prog 157 = some (.nilF) := by kernel_rfl
theorem ag158 : isAggT Try.prog 158 = some false := by kernel_rfl
theorem sz158 : sizeT Try.prog 158 = some 1 := by kernel_rfl
theorem by158 : bytesT Try.prog 158 = some 8 := by kernel_rfl
theorem ze158 : zeroT Try.prog 158 = some (.int .u64 0) := by kernel_rfl
theorem ag159 : isAggT Try.prog 159 = some false := by kernel_rfl
theorem sz159 : sizeT Try.prog 159 = some 1 := by kernel_rfl
theorem by159 : bytesT Try.prog 159 = some 8 := by kernel_rfl
theorem ze159 : zeroT Try.prog 159 = some (.nilF) := by kernel_rfl
theorem ag160 : isAggT Try.prog 160 = some false := by kernel_rfl
theorem sz160 : sizeT Try.prog 160 = some 1 := by kernel_rfl
theorem by160 : bytesT Try.prog 160 = some 8 := by kernel_rfl
theorem ze160 : zeroT Try.prog 160 = some (.nilF) := by kernel_rfl
theorem ag161 : isAggT Try.prog 161 = some false := by kernel_rfl
theorem sz161 : sizeT Try.prog 161 = some 1 := by kernel_rfl
theorem by161 : bytesT Try.prog 161 = some 8 := by kernel_rfl
theorem ze161 : zeroT Try.prog 161 = some (.nilF) := by kernel_rfl
theorem ag162 : isAggT Try.prog 162 = some false := by kernel_rfl
theorem sz162 : sizeT Try.prog 162 = some 1 := by kernel_rfl
theorem by162 : bytesT Try.prog 162 = some 8 := by kernel_rfl
theorem ze162 : zeroT Try.prog 162 = some (.nilF) := by kernel_rfl
theorem ag163 : isAggT Try.prog 163 = some false := by kernel_rfl
theorem sz163 : sizeT Try.prog 163 = some 1 := by kernel_rfl
theorem by163 : bytesT Try.prog 163 = some 8 := by kernel_rfl
theorem ze163 : zeroT Try.prog 163 = some (.nilF) := by kernel_rfl
theorem ag164 : isAggT Try.prog 164 = some true := by kernel_rfl
theorem sz164 : sizeT Try.prog 164 = some 4 := by kernel_rfl
theorem by164 : bytesT Try.prog 164 = some 40 := by kernel_rfl
theorem ze164 : zeroT Try.prog 164 = some (.agg [.nil, .nil, .nil, .str []]) := by kernel_rfl
theorem fa164_0 (a : AV) : aFieldAddr Try.prog 164 0 a = fieldOff 0 a := by cases a <;> kernel_rfl
theorem fd164_0 (a : AV) : aField Try.prog 164 0 a = fieldVal Try.prog 17 0 a := by cases a <;> kernel_rfl
theorem fa164_1 (a : AV) : aFieldAddr Try.prog 164 1 a = fieldOff 1 a := by cases a <;> kernel_rfl
theorem fd164_1 (a : AV) : aField Try.prog 164 1 a = fieldVal Try.prog 17 1 a := by cases a <;> kernel_rfl
theorem fa164_2 (a : AV) : aFieldAddr Try.prog 164 2 a = fieldOff 2 a := by cases a <;> kernel_rfl
theorem fd164_2 (a : AV) : aField Try.prog 164 2 a = fieldVal Try.prog 17 2 a := by cases a <;> kernel_rfl
theorem fa164_3 (a : AV) : aFieldAddr Try.prog 164 3 a = fieldOff 3 a := by cases a <;> kernel_rfl
theorem fd164_3 (a : AV) : aField Try.prog 164 3 a = fieldVal Try.prog 9 3 a := by cases a <;> kernel_rfl
theorem bu164 (ps : List (Nat × AV)) : aBuild Try.prog 164 ps = (fillA (fun i => [(0, 1), (1, 1), (2, 1), (3, 1)][i]?) (AV.cells (.agg [.nil, .nil, .nil, .str []])) ps).map .agg := by kernel_rfl
theorem ag165 : isAggT Try.prog 165 = some true := by kernel_rfl
theorem sz165 : sizeT Try.prog 165 = some 4 := by kernel_rfl
theorem by165 : bytesT Try.prog 165 = some 40 := by kernel_rfl
theorem ze165 : zeroT Try.prog 165 = some (.agg [.nil, .nil, .nil, .str []]) := by kernel_rfl
theorem fa165_0 (a : AV) : aFieldAddr Try.prog 165 0 a = fieldOff 0 a := by cases a <;> kernel_rfl
theorem fd165_0 (a : AV) : aField Try.prog 165 0 a = fieldVal Try.prog 17 0 a := by cases a <;> kernel_rfl
theorem fa165_1 (a : AV) : aFieldAddr Try.prog 165 1 a = fieldOff 1 a := by cases a <;> kernel_rfl
theorem fd165_1 (a : AV) : aField Try.prog 165 1 a = fieldVal Try.prog 17 1 a := by cases a <;> kernel_rfl
theorem fa165_2 (a : AV) : aFieldAddr Try.prog 165 2 a = fieldOff 2 a := by cases a <;> kernel_rfl
theorem fd165_2 (a : AV) : aField Try.prog 165 2 a = fieldVal Try.prog 17 2 a := by cases a <;> kernel_rfl
theorem fa165_3 (a : AV) : aFieldAddr Try.prog 165 3 a = fieldOff 3 a := by cases a <;> kernel_rfl
theorem fd165_3 (a : AV) : aField Try.prog 165 3 a = fieldVal Try.prog 9 3 a := by cases a <;> kernel_rfl
theorem bu165 (ps : List (Nat × AV)) : aBuild Try.prog 165 ps = (fillA (fun i => [(0, 1), (1, 1), (2, 1), (3, 1)][i]?) (AV.cells (.agg [.nil, .nil, .nil, .str []])) ps).map .agg := by kernel_rfl
theorem ag166 : isAggT Try.prog 166 = some true := by kernel_rfl
theorem sz166 : sizeT Try.prog 166 = some 0 := by kernel_rfl
theorem by166 : bytesT Try.prog 166 = some 0 := by kernel_rfl
theorem ze166 : zeroT Try.prog 166 = some (.agg []) := by kernel_rfl
theorem ag167 : isAggT Try.prog 167 = some true := by kernel_rfl
theorem sz167 : sizeT Try.prog 167 = some 0 := by kernel_rfl
theorem by167 : bytesT Try.prog 167 = some 0 := by kernel_rfl
theorem ze167 : zeroT Try.prog 167 = some (.agg []) := by kernel_rfl
theorem bu167 (ps : List (Nat × AV)) : aBuild Try.prog 167 ps = (fillA (fun i => [(0, 0)][i]?) (AV.cells (.agg [])) ps).map .agg := by kernel_rfl
theorem ag168 : isAggT Try.prog 168 = some true := by kernel_rfl
theorem sz168 : sizeT Try.prog 168 = some 0 := by kernel_rfl
theorem by168 : bytesT Try.prog 168 = some 0 := by kernel_rfl
theorem ze168 : zeroT Try.prog 168 = some (.agg []) := by kernel_rfl
theorem bu168 (ps : List (Nat × AV)) : aBuild Try.prog 168 ps = (fillA (fun i => [(0, 0)][i]?) (AV.cells (.agg [])) ps).map .agg := by kernel_rfl
theorem ag169 : isAggT Try.prog 169 = some false := by kernel_rfl
theorem sz169 : sizeT Try.prog 169 = some 1 := by kernel_rfl
theorem by169 : bytesT Try.prog 169 = some 4 := by kernel_rfl
theorem ze169 : zeroT Try.prog 169 = some (.int .u32 0) := by kernel_rfl
theorem ag170 : isAggT Try.prog 170 = some false := by kernel_rfl
theorem sz170 : sizeT Try.prog 170 = some 1 := by kernel_rfl
theorem by170 : bytesT Try.prog 170 = some 1 := by kernel_rfl
theorem ze170 : zeroT Try.prog 170 = some (.int .u8 0) := by kernel_rfl
theorem ag171 : isAggT Try.prog 171 = some false := by kernel_rfl
theorem sz171 : sizeT Try.prog 171 = some 1 := by kernel_rfl
theorem by171 : bytesT Try.prog 171 = some 1 := by kernel_rfl
theorem ze171 : zeroT Try.prog 171 = some (.int .u8 0) := by kernel_rfl
theorem ag172 : isAggT Try.prog 172 = some false := by kernel_rfl
theorem sz172 : sizeT Try.prog 172 = some 1 := by kernel_rfl
theorem by172 : bytesT Try.prog 172 = some 8 := by kernel_rfl
theorem ze172 : zeroT Try.prog 172 = some (.nilF) := by kernel_rfl
theorem ag173 : isAggT Try.prog 173 = some false := by kernel_rfl
theorem sz173 : sizeT Try.prog 173 = some 1 := by kernel_rfl
theorem by173 : bytesT Try.prog 173 = some 8 := by kernel_rfl
theorem ze173 : zeroT Try.prog 173 = some (.nil) := by kernel_rfl
theorem ag174 : isAggT Try.prog 174 = some false := by kernel_rfl
theorem sz174 : sizeT Try.prog 174 = some 1 := by kernel_rfl
theorem by174 : bytesT Try.prog 174 = some 4 := by kernel_rfl
theorem ze174 : zeroT Try.prog 174 = some (.int .i32 0) := by kernel_rfl
theorem ag175 : isAggT Try.prog 175 = some false := by kernel_rfl
theorem sz175 : sizeT Try.prog 175 = some 1 := by kernel_rfl
theorem by175 : bytesT Try.prog 175 = some 4 := by kernel_rfl
theorem ze175 : zeroT Try.prog 175 = some (.int .i32 0) := by kernel_rfl
theorem ag176 : isAggT Try.prog 176 = some true := by kernel_rfl
theorem sz176 : sizeT Try.prog 176 = some 11 := by kernel_rfl
theorem by176 : bytesT Try.prog 176 = some 48 := by kernel_rfl
theorem ze176 : zeroT Try.prog 176 = some (.agg [.int .u64 0, .int .u64 0, .int .u32 0, .int .u8 0, .int .u8 0, .int .u8 0, .int .u8 0, .nilF, .nil, .int .i32 0, .int .i32 0]) := by kernel_rfl
theorem fa176_0 (a : AV) : aFieldAddr Try.prog 176 0 a = fieldOff 0 a := by cases a <;> kernel_rfl
theorem fd176_0 (a : AV) : aField Try.prog 176 0 a = fieldVal Try.prog 12 0 a := by cases a <;> kernel_rfl
theorem fa176_1 (a : AV) : aFieldAddr Try.prog 176 1 a = fieldOff 1 a := by cases a <;> kernel_rfl
theorem fd176_1 (a : AV) : aField Try.prog 176 1 a = fieldVal Try.prog 12 1 a := by cases a <;> kernel_rfl
theorem fa176_2 (a : AV) : aFieldAddr Try.prog 176 2 a = fieldOff 2 a := by cases a <;> kernel_rfl
theorem fd176_2 (a : AV) : aField Try.prog 176 2 a = fieldVal Try.prog 169 2 a := by cases a <;> kernel_rfl
theorem fa176_3 (a : AV) : aFieldAddr Try.prog 176 3 a = fieldOff 3 a := by cases a <;> kernel_rfl
theorem fd176_3 (a : AV) : aField Try.prog 176 3 a = fieldVal Try.prog 170 3 a := by cases a <;> kernel_rfl
theorem fa176_4 (a : AV) : aFieldAddr Try.prog 176 4 a = fieldOff 4 a := by cases a <;> kernel_rfl
theorem fd176_4 (a : AV) : aField Try.prog 176 4 a = fieldVal Try.prog 5 4 a := by cases a <;> kernel_rfl
theorem fa176_5 (a : AV) : aFieldAddr Try.prog 176 5 a = fieldOff 5 a := by cases a <;> kernel_rfl
theorem fd176_5 (a : AV) : aField Try.prog 176 5 a = fieldVal Try.prog 5 5 a := by cases a <;> kernel_rfl
theorem fa176_6 (a : AV) : aFieldAddr Try.prog 176 6 a = fieldOff 6 a := by cases a <;> kernel_rfl
theorem fd176_6 (a : AV) : aField Try.prog 176 6 a = fieldVal Try.prog 171 6 a := by cases a <;> kernel_rfl
theorem fa176_7 (a : AV) : aFieldAddr Try.prog 176 7 a = fieldOff 7 a := by cases a <;> kernel_rfl
theorem fd176_7 (a : AV) : aField Try.prog 176 7 a = fieldVal Try.prog 172 7 a := by cases a <;> kernel_rfl
theorem fa176_8 (a : AV) : aFieldAddr Try.prog 176 8 a = fieldOff 8 a := by cases a <;> kernel_rfl
theorem fd176_8 (a : AV) : aField Try.prog 176 8 a = fieldVal Try.prog 173 8 a := by cases a <;> kernel_rfl
theorem fa176_9 (a : AV) : aFieldAddr Try.prog 176 9 a = fieldOff 9 a := by cases a <;> kernel_rfl
theorem fd176_9 (a : AV) : aField Try.prog 176 9 a = fieldVal Try.prog 174 9 a := by cases a <;> kernel_rfl
theorem fa176_10 (a : AV) : aFieldAddr Try.prog 176 10 a = fieldOff 10 a := by cases a <;> kernel_rfl
theorem fd176_10 (a : AV) : aField Try.prog 176 10 a = fieldVal Try.prog 175 10 a := by cases a <;> kernel_rfl
theorem bu176 (ps : List (Nat × AV)) : aBuild Try.prog 176 ps = (fillA (fun i => [(0, 1), (1, 1), (2, 1), (3, 1), (4, 1), (5, 1), (6, 1), (7, 1), (8, 1), (9, 1), (10, 1)][i]?) (AV.cells (.agg [.int .u64 0, .int .u64 0, .int .u32 0, .int .u8 0, .int .u8 0, .int .u8 0, .int .u8 0, .nilF, .nil, .int .i32 0, .int .i32 0])) ps).map .agg := by kernel_rfl
theorem ag177 : isAggT Try.prog 177 = some true := by kernel_rfl
theorem sz177 : sizeT Try.prog 177 = some 11 := by kernel_rfl
theorem by177 : bytesT Try.prog 177 = some 48 := by kernel_rfl
theorem ze177 : zeroT Try.prog 177 = some (.agg [.int .u64 0, .int .u64 0, .int .u32 0, .int .u8 0, .int .u8 0, .int .u8 0, .int .u8 0, .nilF, .nil, .int .i32 0, .int .i32 0]) := by kernel_rfl
theorem fa177_0 (a : AV) : aFieldAddr Try.prog 177 0 a = fieldOff 0 a := by cases a <;> kernel_rfl
theorem fd177_0 (a : AV) : aField Try.prog 177 0 a = fieldVal Try.prog 12 0 a := by cases a <;> kernel_rfl
theorem fa177_1 (a : AV) : aFieldAddr Try.prog 177 1 a = fieldOff 1 a := by cases a <;> kernel_rfl
theorem fd177_1 (a : AV) : aField Try.prog 177 1 a = fieldVal Try.prog 12 1 a := by cases a <;> kernel_rfl
theorem fa177_2 (a : AV) : aFieldAddr Try.prog 177 2 a = fieldOff 2 a := by cases a <;> kernel_rfl
theorem fd177_2 (a : AV) : aField Try.prog 177 2 a = fieldVal Try.prog 169 2 a := by cases a <;> kernel_rfl
theorem fa177_3 (a : AV) : aFieldAddr Try.prog 177 3 a = fieldOff 3 a := by cases a <;> kernel_rfl
theorem fd177_3 (a : AV) : aField Try.prog 177 3 a = fieldVal Try.prog 170 3 a := by cases a <;> kernel_rfl
theorem fa177_4 (a : AV) : aFieldAddr Try.prog 177 4 a = fieldOff 4 a := by cases a <;> kernel_rfl
theorem fd177_4 (a : AV) : aField Try.prog 177 4 a = fieldVal Try.prog 5 4 a := by cases a <;> kernel_rfl
theorem fa177_5 (a : AV) : aFieldAddr Try.prog 177 5 a = fieldOff 5 a := by cases a <;> kernel_rfl
theorem fd177_5 (a : AV) : aField Try.prog 177 5 a = fieldVal Try.prog 5 5 a := by cases a <;> kernel_rfl
theorem fa177_6 (a : AV) : aFieldAddr Try.prog 177 6 a = fieldOff 6 a := by cases a <;> kernel_rfl
theorem fd177_6 (a : AV) : aField Try.prog 177 6 a = fieldVal Try.prog 171 6 a := by cases a <;> kernel_rfl
theorem fa177_7 (a : AV) : aFieldAddr Try.prog 177 7 a = fieldOff 7 a := by cases a <;> kernel_rfl
theorem fd177_7 (a : AV) : aField Try.prog 177 7 a = fieldVal Try.prog 172 7 a := by cases a <;> kernel_rfl
theorem fa177_8 (a : AV) : aFieldAddr Try.prog 177 8 a = fieldOff 8 a := by cases a <;> kernel_rfl
theorem fd177_8 (a : AV) : aField Try.prog 177 8 a = fieldVal Try.prog 173 8 a := by cases a <;> kernel_rfl
theorem fa177_9 (a : AV) : aFieldAddr Try.prog 177 9 a = fieldOff 9 a := by cases a <;> kernel_rfl
theorem fd177_9 (a : AV) : aField Try.prog 177 9 a = fieldVal Try.prog 174 9 a := by cases a <;> kernel_rfl
theorem fa177_10 (a : AV) : aFieldAddr Try.prog 177 10 a = fieldOff 10 a := by cases a <;> kernel_rfl
theorem fd177_10 (a : AV) : aField Try.prog 177 10 a = fieldVal Try.prog 175 10 a := by cases a <;> kernel_rfl
theorem bu177 (ps : List (Nat × AV)) : aBuild Try.prog 177 ps = (fillA (fun i => [(0, 1), (1, 1), (2, 1), (3, 1), (4, 1), (5, 1), (6, 1), (7, 1), (8, 1), (9, 1), (10, 1)][i]?) (AV.cells (.agg [.int .u64 0, .int .u64 0, .int .u32 0, .int .u8 0, .int .u8 0, .int .u8 0, .int .u8 0, .nilF, .nil, .int .i32 0, .int .i32 0])) ps).map .agg := by kernel_rfl
theorem ag178 : isAggT Try.prog 178 = some false := by kernel_rfl
theorem sz178 : sizeT Try.prog 178 = some 1 := by kernel_rfl
theorem by178 : bytesT Try.prog 178 = some 24 := by kernel_rfl
theorem se178 : sliceElem Try.prog 178 = some 197 := by kernel_rfl
theorem ze178 : zeroT Try.prog 178 = some (.nilS) := by kernel_rfl
theorem ag179 : isAggT Try.prog 179 = some true := by kernel_rfl
theorem sz179 : sizeT Try.prog 179 = some 1 := by kernel_rfl
theorem by179 : bytesT Try.prog 179 = some 24 := by kernel_rfl
theorem ze179 : zeroT Try.prog 179 = some (.agg [.nilS]) := by kernel_rfl
theorem fa179_0 (a : AV) : aFieldAddr Try.prog 179 0 a = fieldOff 0 a := by cases a <;> kernel_rfl
theorem fd179_0 (a : AV) : aField Try.prog 179 0 a = fieldVal Try.prog 178 0 a := by cases a <;> kernel_rfl
theorem bu179 (ps : List (Nat × AV)) : aBuild Try.prog 179 ps = (fillA (fun i => [(0, 1)][i]?) (AV.cells (.agg [.nilS])) ps).map .agg := by kernel_rfl
theorem ag180 : isAggT Try.prog 180 = some true := by kernel_rfl
theorem sz180 : sizeT Try.prog 180 = some 1 := by kernel_rfl
theorem by180 : bytesT Try.prog 180 = some 24 := by kernel_rfl
theorem ze180 : zeroT Try.prog 180 = some (.agg [.nilS]) := by kernel_rfl
theorem fa180_0 (a : AV) : aFieldAddr Try.prog 180 0 a = fieldOff 0 a := by cases a <;> kernel_rfl
theorem fd180_0 (a : AV) : aField Try.prog 180 0 a = fieldVal Try.prog 178 0 a := by cases a <;> kernel_rfl
theorem bu180 (ps : List (Nat × AV)) : aBuild Try.prog 180 ps = (fillA (fun i => [(0, 1)][i]?) (AV.cells (.agg [.nilS])) ps).map .agg := by kernel_rfl
theorem ag181 : isAggT Try.prog 181 = some true := by kernel_rfl
theorem sz181 : sizeT Try.prog 181 = some 4 := by kernel_rfl
theorem by181 : bytesT Try.prog 181 = some 64 := by kernel_rfl
theorem ze181 : zeroT Try.prog 181 = some (.agg [.nilS, .nilS, .int .i64 0, .int .i64 0]) := by kernel_rfl
theorem fa181_0 (a : AV) : aFieldAddr Try.prog 181 0 a = fieldOff 0 a := by cases a <;> kernel_rfl
theorem fd181_0 (a : AV) : aField Try.prog 181 0 a = fieldVal Try.prog 180 0 a := by cases a <;> kernel_rfl
theorem fa181_1 (a : AV) : aFieldAddr Try.prog 181 1 a = fieldOff 1 a := by cases a <;> kernel_rfl
theorem fd181_1 (a : AV) : aField Try.prog 181 1 a = fieldVal Try.prog 180 1 a := by cases a <;> kernel_rfl
theorem fa181_2 (a : AV) : aFieldAddr Try.prog 181 2 a = fieldOff 2 a := by cases a <;> kernel_rfl
theorem fd181_2 (a : AV) : aField Try.prog 181 2 a = fieldVal Try.prog 2 2 a := by cases a <;> kernel_rfl
theorem fa181_3 (a : AV) : aFieldAddr Try.prog 181 3 a = fieldOff 3 a := by cases a <;> kernel_rfl
theorem fd181_3 (a : AV) : aField Try.prog 181 3 a = fieldVal Try.prog 2 3 a := by cases a <;> kernel_rfl
theorem bu181 (ps : List (Nat × AV)) : aBuild Try.prog 181 ps = (fillA (fun i => [(0, 1), (1, 1), (2, 1), (3, 1)][i]?) (AV.cells (.agg [.nilS, .nilS, .int .i64 0, .int .i64 0])) ps).map .agg := by kernel_rfl
theorem ag182 : isAggT Try.prog 182 = some true := by kernel_rfl
theorem sz182 : sizeT Try.prog 182 = some 4 := by kernel_rfl
theorem by182 : bytesT Try.prog 182 = some 64 := by kernel_rfl
theorem ze182 : zeroT Try.prog 182 = some (.agg [.nilS, .nilS, .int .i64 0, .int .i64 0]) := by kernel_rfl
theorem fa182_0 (a : AV) : aFieldAddr Try.prog 182 0 a = fieldOff 0 a := by cases a <;> kernel_rfl
theorem fd182_0 (a : AV) : aField Try.prog 182 0 a = fieldVal Try.prog 180 0 a := by cases a <;> kernel_rfl
theorem fa182_1 (a : AV) : aFieldAddr Try.prog 182 1 a = fieldOff 1 a := by cases a <;> kernel_rfl
theorem fd182_1 (a : AV) : aField Try.prog 182 1 a = fieldVal Try.prog 180 1 a := by cases a <;> kernel_rfl
theorem fa182_2 (a : AV) : aFieldAddr Try.prog 182 2 a = fieldOff 2 a := by cases a <;> kernel_rfl
theorem fd182_2 (a : AV) : aField Try.prog 182 2 a = fieldVal Try.prog 2 2 a := by cases a <;> kernel_rfl
theorem fa182_3 (a : AV) : aFieldAddr Try.prog 182 3 a = fieldOff 3 a := by cases a <;> kernel_rfl
theorem fd182_3 (a : AV) : aField Try.prog 182 3 a = fieldVal Try.prog 2 3 a := by cases a <;> kernel_rfl
theorem bu182 (ps : List (Nat × AV)) : aBuild Try.prog 182 ps = (fillA (fun i => [(0, 1), (1, 1), (2, 1), (3, 1)][i]?) (AV.cells (.agg [.nilS, .nilS, .int .i64 0, .int .i64 0])) ps).map .agg := by kernel_rfl
theorem ag183 : isAggT Try.prog 183 = some false := by kernel_rfl
theorem sz183 : sizeT Try.prog 183 = some 1 := by kernel_rfl
theorem by183 : bytesT Try.prog 183 = some 8 := by kernel_rfl
theorem ze183 : zeroT Try.prog 183 = some (.nilF) := by kernel_rfl
theorem ag184 : isAggT Try.prog 184 = some false := by kernel_rfl
theorem sz184 : sizeT Try.prog 184 = some 1 := by kernel_rfl
theorem by184 : bytesT Try.prog 184 = some 24 := by kernel_rfl
theorem se184 : sliceElem Try.prog 184 = some 203 := by kernel_rfl
theorem ze184 : zeroT Try.prog 184 = some (.nilS) := by kernel_rfl
theorem ag185 : isAggT Try.prog 185 = some true := by kernel_rfl
theorem sz185 : sizeT Try.prog 185 = some 1 := by kernel_rfl
theorem by185 : bytesT Try.prog 185 = some 24 := by kernel_rfl
theorem ze185 : zeroT Try.prog 185 = some (.agg [.nilS]) := by kernel_rfl
theorem fa185_0 (a : AV) : aFieldAddr Try.prog 185 0 a = fieldOff 0 a := by cases a <;> kernel_rfl
theorem fd185_0 (a : AV) : aField Try.prog 185 0 a = fieldVal Try.prog 184 0 a := by cases a <;> kernel_rfl
theorem bu185 (ps : List (Nat × AV)) : aBuild Try.prog 185 ps = (fillA (fun i => [(0, 1)][i]?) (AV.cells (.agg [.nilS])) ps).map .agg := by kernel_rfl
theorem ag186 : isAggT Try.prog 186 = some true := by kernel_rfl
theorem sz186 : sizeT Try.prog 186 = some 1 := by kernel_rfl
theorem by186 : bytesT Try.prog 186 = some 24 := by kernel_rfl
theorem ze186 : zeroT Try.prog 186 = some (.agg [.nilS]) := by kernel_rfl
theorem fa186_0 (a : AV) : aFieldAddr Try.prog 186 0 a = fieldOff 0 a := by cases a <;> kernel_rfl
theorem fd186_0 (a : AV) : aField Try.prog 186 0 a = fieldVal Try.prog 184 0 a := by cases a <;> kernel_rfl
theorem bu186 (ps : List (Nat × AV)) : aBuild Try.prog 186 ps = (fillA (fun i => [(0, 1)][i]?) (AV.cells (.agg [.nilS])) ps).map .agg := by kernel_rfl
theorem ag187 : isAggT Try.prog 187 = some false := by kernel_rfl
theorem sz187 : sizeT Try.prog 187 = some 1 := by kernel_rfl
theorem by187 : bytesT Try.prog 187 = some 8 := by kernel_rfl
theorem ze187 : zeroT Try.prog 187 = some (.nilF) := by kernel_rfl
theorem ag188 : isAggT Try.prog 188 = some false := by kernel_rfl
theorem sz188 : sizeT Try.prog 188 = some 1 := by kernel_rfl
theorem by188 : bytesT Try.prog 188 = some 24 := by kernel_rfl
theorem se188 : sliceElem Try.prog 188 = some 206 := by kernel_rfl
theorem ze188 : zeroT Try.prog 188 = some (.nilS) := by kernel_rfl
theorem ag189 : isAggT Try.prog 189 = some true := by kernel_rfl
theorem sz189 : sizeT Try.prog 189 = some 2 := by kernel_rfl
theorem by189 : bytesT Try.prog 189 = some 48 := by kernel_rfl
theorem ze189 : zeroT Try.prog 189 = some (.agg [.nilS, .nilS]) := by kernel_rfl
theorem fa189_0 (a : AV) : aFieldAddr Try.prog 189 0 a = fieldOff 0 a := by cases a <;> kernel_rfl
theorem fd189_0 (a : AV) : aField Try.prog 189 0 a = fieldVal Try.prog 180 0 a := by cases a <;> kernel_rfl
theorem fa189_1 (a : AV) : aFieldAddr Try.prog 189 1 a = fieldOff 1 a := by cases a <;> kernel_rfl
theorem fd189_1 (a : AV) : aField Try.prog 189 1 a = fieldVal Try.prog 188 1 a := by cases a <;> kernel_rfl
theorem bu189 (ps : List (Nat × AV)) : aBuild Try.prog 189 ps = (fillA (fun i => [(0, 1), (1, 1)][i]?) (AV.cells (.agg [.nilS, .nilS])) ps).map .agg := by kernel_rfl
theorem ag190 : isAggT Try.prog 190 = some true := by kernel_rfl
theorem sz190 : sizeT Try.prog 190 = some 2 := by kernel_rfl
theorem by190 : bytesT Try.prog 190 = some 48 := by kernel_rfl
theorem ze190 : zeroT Try.prog 190 = some (.agg [.nilS, .nilS]) := by kernel_rfl
theorem fa190_0 (a : AV) : aFieldAddr Try.prog 190 0 a = fieldOff 0 a := by cases a <;> kernel_rfl
theorem fd190_0 (a : AV) : aField Try.prog 190 0 a = fieldVal Try.prog 180 0 a := by cases a <;> kernel_rfl
theorem fa190_1 (a : AV) : aFieldAddr Try.prog 190 1 a = fieldOff 1 a := by cases a <;> kernel_rfl
theorem fd190_1 (a : AV) : aField Try.prog 190 1 a = fieldVal Try.prog 188 1 a := by cases a <;> kernel_rfl
theorem bu190 (ps : List (Nat × AV)) : aBuild Try.prog 190 ps = (fillA (fun i => [(0, 1), (1, 1)][i]?) (AV.cells (.agg [.nilS, .nilS])) ps).map .agg := by kernel_rfl
theorem ag191 : isAggT Try.prog 191 = some true := by kernel_rfl
theorem sz191 : sizeT Try.prog 191 = some 4 := by kernel_rfl
theorem by191 : bytesT Try.prog 191 = some 48 := by kernel_rfl
theorem ze191 : zeroT Try.prog 191 = some (.agg [.int .i64 0, .str [], .str [], .bool false]) := by kernel_rfl
theorem fa191_0 (a : AV) : aFieldAddr Try.prog 191 0 a = fieldOff 0 a := by cases a <;> kernel_rfl
theorem fd191_0 (a : AV) : aField Try.prog 191 0 a = fieldVal Try.prog 2 0 a := by cases a <;> kernel_rfl
theorem fa191_1 (a : AV) : aFieldAddr Try.prog 191 1 a = fieldOff 1 a := by cases a <;> kernel_rfl
theorem fd191_1 (a : AV) : aField Try.prog 191 1 a = fieldVal Try.prog 98 1 a := by cases a <;> kernel_rfl
theorem bu191 (ps : List (Nat × AV)) : aBuild Try.prog 191 ps = (fillA (fun i => [(0, 1), (1, 3)][i]?) (AV.cells (.agg [.int .i64 0, .str [], .str [], .bool false])) ps).map .agg := by kernel_rfl
theorem ag192 : isAggT Try.prog 192 = some true := by kernel_rfl
theorem sz192 : sizeT Try.prog 192 = some 4 := by kernel_rfl
theorem by192 : bytesT Try.prog 192 = some 48 := by kernel_rfl
theorem ze192 : zeroT Try.prog 192 = some (.agg [.int .i64 0, .str [], .str [], .bool false]) := by kernel_rfl
theorem fa192_0 (a : AV) : aFieldAddr Try.prog 192 0 a = fieldOff 0 a := by cases a <;> kernel_rfl
theorem fd192_0 (a : AV) : aField Try.prog 192 0 a = fieldVal Try.prog 2 0 a := by cases a <;> kernel_rfl
theorem fa192_1 (a : AV) : aFieldAddr Try.prog 192 1 a = fieldOff 1 a := by cases a <;> kernel_rfl
theorem fd192_1 (a : AV) : aField Try.prog 192 1 a = fieldVal Try.prog 98 1 a := by cases a <;> kernel_rfl
theorem bu192 (ps : List (Nat × AV)) : aBuild Try.prog 192 ps = (fillA (fun i => [(0, 1), (1, 3)][i]?) (AV.cells (.agg [.int .i64 0, .str [], .str [], .bool false])) ps).map .agg := by kernel_rfl
theorem ag193 : isAggT Try.prog 193 = some true := by kernel_rfl
theorem sz193 : sizeT Try.prog 193 = some 4 := by kernel_rfl
theorem by193 : bytesT Try.prog 193 = some 40 := by kernel_rfl
theorem ze193 : zeroT Try.prog 193 = some (.agg [.int .i64 0, .int .i64 0, .str [], .bool false]) := by kernel_rfl
theorem fa193_0 (a : AV) : aFieldAddr Try.prog 193 0 a = fieldOff 0 a := by cases a <;> kernel_rfl
theorem fd193_0 (a : AV) : aField Try.prog 193 0 a = fieldVal Try.prog 2 0 a := by cases a <;> kernel_rfl
theorem fa193_1 (a : AV) : aFieldAddr Try.prog 193 1 a = fieldOff 1 a := by cases a <;> kernel_rfl
theorem fd193_1 (a : AV) : aField Try.prog 193 1 a = fieldVal Try.prog 2 1 a := by cases a <;> kernel_rfl
theorem fa193_2 (a : AV) : aFieldAddr Try.prog 193 2 a = fieldOff 2 a := by cases a <;> kernel_rfl
theorem fd193_2 (a : AV) : aField Try.prog 193 2 a = fieldVal Try.prog 9 2 a := by cases a <;> kernel_rfl
theorem fa193_3 (a : AV) : aFieldAddr Try.prog 193 3 a = fieldOff 3 a := by cases a <;> kernel_rfl
theorem fd193_3 (a : AV) : aField Try.prog 193 3 a = fieldVal Try.prog 4 3 a := by cases a <;> kernel_rfl
theorem bu193 (ps : List (Nat × AV)) : aBuild Try.prog 193 ps = (fillA (fun i => [(0, 1), (1, 1), (2, 1), (3, 1)][i]?) (AV.cells (.agg [.int .i64 0, .int .i64 0, .str [], .bool false])) ps).map .agg := by kernel_rfl
theorem ag194 : isAggT Try.prog 194 = some true := by kernel_rfl
theorem sz194 : sizeT Try.prog 194 = some 4 := by kernel_rfl
theorem by194 : bytesT Try.prog 194 = some 40 := by kernel_rfl
theorem ze194 : zeroT Try.prog 194 = some (.agg [.int .i64 0, .int .i64 0, .str [], .bool false]) := by kernel_rfl
theorem fa194_0 (a : AV) : aFieldAddr Try.prog 194 0 a = fieldOff 0 a := by cases a <;> kernel_rfl
theorem fd194_0 (a : AV) : aField Try.prog 194 0 a = fieldVal Try.prog 2 0 a := by cases a <;> kernel_rfl
theorem fa194_1 (a : AV) : aFieldAddr Try.prog 194 1 a = fieldOff 1 a := by cases a <;> kernel_rfl
theorem fd194_1 (a : AV) : aField Try.prog 194 1 a = fieldVal Try.prog 2 1 a := by cases a <;> kernel_rfl
theorem fa194_2 (a : AV) : aFieldAddr Try.prog 194 2 a = fieldOff 2 a := by cases a <;> kernel_rfl
theorem fd194_2 (a : AV) : aField Try.prog 194 2 a = fieldVal Try.prog 9 2 a := by cases a <;> kernel_rfl
theorem fa194_3 (a : AV) : aFieldAddr Try.prog 194 3 a = fieldOff 3 a := by cases a <;> kernel_rfl
theorem fd194_3 (a : AV) : aField Try.prog 194 3 a = fieldVal Try.prog 4 3 a := by cases a <;> kernel_rfl
theorem bu194 (ps : List (Nat × AV)) : aBuild Try.prog 194 ps = (fillA (fun i => [(0, 1), (1, 1), (2, 1), (3, 1)][i]?) (AV.cells (.agg [.int .i64 0, .int .i64 0, .str [], .bool false])) ps).map .agg := by kernel_rfl
theorem ag195 : isAggT Try.prog 195 = some false := by kernel_rfl
theorem sz195 : sizeT Try.prog 195 = some 1 := by kernel_rfl
theorem by195 : bytesT Try.prog 195 = some 8 := by kernel_rfl
theorem ze195 : zeroT Try.prog 195 = some (.nil) := by kernel_rfl
theorem ag196 : isAggT Try.prog 196 = some true := by kernel_rfl
theorem sz196 : sizeT Try.prog 196 = some 2 := by kernel_rfl
theorem by196 : bytesT Try.prog 196 = some 32 := by kernel_rfl
theorem ze196 : zeroT Try.prog 196 = some (.agg [.str [], .str []]) := by kernel_rfl
theorem fa196_0 (a : AV) : aFieldAddr Try.prog 196 0 a = fieldOff 0 a := by cases a <;> kernel_rfl
theorem fd196_0 (a : AV) : aField Try.prog 196 0 a = fieldVal Try.prog 9 0 a := by cases a <;> kernel_rfl
theorem fa196_1 (a : AV) : aFieldAddr Try.prog 196 1 a = fieldOff 1 a := by cases a <;> kernel_rfl
theorem fd196_1 (a : AV) : aField Try.prog 196 1 a = fieldVal Try.prog 9 1 a := by cases a <;> kernel_rfl
theorem bu196 (ps : List (Nat × AV)) : aBuild Try.prog 196 ps = (fillA (fun i => [(0, 1), (1, 1)][i]?) (AV.cells (.agg [.str [], .str []])) ps).map .agg := by kernel_rfl
theorem ag197 : isAggT Try.prog 197 = some true := by kernel_rfl
theorem sz197 : sizeT Try.prog 197 = some 2 := by kernel_rfl
theorem by197 : bytesT Try.prog 197 = some 32 := by kernel_rfl
theorem ze197 : zeroT Try.prog 197 = some (.agg [.str [], .str []]) := by kernel_rfl
theorem fa197_0 (a : AV) : aFieldAddr Try.prog 197 0 a = fieldOff 0 a := by cases a <;> kernel_rfl
theorem fd197_0 (a : AV) : aField Try.prog 197 0 a = fieldVal Try.prog 9 0 a := by cases a <;> kernel_rfl
theorem fa197_1 (a : AV) : aFieldAddr Try.prog 197 1 a = fieldOff 1 a := by cases a <;> kernel_rfl
theorem fd197_1 (a : AV) : aField Try.prog 197 1 a = fieldVal Try.prog 9 1 a := by cases a <;> kernel_rfl
theorem bu197 (ps : List (Nat × AV)) : aBuild Try.prog 197 ps = (fillA (fun i => [(0, 1), (1, 1)][i]?) (AV.cells (.agg [.str [], .str []])) ps).map .agg := by kernel_rfl
theorem ag198 : isAggT Try.prog 198 = some false := by kernel_rfl
theorem sz198 : sizeT Try.prog 198 = some 1 := by kernel_rfl
theorem by198 : bytesT Try.prog 198 = some 8 := by kernel_rfl
theorem ze198 : zeroT Try.prog 198 = some (.nilF) := by kernel_rfl
theorem ag199 : isAggT Try.prog 199 = some true := by kernel_rfl
theorem sz199 : sizeT Try.prog 199 = some 3 := by kernel_rfl
theorem by199 : bytesT Try.prog 199 = some 40 := by kernel_rfl
theorem ze199 : zeroT Try.prog 199 = some (.agg [.str [], .int .i64 0, .str []]) := by kernel_rfl
theorem fa199_0 (a : AV) : aFieldAddr Try.prog 199 0 a = fieldOff 0 a := by cases a <;> kernel_rfl
theorem fd199_0 (a : AV) : aField Try.prog 199 0 a = fieldVal Try.prog 9 0 a := by cases a <;> kernel_rfl
theorem fa199_1 (a : AV) : aFieldAddr Try.prog 199 1 a = fieldOff 1 a := by cases a <;> kernel_rfl
theorem fd199_1 (a : AV) : aField Try.prog 199 1 a = fieldVal Try.prog 3 1 a := by cases a <;> kernel_rfl
theorem fa199_2 (a : AV) : aFieldAddr Try.prog 199 2 a = fieldOff 2 a := by cases a <;> kernel_rfl
theorem fd199_2 (a : AV) : aField Try.prog 199 2 a = fieldVal Try.prog 9 2 a := by cases a <;> kernel_rfl
theorem bu199 (ps : List (Nat × AV)) : aBuild Try.prog 199 ps = (fillA (fun i => [(0, 1), (1, 1), (2, 1)][i]?) (AV.cells (.agg [.str [], .int .i64 0, .str []])) ps).map .agg := by kernel_rfl
theorem ag200 : isAggT Try.prog 200 = some true := by kernel_rfl
theorem sz200 : sizeT Try.prog 200 = some 3 := by kernel_rfl
theorem by200 : bytesT Try.prog 200 = some 40 := by kernel_rfl
theorem ze200 : zeroT Try.prog 200 = some (.agg [.str [], .int .i64 0, .str []]) := by kernel_rfl
theorem fa200_0 (a : AV) : aFieldAddr Try.prog 200 0 a = fieldOff 0 a := by cases a <;> kernel_rfl
theorem fd200_0 (a : AV) : aField Try.prog 200 0 a = fieldVal Try.prog 9 0 a := by cases a <;> kernel_rfl
theorem fa200_1 (a : AV) : aFieldAddr Try.prog 200 1 a = fieldOff 1 a := by cases a <;> kernel_rfl
theorem fd200_1 (a : AV) : aField Try.prog 200 1 a = fieldVal Try.prog 3 1 a := by cases a <;> kernel_rfl
theorem fa200_2 (a : AV) : aFieldAddr Try.prog 200 2 a = fieldOff 2 a := by cases a <;> kernel_rfl
theorem fd200_2 (a : AV) : aField Try.prog 200 2 a = fieldVal Try.prog 9 2 a := by cases a <;> kernel_rfl
theorem bu200 (ps : List (Nat × AV)) : aBuild Try.prog 200 ps = (fillA (fun i => [(0, 1), (1, 1), (2, 1)][i]?) (AV.cells (.agg [.str [], .int .i64 0, .str []])) ps).map .agg := by kernel_rfl
theorem ag201 : isAggT Try.prog 201 = some false := by kernel_rfl
theorem sz201 : sizeT Try.prog 201 = some 1 := by kernel_rfl
theorem by201 : bytesT Try.prog 201 = some 8 := by kernel_rfl
theorem ze201 : zeroT Try.prog 201 = some (.nil) := by kernel_rfl
theorem ag202 : isAggT Try.prog 202 = some true := by kernel_rfl
theorem sz202 : sizeT Try.prog 202 = some 4 := by kernel_rfl
theorem by202 : bytesT Try.prog 202 = some 48 := by kernel_rfl
theorem ze202 : zeroT Try.prog 202 = some (.agg [.str [], .int .i64 0, .str [], .nil]) := by kernel_rfl
theorem fa202_0 (a : AV) : aFieldAddr Try.prog 202 0 a = fieldOff 0 a := by cases a <;> kernel_rfl
theorem fd202_0 (a : AV) : aField Try.prog 202 0 a = fieldVal Try.prog 200 0 a := by cases a <;> kernel_rfl
theorem fa202_1 (a : AV) : aFieldAddr Try.prog 202 1 a = fieldOff 3 a := by cases a <;> kernel_rfl
theorem fd202_1 (a : AV) : aField Try.prog 202 1 a = fieldVal Try.prog 201 3 a := by cases a <;> kernel_rfl
theorem bu202 (ps : List (Nat × AV)) : aBuild Try.prog 202 ps = (fillA (fun i => [(0, 3), (3, 1)][i]?) (AV.cells (.agg [.str [], .int .i64 0, .str [], .nil])) ps).map .agg := by kernel_rfl
theorem ag203 : isAggT Try.prog 203 = some true := by kernel_rfl
theorem sz203 : sizeT Try.prog 203 = some 4 := by kernel_rfl
theorem by203 : bytesT Try.prog 203 = some 48 := by kernel_rfl
theorem ze203 : zeroT Try.prog 203 = some (.agg [.str [], .int .i64 0, .str [], .nil]) := by kernel_rfl
theorem fa203_0 (a : AV) : aFieldAddr Try.prog 203 0 a = fieldOff 0 a := by cases a <;> kernel_rfl
theorem fd203_0 (a : AV) : aField Try.prog 203 0 a = fieldVal Try.prog 200 0 a := by cases a <;> kernel_rfl
theorem fa203_1 (a : AV) : aFieldAddr Try.prog 203 1 a = fieldOff 3 a := by cases a <;> kernel_rfl
theorem fd203_1 (a : AV) : aField Try.prog 203 1 a = fieldVal Try.prog 201 3 a := by cases a <;> kernel_rfl
theorem bu203 (ps : List (Nat × AV)) : aBuild Try.prog 203 ps = (fillA (fun i => [(0, 3), (3, 1)][i]?) (AV.cells (.agg [.str [], .int .i64 0, .str [], .nil])) ps).map .agg := by kernel_rfl
theorem ag204 : isAggT Try.prog 204 = some false := by kernel_rfl
theorem sz204 : sizeT Try.prog 204 = some 1 := by kernel_rfl
theorem by204 : bytesT Try.prog 204 = some 24 := by kernel_rfl
theorem se204 : sliceElem Try.prog 204 = some 2 := by kernel_rfl
theorem ze204 : zeroT Try.prog 204 = some (.nilS) := by kernel_rfl
theorem ag205 : isAggT Try.prog 205 = some true := by kernel_rfl
theorem sz205 : sizeT Try.prog 205 = some 5 := by kernel_rfl
theorem by205 : bytesT Try.prog 205 = some 88 := by kernel_rfl
theorem ze205 : zeroT Try.prog 205 = some (.agg [.nilS, .nilS, .int .i64 0, .int .i64 0, .nilS]) := by kernel_rfl
theorem fa205_0 (a : AV) : aFieldAddr Try.prog 205 0 a = fieldOff 0 a := by cases a <;> kernel_rfl
theorem fd205_0 (a : AV) : aField Try.prog 205 0 a = fieldVal Try.prog 182 0 a := by cases a <;> kernel_rfl
theorem fa205_1 (a : AV) : aFieldAddr Try.prog 205 1 a = fieldOff 4 a := by cases a <;> kernel_rfl
theorem fd205_1 (a : AV) : aField Try.prog 205 1 a = fieldVal Try.prog 204 4 a := by cases a <;> kernel_rfl
theorem bu205 (ps : List (Nat × AV)) : aBuild Try.prog 205 ps = (fillA (fun i => [(0, 4), (4, 1)][i]?) (AV.cells (.agg [.nilS, .nilS, .int .i64 0, .int .i64 0, .nilS])) ps).map .agg := by kernel_rfl
theorem ag206 : isAggT Try.prog 206 = some true := by kernel_rfl
theorem sz206 : sizeT Try.prog 206 = some 5 := by kernel_rfl
theorem by206 : bytesT Try.prog 206 = some 88 := by kernel_rfl
theorem ze206 : zeroT Try.prog 206 = some (.agg [.nilS, .nilS, .int .i64 0, .int .i64 0, .nilS]) := by kernel_rfl
theorem fa206_0 (a : AV) : aFieldAddr Try.prog 206 0 a = fieldOff 0 a := by cases a <;> kernel_rfl
theorem fd206_0 (a : AV) : aField Try.prog 206 0 a = fieldVal Try.prog 182 0 a := by cases a <;> kernel_rfl
theorem fa206_1 (a : AV) : aFieldAddr Try.prog 206 1 a = fieldOff 4 a := by cases a <;> kernel_rfl
theorem fd206_1 (a : AV) : aField Try.prog 206 1 a = fieldVal Try.prog 204 4 a := by cases a <;> kernel_rfl
theorem bu206 (ps : List (Nat × AV)) : aBuild Try.prog 206 ps = (fillA (fun i => [(0, 4), (4, 1)][i]?) (AV.cells (.agg [.nilS, .nilS, .int .i64 0, .int .i64 0, .nilS])) ps).map .agg := by kernel_rfl
theorem ag207 : isAggT Try.prog 207 = some false := by kernel_rfl
theorem sz207 : sizeT Try.prog 207 = some 1 := by kernel_rfl
theorem by207 : bytesT Try.prog 207 = some 8 := by kernel_rfl
theorem ze207 : zeroT Try.prog 207 = some (.int .u64 0) := by kernel_rfl
theorem ag208 : isAggT Try.prog 208 = some false := by kernel_rfl
theorem sz208 : sizeT Try.prog 208 = some 1 := by kernel_rfl
theorem by208 : bytesT Try.prog 208 = some 24 := by kernel_rfl
theorem se208 : sliceElem Try.prog 208 = some 214 := by kernel_rfl
theorem ze208 : zeroT Try.prog 208 = some (.nilS) := by kernel_rfl
theorem ag209 : isAggT Try.prog 209 = some true := by kernel_rfl
theorem sz209 : sizeT Try.prog 209 = some 2 := by kernel_rfl
theorem by209 : bytesT Try.prog 209 = some 32 := by kernel_rfl
theorem ze209 : zeroT Try.prog 209 = some (.agg [.nilS, .int .i64 0]) := by kernel_rfl
theorem fa209_0 (a : AV) : aFieldAddr Try.prog 209 0 a = fieldOff 0 a := by cases a <;> kernel_rfl
theorem fd209_0 (a : AV) : aField Try.prog 209 0 a = fieldVal Try.prog 208 0 a := by cases a <;> kernel_rfl
theorem fa209_1 (a : AV) : aFieldAddr Try.prog 209 1 a = fieldOff 1 a := by cases a <;> kernel_rfl
theorem fd209_1 (a : AV) : aField Try.prog 209 1 a = fieldVal Try.prog 3 1 a := by cases a <;> kernel_rfl
theorem bu209 (ps : List (Nat × AV)) : aBuild Try.prog 209 ps = (fillA (fun i => [(0, 1), (1, 1)][i]?) (AV.cells (.agg [.nilS, .int .i64 0])) ps).map .agg := by kernel_rfl
theorem ag210 : isAggT Try.prog 210 = some true := by kernel_rfl
theorem sz210 : sizeT Try.prog 210 = some 2 := by kernel_rfl
theorem by210 : bytesT Try.prog 210 = some 32 := by kernel_rfl
theorem ze210 : zeroT Try.prog 210 = some (.agg [.nilS, .int .i64 0]) := by kernel_rfl
theorem fa210_0 (a : AV) : aFieldAddr Try.prog 210 0 a = fieldOff 0 a := by cases a <;> kernel_rfl
theorem fd210_0 (a : AV) : aField Try.prog 210 0 a = fieldVal Try.prog 208 0 a := by cases a <;> kernel_rfl
theorem fa210_1 (a : AV) : aFieldAddr Try.prog 210 1 a = fieldOff 1 a := by cases a <;> kernel_rfl
theorem fd210_1 (a : AV) : aField Try.prog 210 1 a = fieldVal Try.prog 3 1 a := by cases a <;> kernel_rfl
theorem bu210 (ps : List (Nat × AV)) : aBuild Try.prog 210 ps = (fillA (fun i => [(0, 1), (1, 1)][i]?) (AV.cells (.agg [.nilS, .int .i64 0])) ps).map .agg := by kernel_rfl
theorem ag211 : isAggT Try.prog 211 = some false := by kernel_rfl
theorem sz211 : sizeT Try.prog 211 = some 1 := by kernel_rfl
theorem by211 : bytesT Try.prog 211 = some 8 := by kernel_rfl
theorem ze211 : zeroT Try.prog 211 = some (.nilF) := by kernel_rfl
theorem ag212 : isAggT Try.prog 212 = some false := by kernel_rfl
theorem sz212 : sizeT Try.prog 212 = some 1 := by kernel_rfl
theorem by212 : bytesT Try.prog 212 = some 24 := by kernel_rfl
theorem se212 : sliceElem Try.prog 212 = some 216 := by kernel_rfl
theorem ze212 : zeroT Try.prog 212 = some (.nilS) := by kernel_rfl
theorem ag213 : isAggT Try.prog 213 = some true := by kernel_rfl
theorem sz213 : sizeT Try.prog 213 = some 5 := by kernel_rfl
theorem by213 : bytesT Try.prog 213 = some 56 := by kernel_rfl
theorem ze213 : zeroT Try.prog 213 = some (.agg [.int .i64 0, .bool false, .nilS, .int .i64 0, .int .i64 0]) := by kernel_rfl
theorem fa213_0 (a : AV) : aFieldAddr Try.prog 213 0 a = fieldOff 0 a := by cases a <;> kernel_rfl
theorem fd213_0 (a : AV) : aField Try.prog 213 0 a = fieldVal Try.prog 3 0 a := by cases a <;> kernel_rfl
theorem fa213_1 (a : AV) : aFieldAddr Try.prog 213 1 a = fieldOff 1 a := by cases a <;> kernel_rfl
theorem fd213_1 (a : AV) : aField Try.prog 213 1 a = fieldVal Try.prog 4 1 a := by cases a <;> kernel_rfl
theorem fa213_2 (a : AV) : aFieldAddr Try.prog 213 2 a = fieldOff 2 a := by cases a <;> kernel_rfl
theorem fd213_2 (a : AV) : aField Try.prog 213 2 a = fieldVal Try.prog 212 2 a := by cases a <;> kernel_rfl
theorem fa213_3 (a : AV) : aFieldAddr Try.prog 213 3 a = fieldOff 3 a := by cases a <;> kernel_rfl
theorem fd213_3 (a : AV) : aField Try.prog 213 3 a = fieldVal Try.prog 3 3 a := by cases a <;> kernel_rfl
theorem fa213_4 (a : AV) : aFieldAddr Try.prog 213 4 a = fieldOff 4 a := by cases a <;> kernel_rfl
theorem fd213_4 (a : AV) : aField Try.prog 213 4 a = fieldVal Try.prog 3 4 a := by cases a <;> kernel_rfl
theorem bu213 (ps : List (Nat × AV)) : aBuild Try.prog 213 ps = (fillA (fun i => [(0, 1), (1, 1), (2, 1), (3, 1), (4, 1)][i]?) (AV.cells (.agg [.int .i64 0, .bool false, .nilS, .int .i64 0, .int .i64 0])) ps).map .agg := by kernel_rfl
theorem ag214 : isAggT Try.prog 214 = some true := by kernel_rfl
theorem sz214 : sizeT Try.prog 214 = some 5 := by kernel_rfl
theorem by214 : bytesT Try.prog 214 = some 56 := by kernel_rfl
theorem ze214 : zeroT Try.prog 214 = some (.agg [.int .i64 0, .bool false, .nilS, .int .i64 0, .int .i64 0]) := by kernel_rfl
theorem fa214_0 (a : AV) : aFieldAddr Try.prog 214 0 a = fieldOff 0 a := by cases a <;> kernel_rfl
theorem fd214_0 (a : AV) : aField Try.prog 214 0 a = fieldVal Try.prog 3 0 a := by cases a <;> kernel_rfl
theorem fa214_1 (a : AV) : aFieldAddr Try.prog 214 1 a = fieldOff 1 a := by cases a <;> kernel_rfl
theorem fd214_1 (a : AV) : aField Try.prog 214 1 a = fieldVal Try.prog 4 1 a := by cases a <;> kernel_rfl
theorem fa214_2 (a : AV) : aFieldAddr Try.prog 214 2 a = fieldOff 2 a := by cases a <;> kernel_rfl
theorem fd214_2 (a : AV) : aField Try.prog 214 2 a = fieldVal Try.prog 212 2 a := by cases a <;> kernel_rfl
theorem fa214_3 (a : AV) : aFieldAddr Try.prog 214 3 a = fieldOff 3 a := by cases a <;> kernel_rfl
theorem fd214_3 (a : AV) : aField Try.prog 214 3 a = fieldVal Try.prog 3 3 a := by cases a <;> kernel_rfl
theorem fa214_4 (a : AV) : aFieldAddr Try.prog 214 4 a = fieldOff 4 a := by cases a <;> kernel_rfl
theorem fd214_4 (a : AV) : aField Try.prog 214 4 a = fieldVal Try.prog 3 4 a := by cases a <;> kernel_rfl
theorem bu214 (ps : List (Nat × AV)) : aBuild Try.prog 214 ps = (fillA (fun i => [(0, 1), (1, 1), (2, 1), (3, 1), (4, 1)][i]?) (AV.cells (.agg [.int .i64 0, .bool false, .nilS, .int .i64 0, .int .i64 0])) ps).map .agg := by kernel_rfl
theorem ag215 : isAggT Try.prog 215 = some true := by kernel_rfl
theorem sz215 : sizeT Try.prog 215 = some 2 := by kernel_rfl
theorem by215 : bytesT Try.prog 215 = some 8 := by kernel_rfl
theorem ze215 : zeroT Try.prog 215 = some (.agg [.int .i32 0, .int .i32 0]) := by kernel_rfl
theorem fa215_0 (a : AV) : aFieldAddr Try.prog 215 0 a = fieldOff 0 a := by cases a <;> kernel_rfl
theorem fd215_0 (a : AV) : aField Try.prog 215 0 a = fieldVal Try.prog 21 0 a := by cases a <;> kernel_rfl
theorem fa215_1 (a : AV) : aFieldAddr Try.prog 215 1 a = fieldOff 1 a := by cases a <;> kernel_rfl
theorem fd215_1 (a : AV) : aField Try.prog 215 1 a = fieldVal Try.prog 21 1 a := by cases a <;> kernel_rfl
theorem bu215 (ps : List (Nat × AV)) : aBuild Try.prog 215 ps = (fillA (fun i => [(0, 1), (1, 1)][i]?) (AV.cells (.agg [.int .i32 0, .int .i32 0])) ps).map .agg := by kernel_rfl
theorem ag216 : isAggT Try.prog 216 = some true := by kernel_rfl
theorem sz216 : sizeT Try.prog 216 = some 2 := by kernel_rfl
theorem by216 : bytesT Try.prog 216 = some 8 := by kernel_rfl
theorem ze216 : zeroT Try.prog 216 = some (.agg [.int .i32 0, .int .i32 0]) := by kernel_rfl
theorem fa216_0 (a : AV) : aFieldAddr Try.prog 216 0 a = fieldOff 0 a := by cases a <;> kernel_rfl
theorem fd216_0 (a : AV) : aField Try.prog 216 0 a = fieldVal Try.prog 21 0 a := by cases a <;> kernel_rfl
theorem fa216_1 (a : AV) : aFieldAddr Try.prog 216 1 a = fieldOff 1 a := by cases a <;> kernel_rfl
theorem fd216_1 (a : AV) : aField Try.prog 216 1 a = fieldVal Try.prog 21 1 a := by cases a <;> kernel_rfl
theorem bu216 (ps : List (Nat × AV)) : aBuild Try.prog 216 ps = (fillA (fun i => [(0, 1), (1, 1)][i]?) (AV.cells (.agg [.int .i32 0, .int .i32 0])) ps).map .agg := by kernel_rfl
end Go.Proofs.Ytgcnpcicpogmhaa.Ty
