import Derived.Test.YtoblikhnbddfmaaAbsSeat
import Derived.Test.YtoblikhnbddfmaaAbsWalk
/-! Closed facts of the seat's types. -/
namespace Go.Proofs.Ytoblikhnbddfmaa.Ty
open Go Go.Abs Go.Proofs

theorem ag0 : isAggT Try.prog 0 = some false := by kernel_rfl
theorem sz0 : sizeT Try.prog 0 = some 1 := by kernel_rfl
theorem by0 : bytesT Try.prog 0 = some 0 := by kernel_rfl
theorem ag1 : isAggT Try.prog 1 = some false := by kernel_rfl
theorem sz1 : sizeT Try.prog 1 = some 1 := by kernel_rfl
theorem by1 : bytesT Try.prog 1 = some 8 := by kernel_rfl
theorem ze1 : zeroT Try.prog 1 = some (.nilF) := by kernel_rfl
theorem ag2 : isAggT Try.prog 2 = some false := by kernel_rfl
theorem sz2 : sizeT Try.prog 2 = some 1 := by kernel_rfl
theorem by2 : bytesT Try.prog 2 = some 8 := by kernel_rfl
theorem ze2 : zeroT Try.prog 2 = some (.int .i64 0) := by kernel_rfl
theorem ag3 : isAggT Try.prog 3 = some false := by kernel_rfl
theorem sz3 : sizeT Try.prog 3 = some 1 := by kernel_rfl
theorem by3 : bytesT Try.prog 3 = some 8 := by kernel_rfl
theorem ze3 : zeroT Try.prog 3 = some (.int .i64 0) := by kernel_rfl
theorem ag4 : isAggT Try.prog 4 = some false := by kernel_rfl
theorem sz4 : sizeT Try.prog 4 = some 1 := by kernel_rfl
theorem by4 : bytesT Try.prog 4 = some 1 := by kernel_rfl
theorem ze4 : zeroT Try.prog 4 = some (.bool false) := by kernel_rfl
theorem ag5 : isAggT Try.prog 5 = some false := by kernel_rfl
theorem sz5 : sizeT Try.prog 5 = some 1 := by kernel_rfl
theorem by5 : bytesT Try.prog 5 = some 1 := by kernel_rfl
theorem ze5 : zeroT Try.prog 5 = some (.int .u8 0) := by kernel_rfl
theorem ag6 : isAggT Try.prog 6 = some false := by kernel_rfl
theorem sz6 : sizeT Try.prog 6 = some 1 := by kernel_rfl
theorem by6 : bytesT Try.prog 6 = some 1 := by kernel_rfl
theorem ze6 : zeroT Try.prog 6 = some (.int .u8 0) := by kernel_rfl
theorem ag7 : isAggT Try.prog 7 = some true := by kernel_rfl
theorem sz7 : sizeT Try.prog 7 = some 4 := by kernel_rfl
theorem by7 : bytesT Try.prog 7 = some 24 := by kernel_rfl
theorem ze7 : zeroT Try.prog 7 = some (.agg [.int .i64 0, .int .i64 0, .bool false, .int .u8 0]) := by kernel_rfl
theorem fa7_0 (a : AV) : aFieldAddr Try.prog 7 0 a = fieldOff 0 a := by cases a <;> kernel_rfl
theorem fd7_0 (a : AV) : aField Try.prog 7 0 a = fieldVal Try.prog 2 0 a := by cases a <;> kernel_rfl
theorem fa7_1 (a : AV) : aFieldAddr Try.prog 7 1 a = fieldOff 1 a := by cases a <;> kernel_rfl
theorem fd7_1 (a : AV) : aField Try.prog 7 1 a = fieldVal Try.prog 3 1 a := by cases a <;> kernel_rfl
theorem fa7_2 (a : AV) : aFieldAddr Try.prog 7 2 a = fieldOff 2 a := by cases a <;> kernel_rfl
theorem fd7_2 (a : AV) : aField Try.prog 7 2 a = fieldVal Try.prog 4 2 a := by cases a <;> kernel_rfl
theorem fa7_3 (a : AV) : aFieldAddr Try.prog 7 3 a = fieldOff 3 a := by cases a <;> kernel_rfl
theorem fd7_3 (a : AV) : aField Try.prog 7 3 a = fieldVal Try.prog 6 3 a := by cases a <;> kernel_rfl
theorem bu7 (ps : List (Nat × AV)) : aBuild Try.prog 7 ps = (fillA (fun i => [(0, 1), (1, 1), (2, 1), (3, 1)][i]?) (AV.cells (.agg [.int .i64 0, .int .i64 0, .bool false, .int .u8 0])) ps).map .agg := by kernel_rfl
theorem ag8 : isAggT Try.prog 8 = some true := by kernel_rfl
theorem sz8 : sizeT Try.prog 8 = some 4 := by kernel_rfl
theorem by8 : bytesT Try.prog 8 = some 24 := by kernel_rfl
theorem ze8 : zeroT Try.prog 8 = some (.agg [.int .i64 0, .int .i64 0, .bool false, .int .u8 0]) := by kernel_rfl
theorem fa8_0 (a : AV) : aFieldAddr Try.prog 8 0 a = fieldOff 0 a := by cases a <;> kernel_rfl
theorem fd8_0 (a : AV) : aField Try.prog 8 0 a = fieldVal Try.prog 2 0 a := by cases a <;> kernel_rfl
theorem fa8_1 (a : AV) : aFieldAddr Try.prog 8 1 a = fieldOff 1 a := by cases a <;> kernel_rfl
theorem fd8_1 (a : AV) : aField Try.prog 8 1 a = fieldVal Try.prog 3 1 a := by cases a <;> kernel_rfl
theorem fa8_2 (a : AV) : aFieldAddr Try.prog 8 2 a = fieldOff 2 a := by cases a <;> kernel_rfl
theorem fd8_2 (a : AV) : aField Try.prog 8 2 a = fieldVal Try.prog 4 2 a := by cases a <;> kernel_rfl
theorem fa8_3 (a : AV) : aFieldAddr Try.prog 8 3 a = fieldOff 3 a := by cases a <;> kernel_rfl
theorem fd8_3 (a : AV) : aField Try.prog 8 3 a = fieldVal Try.prog 6 3 a := by cases a <;> kernel_rfl
theorem bu8 (ps : List (Nat × AV)) : aBuild Try.prog 8 ps = (fillA (fun i => [(0, 1), (1, 1), (2, 1), (3, 1)][i]?) (AV.cells (.agg [.int .i64 0, .int .i64 0, .bool false, .int .u8 0])) ps).map .agg := by kernel_rfl
theorem ag9 : isAggT Try.prog 9 = some false := by kernel_rfl
theorem sz9 : sizeT Try.prog 9 = some 1 := by kernel_rfl
theorem by9 : bytesT Try.prog 9 = some 16 := by kernel_rfl
theorem ze9 : zeroT Try.prog 9 = some (.str []) := by kernel_rfl
theorem ag10 : isAggT Try.prog 10 = some false := by kernel_rfl
theorem sz10 : sizeT Try.prog 10 = some 1 := by kernel_rfl
theorem by10 : bytesT Try.prog 10 = some 16 := by kernel_rfl
theorem ze10 : zeroT Try.prog 10 = some (.str []) := by kernel_rfl
theorem ag11 : isAggT Try.prog 11 = some false := by kernel_rfl
theorem sz11 : sizeT Try.prog 11 = some 1 := by kernel_rfl
theorem by11 : bytesT Try.prog 11 = some 16 := by kernel_rfl
theorem ze11 : zeroT Try.prog 11 = some (.str []) := by kernel_rfl
theorem ag12 : isAggT Try.prog 12 = some false := by kernel_rfl
theorem sz12 : sizeT Try.prog 12 = some 1 := by kernel_rfl
theorem by12 : bytesT Try.prog 12 = some 8 := by kernel_rfl
theorem ze12 : zeroT Try.prog 12 = some (.int .u64 0) := by kernel_rfl
theorem ag13 : isAggT Try.prog 13 = some true := by kernel_rfl
theorem sz13 : sizeT Try.prog 13 = some 2 := by kernel_rfl
theorem by13 : bytesT Try.prog 13 = some 24 := by kernel_rfl
theorem ze13 : zeroT Try.prog 13 = some (.agg [.str [], .int .u64 0]) := by kernel_rfl
theorem fa13_0 (a : AV) : aFieldAddr Try.prog 13 0 a = fieldOff 0 a := by cases a <;> kernel_rfl
theorem fd13_0 (a : AV) : aField Try.prog 13 0 a = fieldVal Try.prog 9 0 a := by cases a <;> kernel_rfl
theorem fa13_1 (a : AV) : aFieldAddr Try.prog 13 1 a = fieldOff 1 a := by cases a <;> kernel_rfl
theorem fd13_1 (a : AV) : aField Try.prog 13 1 a = fieldVal Try.prog 12 1 a := by cases a <;> kernel_rfl
theorem bu13 (ps : List (Nat × AV)) : aBuild Try.prog 13 ps = (fillA (fun i => [(0, 1), (1, 1)][i]?) (AV.cells (.agg [.str [], .int .u64 0])) ps).map .agg := by kernel_rfl
theorem ag14 : isAggT Try.prog 14 = some true := by kernel_rfl
theorem sz14 : sizeT Try.prog 14 = some 2 := by kernel_rfl
theorem by14 : bytesT Try.prog 14 = some 24 := by kernel_rfl
theorem ze14 : zeroT Try.prog 14 = some (.agg [.str [], .int .u64 0]) := by kernel_rfl
theorem fa14_0 (a : AV) : aFieldAddr Try.prog 14 0 a = fieldOff 0 a := by cases a <;> kernel_rfl
theorem fd14_0 (a : AV) : aField Try.prog 14 0 a = fieldVal Try.prog 9 0 a := by cases a <;> kernel_rfl
theorem fa14_1 (a : AV) : aFieldAddr Try.prog 14 1 a = fieldOff 1 a := by cases a <;> kernel_rfl
theorem fd14_1 (a : AV) : aField Try.prog 14 1 a = fieldVal Try.prog 12 1 a := by cases a <;> kernel_rfl
theorem bu14 (ps : List (Nat × AV)) : aBuild Try.prog 14 ps = (fillA (fun i => [(0, 1), (1, 1)][i]?) (AV.cells (.agg [.str [], .int .u64 0])) ps).map .agg := by kernel_rfl
theorem ag15 : isAggT Try.prog 15 = some false := by kernel_rfl
theorem sz15 : sizeT Try.prog 15 = some 1 := by kernel_rfl
theorem by15 : bytesT Try.prog 15 = some 8 := by kernel_rfl
theorem ze15 : zeroT Try.prog 15 = some (.nil) := by kernel_rfl
theorem ag16 : isAggT Try.prog 16 = some false := by kernel_rfl
theorem sz16 : sizeT Try.prog 16 = some 1 := by kernel_rfl
theorem by16 : bytesT Try.prog 16 = some 8 := by kernel_rfl
theorem ze16 : zeroT Try.prog 16 = some (.nil) := by kernel_rfl
theorem ag17 : isAggT Try.prog 17 = some false := by kernel_rfl
theorem sz17 : sizeT Try.prog 17 = some 1 := by kernel_rfl
theorem by17 : bytesT Try.prog 17 = some 8 := by kernel_rfl
theorem ze17 : zeroT Try.prog 17 = some (.nil) := by kernel_rfl
theorem ag18 : isAggT Try.prog 18 = some true := by kernel_rfl
theorem sz18 : sizeT Try.prog 18 = some 1 := by kernel_rfl
theorem by18 : bytesT Try.prog 18 = some 8 := by kernel_rfl
theorem ze18 : zeroT Try.prog 18 = some (.agg [.nil]) := by kernel_rfl
theorem fa18_0 (a : AV) : aFieldAddr Try.prog 18 0 a = fieldOff 0 a := by cases a <;> kernel_rfl
theorem fd18_0 (a : AV) : aField Try.prog 18 0 a = fieldVal Try.prog 17 0 a := by cases a <;> kernel_rfl
theorem bu18 (ps : List (Nat × AV)) : aBuild Try.prog 18 ps = (fillA (fun i => [(0, 1)][i]?) (AV.cells (.agg [.nil])) ps).map .agg := by kernel_rfl
theorem ag19 : isAggT Try.prog 19 = some true := by kernel_rfl
theorem sz19 : sizeT Try.prog 19 = some 1 := by kernel_rfl
theorem by19 : bytesT Try.prog 19 = some 8 := by kernel_rfl
theorem ze19 : zeroT Try.prog 19 = some (.agg [.nil]) := by kernel_rfl
theorem fa19_0 (a : AV) : aFieldAddr Try.prog 19 0 a = fieldOff 0 a := by cases a <;> kernel_rfl
theorem fd19_0 (a : AV) : aField Try.prog 19 0 a = fieldVal Try.prog 17 0 a := by cases a <;> kernel_rfl
theorem bu19 (ps : List (Nat × AV)) : aBuild Try.prog 19 ps = (fillA (fun i => [(0, 1)][i]?) (AV.cells (.agg [.nil])) ps).map .agg := by kernel_rfl
theorem ag20 : isAggT Try.prog 20 = some false := by kernel_rfl
theorem sz20 : sizeT Try.prog 20 = some 1 := by kernel_rfl
theorem by20 : bytesT Try.prog 20 = some 16 := by kernel_rfl
theorem ze20 : zeroT Try.prog 20 = some (.nilI) := by kernel_rfl
theorem ag21 : isAggT Try.prog 21 = some false := by kernel_rfl
theorem sz21 : sizeT Try.prog 21 = some 1 := by kernel_rfl
theorem by21 : bytesT Try.prog 21 = some 4 := by kernel_rfl
theorem ze21 : zeroT Try.prog 21 = some (.int .i32 0) := by kernel_rfl
theorem ag22 : isAggT Try.prog 22 = some false := by kernel_rfl
theorem sz22 : sizeT Try.prog 22 = some 1 := by kernel_rfl
theorem by22 : bytesT Try.prog 22 = some 24 := by kernel_rfl
theorem se22 : sliceElem Try.prog 22 = some 25 := by kernel_rfl
theorem ze22 : zeroT Try.prog 22 = some (.nilS) := by kernel_rfl
theorem ag23 : isAggT Try.prog 23 = some false := by kernel_rfl
theorem sz23 : sizeT Try.prog 23 = some 1 := by kernel_rfl
theorem by23 : bytesT Try.prog 23 = some 8 := by kernel_rfl
theorem ze23 : zeroT Try.prog 23 = some (.nil) := by kernel_rfl
theorem ag24 : isAggT Try.prog 24 = some false := by kernel_rfl
theorem sz24 : sizeT Try.prog 24 = some 1 := by kernel_rfl
theorem by24 : bytesT Try.prog 24 = some 8 := by kernel_rfl
theorem ze24 : zeroT Try.prog 24 = some (.nilF) := by kernel_rfl
theorem ag25 : isAggT Try.prog 25 = some false := by kernel_rfl
theorem sz25 : sizeT Try.prog 25 = some 1 := by kernel_rfl
theorem by25 : bytesT Try.prog 25 = some 24 := by kernel_rfl
theorem se25 : sliceElem Try.prog 25 = some 9 := by kernel_rfl
theorem ze25 : zeroT Try.prog 25 = some (.nilS) := by kernel_rfl
theorem ag26 : isAggT Try.prog 26 = some false := by kernel_rfl
theorem sz26 : sizeT Try.prog 26 = some 1 := by kernel_rfl
theorem by26 : bytesT Try.prog 26 = some 24 := by kernel_rfl
theorem se26 : sliceElem Try.prog 26 = some 33 := by kernel_rfl
theorem ze26 : zeroT Try.prog 26 = some (.nilS) := by kernel_rfl
theorem ag27 : isAggT Try.prog 27 = some false := by kernel_rfl
theorem sz27 : sizeT Try.prog 27 = some 1 := by kernel_rfl
theorem by27 : bytesT Try.prog 27 = some 8 := by kernel_rfl
theorem ze27 : zeroT Try.prog 27 = some (.nilF) := by kernel_rfl
theorem ag28 : isAggT Try.prog 28 = some false := by kernel_rfl
theorem sz28 : sizeT Try.prog 28 = some 1 := by kernel_rfl
theorem by28 : bytesT Try.prog 28 = some 8 := by kernel_rfl
theorem ze28 : zeroT Try.prog 28 = some (.nilF) := by kernel_rfl
theorem ag29 : isAggT Try.prog 29 = some false := by kernel_rfl
theorem sz29 : sizeT Try.prog 29 = some 1 := by kernel_rfl
theorem by29 : bytesT Try.prog 29 = some 8 := by kernel_rfl
theorem ze29 : zeroT Try.prog 29 = some (.int .i64 0) := by kernel_rfl
theorem ag30 : isAggT Try.prog 30 = some false := by kernel_rfl
theorem sz30 : sizeT Try.prog 30 = some 1 := by kernel_rfl
theorem by30 : bytesT Try.prog 30 = some 0 := by kernel_rfl
theorem ag31 : isAggT Try.prog 31 = some false := by kernel_rfl
theorem sz31 : sizeT Try.prog 31 = some 1 := by kernel_rfl
theorem by31 : bytesT Try.prog 31 = some 8 := by kernel_rfl
theorem ze31 : zeroT Try.prog 31 = some (.nilF) := by kernel_rfl
theorem ag32 : isAggT Try.prog 32 = some true := by kernel_rfl
theorem sz32 : sizeT Try.prog 32 = some 4 := by kernel_rfl
theorem by32 : bytesT Try.prog 32 = some 40 := by kernel_rfl
theorem ze32 : zeroT Try.prog 32 = some (.agg [.int .i64 0, .int .i64 0, .str [], .bool false]) := by kernel_rfl
theorem fa32_0 (a : AV) : aFieldAddr Try.prog 32 0 a = fieldOff 0 a := by cases a <;> kernel_rfl
theorem fd32_0 (a : AV) : aField Try.prog 32 0 a = fieldVal Try.prog 2 0 a := by cases a <;> kernel_rfl
theorem fa32_1 (a : AV) : aFieldAddr Try.prog 32 1 a = fieldOff 1 a := by cases a <;> kernel_rfl
theorem fd32_1 (a : AV) : aField Try.prog 32 1 a = fieldVal Try.prog 2 1 a := by cases a <;> kernel_rfl
theorem fa32_2 (a : AV) : aFieldAddr Try.prog 32 2 a = fieldOff 2 a := by cases a <;> kernel_rfl
theorem fd32_2 (a : AV) : aField Try.prog 32 2 a = fieldVal Try.prog 9 2 a := by cases a <;> kernel_rfl
theorem fa32_3 (a : AV) : aFieldAddr Try.prog 32 3 a = fieldOff 3 a := by cases a <;> kernel_rfl
theorem fd32_3 (a : AV) : aField Try.prog 32 3 a = fieldVal Try.prog 4 3 a := by cases a <;> kernel_rfl
theorem bu32 (ps : List (Nat × AV)) : aBuild Try.prog 32 ps = (fillA (fun i => [(0, 1), (1, 1), (2, 1), (3, 1)][i]?) (AV.cells (.agg [.int .i64 0, .int .i64 0, .str [], .bool false])) ps).map .agg := by kernel_rfl
theorem ag33 : isAggT Try.prog 33 = some true := by kernel_rfl
theorem sz33 : sizeT Try.prog 33 = some 4 := by kernel_rfl
theorem by33 : bytesT Try.prog 33 = some 40 := by kernel_rfl
theorem ze33 : zeroT Try.prog 33 = some (.agg [.int .i64 0, .int .i64 0, .str [], .bool false]) := by kernel_rfl
theorem fa33_0 (a : AV) : aFieldAddr Try.prog 33 0 a = fieldOff 0 a := by cases a <;> kernel_rfl
theorem fd33_0 (a : AV) : aField Try.prog 33 0 a = fieldVal Try.prog 2 0 a := by cases a <;> kernel_rfl
theorem fa33_1 (a : AV) : aFieldAddr Try.prog 33 1 a = fieldOff 1 a := by cases a <;> kernel_rfl
theorem fd33_1 (a : AV) : aField Try.prog 33 1 a = fieldVal Try.prog 2 1 a := by cases a <;> kernel_rfl
theorem fa33_2 (a : AV) : aFieldAddr Try.prog 33 2 a = fieldOff 2 a := by cases a <;> kernel_rfl
theorem fd33_2 (a : AV) : aField Try.prog 33 2 a = fieldVal Try.prog 9 2 a := by cases a <;> kernel_rfl
theorem fa33_3 (a : AV) : aFieldAddr Try.prog 33 3 a = fieldOff 3 a := by cases a <;> kernel_rfl
theorem fd33_3 (a : AV) : aField Try.prog 33 3 a = fieldVal Try.prog 4 3 a := by cases a <;> kernel_rfl
theorem bu33 (ps : List (Nat × AV)) : aBuild Try.prog 33 ps = (fillA (fun i => [(0, 1), (1, 1), (2, 1), (3, 1)][i]?) (AV.cells (.agg [.int .i64 0, .int .i64 0, .str [], .bool false])) ps).map .agg := by kernel_rfl
theorem ag34 : isAggT Try.prog 34 = some false := by kernel_rfl
theorem sz34 : sizeT Try.prog 34 = some 1 := by kernel_rfl
theorem by34 : bytesT Try.prog 34 = some 8 := by kernel_rfl
theorem ze34 : zeroT Try.prog 34 = some (.nilF) := by kernel_rfl
theorem ag35 : isAggT Try.prog 35 = some false := by kernel_rfl
theorem sz35 : sizeT Try.prog 35 = some 1 := by kernel_rfl
theorem by35 : bytesT Try.prog 35 = some 8 := by kernel_rfl
theorem ze35 : zeroT Try.prog 35 = some (.nilF) := by kernel_rfl
theorem ag36 : isAggT Try.prog 36 = some false := by kernel_rfl
theorem sz36 : sizeT Try.prog 36 = some 1 := by kernel_rfl
theorem by36 : bytesT Try.prog 36 = some 8 := by kernel_rfl
theorem ze36 : zeroT Try.prog 36 = some (.nilF) := by kernel_rfl
theorem ag37 : isAggT Try.prog 37 = some false := by kernel_rfl
theorem sz37 : sizeT Try.prog 37 = some 1 := by kernel_rfl
theorem by37 : bytesT Try.prog 37 = some 8 := by kernel_rfl
theorem ze37 : zeroT Try.prog 37 = some (.nilF) := by kernel_rfl
theorem ag38 : isAggT Try.prog 38 = some false := by kernel_rfl
theorem sz38 : sizeT Try.prog 38 = some 1 := by kernel_rfl
theorem by38 : bytesT Try.prog 38 = some 24 := by kernel_rfl
theorem se38 : sliceElem Try.prog 38 = some 129 := by kernel_rfl
theorem ze38 : zeroT Try.prog 38 = some (.nilS) := by kernel_rfl
theorem ag39 : isAggT Try.prog 39 = some false := by kernel_rfl
theorem sz39 : sizeT Try.prog 39 = some 1 := by kernel_rfl
theorem by39 : bytesT Try.prog 39 = some 24 := by kernel_rfl
theorem se39 : sliceElem Try.prog 39 = some 41 := by kernel_rfl
theorem ze39 : zeroT Try.prog 39 = some (.nilS) := by kernel_rfl
theorem ag40 : isAggT Try.prog 40 = some true := by kernel_rfl
theorem sz40 : sizeT Try.prog 40 = some 6 := by kernel_rfl
theorem by40 : bytesT Try.prog 40 = some 80 := by kernel_rfl
theorem ze40 : zeroT Try.prog 40 = some (.agg [.int .i64 0, .bool false, .nilS, .int .i64 0, .int .i64 0, .nilS]) := by kernel_rfl
theorem fa40_0 (a : AV) : aFieldAddr Try.prog 40 0 a = fieldOff 0 a := by cases a <;> kernel_rfl
theorem fd40_0 (a : AV) : aField Try.prog 40 0 a = fieldVal Try.prog 3 0 a := by cases a <;> kernel_rfl
theorem fa40_1 (a : AV) : aFieldAddr Try.prog 40 1 a = fieldOff 1 a := by cases a <;> kernel_rfl
theorem fd40_1 (a : AV) : aField Try.prog 40 1 a = fieldVal Try.prog 4 1 a := by cases a <;> kernel_rfl
theorem fa40_2 (a : AV) : aFieldAddr Try.prog 40 2 a = fieldOff 2 a := by cases a <;> kernel_rfl
theorem fd40_2 (a : AV) : aField Try.prog 40 2 a = fieldVal Try.prog 38 2 a := by cases a <;> kernel_rfl
theorem fa40_3 (a : AV) : aFieldAddr Try.prog 40 3 a = fieldOff 3 a := by cases a <;> kernel_rfl
theorem fd40_3 (a : AV) : aField Try.prog 40 3 a = fieldVal Try.prog 3 3 a := by cases a <;> kernel_rfl
theorem fa40_4 (a : AV) : aFieldAddr Try.prog 40 4 a = fieldOff 4 a := by cases a <;> kernel_rfl
theorem fd40_4 (a : AV) : aField Try.prog 40 4 a = fieldVal Try.prog 3 4 a := by cases a <;> kernel_rfl
theorem fa40_5 (a : AV) : aFieldAddr Try.prog 40 5 a = fieldOff 5 a := by cases a <;> kernel_rfl
theorem fd40_5 (a : AV) : aField Try.prog 40 5 a = fieldVal Try.prog 39 5 a := by cases a <;> kernel_rfl
theorem bu40 (ps : List (Nat × AV)) : aBuild Try.prog 40 ps = (fillA (fun i => [(0, 1), (1, 1), (2, 1), (3, 1), (4, 1), (5, 1)][i]?) (AV.cells (.agg [.int .i64 0, .bool false, .nilS, .int .i64 0, .int .i64 0, .nilS])) ps).map .agg := by kernel_rfl
theorem ag41 : isAggT Try.prog 41 = some true := by kernel_rfl
theorem sz41 : sizeT Try.prog 41 = some 6 := by kernel_rfl
theorem by41 : bytesT Try.prog 41 = some 80 := by kernel_rfl
theorem ze41 : zeroT Try.prog 41 = some (.agg [.int .i64 0, .bool false, .nilS, .int .i64 0, .int .i64 0, .nilS]) := by kernel_rfl
theorem fa41_0 (a : AV) : aFieldAddr Try.prog 41 0 a = fieldOff 0 a := by cases a <;> kernel_rfl
theorem fd41_0 (a : AV) : aField Try.prog 41 0 a = fieldVal Try.prog 3 0 a := by cases a <;> kernel_rfl
theorem fa41_1 (a : AV) : aFieldAddr Try.prog 41 1 a = fieldOff 1 a := by cases a <;> kernel_rfl
theorem fd41_1 (a : AV) : aField Try.prog 41 1 a = fieldVal Try.prog 4 1 a := by cases a <;> kernel_rfl
theorem fa41_2 (a : AV) : aFieldAddr Try.prog 41 2 a = fieldOff 2 a := by cases a <;> kernel_rfl
theorem fd41_2 (a : AV) : aField Try.prog 41 2 a = fieldVal Try.prog 38 2 a := by cases a <;> kernel_rfl
theorem fa41_3 (a : AV) : aFieldAddr Try.prog 41 3 a = fieldOff 3 a := by cases a <;> kernel_rfl
theorem fd41_3 (a : AV) : aField Try.prog 41 3 a = fieldVal Try.prog 3 3 a := by cases a <;> kernel_rfl
theorem fa41_4 (a : AV) : aFieldAddr Try.prog 41 4 a = fieldOff 4 a := by cases a <;> kernel_rfl
theorem fd41_4 (a : AV) : aField Try.prog 41 4 a = fieldVal Try.prog 3 4 a := by cases a <;> kernel_rfl
theorem fa41_5 (a : AV) : aFieldAddr Try.prog 41 5 a = fieldOff 5 a := by cases a <;> kernel_rfl
theorem fd41_5 (a : AV) : aField Try.prog 41 5 a = fieldVal Try.prog 39 5 a := by cases a <;> kernel_rfl
theorem bu41 (ps : List (Nat × AV)) : aBuild Try.prog 41 ps = (fillA (fun i => [(0, 1), (1, 1), (2, 1), (3, 1), (4, 1), (5, 1)][i]?) (AV.cells (.agg [.int .i64 0, .bool false, .nilS, .int .i64 0, .int .i64 0, .nilS])) ps).map .agg := by kernel_rfl
theorem ag42 : isAggT Try.prog 42 = some false := by kernel_rfl
theorem sz42 : sizeT Try.prog 42 = some 1 := by kernel_rfl
theorem by42 : bytesT Try.prog 42 = some 0 := by kernel_rfl
theorem ag43 : isAggT Try.prog 43 = some false := by kernel_rfl
theorem sz43 : sizeT Try.prog 43 = some 1 := by kernel_rfl
theorem by43 : bytesT Try.prog 43 = some 8 := by kernel_rfl
theorem ze43 : zeroT Try.prog 43 = some (.nilF) := by kernel_rfl
theorem ag44 : isAggT Try.prog 44 = some false := by kernel_rfl
theorem sz44 : sizeT Try.prog 44 = some 1 := by kernel_rfl
theorem by44 : bytesT Try.prog 44 = some 24 := by kernel_rfl
theorem se44 : sliceElem Try.prog 44 = some 131 := by kernel_rfl
theorem ze44 : zeroT Try.prog 44 = some (.nilS) := by kernel_rfl
theorem ag45 : isAggT Try.prog 45 = some false := by kernel_rfl
theorem sz45 : sizeT Try.prog 45 = some 1 := by kernel_rfl
theorem by45 : bytesT Try.prog 45 = some 24 := by kernel_rfl
theorem se45 : sliceElem Try.prog 45 = some 47 := by kernel_rfl
theorem ze45 : zeroT Try.prog 45 = some (.nilS) := by kernel_rfl
theorem ag46 : isAggT Try.prog 46 = some true := by kernel_rfl
theorem sz46 : sizeT Try.prog 46 = some 6 := by kernel_rfl
theorem by46 : bytesT Try.prog 46 = some 80 := by kernel_rfl
theorem ze46 : zeroT Try.prog 46 = some (.agg [.int .i64 0, .bool false, .nilS, .int .i64 0, .int .i64 0, .nilS]) := by kernel_rfl
theorem fa46_0 (a : AV) : aFieldAddr Try.prog 46 0 a = fieldOff 0 a := by cases a <;> kernel_rfl
theorem fd46_0 (a : AV) : aField Try.prog 46 0 a = fieldVal Try.prog 3 0 a := by cases a <;> kernel_rfl
theorem fa46_1 (a : AV) : aFieldAddr Try.prog 46 1 a = fieldOff 1 a := by cases a <;> kernel_rfl
theorem fd46_1 (a : AV) : aField Try.prog 46 1 a = fieldVal Try.prog 4 1 a := by cases a <;> kernel_rfl
theorem fa46_2 (a : AV) : aFieldAddr Try.prog 46 2 a = fieldOff 2 a := by cases a <;> kernel_rfl
theorem fd46_2 (a : AV) : aField Try.prog 46 2 a = fieldVal Try.prog 44 2 a := by cases a <;> kernel_rfl
theorem fa46_3 (a : AV) : aFieldAddr Try.prog 46 3 a = fieldOff 3 a := by cases a <;> kernel_rfl
theorem fd46_3 (a : AV) : aField Try.prog 46 3 a = fieldVal Try.prog 3 3 a := by cases a <;> kernel_rfl
theorem fa46_4 (a : AV) : aFieldAddr Try.prog 46 4 a = fieldOff 4 a := by cases a <;> kernel_rfl
theorem fd46_4 (a : AV) : aField Try.prog 46 4 a = fieldVal Try.prog 3 4 a := by cases a <;> kernel_rfl
theorem fa46_5 (a : AV) : aFieldAddr Try.prog 46 5 a = fieldOff 5 a := by cases a <;> kernel_rfl
theorem fd46_5 (a : AV) : aField Try.prog 46 5 a = fieldVal Try.prog 45 5 a := by cases a <;> kernel_rfl
theorem bu46 (ps : List (Nat × AV)) : aBuild Try.prog 46 ps = (fillA (fun i => [(0, 1), (1, 1), (2, 1), (3, 1), (4, 1), (5, 1)][i]?) (AV.cells (.agg [.int .i64 0, .bool false, .nilS, .int .i64 0, .int .i64 0, .nilS])) ps).map .agg := by kernel_rfl
theorem ag47 : isAggT Try.prog 47 = some true := by kernel_rfl
theorem sz47 : sizeT Try.prog 47 = some 6 := by kernel_rfl
theorem by47 : bytesT Try.prog 47 = some 80 := by kernel_rfl
theorem ze47 : zeroT Try.prog 47 = some (.agg [.int .i64 0, .bool false, .nilS, .int .i64 0, .int .i64 0, .nilS]) := by kernel_rfl
theorem fa47_0 (a : AV) : aFieldAddr Try.prog 47 0 a = fieldOff 0 a := by cases a <;> kernel_rfl
theorem fd47_0 (a : AV) : aField Try.prog 47 0 a = fieldVal Try.prog 3 0 a := by cases a <;> kernel_rfl
theorem fa47_1 (a : AV) : aFieldAddr Try.prog 47 1 a = fieldOff 1 a := by cases a <;> kernel_rfl
theorem fd47_1 (a : AV) : aField Try.prog 47 1 a = fieldVal Try.prog 4 1 a := by cases a <;> kernel_rfl
theorem fa47_2 (a : AV) : aFieldAddr Try.prog 47 2 a = fieldOff 2 a := by cases a <;> kernel_rfl
theorem fd47_2 (a : AV) : aField Try.prog 47 2 a = fieldVal Try.prog 44 2 a := by cases a <;> kernel_rfl
theorem fa47_3 (a : AV) : aFieldAddr Try.prog 47 3 a = fieldOff 3 a := by cases a <;> kernel_rfl
theorem fd47_3 (a : AV) : aField Try.prog 47 3 a = fieldVal Try.prog 3 3 a := by cases a <;> kernel_rfl
theorem fa47_4 (a : AV) : aFieldAddr Try.prog 47 4 a = fieldOff 4 a := by cases a <;> kernel_rfl
theorem fd47_4 (a : AV) : aField Try.prog 47 4 a = fieldVal Try.prog 3 4 a := by cases a <;> kernel_rfl
theorem fa47_5 (a : AV) : aFieldAddr Try.prog 47 5 a = fieldOff 5 a := by cases a <;> kernel_rfl
theorem fd47_5 (a : AV) : aField Try.prog 47 5 a = fieldVal Try.prog 45 5 a := by cases a <;> kernel_rfl
theorem bu47 (ps : List (Nat × AV)) : aBuild Try.prog 47 ps = (fillA (fun i => [(0, 1), (1, 1), (2, 1), (3, 1), (4, 1), (5, 1)][i]?) (AV.cells (.agg [.int .i64 0, .bool false, .nilS, .int .i64 0, .int .i64 0, .nilS])) ps).map .agg := by kernel_rfl
theorem ag48 : isAggT Try.prog 48 = some false := by kernel_rfl
theorem sz48 : sizeT Try.prog 48 = some 1 := by kernel_rfl
theorem by48 : bytesT Try.prog 48 = some 0 := by kernel_rfl
theorem ag49 : isAggT Try.prog 49 = some false := by kernel_rfl
theorem sz49 : sizeT Try.prog 49 = some 1 := by kernel_rfl
theorem by49 : bytesT Try.prog 49 = some 8 := by kernel_rfl
theorem ze49 : zeroT Try.prog 49 = some (.nilF) := by kernel_rfl
theorem ag50 : isAggT Try.prog 50 = some false := by kernel_rfl
theorem sz50 : sizeT Try.prog 50 = some 1 := by kernel_rfl
theorem by50 : bytesT Try.prog 50 = some 8 := by kernel_rfl
theorem ze50 : zeroT Try.prog 50 = some (.nilF) := by kernel_rfl
theorem ag51 : isAggT Try.prog 51 = some false := by kernel_rfl
theorem sz51 : sizeT Try.prog 51 = some 1 := by kernel_rfl
theorem by51 : bytesT Try.prog 51 = some 8 := by kernel_rfl
theorem ze51 : zeroT Try.prog 51 = some (.nilF) := by kernel_rfl
theorem ag52 : isAggT Try.prog 52 = some false := by kernel_rfl
theorem sz52 : sizeT Try.prog 52 = some 1 := by kernel_rfl
theorem by52 : bytesT Try.prog 52 = some 8 := by kernel_rfl
theorem ze52 : zeroT Try.prog 52 = some (.nilF) := by kernel_rfl
theorem ag53 : isAggT Try.prog 53 = some false := by kernel_rfl
theorem sz53 : sizeT Try.prog 53 = some 1 := by kernel_rfl
theorem by53 : bytesT Try.prog 53 = some 24 := by kernel_rfl
theorem se53 : sliceElem Try.prog 53 = some 116 := by kernel_rfl
theorem ze53 : zeroT Try.prog 53 = some (.nilS) := by kernel_rfl
theorem ag54 : isAggT Try.prog 54 = some false := by kernel_rfl
theorem sz54 : sizeT Try.prog 54 = some 1 := by kernel_rfl
theorem by54 : bytesT Try.prog 54 = some 0 := by kernel_rfl
theorem ag55 : isAggT Try.prog 55 = some false := by kernel_rfl
theorem sz55 : sizeT Try.prog 55 = some 1 := by kernel_rfl
theorem by55 : bytesT Try.prog 55 = some 8 := by kernel_rfl
theorem ze55 : zeroT Try.prog 55 = some (.nilF) := by kernel_rfl
theorem ag56 : isAggT Try.prog 56 = some false := by kernel_rfl
theorem sz56 : sizeT Try.prog 56 = some 1 := by kernel_rfl
theorem by56 : bytesT Try.prog 56 = some 8 := by kernel_rfl
theorem ze56 : zeroT Try.prog 56 = some (.nilF) := by kernel_rfl
theorem ag57 : isAggT Try.prog 57 = some false := by kernel_rfl
theorem sz57 : sizeT Try.prog 57 = some 1 := by kernel_rfl
theorem by57 : bytesT Try.prog 57 = some 8 := by kernel_rfl
theorem ze57 : zeroT Try.prog 57 = some (.nilF) := by kernel_rfl
theorem ag58 : isAggT Try.prog 58 = some false := by kernel_rfl
theorem sz58 : sizeT Try.prog 58 = some 1 := by kernel_rfl
theorem by58 : bytesT Try.prog 58 = some 8 := by kernel_rfl
theorem ze58 : zeroT Try.prog 58 = some (.nil) := by kernel_rfl
theorem ag59 : isAggT Try.prog 59 = some false := by kernel_rfl
theorem sz59 : sizeT Try.prog 59 = some 1 := by kernel_rfl
theorem by59 : bytesT Try.prog 59 = some 8 := by kernel_rfl
theorem ze59 : zeroT Try.prog 59 = some (.nilF) := by kernel_rfl
theorem ag60 : isAggT Try.prog 60 = some false := by kernel_rfl
theorem sz60 : sizeT Try.prog 60 = some 1 := by kernel_rfl
theorem by60 : bytesT Try.prog 60 = some 8 := by kernel_rfl
theorem ze60 : zeroT Try.prog 60 = some (.nilF) := by kernel_rfl
theorem ag61 : isAggT Try.prog 61 = some false := by kernel_rfl
theorem sz61 : sizeT Try.prog 61 = some 1 := by kernel_rfl
theorem by61 : bytesT Try.prog 61 = some 24 := by kernel_rfl
theorem se61 : sliceElem Try.prog 61 = some 125 := by kernel_rfl
theorem ze61 : zeroT Try.prog 61 = some (.nilS) := by kernel_rfl
theorem ag62 : isAggT Try.prog 62 = some false := by kernel_rfl
theorem sz62 : sizeT Try.prog 62 = some 1 := by kernel_rfl
theorem by62 : bytesT Try.prog 62 = some 8 := by kernel_rfl
theorem ze62 : zeroT Try.prog 62 = some (.nilF) := by kernel_rfl
theorem ag63 : isAggT Try.prog 63 = some false := by kernel_rfl
theorem sz63 : sizeT Try.prog 63 = some 1 := by kernel_rfl
theorem by63 : bytesT Try.prog 63 = some 8 := by kernel_rfl
theorem ze63 : zeroT Try.prog 63 = some (.nilF) := by kernel_rfl
theorem ag64 : isAggT Try.prog 64 = some true := by kernel_rfl
theorem sz64 : sizeT Try.prog 64 = some 3 := by kernel_rfl
theorem by64 : bytesT Try.prog 64 = some 56 := by kernel_rfl
theorem ze64 : zeroT Try.prog 64 = some (.agg [.nilS, .int .i64 0, .nilS]) := by kernel_rfl
theorem fa64_0 (a : AV) : aFieldAddr Try.prog 64 0 a = fieldOff 0 a := by cases a <;> kernel_rfl
theorem fd64_0 (a : AV) : aField Try.prog 64 0 a = fieldVal Try.prog 61 0 a := by cases a <;> kernel_rfl
theorem fa64_1 (a : AV) : aFieldAddr Try.prog 64 1 a = fieldOff 1 a := by cases a <;> kernel_rfl
theorem fd64_1 (a : AV) : aField Try.prog 64 1 a = fieldVal Try.prog 3 1 a := by cases a <;> kernel_rfl
theorem fa64_2 (a : AV) : aFieldAddr Try.prog 64 2 a = fieldOff 2 a := by cases a <;> kernel_rfl
theorem fd64_2 (a : AV) : aField Try.prog 64 2 a = fieldVal Try.prog 25 2 a := by cases a <;> kernel_rfl
theorem bu64 (ps : List (Nat × AV)) : aBuild Try.prog 64 ps = (fillA (fun i => [(0, 1), (1, 1), (2, 1)][i]?) (AV.cells (.agg [.nilS, .int .i64 0, .nilS])) ps).map .agg := by kernel_rfl
theorem ag65 : isAggT Try.prog 65 = some true := by kernel_rfl
theorem sz65 : sizeT Try.prog 65 = some 3 := by kernel_rfl
theorem by65 : bytesT Try.prog 65 = some 56 := by kernel_rfl
theorem ze65 : zeroT Try.prog 65 = some (.agg [.nilS, .int .i64 0, .nilS]) := by kernel_rfl
theorem fa65_0 (a : AV) : aFieldAddr Try.prog 65 0 a = fieldOff 0 a := by cases a <;> kernel_rfl
theorem fd65_0 (a : AV) : aField Try.prog 65 0 a = fieldVal Try.prog 61 0 a := by cases a <;> kernel_rfl
theorem fa65_1 (a : AV) : aFieldAddr Try.prog 65 1 a = fieldOff 1 a := by cases a <;> kernel_rfl
theorem fd65_1 (a : AV) : aField Try.prog 65 1 a = fieldVal Try.prog 3 1 a := by cases a <;> kernel_rfl
theorem fa65_2 (a : AV) : aFieldAddr Try.prog 65 2 a = fieldOff 2 a := by cases a <;> kernel_rfl
theorem fd65_2 (a : AV) : aField Try.prog 65 2 a = fieldVal Try.prog 25 2 a := by cases a <;> kernel_rfl
theorem bu65 (ps : List (Nat × AV)) : aBuild Try.prog 65 ps = (fillA (fun i => [(0, 1), (1, 1), (2, 1)][i]?) (AV.cells (.agg [.nilS, .int .i64 0, .nilS])) ps).map .agg := by kernel_rfl
theorem ag66 : isAggT Try.prog 66 = some false := by kernel_rfl
theorem sz66 : sizeT Try.prog 66 = some 1 := by kernel_rfl
theorem by66 : bytesT Try.prog 66 = some 8 := by kernel_rfl
theorem ze66 : zeroT Try.prog 66 = some (.nilF) := by kernel_rfl
theorem ag67 : isAggT Try.prog 67 = some false := by kernel_rfl
theorem sz67 : sizeT Try.prog 67 = some 1 := by kernel_rfl
theorem by67 : bytesT Try.prog 67 = some 0 := by kernel_rfl
theorem ag68 : isAggT Try.prog 68 = some false := by kernel_rfl
theorem sz68 : sizeT Try.prog 68 = some 1 := by kernel_rfl
theorem by68 : bytesT Try.prog 68 = some 8 := by kernel_rfl
theorem ze68 : zeroT Try.prog 68 = some (.nilF) := by kernel_rfl
theorem ag69 : isAggT Try.prog 69 = some false := by kernel_rfl
theorem sz69 : sizeT Try.prog 69 = some 1 := by kernel_rfl
theorem by69 : bytesT Try.prog 69 = some 8 := by kernel_rfl
theorem ze69 : zeroT Try.prog 69 = some (.nilF) := by kernel_rfl
theorem ag70 : isAggT Try.prog 70 = some false := by kernel_rfl
theorem sz70 : sizeT Try.prog 70 = some 1 := by kernel_rfl
theorem by70 : bytesT Try.prog 70 = some 8 := by kernel_rfl
theorem ze70 : zeroT Try.prog 70 = some (.nilF) := by kernel_rfl
theorem ag71 : isAggT Try.prog 71 = some false := by kernel_rfl
theorem sz71 : sizeT Try.prog 71 = some 1 := by kernel_rfl
theorem by71 : bytesT Try.prog 71 = some 8 := by kernel_rfl
theorem ze71 : zeroT Try.prog 71 = some (.nilF) := by kernel_rfl
theorem ag72 : isAggT Try.prog 72 = some false := by kernel_rfl
theorem sz72 : sizeT Try.prog 72 = some 1 := by kernel_rfl
theorem by72 : bytesT Try.prog 72 = some 8 := by kernel_rfl
theorem ze72 : zeroT Try.prog 72 = some (.nilF) := by kernel_rfl
theorem ag73 : isAggT Try.prog 73 = some false := by kernel_rfl
theorem sz73 : sizeT Try.prog 73 = some 1 := by kernel_rfl
theorem by73 : bytesT Try.prog 73 = some 8 := by kernel_rfl
theorem ze73 : zeroT Try.prog 73 = some (.nilF) := by kernel_rfl
theorem ag74 : isAggT Try.prog 74 = some false := by kernel_rfl
theorem sz74 : sizeT Try.prog 74 = some 1 := by kernel_rfl
theorem by74 : bytesT Try.prog 74 = some 8 := by kernel_rfl
theorem ze74 : zeroT Try.prog 74 = some (.nilF) := by kernel_rfl
theorem ag75 : isAggT Try.prog 75 = some false := by kernel_rfl
theorem sz75 : sizeT Try.prog 75 = some 1 := by kernel_rfl
theorem by75 : bytesT Try.prog 75 = some 8 := by kernel_rfl
theorem ze75 : zeroT Try.prog 75 = some (.nil) := by kernel_rfl
theorem ag76 : isAggT Try.prog 76 = some false := by kernel_rfl
theorem sz76 : sizeT Try.prog 76 = some 1 := by kernel_rfl
theorem by76 : bytesT Try.prog 76 = some 0 := by kernel_rfl
theorem ag77 : isAggT Try.prog 77 = some false := by kernel_rfl
theorem sz77 : sizeT Try.prog 77 = some 1 := by kernel_rfl
theorem by77 : bytesT Try.prog 77 = some 8 := by kernel_rfl
theorem ze77 : zeroT Try.prog 77 = some (.nilF) := by kernel_rfl
theorem ag78 : isAggT Try.prog 78 = some false := by kernel_rfl
theorem sz78 : sizeT Try.prog 78 = some 1 := by kernel_rfl
theorem by78 : bytesT Try.prog 78 = some 8 := by kernel_rfl
theorem ze78 : zeroT Try.prog 78 = some (.nilF) := by kernel_rfl
theorem ag79 : isAggT Try.prog 79 = some false := by kernel_rfl
theorem sz79 : sizeT Try.prog 79 = some 1 := by kernel_rfl
theorem by79 : bytesT Try.prog 79 = some 8 := by kernel_rfl
theorem ze79 : zeroT Try.prog 79 = some (.nilF) := by kernel_rfl
theorem ag80 : isAggT Try.prog 80 = some false := by kernel_rfl
theorem sz80 : sizeT Try.prog 80 = some 1 := by kernel_rfl
theorem by80 : bytesT Try.prog 80 = some 24 := by kernel_rfl
theorem se80 : sliceElem Try.prog 80 = some 21 := by kernel_rfl
theorem ze80 : zeroT Try.prog 80 = some (.nilS) := by kernel_rfl
theorem ag81 : isAggT Try.prog 81 = some false := by kernel_rfl
theorem sz81 : sizeT Try.prog 81 = some 1 := by kernel_rfl
theorem by81 : bytesT Try.prog 81 = some 0 := by kernel_rfl
theorem ag82 : isAggT Try.prog 82 = some false := by kernel_rfl
theorem sz82 : sizeT Try.prog 82 = some 1 := by kernel_rfl
theorem by82 : bytesT Try.prog 82 = some 8 := by kernel_rfl
theorem ze82 : zeroT Try.prog 82 = some (.nilF) := by kernel_rfl
theorem ag83 : isAggT Try.prog 83 = some false := by kernel_rfl
theorem sz83 : sizeT Try.prog 83 = some 1 := by kernel_rfl
theorem by83 : bytesT Try.prog 83 = some 8 := by kernel_rfl
theorem ze83 : zeroT Try.prog 83 = some (.nilF) := by kernel_rfl
theorem ag84 : isAggT Try.prog 84 = some false := by kernel_rfl
theorem sz84 : sizeT Try.prog 84 = some 1 := by kernel_rfl
theorem by84 : bytesT Try.prog 84 = some 24 := by kernel_rfl
theorem se84 : sliceElem Try.prog 84 = some 145 := by kernel_rfl
theorem ze84 : zeroT Try.prog 84 = some (.nilS) := by kernel_rfl
theorem ag85 : isAggT Try.prog 85 = some false := by kernel_rfl
theorem sz85 : sizeT Try.prog 85 = some 1 := by kernel_rfl
theorem by85 : bytesT Try.prog 85 = some 8 := by kernel_rfl
theorem ze85 : zeroT Try.prog 85 = some (.nilF) := by kernel_rfl
theorem ag86 : isAggT Try.prog 86 = some false := by kernel_rfl
theorem sz86 : sizeT Try.prog 86 = some 1 := by kernel_rfl
theorem by86 : bytesT Try.prog 86 = some 8 := by kernel_rfl
theorem ze86 : zeroT Try.prog 86 = some (.nilF) := by kernel_rfl
theorem ag87 : isAggT Try.prog 87 = some false := by kernel_rfl
theorem sz87 : sizeT Try.prog 87 = some 1 := by kernel_rfl
theorem by87 : bytesT Try.prog 87 = some 8 := by kernel_rfl
theorem ze87 : zeroT Try.prog 87 = some (.nilF) := by kernel_rfl
theorem ag88 : isAggT Try.prog 88 = some false := by kernel_rfl
theorem sz88 : sizeT Try.prog 88 = some 1 := by kernel_rfl
theorem by88 : bytesT Try.prog 88 = some 8 := by kernel_rfl
theorem ze88 : zeroT Try.prog 88 = some (.nilF) := by kernel_rfl
theorem ag89 : isAggT Try.prog 89 = some false := by kernel_rfl
theorem sz89 : sizeT Try.prog 89 = some 1 := by kernel_rfl
theorem by89 : bytesT Try.prog 89 = some 24 := by kernel_rfl
theorem se89 : sliceElem Try.prog 89 = some 93 := by kernel_rfl
theorem ze89 : zeroT Try.prog 89 = some (.nilS) := by kernel_rfl
theorem ag90 : isAggT Try.prog 90 = some false := by kernel_rfl
theorem sz90 : sizeT Try.prog 90 = some 1 := by kernel_rfl
theorem by90 : bytesT Try.prog 90 = some 24 := by kernel_rfl
theorem se90 : sliceElem Try.prog 90 = some 3 := by kernel_rfl
theorem ze90 : zeroT Try.prog 90 = some (.nilS) := by kernel_rfl
theorem ag91 : isAggT Try.prog 91 = some false := by kernel_rfl
theorem sz91 : sizeT Try.prog 91 = some 1 := by kernel_rfl
theorem by91 : bytesT Try.prog 91 = some 0 := by kernel_rfl
theorem ag92 : isAggT Try.prog 92 = some false := by kernel_rfl
theorem sz92 : sizeT Try.prog 92 = some 1 := by kernel_rfl
theorem by92 : bytesT Try.prog 92 = some 8 := by kernel_rfl
theorem ze92 : zeroT Try.prog 92 = some (.nilF) := by kernel_rfl
theorem ag93 : isAggT Try.prog 93 = some false := by kernel_rfl
theorem sz93 : sizeT Try.prog 93 = some 1 := by kernel_rfl
theorem by93 : bytesT Try.prog 93 = some 24 := by kernel_rfl
theorem se93 : sliceElem Try.prog 93 = some 4 := by kernel_rfl
theorem ze93 : zeroT Try.prog 93 = some (.nilS) := by kernel_rfl
theorem ag94 : isAggT Try.prog 94 = some false := by kernel_rfl
theorem sz94 : sizeT Try.prog 94 = some 1 := by kernel_rfl
theorem by94 : bytesT Try.prog 94 = some 8 := by kernel_rfl
theorem ze94 : zeroT Try.prog 94 = some (.nilF) := by kernel_rfl
theorem ag95 : isAggT Try.prog 95 = some false := by kernel_rfl
theorem sz95 : sizeT Try.prog 95 = some 1 := by kernel_rfl
theorem by95 : bytesT Try.prog 95 = some 0 := by kernel_rfl
theorem ag96 : isAggT Try.prog 96 = some false := by kernel_rfl
theorem sz96 : sizeT Try.prog 96 = some 1 := by kernel_rfl
theorem by96 : bytesT Try.prog 96 = some 8 := by kernel_rfl
theorem ze96 : zeroT Try.prog 96 = some (.nilF) := by kernel_rfl
theorem ag97 : isAggT Try.prog 97 = some false := by kernel_rfl
theorem sz97 : sizeT Try.prog 97 = some 1 := by kernel_rfl
theorem by97 : bytesT Try.prog 97 = some 8 := by kernel_rfl
theorem ze97 : zeroT Try.prog 97 = some (.nilF) := by kernel_rfl
theorem ag98 : isAggT Try.prog 98 = some false := by kernel_rfl
theorem sz98 : sizeT Try.prog 98 = some 1 := by kernel_rfl
theorem by98 : bytesT Try.prog 98 = some 8 := by kernel_rfl
theorem ze98 : zeroT Try.prog 98 = some (.nilM) := by kernel_rfl
theorem ag99 : isAggT Try.prog 99 = some true := by kernel_rfl
theorem sz99 : sizeT Try.prog 99 = some 5 := by kernel_rfl
theorem by99 : bytesT Try.prog 99 = some 56 := by kernel_rfl
theorem ze99 : zeroT Try.prog 99 = some (.agg [.nilS, .int .i64 0, .int .i64 0, .int .i64 0, .nilM]) := by kernel_rfl
theorem fa99_0 (a : AV) : aFieldAddr Try.prog 99 0 a = fieldOff 0 a := by cases a <;> kernel_rfl
theorem fd99_0 (a : AV) : aField Try.prog 99 0 a = fieldVal Try.prog 26 0 a := by cases a <;> kernel_rfl
theorem fa99_1 (a : AV) : aFieldAddr Try.prog 99 1 a = fieldOff 1 a := by cases a <;> kernel_rfl
theorem fd99_1 (a : AV) : aField Try.prog 99 1 a = fieldVal Try.prog 3 1 a := by cases a <;> kernel_rfl
theorem fa99_2 (a : AV) : aFieldAddr Try.prog 99 2 a = fieldOff 2 a := by cases a <;> kernel_rfl
theorem fd99_2 (a : AV) : aField Try.prog 99 2 a = fieldVal Try.prog 2 2 a := by cases a <;> kernel_rfl
theorem fa99_3 (a : AV) : aFieldAddr Try.prog 99 3 a = fieldOff 3 a := by cases a <;> kernel_rfl
theorem fd99_3 (a : AV) : aField Try.prog 99 3 a = fieldVal Try.prog 2 3 a := by cases a <;> kernel_rfl
theorem fa99_4 (a : AV) : aFieldAddr Try.prog 99 4 a = fieldOff 4 a := by cases a <;> kernel_rfl
theorem fd99_4 (a : AV) : aField Try.prog 99 4 a = fieldVal Try.prog 98 4 a := by cases a <;> kernel_rfl
theorem bu99 (ps : List (Nat × AV)) : aBuild Try.prog 99 ps = (fillA (fun i => [(0, 1), (1, 1), (2, 1), (3, 1), (4, 1)][i]?) (AV.cells (.agg [.nilS, .int .i64 0, .int .i64 0, .int .i64 0, .nilM])) ps).map .agg := by kernel_rfl
theorem ag100 : isAggT Try.prog 100 = some true := by kernel_rfl
theorem sz100 : sizeT Try.prog 100 = some 5 := by kernel_rfl
theorem by100 : bytesT Try.prog 100 = some 56 := by kernel_rfl
theorem ze100 : zeroT Try.prog 100 = some (.agg [.nilS, .int .i64 0, .int .i64 0, .int .i64 0, .nilM]) := by kernel_rfl
theorem fa100_0 (a : AV) : aFieldAddr Try.prog 100 0 a = fieldOff 0 a := by cases a <;> kernel_rfl
theorem fd100_0 (a : AV) : aField Try.prog 100 0 a = fieldVal Try.prog 26 0 a := by cases a <;> kernel_rfl
theorem fa100_1 (a : AV) : aFieldAddr Try.prog 100 1 a = fieldOff 1 a := by cases a <;> kernel_rfl
theorem fd100_1 (a : AV) : aField Try.prog 100 1 a = fieldVal Try.prog 3 1 a := by cases a <;> kernel_rfl
theorem fa100_2 (a : AV) : aFieldAddr Try.prog 100 2 a = fieldOff 2 a := by cases a <;> kernel_rfl
theorem fd100_2 (a : AV) : aField Try.prog 100 2 a = fieldVal Try.prog 2 2 a := by cases a <;> kernel_rfl
theorem fa100_3 (a : AV) : aFieldAddr Try.prog 100 3 a = fieldOff 3 a := by cases a <;> kernel_rfl
theorem fd100_3 (a : AV) : aField Try.prog 100 3 a = fieldVal Try.prog 2 3 a := by cases a <;> kernel_rfl
theorem fa100_4 (a : AV) : aFieldAddr Try.prog 100 4 a = fieldOff 4 a := by cases a <;> kernel_rfl
theorem fd100_4 (a : AV) : aField Try.prog 100 4 a = fieldVal Try.prog 98 4 a := by cases a <;> kernel_rfl
theorem bu100 (ps : List (Nat × AV)) : aBuild Try.prog 100 ps = (fillA (fun i => [(0, 1), (1, 1), (2, 1), (3, 1), (4, 1)][i]?) (AV.cells (.agg [.nilS, .int .i64 0, .int .i64 0, .int .i64 0, .nilM])) ps).map .agg := by kernel_rfl
theorem ag101 : isAggT Try.prog 101 = some false := by kernel_rfl
theorem sz101 : sizeT Try.prog 101 = some 1 := by kernel_rfl
theorem by101 : bytesT Try.prog 101 = some 8 := by kernel_rfl
theorem ze101 : zeroT Try.prog 101 = some (.nilF) := by kernel_rfl
theorem ag102 : isAggT Try.prog 102 = some false := by kernel_rfl
theorem sz102 : sizeT Try.prog 102 = some 1 := by kernel_rfl
theorem by102 : bytesT Try.prog 102 = some 8 := by kernel_rfl
theorem ze102 : zeroT Try.prog 102 = some (.nilF) := by kernel_rfl
theorem ag103 : isAggT Try.prog 103 = some false := by kernel_rfl
theorem sz103 : sizeT Try.prog 103 = some 1 := by kernel_rfl
theorem by103 : bytesT Try.prog 103 = some 8 := by kernel_rfl
theorem ze103 : zeroT Try.prog 103 = some (.nil) := by kernel_rfl
theorem ag104 : isAggT Try.prog 104 = some false := by kernel_rfl
theorem sz104 : sizeT Try.prog 104 = some 1 := by kernel_rfl
theorem by104 : bytesT Try.prog 104 = some 8 := by kernel_rfl
theorem ze104 : zeroT Try.prog 104 = some (.nilF) := by kernel_rfl
theorem ag105 : isAggT Try.prog 105 = some true := by kernel_rfl
theorem sz105 : sizeT Try.prog 105 = some 2 := by kernel_rfl
theorem by105 : bytesT Try.prog 105 = some 32 := by kernel_rfl
theorem ze105 : zeroT Try.prog 105 = some (.agg [.nilS, .int .i64 0]) := by kernel_rfl
theorem fa105_0 (a : AV) : aFieldAddr Try.prog 105 0 a = fieldOff 0 a := by cases a <;> kernel_rfl
theorem fd105_0 (a : AV) : aField Try.prog 105 0 a = fieldVal Try.prog 80 0 a := by cases a <;> kernel_rfl
theorem fa105_1 (a : AV) : aFieldAddr Try.prog 105 1 a = fieldOff 1 a := by cases a <;> kernel_rfl
theorem fd105_1 (a : AV) : aField Try.prog 105 1 a = fieldVal Try.prog 3 1 a := by cases a <;> kernel_rfl
theorem bu105 (ps : List (Nat × AV)) : aBuild Try.prog 105 ps = (fillA (fun i => [(0, 1), (1, 1)][i]?) (AV.cells (.agg [.nilS, .int .i64 0])) ps).map .agg := by kernel_rfl
theorem ag106 : isAggT Try.prog 106 = some true := by kernel_rfl
theorem sz106 : sizeT Try.prog 106 = some 2 := by kernel_rfl
theorem by106 : bytesT Try.prog 106 = some 32 := by kernel_rfl
theorem ze106 : zeroT Try.prog 106 = some (.agg [.nilS, .int .i64 0]) := by kernel_rfl
theorem fa106_0 (a : AV) : aFieldAddr Try.prog 106 0 a = fieldOff 0 a := by cases a <;> kernel_rfl
theorem fd106_0 (a : AV) : aField Try.prog 106 0 a = fieldVal Try.prog 80 0 a := by cases a <;> kernel_rfl
theorem fa106_1 (a : AV) : aFieldAddr Try.prog 106 1 a = fieldOff 1 a := by cases a <;> kernel_rfl
theorem fd106_1 (a : AV) : aField Try.prog 106 1 a = fieldVal Try.prog 3 1 a := by cases a <;> kernel_rfl
theorem bu106 (ps : List (Nat × AV)) : aBuild Try.prog 106 ps = (fillA (fun i => [(0, 1), (1, 1)][i]?) (AV.cells (.agg [.nilS, .int .i64 0])) ps).map .agg := by kernel_rfl
theorem ag107 : isAggT Try.prog 107 = some false := by kernel_rfl
theorem sz107 : sizeT Try.prog 107 = some 1 := by kernel_rfl
theorem by107 : bytesT Try.prog 107 = some 0 := by kernel_rfl
theorem ag108 : isAggT Try.prog 108 = some false := by kernel_rfl
theorem sz108 : sizeT Try.prog 108 = some 1 := by kernel_rfl
theorem by108 : bytesT Try.prog 108 = some 8 := by kernel_rfl
theorem ze108 : zeroT Try.prog 108 = some (.nilF) := by kernel_rfl
theorem ag109 : isAggT Try.prog 109 = some false := by kernel_rfl
theorem sz109 : sizeT Try.prog 109 = some 1 := by kernel_rfl
theorem by109 : bytesT Try.prog 109 = some 8 := by kernel_rfl
theorem ze109 : zeroT Try.prog 109 = some (.nil) := by kernel_rfl
theorem ag110 : isAggT Try.prog 110 = some true := by kernel_rfl
theorem sz110 : sizeT Try.prog 110 = some 3 := by kernel_rfl
theorem by110 : bytesT Try.prog 110 = some 40 := by kernel_rfl
theorem ze110 : zeroT Try.prog 110 = some (.agg [.nilS, .int .i64 0, .bool false]) := by kernel_rfl
theorem fa110_0 (a : AV) : aFieldAddr Try.prog 110 0 a = fieldOff 0 a := by cases a <;> kernel_rfl
theorem fd110_0 (a : AV) : aField Try.prog 110 0 a = fieldVal Try.prog 80 0 a := by cases a <;> kernel_rfl
theorem fa110_1 (a : AV) : aFieldAddr Try.prog 110 1 a = fieldOff 1 a := by cases a <;> kernel_rfl
theorem fd110_1 (a : AV) : aField Try.prog 110 1 a = fieldVal Try.prog 3 1 a := by cases a <;> kernel_rfl
theorem fa110_2 (a : AV) : aFieldAddr Try.prog 110 2 a = fieldOff 2 a := by cases a <;> kernel_rfl
theorem fd110_2 (a : AV) : aField Try.prog 110 2 a = fieldVal Try.prog 4 2 a := by cases a <;> kernel_rfl
theorem bu110 (ps : List (Nat × AV)) : aBuild Try.prog 110 ps = (fillA (fun i => [(0, 1), (1, 1), (2, 1)][i]?) (AV.cells (.agg [.nilS, .int .i64 0, .bool false])) ps).map .agg := by kernel_rfl
theorem ag111 : isAggT Try.prog 111 = some true := by kernel_rfl
theorem sz111 : sizeT Try.prog 111 = some 3 := by kernel_rfl
theorem by111 : bytesT Try.prog 111 = some 40 := by kernel_rfl
theorem ze111 : zeroT Try.prog 111 = some (.agg [.nilS, .int .i64 0, .bool false]) := by kernel_rfl
theorem fa111_0 (a : AV) : aFieldAddr Try.prog 111 0 a = fieldOff 0 a := by cases a <;> kernel_rfl
theorem fd111_0 (a : AV) : aField Try.prog 111 0 a = fieldVal Try.prog 80 0 a := by cases a <;> kernel_rfl
theorem fa111_1 (a : AV) : aFieldAddr Try.prog 111 1 a = fieldOff 1 a := by cases a <;> kernel_rfl
theorem fd111_1 (a : AV) : aField Try.prog 111 1 a = fieldVal Try.prog 3 1 a := by cases a <;> kernel_rfl
theorem fa111_2 (a : AV) : aFieldAddr Try.prog 111 2 a = fieldOff 2 a := by cases a <;> kernel_rfl
theorem fd111_2 (a : AV) : aField Try.prog 111 2 a = fieldVal Try.prog 4 2 a := by cases a <;> kernel_rfl
theorem bu111 (ps : List (Nat × AV)) : aBuild Try.prog 111 ps = (fillA (fun i => [(0, 1), (1, 1), (2, 1)][i]?) (AV.cells (.agg [.nilS, .int .i64 0, .bool false])) ps).map .agg := by kernel_rfl
theorem ag112 : isAggT Try.prog 112 = some false := by kernel_rfl
theorem sz112 : sizeT Try.prog 112 = some 1 := by kernel_rfl
theorem by112 : bytesT Try.prog 112 = some 8 := by kernel_rfl
theorem ze112 : zeroT Try.prog 112 = some (.nilF) := by kernel_rfl
theorem ag113 : isAggT Try.prog 113 = some false := by kernel_rfl
theorem sz113 : sizeT Try.prog 113 = some 1 := by kernel_rfl
theorem by113 : bytesT Try.prog 113 = some 8 := by kernel_rfl
theorem ze113 : zeroT Try.prog 113 = some (.nilF) := by kernel_rfl
theorem ag114 : isAggT Try.prog 114 = some false := by kernel_rfl
theorem sz114 : sizeT Try.prog 114 = some 1 := by kernel_rfl
theorem by114 : bytesT Try.prog 114 = some 8 := by kernel_rfl
theorem ze114 : zeroT Try.prog 114 = some (.nilF) := by kernel_rfl
theorem ag115 : isAggT Try.prog 115 = some true := by kernel_rfl
theorem sz115 : sizeT Try.prog 115 = some 5 := by kernel_rfl
theorem by115 : bytesT Try.prog 115 = some 56 := by kernel_rfl
theorem ze115 : zeroT Try.prog 115 = some (.agg [.int .i64 0, .bool false, .nilS, .int .i64 0, .int .i64 0]) := by kernel_rfl
theorem fa115_0 (a : AV) : aFieldAddr Try.prog 115 0 a = fieldOff 0 a := by cases a <;> kernel_rfl
theorem fd115_0 (a : AV) : aField Try.prog 115 0 a = fieldVal Try.prog 3 0 a := by cases a <;> kernel_rfl
theorem fa115_1 (a : AV) : aFieldAddr Try.prog 115 1 a = fieldOff 1 a := by cases a <;> kernel_rfl
theorem fd115_1 (a : AV) : aField Try.prog 115 1 a = fieldVal Try.prog 4 1 a := by cases a <;> kernel_rfl
theorem fa115_2 (a : AV) : aFieldAddr Try.prog 115 2 a = fieldOff 2 a := by cases a <;> kernel_rfl
theorem fd115_2 (a : AV) : aField Try.prog 115 2 a = fieldVal Try.prog 38 2 a := by cases a <;> kernel_rfl
theorem fa115_3 (a : AV) : aFieldAddr Try.prog 115 3 a = fieldOff 3 a := by cases a <;> kernel_rfl
theorem fd115_3 (a : AV) : aField Try.prog 115 3 a = fieldVal Try.prog 3 3 a := by cases a <;> kernel_rfl
theorem fa115_4 (a : AV) : aFieldAddr Try.prog 115 4 a = fieldOff 4 a := by cases a <;> kernel_rfl
theorem fd115_4 (a : AV) : aField Try.prog 115 4 a = fieldVal Try.prog 3 4 a := by cases a <;> kernel_rfl
theorem bu115 (ps : List (Nat × AV)) : aBuild Try.prog 115 ps = (fillA (fun i => [(0, 1), (1, 1), (2, 1), (3, 1), (4, 1)][i]?) (AV.cells (.agg [.int .i64 0, .bool false, .nilS, .int .i64 0, .int .i64 0])) ps).map .agg := by kernel_rfl
theorem ag116 : isAggT Try.prog 116 = some true := by kernel_rfl
theorem sz116 : sizeT Try.prog 116 = some 5 := by kernel_rfl
theorem by116 : bytesT Try.prog 116 = some 56 := by kernel_rfl
theorem ze116 : zeroT Try.prog 116 = some (.agg [.int .i64 0, .bool false, .nilS, .int .i64 0, .int .i64 0]) := by kernel_rfl
theorem fa116_0 (a : AV) : aFieldAddr Try.prog 116 0 a = fieldOff 0 a := by cases a <;> kernel_rfl
theorem fd116_0 (a : AV) : aField Try.prog 116 0 a = fieldVal Try.prog 3 0 a := by cases a <;> kernel_rfl
theorem fa116_1 (a : AV) : aFieldAddr Try.prog 116 1 a = fieldOff 1 a := by cases a <;> kernel_rfl
theorem fd116_1 (a : AV) : aField Try.prog 116 1 a = fieldVal Try.prog 4 1 a := by cases a <;> kernel_rfl
theorem fa116_2 (a : AV) : aFieldAddr Try.prog 116 2 a = fieldOff 2 a := by cases a <;> kernel_rfl
theorem fd116_2 (a : AV) : aField Try.prog 116 2 a = fieldVal Try.prog 38 2 a := by cases a <;> kernel_rfl
theorem fa116_3 (a : AV) : aFieldAddr Try.prog 116 3 a = fieldOff 3 a := by cases a <;> kernel_rfl
theorem fd116_3 (a : AV) : aField Try.prog 116 3 a = fieldVal Try.prog 3 3 a := by cases a <;> kernel_rfl
theorem fa116_4 (a : AV) : aFieldAddr Try.prog 116 4 a = fieldOff 4 a := by cases a <;> kernel_rfl
theorem fd116_4 (a : AV) : aField Try.prog 116 4 a = fieldVal Try.prog 3 4 a := by cases a <;> kernel_rfl
theorem bu116 (ps : List (Nat × AV)) : aBuild Try.prog 116 ps = (fillA (fun i => [(0, 1), (1, 1), (2, 1), (3, 1), (4, 1)][i]?) (AV.cells (.agg [.int .i64 0, .bool false, .nilS, .int .i64 0, .int .i64 0])) ps).map .agg := by kernel_rfl
theorem ag117 : isAggT Try.prog 117 = some false := by kernel_rfl
theorem sz117 : sizeT Try.prog 117 = some 1 := by kernel_rfl
theorem by117 : bytesT Try.prog 117 = some 8 := by kernel_rfl
theorem ze117 : zeroT Try.prog 117 = some (.nilF) := by kernel_rfl
theorem ag118 : isAggT Try.prog 118 = some false := by kernel_rfl
theorem sz118 : sizeT Try.prog 118 = some 1 := by kernel_rfl
theorem by118 : bytesT Try.prog 118 = some 8 := by kernel_rfl
theorem ze118 : zeroT Try.prog 118 = some (.nil) := by kernel_rfl
theorem ag119 : isAggT Try.prog 119 = some true := by kernel_rfl
theorem sz119 : sizeT Try.prog 119 = some 1 := by kernel_rfl
theorem by119 : bytesT Try.prog 119 = some 24 := by kernel_rfl
theorem ze119 : zeroT Try.prog 119 = some (.agg [.nilS]) := by kernel_rfl
theorem fa119_0 (a : AV) : aFieldAddr Try.prog 119 0 a = fieldOff 0 a := by cases a <;> kernel_rfl
theorem fd119_0 (a : AV) : aField Try.prog 119 0 a = fieldVal Try.prog 53 0 a := by cases a <;> kernel_rfl
theorem bu119 (ps : List (Nat × AV)) : aBuild Try.prog 119 ps = (fillA (fun i => [(0, 1)][i]?) (AV.cells (.agg [.nilS])) ps).map .agg := by kernel_rfl
theorem ag120 : isAggT Try.prog 120 = some true := by kernel_rfl
theorem sz120 : sizeT Try.prog 120 = some 1 := by kernel_rfl
theorem by120 : bytesT Try.prog 120 = some 24 := by kernel_rfl
theorem ze120 : zeroT Try.prog 120 = some (.agg [.nilS]) := by kernel_rfl
theorem fa120_0 (a : AV) : aFieldAddr Try.prog 120 0 a = fieldOff 0 a := by cases a <;> kernel_rfl
theorem fd120_0 (a : AV) : aField Try.prog 120 0 a = fieldVal Try.prog 53 0 a := by cases a <;> kernel_rfl
theorem bu120 (ps : List (Nat × AV)) : aBuild Try.prog 120 ps = (fillA (fun i => [(0, 1)][i]?) (AV.cells (.agg [.nilS])) ps).map .agg := by kernel_rfl
theorem ag121 : isAggT Try.prog 121 = some false := by kernel_rfl
theorem sz121 : sizeT Try.prog 121 = some 1 := by kernel_rfl
theorem by121 : bytesT Try.prog 121 = some 8 := by kernel_rfl
theorem ze121 : zeroT Try.prog 121 = some (.nilF) := by kernel_rfl
theorem ag122 : isAggT Try.prog 122 = some false := by kernel_rfl
theorem sz122 : sizeT Try.prog 122 = some 1 := by kernel_rfl
theorem by122 : bytesT Try.prog 122 = some 8 := by kernel_rfl
theorem ze122 : zeroT Try.prog 122 = some (.nilF) := by kernel_rfl
theorem ag123 : isAggT Try.prog 123 = some false := by kernel_rfl
theorem sz123 : sizeT Try.prog 123 = some 1 := by kernel_rfl
theorem by123 : bytesT Try.prog 123 = some 8 := by kernel_rfl
theorem ze123 : zeroT Try.prog 123 = some (.nilF) := by kernel_rfl
theorem ag124 : isAggT Try.prog 124 = some false := by kernel_rfl
theorem sz124 : sizeT Try.prog 124 = some 1 := by kernel_rfl
theorem by124 : bytesT Try.prog 124 = some 8 := by kernel_rfl
theorem ze124 : zeroT Try.prog 124 = some (.nilF) := by kernel_rfl
theorem ag125 : isAggT Try.prog 125 = some true := by kernel_rfl
theorem sz125 : sizeT Try.prog 125 = some 4 := by kernel_rfl
theorem by125 : bytesT Try.prog 125 = some 40 := by kernel_rfl
theorem ze125 : zeroT Try.prog 125 = some (.agg [.int .i64 0, .int .i64 0, .str [], .bool false]) := by kernel_rfl
theorem fa125_0 (a : AV) : aFieldAddr Try.prog 125 0 a = fieldOff 0 a := by cases a <;> kernel_rfl
theorem fd125_0 (a : AV) : aField Try.prog 125 0 a = fieldVal Try.prog 2 0 a := by cases a <;> kernel_rfl
theorem fa125_1 (a : AV) : aFieldAddr Try.prog 125 1 a = fieldOff 1 a := by cases a <;> kernel_rfl
theorem fd125_1 (a : AV) : aField Try.prog 125 1 a = fieldVal Try.prog 2 1 a := by cases a <;> kernel_rfl
theorem fa125_2 (a : AV) : aFieldAddr Try.prog 125 2 a = fieldOff 2 a := by cases a <;> kernel_rfl
theorem fd125_2 (a : AV) : aField Try.prog 125 2 a = fieldVal Try.prog 9 2 a := by cases a <;> kernel_rfl
theorem fa125_3 (a : AV) : aFieldAddr Try.prog 125 3 a = fieldOff 3 a := by cases a <;> kernel_rfl
theorem fd125_3 (a : AV) : aField Try.prog 125 3 a = fieldVal Try.prog 4 3 a := by cases a <;> kernel_rfl
theorem bu125 (ps : List (Nat × AV)) : aBuild Try.prog 125 ps = (fillA (fun i => [(0, 1), (1, 1), (2, 1), (3, 1)][i]?) (AV.cells (.agg [.int .i64 0, .int .i64 0, .str [], .bool false])) ps).map .agg := by kernel_rfl
theorem ag126 : isAggT Try.prog 126 = some false := by kernel_rfl
theorem sz126 : sizeT Try.prog 126 = some 1 := by kernel_rfl
theorem by126 : bytesT Try.prog 126 = some 8 := by kernel_rfl
theorem ze126 : zeroT Try.prog 126 = some (.nilF) := by kernel_rfl
theorem ag127 : isAggT Try.prog 127 = some false := by kernel_rfl
theorem sz127 : sizeT Try.prog 127 = some 1 := by kernel_rfl
theorem by127 : bytesT Try.prog 127 = some 8 := by kernel_rfl
theorem ze127 : zeroT Try.prog 127 = some (.nilF) := by kernel_rfl
theorem ag128 : isAggT Try.prog 128 = some true := by kernel_rfl
theorem sz128 : sizeT Try.prog 128 = some 2 := by kernel_rfl
theorem by128 : bytesT Try.prog 128 = some 8 := by kernel_rfl
theorem ze128 : zeroT Try.prog 128 = some (.agg [.int .i32 0, .int .i32 0]) := by kernel_rfl
theorem fa128_0 (a : AV) : aFieldAddr Try.prog 128 0 a = fieldOff 0 a := by cases a <;> kernel_rfl
theorem fd128_0 (a : AV) : aField Try.prog 128 0 a = fieldVal Try.prog 21 0 a := by cases a <;> kernel_rfl
theorem fa128_1 (a : AV) : aFieldAddr Try.prog 128 1 a = fieldOff 1 a := by cases a <;> kernel_rfl
theorem fd128_1 (a : AV) : aField Try.prog 128 1 a = fieldVal Try.prog 21 1 a := by cases a <;> kernel_rfl
theorem bu128 (ps : List (Nat × AV)) : aBuild Try.prog 128 ps = (fillA (fun i => [(0, 1), (1, 1)][i]?) (AV.cells (.agg [.int .i32 0, .int .i32 0])) ps).map .agg := by kernel_rfl
theorem ag129 : isAggT Try.prog 129 = some true := by kernel_rfl
theorem sz129 : sizeT Try.prog 129 = some 2 := by kernel_rfl
theorem by129 : bytesT Try.prog 129 = some 8 := by kernel_rfl
theorem ze129 : zeroT Try.prog 129 = some (.agg [.int .i32 0, .int .i32 0]) := by kernel_rfl
theorem fa129_0 (a : AV) : aFieldAddr Try.prog 129 0 a = fieldOff 0 a := by cases a <;> kernel_rfl
theorem fd129_0 (a : AV) : aField Try.prog 129 0 a = fieldVal Try.prog 21 0 a := by cases a <;> kernel_rfl
theorem fa129_1 (a : AV) : aFieldAddr Try.prog 129 1 a = fieldOff 1 a := by cases a <;> kernel_rfl
theorem fd129_1 (a : AV) : aField Try.prog 129 1 a = fieldVal Try.prog 21 1 a := by cases a <;> kernel_rfl
theorem bu129 (ps : List (Nat × AV)) : aBuild Try.prog 129 ps = (fillA (fun i => [(0, 1), (1, 1)][i]?) (AV.cells (.agg [.int .i32 0, .int .i32 0])) ps).map .agg := by kernel_rfl
theorem ag130 : isAggT Try.prog 130 = some false := by kernel_rfl
theorem sz130 : sizeT Try.prog 130 = some 1 := by kernel_rfl
theorem by130 : bytesT Try.prog 130 = some 8 := by kernel_rfl
theorem ze130 : zeroT Try.prog 130 = some (.nilF) := by kernel_rfl
theorem ag131 : isAggT Try.prog 131 = some true := by kernel_rfl
theorem sz131 : sizeT Try.prog 131 = some 2 := by kernel_rfl
theorem by131 : bytesT Try.prog 131 = some 8 := by kernel_rfl
theorem ze131 : zeroT Try.prog 131 = some (.agg [.int .i32 0, .int .i32 0]) := by kernel_rfl
theorem fa131_0 (a : AV) : aFieldAddr Try.prog 131 0 a = fieldOff 0 a := by cases a <;> kernel_rfl
theorem fd131_0 (a : AV) : aField Try.prog 131 0 a = fieldVal Try.prog 21 0 a := by cases a <;> kernel_rfl
theorem fa131_1 (a : AV) : aFieldAddr Try.prog 131 1 a = fieldOff 1 a := by cases a <;> kernel_rfl
theorem fd131_1 (a : AV) : aField Try.prog 131 1 a = fieldVal Try.prog 21 1 a := by cases a <;> kernel_rfl
theorem bu131 (ps : List (Nat × AV)) : aBuild Try.prog 131 ps = (fillA (fun i => [(0, 1), (1, 1)][i]?) (AV.cells (.agg [.int .i32 0, .int .i32 0])) ps).map .agg := by kernel_rfl
theorem ag132 : isAggT Try.prog 132 = some false := by kernel_rfl
theorem sz132 : sizeT Try.prog 132 = some 1 := by kernel_rfl
theorem by132 : bytesT Try.prog 132 = some 8 := by kernel_rfl
theorem ze132 : zeroT Try.prog 132 = some (.nilF) := by kernel_rfl
theorem ag133 : isAggT Try.prog 133 = some false := by kernel_rfl
theorem sz133 : sizeT Try.prog 133 = some 1 := by kernel_rfl
theorem by133 : bytesT Try.prog 133 = some 8 := by kernel_rfl
theorem ze133 : zeroT Try.prog 133 = some (.nil) := by kernel_rfl
theorem ag134 : isAggT Try.prog 134 = some false := by kernel_rfl
theorem sz134 : sizeT Try.prog 134 = some 1 := by kernel_rfl
theorem by134 : bytesT Try.prog 134 = some 8 := by kernel_rfl
theorem ze134 : zeroT Try.prog 134 = some (.nilF) := by kernel_rfl
theorem ag135 : isAggT Try.prog 135 = some false := by kernel_rfl
theorem sz135 : sizeT Try.prog 135 = some 1 := by kernel_rfl
theorem by135 : bytesT Try.prog 135 = some 8 := by kernel_rfl
theorem ze135 : zeroT Try.prog 135 = some (.nilF) := by kernel_rfl
theorem ag136 : isAggT Try.prog 136 = some false := by kernel_rfl
theorem sz136 : sizeT Try.prog 136 = some 1 := by kernel_rfl
theorem by136 : bytesT Try.prog 136 = some 8 := by kernel_rfl
theorem ze136 : zeroT Try.prog 136 = some (.nilM) := by kernel_rfl
theorem ag137 : isAggT Try.prog 137 = some true := by kernel_rfl
theorem sz137 : sizeT Try.prog 137 = some 2 := by kernel_rfl
theorem by137 : bytesT Try.prog 137 = some 32 := by kernel_rfl
theorem ze137 : zeroT Try.prog 137 = some (.agg [.nilM, .nilS]) := by kernel_rfl
theorem fa137_0 (a : AV) : aFieldAddr Try.prog 137 0 a = fieldOff 0 a := by cases a <;> kernel_rfl
theorem fd137_0 (a : AV) : aField Try.prog 137 0 a = fieldVal Try.prog 136 0 a := by cases a <;> kernel_rfl
theorem fa137_1 (a : AV) : aFieldAddr Try.prog 137 1 a = fieldOff 1 a := by cases a <;> kernel_rfl
theorem fd137_1 (a : AV) : aField Try.prog 137 1 a = fieldVal Try.prog 90 1 a := by cases a <;> kernel_rfl
theorem bu137 (ps : List (Nat × AV)) : aBuild Try.prog 137 ps = (fillA (fun i => [(0, 1), (1, 1)][i]?) (AV.cells (.agg [.nilM, .nilS])) ps).map .agg := by kernel_rfl
theorem ag138 : isAggT Try.prog 138 = some true := by kernel_rfl
theorem sz138 : sizeT Try.prog 138 = some 2 := by kernel_rfl
theorem by138 : bytesT Try.prog 138 = some 32 := by kernel_rfl
theorem ze138 : zeroT Try.prog 138 = some (.agg [.nilM, .nilS]) := by kernel_rfl
theorem fa138_0 (a : AV) : aFieldAddr Try.prog 138 0 a = fieldOff 0 a := by cases a <;> kernel_rfl
theorem fd138_0 (a : AV) : aField Try.prog 138 0 a = fieldVal Try.prog 136 0 a := by cases a <;> kernel_rfl
theorem fa138_1 (a : AV) : aFieldAddr Try.prog 138 1 a = fieldOff 1 a := by cases a <;> kernel_rfl
theorem fd138_1 (a : AV) : aField Try.prog 138 1 a = fieldVal Try.prog 90 1 a := by cases a <;> kernel_rfl
theorem bu138 (ps : List (Nat × AV)) : aBuild Try.prog 138 ps = (fillA (fun i => [(0, 1), (1, 1)][i]?) (AV.cells (.agg [.nilM, .nilS])) ps).map .agg := by kernel_rfl
theorem ag139 : isAggT Try.prog 139 = some false := by kernel_rfl
theorem sz139 : sizeT Try.prog 139 = some 1 := by kernel_rfl
theorem by139 : bytesT Try.prog 139 = some 0 := by kernel_rfl
theorem ag140 : isAggT Try.prog 140 = some false := by kernel_rfl
theorem sz140 : sizeT Try.prog 140 = some 1 := by kernel_rfl
theorem by140 : bytesT Try.prog 140 = some 8 := by kernel_rfl
theorem ze140 : zeroT Try.prog 140 = some (.nilF) := by kernel_rfl
theorem ag141 : isAggT Try.prog 141 = some false := by kernel_rfl
theorem sz141 : sizeT Try.prog 141 = some 1 := by kernel_rfl
theorem by141 : bytesT Try.prog 141 = some 24 := by kernel_rfl
theorem se141 : sliceElem Try.prog 141 = some 5 := by kernel_rfl
theorem ze141 : zeroT Try.prog 141 = some (.nilS) := by kernel_rfl
theorem ag142 : isAggT Try.prog 142 = some true := by kernel_rfl
theorem sz142 : sizeT Try.prog 142 = some 2 := by kernel_rfl
theorem by142 : bytesT Try.prog 142 = some 32 := by kernel_rfl
theorem ze142 : zeroT Try.prog 142 = some (.agg [.nilS, .int .i64 0]) := by kernel_rfl
theorem fa142_0 (a : AV) : aFieldAddr Try.prog 142 0 a = fieldOff 0 a := by cases a <;> kernel_rfl
theorem fd142_0 (a : AV) : aField Try.prog 142 0 a = fieldVal Try.prog 53 0 a := by cases a <;> kernel_rfl
theorem fa142_1 (a : AV) : aFieldAddr Try.prog 142 1 a = fieldOff 1 a := by cases a <;> kernel_rfl
theorem fd142_1 (a : AV) : aField Try.prog 142 1 a = fieldVal Try.prog 3 1 a := by cases a <;> kernel_rfl
theorem bu142 (ps : List (Nat × AV)) : aBuild Try.prog 142 ps = (fillA (fun i => [(0, 1), (1, 1)][i]?) (AV.cells (.agg [.nilS, .int .i64 0])) ps).map .agg := by kernel_rfl
theorem ag143 : isAggT Try.prog 143 = some true := by kernel_rfl
theorem sz143 : sizeT Try.prog 143 = some 2 := by kernel_rfl
theorem by143 : bytesT Try.prog 143 = some 32 := by kernel_rfl
theorem ze143 : zeroT Try.prog 143 = some (.agg [.nilS, .int .i64 0]) := by kernel_rfl
theorem fa143_0 (a : AV) : aFieldAddr Try.prog 143 0 a = fieldOff 0 a := by cases a <;> kernel_rfl
theorem fd143_0 (a : AV) : aField Try.prog 143 0 a = fieldVal Try.prog 53 0 a := by cases a <;> kernel_rfl
theorem fa143_1 (a : AV) : aFieldAddr Try.prog 143 1 a = fieldOff 1 a := by cases a <;> kernel_rfl
theorem fd143_1 (a : AV) : aField Try.prog 143 1 a = fieldVal Try.prog 3 1 a := by cases a <;> kernel_rfl
theorem bu143 (ps : List (Nat × AV)) : aBuild Try.prog 143 ps = (fillA (fun i => [(0, 1), (1, 1)][i]?) (AV.cells (.agg [.nilS, .int .i64 0])) ps).map .agg := by kernel_rfl
theorem ag144 : isAggT Try.prog 144 = some true := by kernel_rfl
theorem sz144 : sizeT Try.prog 144 = some 5 := by kernel_rfl
theorem by144 : bytesT Try.prog 144 = some 56 := by kernel_rfl
theorem ze144 : zeroT Try.prog 144 = some (.agg [.int .i64 0, .bool false, .nilS, .int .i64 0, .int .i64 0]) := by kernel_rfl
theorem fa144_0 (a : AV) : aFieldAddr Try.prog 144 0 a = fieldOff 0 a := by cases a <;> kernel_rfl
theorem fd144_0 (a : AV) : aField Try.prog 144 0 a = fieldVal Try.prog 3 0 a := by cases a <;> kernel_rfl
theorem fa144_1 (a : AV) : aFieldAddr Try.prog 144 1 a = fieldOff 1 a := by cases a <;> kernel_rfl
theorem fd144_1 (a : AV) : aField Try.prog 144 1 a = fieldVal Try.prog 4 1 a := by cases a <;> kernel_rfl
theorem fa144_2 (a : AV) : aFieldAddr Try.prog 144 2 a = fieldOff 2 a := by cases a <;> kernel_rfl
theorem fd144_2 (a : AV) : aField Try.prog 144 2 a = fieldVal Try.prog 44 2 a := by cases a <;> kernel_rfl
theorem fa144_3 (a : AV) : aFieldAddr Try.prog 144 3 a = fieldOff 3 a := by cases a <;> kernel_rfl
theorem fd144_3 (a : AV) : aField Try.prog 144 3 a = fieldVal Try.prog 3 3 a := by cases a <;> kernel_rfl
theorem fa144_4 (a : AV) : aFieldAddr Try.prog 144 4 a = fieldOff 4 a := by cases a <;> kernel_rfl
theorem fd144_4 (a : AV) : aField Try.prog 144 4 a = fieldVal Try.prog 3 4 a := by cases a <;> kernel_rfl
theorem bu144 (ps : List (Nat × AV)) : aBuild Try.prog 144 ps = (fillA (fun i => [(0, 1), (1, 1), (2, 1), (3, 1), (4, 1)][i]?) (AV.cells (.agg [.int .i64 0, .bool false, .nilS, .int .i64 0, .int .i64 0])) ps).map .agg := by kernel_rfl
theorem ag145 : isAggT Try.prog 145 = some true := by kernel_rfl
theorem sz145 : sizeT Try.prog 145 = some 5 := by kernel_rfl
theorem by145 : bytesT Try.prog 145 = some 56 := by kernel_rfl
theorem ze145 : zeroT Try.prog 145 = some (.agg [.int .i64 0, .bool false, .nilS, .int .i64 0, .int .i64 0]) := by kernel_rfl
theorem fa145_0 (a : AV) : aFieldAddr Try.prog 145 0 a = fieldOff 0 a := by cases a <;> kernel_rfl
theorem fd145_0 (a : AV) : aField Try.prog 145 0 a = fieldVal Try.prog 3 0 a := by cases a <;> kernel_rfl
theorem fa145_1 (a : AV) : aFieldAddr Try.prog 145 1 a = fieldOff 1 a := by cases a <;> kernel_rfl
theorem fd145_1 (a : AV) : aField Try.prog 145 1 a = fieldVal Try.prog 4 1 a := by cases a <;> kernel_rfl
theorem fa145_2 (a : AV) : aFieldAddr Try.prog 145 2 a = fieldOff 2 a := by cases a <;> kernel_rfl
theorem fd145_2 (a : AV) : aField Try.prog 145 2 a = fieldVal Try.prog 44 2 a := by cases a <;> kernel_rfl
theorem fa145_3 (a : AV) : aFieldAddr Try.prog 145 3 a = fieldOff 3 a := by cases a <;> kernel_rfl
theorem fd145_3 (a : AV) : aField Try.prog 145 3 a = fieldVal Try.prog 3 3 a := by cases a <;> kernel_rfl
theorem fa145_4 (a : AV) : aFieldAddr Try.prog 145 4 a = fieldOff 4 a := by cases a <;> kernel_rfl
theorem fd145_4 (a : AV) : aField Try.prog 145 4 a = fieldVal Try.prog 3 4 a := by cases a <;> kernel_rfl
theorem bu145 (ps : List (Nat × AV)) : aBuild Try.prog 145 ps = (fillA (fun i => [(0, 1), (1, 1), (2, 1), (3, 1), (4, 1)][i]?) (AV.cells (.agg [.int .i64 0, .bool false, .nilS, .int .i64 0, .int .i64 0])) ps).map .agg := by kernel_rfl
theorem ag146 : isAggT Try.prog 146 = some false := by kernel_rfl
theorem sz146 : sizeT Try.prog 146 = some 1 := by kernel_rfl
theorem by146 : bytesT Try.prog 146 = some 8 := by kernel_rfl
theorem ze146 : zeroT Try.prog 146 = some (.nilF) := by kernel_rfl
theorem ag147 : isAggT Try.prog 147 = some false := by kernel_rfl
theorem sz147 : sizeT Try.prog 147 = some 1 := by kernel_rfl
theorem by147 : bytesT Try.prog 147 = some 8 := by kernel_rfl
theorem ze147 : zeroT Try.prog 147 = some (.nilF) := by kernel_rfl
theorem ag148 : isAggT Try.prog 148 = some false := by kernel_rfl
theorem sz148 : sizeT Try.prog 148 = some 1 := by kernel_rfl
theorem by148 : bytesT Try.prog 148 = some 8 := by kernel_rfl
theorem ze148 : zeroT Try.prog 148 = some (.nilF) := by kernel_rfl
theorem ag149 : isAggT Try.prog 149 = some false := by kernel_rfl
theorem sz149 : sizeT Try.prog 149 = some 1 := by kernel_rfl
theorem by149 : bytesT Try.prog 149 = some 8 := by kernel_rfl
theorem ze149 : zeroT Try.prog 149 = some (.nilF) := by kernel_rfl
theorem ag150 : isAggT Try.prog 150 = some false := by kernel_rfl
theorem sz150 : sizeT Try.prog 150 = some 1 := by kernel_rfl
theorem by150 : bytesT Try.prog 150 = some 8 := by kernel_rfl
theorem ze150 : zeroT Try.prog 150 = some (.nilF) := by kernel_rfl
theorem ag151 : isAggT Try.prog 151 = some false := by kernel_rfl
theorem sz151 : sizeT Try.prog 151 = some 1 := by kernel_rfl
theorem by151 : bytesT Try.prog 151 = some 0 := by kernel_rfl
theorem ag152 : isAggT Try.prog 152 = some false := by kernel_rfl
theorem sz152 : sizeT Try.prog 152 = some 1 := by kernel_rfl
theorem by152 : bytesT Try.prog 152 = some 8 := by kernel_rfl
theorem ze152 : zeroT Try.prog 152 = some (.nilF) := by kernel_rfl
theorem ag153 : isAggT Try.prog 153 = some false := by kernel_rfl
theorem sz153 : sizeT Try.prog 153 = some 1 := by kernel_rfl
theorem by153 : bytesT Try.prog 153 = some 8 := by kernel_rfl
theorem ze153 : zeroT Try.prog 153 = some (.nilF) := by kernel_rfl
theorem ag154 : isAggT Try.prog 154 = some false := by kernel_rfl
theorem sz154 : sizeT Try.prog 154 = some 1 := by kernel_rfl
theorem by154 : bytesT Try.prog 154 = some 8 := by kernel_rfl
theorem ze154 : zeroT Try.prog 154 = some (.nilF) := by kernel_rfl
theorem ag155 : isAggT Try.prog 155 = some false := by kernel_rfl
theorem sz155 : sizeT Try.prog 155 = some 1 := by kernel_rfl
theorem by155 : bytesT Try.prog 155 = some 8 := by kernel_rfl
theorem ze155 : zeroT Try.prog 155 = some (.nilF) := by kernel_rfl
theorem ag156 : isAggT Try.prog 156 = some false := by kernel_rfl
theorem sz156 : sizeT Try.prog 156 = some 1 := by kernel_rfl
theorem by156 : bytesT Try.prog 156 = some 8 := by kernel_rfl
theorem ze156 : zeroT Try.prog 156 = some (.nilF) := by kernel_rfl
theorem ag157 : isAggT Try.prog 157 = some false := by kernel_rfl
theorem sz157 : sizeT Try.prog 157 = some 1 := by kernel_rfl
theorem by157 : bytesT Try.prog 157 = some 8 := by kernel_rfl
theorem ze157 : zeroT Try.prog 157 = some (.nilF) := by kernel_rfl
theorem ag158 : isAggT Try.prog 158 = some false := by kernel_rfl
theorem sz158 : sizeT Try.prog 158 = some 1 := by kernel_rfl
theorem by158 : bytesT Try.prog 158 = some 8 := by kernel_rfl
theorem ze158 : zeroT Try.prog 158 = some (.nilF) := by kernel_rfl
theorem ag159 : isAggT Try.prog 159 = some false := by kernel_rfl
theorem sz159 : sizeT Try.prog 159 = some 1 := by kernel_rfl
theorem by159 : bytesT Try.prog 159 = some 8 := by kernel_rfl
theorem ze159 : zeroT Try.prog 159 = some (.nilF) := by kernel_rfl
theorem ag160 : isAggT Try.prog 160 = some false := by kernel_rfl
theorem sz160 : sizeT Try.prog 160 = some 1 := by kernel_rfl
theorem by160 : bytesT Try.prog 160 = some 8 := by kernel_rfl
theorem ze160 : zeroT Try.prog 160 = some (.nilF) := by kernel_rfl
theorem ag161 : isAggT Try.prog 161 = some false := by kernel_rfl
theorem sz161 : sizeT Try.prog 161 = some 1 := by kernel_rfl
theorem by161 : bytesT Try.prog 161 = some 8 := by kernel_rfl
theorem ze161 : zeroT Try.prog 161 = some (.nilF) := by kernel_rfl
theorem ag162 : isAggT Try.prog 162 = some false := by kernel_rfl
theorem sz162 : sizeT Try.prog 162 = some 1 := by kernel_rfl
theorem by162 : bytesT Try.prog 162 = some 8 := by kernel_rfl
theorem ze162 : zeroT Try.prog 162 = some (.nilF) := by kernel_rfl
theorem ag163 : isAggT Try.prog 163 = some false := by kernel_rfl
theorem sz163 : sizeT Try.prog 163 = some 1 := by kernel_rfl
theorem by163 : bytesT Try.prog 163 = some 8 := by kernel_rfl
theorem ze163 : zeroT Try.prog 163 = some (.nilF) := by kernel_rfl
theorem ag164 : isAggT Try.prog 164 = some false := by kernel_rfl
theorem sz164 : sizeT Try.prog 164 = some 1 := by kernel_rfl
theorem by164 : bytesT Try.prog 164 = some 8 := by kernel_rfl
theorem ze164 : zeroT Try.prog 164 = some (.int .u64 0) := by kernel_rfl
theorem ag165 : isAggT Try.prog 165 = some false := by kernel_rfl
theorem sz165 : sizeT Try.prog 165 = some 1 := by kernel_rfl
theorem by165 : bytesT Try.prog 165 = some 8 := by kernel_rfl
theorem ze165 : zeroT Try.prog 165 = some (.nilF) := by kernel_rfl
theorem ag166 : isAggT Try.prog 166 = some false := by kernel_rfl
theorem sz166 : sizeT Try.prog 166 = some 1 := by kernel_rfl
theorem by166 : bytesT Try.prog 166 = some 8 := by kernel_rfl
theorem ze166 : zeroT Try.prog 166 = some (.nilF) := by kernel_rfl
theorem ag167 : isAggT Try.prog 167 = some false := by kernel_rfl
theorem sz167 : sizeT Try.prog 167 = some 1 := by kernel_rfl
theorem by167 : bytesT Try.prog 167 = some 8 := by kernel_rfl
theorem ze167 : zeroT Try.prog 167 = some (.nilF) := by kernel_rfl
theorem ag168 : isAggT Try.prog 168 = some false := by kernel_rfl
theorem sz168 : sizeT Try.prog 168 = some 1 := by kernel_rfl
theorem by168 : bytesT Try.prog 168 = some 8 := by kernel_rfl
theorem ze168 : zeroT Try.prog 168 = some (.nilF) := by kernel_rfl
theorem ag169 : isAggT Try.prog 169 = some false := by kernel_rfl
theorem sz169 : sizeT Try.prog 169 = some 1 := by kernel_rfl
theorem by169 : bytesT Try.prog 169 = some 8 := by kernel_rfl
theorem ze169 : zeroT Try.prog 169 = some (.nilF) := by kernel_rfl
theorem ag170 : isAggT Try.prog 170 = some false := by kernel_rfl
theorem sz170 : sizeT Try.prog 170 = some 1 := by kernel_rfl
theorem by170 : bytesT Try.prog 170 = some 8 := by kernel_rfl
theorem ze170 : zeroT Try.prog 170 = some (.int .i64 0) := by kernel_rfl
theorem ag171 : isAggT Try.prog 171 = some false := by kernel_rfl
theorem sz171 : sizeT Try.prog 171 = some 1 := by kernel_rfl
theorem by171 : bytesT Try.prog 171 = some 0 := by kernel_rfl
theorem ag172 : isAggT Try.prog 172 = some false := by kernel_rfl
theorem sz172 : sizeT Try.prog 172 = some 1 := by kernel_rfl
theorem by172 : bytesT Try.prog 172 = some 8 := by kernel_rfl
theorem ze172 : zeroT Try.prog 172 = some (.nilF) := by kernel_rfl
theorem ag173 : isAggT Try.prog 173 = some false := by kernel_rfl
theorem sz173 : sizeT Try.prog 173 = some 1 := by kernel_rfl
theorem by173 : bytesT Try.prog 173 = some 8 := by kernel_rfl
theorem ze173 : zeroT Try.prog 173 = some (.nilF) := by kernel_rfl
theorem ag174 : isAggT Try.prog 174 = some false := by kernel_rfl
theorem sz174 : sizeT Try.prog 174 = some 1 := by kernel_rfl
theorem by174 : bytesT Try.prog 174 = some 8 := by kernel_rfl
theorem ze174 : zeroT Try.prog 174 = some (.nilF) := by kernel_rfl
theorem ag175 : isAggT Try.prog 175 = some false := by kernel_rfl
theorem sz175 : sizeT Try.prog 175 = some 1 := by kernel_rfl
theorem by175 : bytesT Try.prog 175 = some 8 := by kernel_rfl
theorem ze175 : zeroT Try.prog 175 = some (.nilF) := by kernel_rfl
theorem ag176 : isAggT Try.prog 176 = some false := by kernel_rfl
theorem sz176 : sizeT Try.prog 176 = some 1 := by kernel_rfl
theorem by176 : bytesT Try.prog 176 = some 8 := by kernel_rfl
theorem ze176 : zeroT Try.prog 176 = some (.nilF) := by kernel_rfl
theorem ag177 : isAggT Try.prog 177 = some false := by kernel_rfl
theorem sz177 : sizeT Try.prog 177 = some 1 := by kernel_rfl
theorem by177 : bytesT Try.prog 177 = some 4 := by kernel_rfl
theorem ze177 : zeroT Try.prog 177 = some (.int .u32 0) := by kernel_rfl
theorem ag178 : isAggT Try.prog 178 = some false := by kernel_rfl
theorem sz178 : sizeT Try.prog 178 = some 1 := by kernel_rfl
theorem by178 : bytesT Try.prog 178 = some 8 := by kernel_rfl
theorem ze178 : zeroT Try.prog 178 = some (.nilF) := by kernel_rfl
theorem ag179 : isAggT Try.prog 179 = some false := by kernel_rfl
theorem sz179 : sizeT Try.prog 179 = some 1 := by kernel_rfl
theorem by179 : bytesT Try.prog 179 = some 8 := by kernel_rfl
theorem ze179 : zeroT Try.prog 179 = some (.int .u64 0) := by kernel_rfl
theorem ag180 : isAggT Try.prog 180 = some true := by kernel_rfl
theorem sz180 : sizeT Try.prog 180 = some 5 := by kernel_rfl
theorem by180 : bytesT Try.prog 180 = some 20 := by kernel_rfl
theorem ze180 : zeroT Try.prog 180 = some (.agg [.int .i32 0, .int .i32 0, .int .i32 0, .int .i32 0, .int .i32 0]) := by kernel_rfl
theorem ag181 : isAggT Try.prog 181 = some false := by kernel_rfl
theorem sz181 : sizeT Try.prog 181 = some 1 := by kernel_rfl
theorem by181 : bytesT Try.prog 181 = some 0 := by kernel_rfl
theorem ag182 : isAggT Try.prog 182 = some false := by kernel_rfl
theorem sz182 : sizeT Try.prog 182 = some 1 := by kernel_rfl
theorem by182 : bytesT Try.prog 182 = some 8 := by kernel_rfl
theorem ze182 : zeroT Try.prog 182 = some (.nilF) := by kernel_rfl
theorem ag183 : isAggT Try.prog 183 = some false := by kernel_rfl
theorem sz183 : sizeT Try.prog 183 = some 1 := by kernel_rfl
theorem by183 : bytesT Try.prog 183 = some 8 := by kernel_rfl
theorem ze183 : zeroT Try.prog 183 = some (.int .u64 0) := by kernel_rfl
theorem ag184 : isAggT Try.prog 184 = some false := by kernel_rfl
theorem sz184 : sizeT Try.prog 184 = some 1 := by kernel_rfl
theorem by184 : bytesT Try.prog 184 = some 8 := by kernel_rfl
theorem ze184 : zeroT Try.prog 184 = some (.nilF) := by kernel_rfl
theorem ag185 : isAggT Try.prog 185 = some false := by kernel_rfl
theorem sz185 : sizeT Try.prog 185 = some 1 := by kernel_rfl
theorem by185 : bytesT Try.prog 185 = some 8 := by kernel_rfl
theorem ze185 : zeroT Try.prog 185 = some (.nilF) := by kernel_rfl
theorem ag186 : isAggT Try.prog 186 = some false := by kernel_rfl
theorem sz186 : sizeT Try.prog 186 = some 1 := by kernel_rfl
theorem by186 : bytesT Try.prog 186 = some 8 := by kernel_rfl
theorem ze186 : zeroT Try.prog 186 = some (.nilF) := by kernel_rfl
theorem ag187 : isAggT Try.prog 187 = some false := by kernel_rfl
theorem sz187 : sizeT Try.prog 187 = some 1 := by kernel_rfl
theorem by187 : bytesT Try.prog 187 = some 8 := by kernel_rfl
theorem ze187 : zeroT Try.prog 187 = some (.nil) := by kernel_rfl
theorem ag188 : isAggT Try.prog 188 = some false := by kernel_rfl
theorem sz188 : sizeT Try.prog 188 = some 1 := by kernel_rfl
theorem by188 : bytesT Try.prog 188 = some 8 := by kernel_rfl
theorem ze188 : zeroT Try.prog 188 = some (.nilF) := by kernel_rfl
theorem ag189 : isAggT Try.prog 189 = some false := by kernel_rfl
theorem sz189 : sizeT Try.prog 189 = some 1 := by kernel_rfl
theorem by189 : bytesT Try.prog 189 = some 8 := by kernel_rfl
theorem ze189 : zeroT Try.prog 189 = some (.nilF) := by kernel_rfl
theorem ag190 : isAggT Try.prog 190 = some false := by kernel_rfl
theorem sz190 : sizeT Try.prog 190 = some 1 := by kernel_rfl
theorem by190 : bytesT Try.prog 190 = some 0 := by kernel_rfl
theorem ag191 : isAggT Try.prog 191 = some false := by kernel_rfl
theorem sz191 : sizeT Try.prog 191 = some 1 := by kernel_rfl
theorem by191 : bytesT Try.prog 191 = some 8 := by kernel_rfl
theorem ze191 : zeroT Try.prog 191 = some (.nilF) := by kernel_rfl
theorem ag192 : isAggT Try.prog 192 = some false := by kernel_rfl
theorem sz192 : sizeT Try.prog 192 = some 1 := by kernel_rfl
theorem by192 : bytesT Try.prog 192 = some 8 := by kernel_rfl
theorem ze192 : zeroT Try.prog 192 = some (.nilF) := by kernel_rfl
theorem ag193 : isAggT Try.prog 193 = some false := by kernel_rfl
theorem sz193 : sizeT Try.prog 193 = some 1 := by kernel_rfl
theorem by193 : bytesT Try.prog 193 = some 8 := by kernel_rfl
theorem ze193 : zeroT Try.prog 193 = some (.nilF) := by kernel_rfl
theorem ag194 : isAggT Try.prog 194 = some false := by kernel_rfl
theorem sz194 : sizeT Try.prog 194 = some 1 := by kernel_rfl
theorem by194 : bytesT Try.prog 194 = some 8 := by kernel_rfl
theorem ze194 : zeroT Try.prog 194 = some (.nilF) := by kernel_rfl
theorem ag195 : isAggT Try.prog 195 = some false := by kernel_rfl
theorem sz195 : sizeT Try.prog 195 = some 1 := by kernel_rfl
theorem by195 : bytesT Try.prog 195 = some 8 := by kernel_rfl
theorem ze195 : zeroT Try.prog 195 = some (.nilF) := by kernel_rfl
theorem ag196 : isAggT Try.prog 196 = some false := by kernel_rfl
theorem sz196 : sizeT Try.prog 196 = some 1 := by kernel_rfl
theorem by196 : bytesT Try.prog 196 = some 8 := by kernel_rfl
theorem ze196 : zeroT Try.prog 196 = some (.nilF) := by kernel_rfl
theorem ag197 : isAggT Try.prog 197 = some false := by kernel_rfl
theorem sz197 : sizeT Try.prog 197 = some 1 := by kernel_rfl
theorem by197 : bytesT Try.prog 197 = some 8 := by kernel_rfl
theorem ze197 : zeroT Try.prog 197 = some (.nilF) := by kernel_rfl
theorem ag198 : isAggT Try.prog 198 = some false := by kernel_rfl
theorem sz198 : sizeT Try.prog 198 = some 1 := by kernel_rfl
theorem by198 : bytesT Try.prog 198 = some 8 := by kernel_rfl
theorem ze198 : zeroT Try.prog 198 = some (.nil) := by kernel_rfl
theorem ag199 : isAggT Try.prog 199 = some false := by kernel_rfl
theorem sz199 : sizeT Try.prog 199 = some 1 := by kernel_rfl
theorem by199 : bytesT Try.prog 199 = some 8 := by kernel_rfl
theorem ze199 : zeroT Try.prog 199 = some (.nilF) := by kernel_rfl
theorem ag200 : isAggT Try.prog 200 = some false := by kernel_rfl
theorem sz200 : sizeT Try.prog 200 = some 1 := by kernel_rfl
theorem by200 : bytesT Try.prog 200 = some 8 := by kernel_rfl
theorem ze200 : zeroT Try.prog 200 = some (.nilF) := by kernel_rfl
theorem ag201 : isAggT Try.prog 201 = some false := by kernel_rfl
theorem sz201 : sizeT Try.prog 201 = some 1 := by kernel_rfl
theorem by201 : bytesT Try.prog 201 = some 0 := by kernel_rfl
theorem ag202 : isAggT Try.prog 202 = some false := by kernel_rfl
theorem sz202 : sizeT Try.prog 202 = some 1 := by kernel_rfl
theorem by202 : bytesT Try.prog 202 = some 8 := by kernel_rfl
theorem ze202 : zeroT Try.prog 202 = some (.nilF) := by kernel_rfl
theorem ag203 : isAggT Try.prog 203 = some false := by kernel_rfl
theorem sz203 : sizeT Try.prog 203 = some 1 := by kernel_rfl
theorem by203 : bytesT Try.prog 203 = some 8 := by kernel_rfl
theorem ze203 : zeroT Try.prog 203 = some (.nilF) := by kernel_rfl
theorem ag204 : isAggT Try.prog 204 = some false := by kernel_rfl
theorem sz204 : sizeT Try.prog 204 = some 1 := by kernel_rfl
theorem by204 : bytesT Try.prog 204 = some 8 := by kernel_rfl
theorem ze204 : zeroT Try.prog 204 = some (.nilF) := by kernel_rfl
theorem ag205 : isAggT Try.prog 205 = some false := by kernel_rfl
theorem sz205 : sizeT Try.prog 205 = some 1 := by kernel_rfl
theorem by205 : bytesT Try.prog 205 = some 0 := by kernel_rfl
theorem ag206 : isAggT Try.prog 206 = some false := by kernel_rfl
theorem sz206 : sizeT Try.prog 206 = some 1 := by kernel_rfl
theorem by206 : bytesT Try.prog 206 = some 8 := by kernel_rfl
theorem ze206 : zeroT Try.prog 206 = some (.nilF) := by kernel_rfl
theorem ag207 : isAggT Try.prog 207 = some false := by kernel_rfl
theorem sz207 : sizeT Try.prog 207 = some 1 := by kernel_rfl
theorem by207 : bytesT Try.prog 207 = some 8 := by kernel_rfl
theorem ze207 : zeroT Try.prog 207 = some (.nilF) := by kernel_rfl
theorem ag208 : isAggT Try.prog 208 = some false := by kernel_rfl
theorem sz208 : sizeT Try.prog 208 = some 1 := by kernel_rfl
theorem by208 : bytesT Try.prog 208 = some 8 := by kernel_rfl
theorem ze208 : zeroT Try.prog 208 = some (.nilF) := by kernel_rfl
theorem ag209 : isAggT Try.prog 209 = some true := by kernel_rfl
theorem sz209 : sizeT Try.prog 209 = some 4 := by kernel_rfl
theorem by209 : bytesT Try.prog 209 = some 40 := by kernel_rfl
theorem ze209 : zeroT Try.prog 209 = some (.agg [.nil, .nil, .nil, .str []]) := by kernel_rfl
theorem fa209_0 (a : AV) : aFieldAddr Try.prog 209 0 a = fieldOff 0 a := by cases a <;> kernel_rfl
theorem fd209_0 (a : AV) : aField Try.prog 209 0 a = fieldVal Try.prog 17 0 a := by cases a <;> kernel_rfl
theorem fa209_1 (a : AV) : aFieldAddr Try.prog 209 1 a = fieldOff 1 a := by cases a <;> kernel_rfl
theorem fd209_1 (a : AV) : aField Try.prog 209 1 a = fieldVal Try.prog 17 1 a := by cases a <;> kernel_rfl
theorem fa209_2 (a : AV) : aFieldAddr Try.prog 209 2 a = fieldOff 2 a := by cases a <;> kernel_rfl
theorem fd209_2 (a : AV) : aField Try.prog 209 2 a = fieldVal Try.prog 17 2 a := by cases a <;> kernel_rfl
theorem fa209_3 (a : AV) : aFieldAddr Try.prog 209 3 a = fieldOff 3 a := by cases a <;> kernel_rfl
theorem fd209_3 (a : AV) : aField Try.prog 209 3 a = fieldVal Try.prog 9 3 a := by cases a <;> kernel_rfl
theorem bu209 (ps : List (Nat × AV)) : aBuild Try.prog 209 ps = (fillA (fun i => [(0, 1), (1, 1), (2, 1), (3, 1)][i]?) (AV.cells (.agg [.nil, .nil, .nil, .str []])) ps).map .agg := by kernel_rfl
theorem ag210 : isAggT Try.prog 210 = some true := by kernel_rfl
theorem sz210 : sizeT Try.prog 210 = some 4 := by kernel_rfl
theorem by210 : bytesT Try.prog 210 = some 40 := by kernel_rfl
theorem ze210 : zeroT Try.prog 210 = some (.agg [.nil, .nil, .nil, .str []]) := by kernel_rfl
theorem fa210_0 (a : AV) : aFieldAddr Try.prog 210 0 a = fieldOff 0 a := by cases a <;> kernel_rfl
theorem fd210_0 (a : AV) : aField Try.prog 210 0 a = fieldVal Try.prog 17 0 a := by cases a <;> kernel_rfl
theorem fa210_1 (a : AV) : aFieldAddr Try.prog 210 1 a = fieldOff 1 a := by cases a <;> kernel_rfl
theorem fd210_1 (a : AV) : aField Try.prog 210 1 a = fieldVal Try.prog 17 1 a := by cases a <;> kernel_rfl
theorem fa210_2 (a : AV) : aFieldAddr Try.prog 210 2 a = fieldOff 2 a := by cases a <;> kernel_rfl
theorem fd210_2 (a : AV) : aField Try.prog 210 2 a = fieldVal Try.prog 17 2 a := by cases a <;> kernel_rfl
theorem fa210_3 (a : AV) : aFieldAddr Try.prog 210 3 a = fieldOff 3 a := by cases a <;> kernel_rfl
theorem fd210_3 (a : AV) : aField Try.prog 210 3 a = fieldVal Try.prog 9 3 a := by cases a <;> kernel_rfl
theorem bu210 (ps : List (Nat × AV)) : aBuild Try.prog 210 ps = (fillA (fun i => [(0, 1), (1, 1), (2, 1), (3, 1)][i]?) (AV.cells (.agg [.nil, .nil, .nil, .str []])) ps).map .agg := by kernel_rfl
theorem ag211 : isAggT Try.prog 211 = some true := by kernel_rfl
theorem sz211 : sizeT Try.prog 211 = some 0 := by kernel_rfl
theorem by211 : bytesT Try.prog 211 = some 0 := by kernel_rfl
theorem ze211 : zeroT Try.prog 211 = some (.agg []) := by kernel_rfl
theorem ag212 : isAggT Try.prog 212 = some true := by kernel_rfl
theorem sz212 : sizeT Try.prog 212 = some 0 := by kernel_rfl
theorem by212 : bytesT Try.prog 212 = some 0 := by kernel_rfl
theorem ze212 : zeroT Try.prog 212 = some (.agg []) := by kernel_rfl
theorem bu212 (ps : List (Nat × AV)) : aBuild Try.prog 212 ps = (fillA (fun i => [(0, 0)][i]?) (AV.cells (.agg [])) ps).map .agg := by kernel_rfl
theorem ag213 : isAggT Try.prog 213 = some true := by kernel_rfl
theorem sz213 : sizeT Try.prog 213 = some 0 := by kernel_rfl
theorem by213 : bytesT Try.prog 213 = some 0 := by kernel_rfl
theorem ze213 : zeroT Try.prog 213 = some (.agg []) := by kernel_rfl
theorem bu213 (ps : List (Nat × AV)) : aBuild Try.prog 213 ps = (fillA (fun i => [(0, 0)][i]?) (AV.cells (.agg [])) ps).map .agg := by kernel_rfl
theorem ag214 : isAggT Try.prog 214 = some false := by kernel_rfl
theorem sz214 : sizeT Try.prog 214 = some 1 := by kernel_rfl
theorem by214 : bytesT Try.prog 214 = some 1 := by kernel_rfl
theorem ze214 : zeroT Try.prog 214 = some (.int .u8 0) := by kernel_rfl
theorem ag215 : isAggT Try.prog 215 = some false := by kernel_rfl
theorem sz215 : sizeT Try.prog 215 = some 1 := by kernel_rfl
theorem by215 : bytesT Try.prog 215 = some 1 := by kernel_rfl
theorem ze215 : zeroT Try.prog 215 = some (.int .u8 0) := by kernel_rfl
theorem ag216 : isAggT Try.prog 216 = some false := by kernel_rfl
theorem sz216 : sizeT Try.prog 216 = some 1 := by kernel_rfl
theorem by216 : bytesT Try.prog 216 = some 8 := by kernel_rfl
theorem ze216 : zeroT Try.prog 216 = some (.nilF) := by kernel_rfl
theorem ag217 : isAggT Try.prog 217 = some false := by kernel_rfl
theorem sz217 : sizeT Try.prog 217 = some 1 := by kernel_rfl
theorem by217 : bytesT Try.prog 217 = some 8 := by kernel_rfl
theorem ze217 : zeroT Try.prog 217 = some (.nil) := by kernel_rfl
theorem ag218 : isAggT Try.prog 218 = some false := by kernel_rfl
theorem sz218 : sizeT Try.prog 218 = some 1 := by kernel_rfl
theorem by218 : bytesT Try.prog 218 = some 4 := by kernel_rfl
theorem ze218 : zeroT Try.prog 218 = some (.int .i32 0) := by kernel_rfl
theorem ag219 : isAggT Try.prog 219 = some false := by kernel_rfl
theorem sz219 : sizeT Try.prog 219 = some 1 := by kernel_rfl
theorem by219 : bytesT Try.prog 219 = some 4 := by kernel_rfl
theorem ze219 : zeroT Try.prog 219 = some (.int .i32 0) := by kernel_rfl
theorem ag220 : isAggT Try.prog 220 = some true := by kernel_rfl
theorem sz220 : sizeT Try.prog 220 = some 11 := by kernel_rfl
theorem by220 : bytesT Try.prog 220 = some 48 := by kernel_rfl
theorem ze220 : zeroT Try.prog 220 = some (.agg [.int .u64 0, .int .u64 0, .int .u32 0, .int .u8 0, .int .u8 0, .int .u8 0, .int .u8 0, .nilF, .nil, .int .i32 0, .int .i32 0]) := by kernel_rfl
theorem fa220_0 (a : AV) : aFieldAddr Try.prog 220 0 a = fieldOff 0 a := by cases a <;> kernel_rfl
theorem fd220_0 (a : AV) : aField Try.prog 220 0 a = fieldVal Try.prog 12 0 a := by cases a <;> kernel_rfl
theorem fa220_1 (a : AV) : aFieldAddr Try.prog 220 1 a = fieldOff 1 a := by cases a <;> kernel_rfl
theorem fd220_1 (a : AV) : aField Try.prog 220 1 a = fieldVal Try.prog 12 1 a := by cases a <;> kernel_rfl
theorem fa220_2 (a : AV) : aFieldAddr Try.prog 220 2 a = fieldOff 2 a := by cases a <;> kernel_rfl
theorem fd220_2 (a : AV) : aField Try.prog 220 2 a = fieldVal Try.prog 177 2 a := by cases a <;> kernel_rfl
theorem fa220_3 (a : AV) : aFieldAddr Try.prog 220 3 a = fieldOff 3 a := by cases a <;> kernel_rfl
theorem fd220_3 (a : AV) : aField Try.prog 220 3 a = fieldVal Try.prog 214 3 a := by cases a <;> kernel_rfl
theorem fa220_4 (a : AV) : aFieldAddr Try.prog 220 4 a = fieldOff 4 a := by cases a <;> kernel_rfl
theorem fd220_4 (a : AV) : aField Try.prog 220 4 a = fieldVal Try.prog 5 4 a := by cases a <;> kernel_rfl
theorem fa220_5 (a : AV) : aFieldAddr Try.prog 220 5 a = fieldOff 5 a := by cases a <;> kernel_rfl
theorem fd220_5 (a : AV) : aField Try.prog 220 5 a = fieldVal Try.prog 5 5 a := by cases a <;> kernel_rfl
theorem fa220_6 (a : AV) : aFieldAddr Try.prog 220 6 a = fieldOff 6 a := by cases a <;> kernel_rfl
theorem fd220_6 (a : AV) : aField Try.prog 220 6 a = fieldVal Try.prog 215 6 a := by cases a <;> kernel_rfl
theorem fa220_7 (a : AV) : aFieldAddr Try.prog 220 7 a = fieldOff 7 a := by cases a <;> kernel_rfl
theorem fd220_7 (a : AV) : aField Try.prog 220 7 a = fieldVal Try.prog 216 7 a := by cases a <;> kernel_rfl
theorem fa220_8 (a : AV) : aFieldAddr Try.prog 220 8 a = fieldOff 8 a := by cases a <;> kernel_rfl
theorem fd220_8 (a : AV) : aField Try.prog 220 8 a = fieldVal Try.prog 217 8 a := by cases a <;> kernel_rfl
theorem fa220_9 (a : AV) : aFieldAddr Try.prog 220 9 a = fieldOff 9 a := by cases a <;> kernel_rfl
theorem fd220_9 (a : AV) : aField Try.prog 220 9 a = fieldVal Try.prog 218 9 a := by cases a <;> kernel_rfl
theorem fa220_10 (a : AV) : aFieldAddr Try.prog 220 10 a = fieldOff 10 a := by cases a <;> kernel_rfl
theorem fd220_10 (a : AV) : aField Try.prog 220 10 a = fieldVal Try.prog 219 10 a := by cases a <;> kernel_rfl
theorem bu220 (ps : List (Nat × AV)) : aBuild Try.prog 220 ps = (fillA (fun i => [(0, 1), (1, 1), (2, 1), (3, 1), (4, 1), (5, 1), (6, 1), (7, 1), (8, 1), (9, 1), (10, 1)][i]?) (AV.cells (.agg [.int .u64 0, .int .u64 0, .int .u32 0, .int .u8 0, .int .u8 0, .int .u8 0, .int .u8 0, .nilF, .nil, .int .i32 0, .int .i32 0])) ps).map .agg := by kernel_rfl
theorem ag221 : isAggT Try.prog 221 = some true := by kernel_rfl
theorem sz221 : sizeT Try.prog 221 = some 11 := by kernel_rfl
theorem by221 : bytesT Try.prog 221 = some 48 := by kernel_rfl
theorem ze221 : zeroT Try.prog 221 = some (.agg [.int .u64 0, .int .u64 0, .int .u32 0, .int .u8 0, .int .u8 0, .int .u8 0, .int .u8 0, .nilF, .nil, .int .i32 0, .int .i32 0]) := by kernel_rfl
theorem fa221_0 (a : AV) : aFieldAddr Try.prog 221 0 a = fieldOff 0 a := by cases a <;> kernel_rfl
theorem fd221_0 (a : AV) : aField Try.prog 221 0 a = fieldVal Try.prog 12 0 a := by cases a <;> kernel_rfl
theorem fa221_1 (a : AV) : aFieldAddr Try.prog 221 1 a = fieldOff 1 a := by cases a <;> kernel_rfl
theorem fd221_1 (a : AV) : aField Try.prog 221 1 a = fieldVal Try.prog 12 1 a := by cases a <;> kernel_rfl
theorem fa221_2 (a : AV) : aFieldAddr Try.prog 221 2 a = fieldOff 2 a := by cases a <;> kernel_rfl
theorem fd221_2 (a : AV) : aField Try.prog 221 2 a = fieldVal Try.prog 177 2 a := by cases a <;> kernel_rfl
theorem fa221_3 (a : AV) : aFieldAddr Try.prog 221 3 a = fieldOff 3 a := by cases a <;> kernel_rfl
theorem fd221_3 (a : AV) : aField Try.prog 221 3 a = fieldVal Try.prog 214 3 a := by cases a <;> kernel_rfl
theorem fa221_4 (a : AV) : aFieldAddr Try.prog 221 4 a = fieldOff 4 a := by cases a <;> kernel_rfl
theorem fd221_4 (a : AV) : aField Try.prog 221 4 a = fieldVal Try.prog 5 4 a := by cases a <;> kernel_rfl
theorem fa221_5 (a : AV) : aFieldAddr Try.prog 221 5 a = fieldOff 5 a := by cases a <;> kernel_rfl
theorem fd221_5 (a : AV) : aField Try.prog 221 5 a = fieldVal Try.prog 5 5 a := by cases a <;> kernel_rfl
theorem fa221_6 (a : AV) : aFieldAddr Try.prog 221 6 a = fieldOff 6 a := by cases a <;> kernel_rfl
theorem fd221_6 (a : AV) : aField Try.prog 221 6 a = fieldVal Try.prog 215 6 a := by cases a <;> kernel_rfl
theorem fa221_7 (a : AV) : aFieldAddr Try.prog 221 7 a = fieldOff 7 a := by cases a <;> kernel_rfl
theorem fd221_7 (a : AV) : aField Try.prog 221 7 a = fieldVal Try.prog 216 7 a := by cases a <;> kernel_rfl
theorem fa221_8 (a : AV) : aFieldAddr Try.prog 221 8 a = fieldOff 8 a := by cases a <;> kernel_rfl
theorem fd221_8 (a : AV) : aField Try.prog 221 8 a = fieldVal Try.prog 217 8 a := by cases a <;> kernel_rfl
theorem fa221_9 (a : AV) : aFieldAddr Try.prog 221 9 a = fieldOff 9 a := by cases a <;> kernel_rfl
theorem fd221_9 (a : AV) : aField Try.prog 221 9 a = fieldVal Try.prog 218 9 a := by cases a <;> kernel_rfl
theorem fa221_10 (a : AV) : aFieldAddr Try.prog 221 10 a = fieldOff 10 a := by cases a <;> kernel_rfl
theorem fd221_10 (a : AV) : aField Try.prog 221 10 a = fieldVal Try.prog 219 10 a := by cases a <;> kernel_rfl
theorem bu221 (ps : List (Nat × AV)) : aBuild Try.prog 221 ps = (fillA (fun i => [(0, 1), (1, 1), (2, 1), (3, 1), (4, 1), (5, 1), (6, 1), (7, 1), (8, 1), (9, 1), (10, 1)][i]?) (AV.cells (.agg [.int .u64 0, .int .u64 0, .int .u32 0, .int .u8 0, .int .u8 0, .int .u8 0, .int .u8 0, .nilF, .nil, .int .i32 0, .int .i32 0])) ps).map .agg := by kernel_rfl
theorem ag222 : isAggT Try.prog 222 = some false := by kernel_rfl
theorem sz222 : sizeT Try.prog 222 = some 1 := by kernel_rfl
theorem by222 : bytesT Try.prog 222 = some 8 := by kernel_rfl
theorem ze222 : zeroT Try.prog 222 = some (.nil) := by kernel_rfl
end Go.Proofs.Ytoblikhnbddfmaa.Ty
