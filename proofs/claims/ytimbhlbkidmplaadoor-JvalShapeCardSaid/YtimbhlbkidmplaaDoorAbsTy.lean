import Derived.Test.YtimbhlbkidmplaaDoorAbsSeat
import Derived.Test.YtimbhlbkidmplaaDoorAbsWalk
/-! Closed facts of the seat's types. -/
namespace Go.Proofs.YtimbhlbkidmplaaDoor.Ty
open Go Go.Abs Go.Proofs

theorem ag0 : isAggT Tryd.prog 0 = some false := by kernel_rfl
theorem sz0 : sizeT Tryd.prog 0 = some 1 := by kernel_rfl
theorem by0 : bytesT Tryd.prog 0 = some 0 := by kernel_rfl
theorem ag1 : isAggT Tryd.prog 1 = some false := by kernel_rfl
theorem sz1 : sizeT Tryd.prog 1 = some 1 := by kernel_rfl
theorem by1 : bytesT Tryd.prog 1 = some 8 := by kernel_rfl
theorem ze1 : zeroT Tryd.prog 1 = some (.nilF) := by kernel_rfl
theorem ag2 : isAggT Tryd.prog 2 = some false := by kernel_rfl
theorem sz2 : sizeT Tryd.prog 2 = some 1 := by kernel_rfl
theorem by2 : bytesT Tryd.prog 2 = some 8 := by kernel_rfl
theorem ze2 : zeroT Tryd.prog 2 = some (.int .i64 0) := by kernel_rfl
theorem ag3 : isAggT Tryd.prog 3 = some false := by kernel_rfl
theorem sz3 : sizeT Tryd.prog 3 = some 1 := by kernel_rfl
theorem by3 : bytesT Tryd.prog 3 = some 8 := by kernel_rfl
theorem ze3 : zeroT Tryd.prog 3 = some (.int .i64 0) := by kernel_rfl
theorem ag4 : isAggT Tryd.prog 4 = some false := by kernel_rfl
theorem sz4 : sizeT Tryd.prog 4 = some 1 := by kernel_rfl
theorem by4 : bytesT Tryd.prog 4 = some 1 := by kernel_rfl
theorem ze4 : zeroT Tryd.prog 4 = some (.bool false) := by kernel_rfl
theorem ag5 : isAggT Tryd.prog 5 = some false := by kernel_rfl
theorem sz5 : sizeT Tryd.prog 5 = some 1 := by kernel_rfl
theorem by5 : bytesT Tryd.prog 5 = some 1 := by kernel_rfl
theorem ze5 : zeroT Tryd.prog 5 = some (.int .u8 0) := by kernel_rfl
theorem ag6 : isAggT Tryd.prog 6 = some false := by kernel_rfl
theorem sz6 : sizeT Tryd.prog 6 = some 1 := by kernel_rfl
theorem by6 : bytesT Tryd.prog 6 = some 1 := by kernel_rfl
theorem ze6 : zeroT Tryd.prog 6 = some (.int .u8 0) := by kernel_rfl
theorem ag7 : isAggT Tryd.prog 7 = some true := by kernel_rfl
theorem sz7 : sizeT Tryd.prog 7 = some 4 := by kernel_rfl
theorem by7 : bytesT Tryd.prog 7 = some 24 := by kernel_rfl
theorem ze7 : zeroT Tryd.prog 7 = some (.agg [.int .i64 0, .int .i64 0, .bool false, .int .u8 0]) := by kernel_rfl
theorem fa7_0 (a : AV) : aFieldAddr Tryd.prog 7 0 a = fieldOff 0 a := by cases a <;> kernel_rfl
theorem fd7_0 (a : AV) : aField Tryd.prog 7 0 a = fieldVal Tryd.prog 2 0 a := by cases a <;> kernel_rfl
theorem fa7_1 (a : AV) : aFieldAddr Tryd.prog 7 1 a = fieldOff 1 a := by cases a <;> kernel_rfl
theorem fd7_1 (a : AV) : aField Tryd.prog 7 1 a = fieldVal Tryd.prog 3 1 a := by cases a <;> kernel_rfl
theorem fa7_2 (a : AV) : aFieldAddr Tryd.prog 7 2 a = fieldOff 2 a := by cases a <;> kernel_rfl
theorem fd7_2 (a : AV) : aField Tryd.prog 7 2 a = fieldVal Tryd.prog 4 2 a := by cases a <;> kernel_rfl
theorem fa7_3 (a : AV) : aFieldAddr Tryd.prog 7 3 a = fieldOff 3 a := by cases a <;> kernel_rfl
theorem fd7_3 (a : AV) : aField Tryd.prog 7 3 a = fieldVal Tryd.prog 6 3 a := by cases a <;> kernel_rfl
theorem bu7 (ps : List (Nat × AV)) : aBuild Tryd.prog 7 ps = (fillA (fun i => [(0, 1), (1, 1), (2, 1), (3, 1)][i]?) (AV.cells (.agg [.int .i64 0, .int .i64 0, .bool false, .int .u8 0])) ps).map .agg := by kernel_rfl
theorem ag8 : isAggT Tryd.prog 8 = some true := by kernel_rfl
theorem sz8 : sizeT Tryd.prog 8 = some 4 := by kernel_rfl
theorem by8 : bytesT Tryd.prog 8 = some 24 := by kernel_rfl
theorem ze8 : zeroT Tryd.prog 8 = some (.agg [.int .i64 0, .int .i64 0, .bool false, .int .u8 0]) := by kernel_rfl
theorem fa8_0 (a : AV) : aFieldAddr Tryd.prog 8 0 a = fieldOff 0 a := by cases a <;> kernel_rfl
theorem fd8_0 (a : AV) : aField Tryd.prog 8 0 a = fieldVal Tryd.prog 2 0 a := by cases a <;> kernel_rfl
theorem fa8_1 (a : AV) : aFieldAddr Tryd.prog 8 1 a = fieldOff 1 a := by cases a <;> kernel_rfl
theorem fd8_1 (a : AV) : aField Tryd.prog 8 1 a = fieldVal Tryd.prog 3 1 a := by cases a <;> kernel_rfl
theorem fa8_2 (a : AV) : aFieldAddr Tryd.prog 8 2 a = fieldOff 2 a := by cases a <;> kernel_rfl
theorem fd8_2 (a : AV) : aField Tryd.prog 8 2 a = fieldVal Tryd.prog 4 2 a := by cases a <;> kernel_rfl
theorem fa8_3 (a : AV) : aFieldAddr Tryd.prog 8 3 a = fieldOff 3 a := by cases a <;> kernel_rfl
theorem fd8_3 (a : AV) : aField Tryd.prog 8 3 a = fieldVal Tryd.prog 6 3 a := by cases a <;> kernel_rfl
theorem bu8 (ps : List (Nat × AV)) : aBuild Tryd.prog 8 ps = (fillA (fun i => [(0, 1), (1, 1), (2, 1), (3, 1)][i]?) (AV.cells (.agg [.int .i64 0, .int .i64 0, .bool false, .int .u8 0])) ps).map .agg := by kernel_rfl
theorem ag9 : isAggT Tryd.prog 9 = some false := by kernel_rfl
theorem sz9 : sizeT Tryd.prog 9 = some 1 := by kernel_rfl
theorem by9 : bytesT Tryd.prog 9 = some 16 := by kernel_rfl
theorem ze9 : zeroT Tryd.prog 9 = some (.str []) := by kernel_rfl
theorem ag10 : isAggT Tryd.prog 10 = some false := by kernel_rfl
theorem sz10 : sizeT Tryd.prog 10 = some 1 := by kernel_rfl
theorem by10 : bytesT Tryd.prog 10 = some 16 := by kernel_rfl
theorem ze10 : zeroT Tryd.prog 10 = some (.str []) := by kernel_rfl
theorem ag11 : isAggT Tryd.prog 11 = some false := by kernel_rfl
theorem sz11 : sizeT Tryd.prog 11 = some 1 := by kernel_rfl
theorem by11 : bytesT Tryd.prog 11 = some 16 := by kernel_rfl
theorem ze11 : zeroT Tryd.prog 11 = some (.str []) := by kernel_rfl
theorem ag12 : isAggT Tryd.prog 12 = some false := by kernel_rfl
theorem sz12 : sizeT Tryd.prog 12 = some 1 := by kernel_rfl
theorem by12 : bytesT Tryd.prog 12 = some 8 := by kernel_rfl
theorem ze12 : zeroT Tryd.prog 12 = some (.int .u64 0) := by kernel_rfl
theorem ag13 : isAggT Tryd.prog 13 = some true := by kernel_rfl
theorem sz13 : sizeT Tryd.prog 13 = some 2 := by kernel_rfl
theorem by13 : bytesT Tryd.prog 13 = some 24 := by kernel_rfl
theorem ze13 : zeroT Tryd.prog 13 = some (.agg [.str [], .int .u64 0]) := by kernel_rfl
theorem fa13_0 (a : AV) : aFieldAddr Tryd.prog 13 0 a = fieldOff 0 a := by cases a <;> kernel_rfl
theorem fd13_0 (a : AV) : aField Tryd.prog 13 0 a = fieldVal Tryd.prog 9 0 a := by cases a <;> kernel_rfl
theorem fa13_1 (a : AV) : aFieldAddr Tryd.prog 13 1 a = fieldOff 1 a := by cases a <;> kernel_rfl
theorem fd13_1 (a : AV) : aField Tryd.prog 13 1 a = fieldVal Tryd.prog 12 1 a := by cases a <;> kernel_rfl
theorem bu13 (ps : List (Nat × AV)) : aBuild Tryd.prog 13 ps = (fillA (fun i => [(0, 1), (1, 1)][i]?) (AV.cells (.agg [.str [], .int .u64 0])) ps).map .agg := by kernel_rfl
theorem ag14 : isAggT Tryd.prog 14 = some true := by kernel_rfl
theorem sz14 : sizeT Tryd.prog 14 = some 2 := by kernel_rfl
theorem by14 : bytesT Tryd.prog 14 = some 24 := by kernel_rfl
theorem ze14 : zeroT Tryd.prog 14 = some (.agg [.str [], .int .u64 0]) := by kernel_rfl
theorem fa14_0 (a : AV) : aFieldAddr Tryd.prog 14 0 a = fieldOff 0 a := by cases a <;> kernel_rfl
theorem fd14_0 (a : AV) : aField Tryd.prog 14 0 a = fieldVal Tryd.prog 9 0 a := by cases a <;> kernel_rfl
theorem fa14_1 (a : AV) : aFieldAddr Tryd.prog 14 1 a = fieldOff 1 a := by cases a <;> kernel_rfl
theorem fd14_1 (a : AV) : aField Tryd.prog 14 1 a = fieldVal Tryd.prog 12 1 a := by cases a <;> kernel_rfl
theorem bu14 (ps : List (Nat × AV)) : aBuild Tryd.prog 14 ps = (fillA (fun i => [(0, 1), (1, 1)][i]?) (AV.cells (.agg [.str [], .int .u64 0])) ps).map .agg := by kernel_rfl
theorem ag15 : isAggT Tryd.prog 15 = some false := by kernel_rfl
theorem sz15 : sizeT Tryd.prog 15 = some 1 := by kernel_rfl
theorem by15 : bytesT Tryd.prog 15 = some 8 := by kernel_rfl
theorem ze15 : zeroT Tryd.prog 15 = some (.nil) := by kernel_rfl
theorem ag16 : isAggT Tryd.prog 16 = some false := by kernel_rfl
theorem sz16 : sizeT Tryd.prog 16 = some 1 := by kernel_rfl
theorem by16 : bytesT Tryd.prog 16 = some 8 := by kernel_rfl
theorem ze16 : zeroT Tryd.prog 16 = some (.nil) := by kernel_rfl
theorem ag17 : isAggT Tryd.prog 17 = some false := by kernel_rfl
theorem sz17 : sizeT Tryd.prog 17 = some 1 := by kernel_rfl
theorem by17 : bytesT Tryd.prog 17 = some 8 := by kernel_rfl
theorem ze17 : zeroT Tryd.prog 17 = some (.nil) := by kernel_rfl
theorem ag18 : isAggT Tryd.prog 18 = some true := by kernel_rfl
theorem sz18 : sizeT Tryd.prog 18 = some 1 := by kernel_rfl
theorem by18 : bytesT Tryd.prog 18 = some 8 := by kernel_rfl
theorem ze18 : zeroT Tryd.prog 18 = some (.agg [.nil]) := by kernel_rfl
theorem fa18_0 (a : AV) : aFieldAddr Tryd.prog 18 0 a = fieldOff 0 a := by cases a <;> kernel_rfl
theorem fd18_0 (a : AV) : aField Tryd.prog 18 0 a = fieldVal Tryd.prog 17 0 a := by cases a <;> kernel_rfl
theorem bu18 (ps : List (Nat × AV)) : aBuild Tryd.prog 18 ps = (fillA (fun i => [(0, 1)][i]?) (AV.cells (.agg [.nil])) ps).map .agg := by kernel_rfl
theorem ag19 : isAggT Tryd.prog 19 = some true := by kernel_rfl
theorem sz19 : sizeT Tryd.prog 19 = some 1 := by kernel_rfl
theorem by19 : bytesT Tryd.prog 19 = some 8 := by kernel_rfl
theorem ze19 : zeroT Tryd.prog 19 = some (.agg [.nil]) := by kernel_rfl
theorem fa19_0 (a : AV) : aFieldAddr Tryd.prog 19 0 a = fieldOff 0 a := by cases a <;> kernel_rfl
theorem fd19_0 (a : AV) : aField Tryd.prog 19 0 a = fieldVal Tryd.prog 17 0 a := by cases a <;> kernel_rfl
theorem bu19 (ps : List (Nat × AV)) : aBuild Tryd.prog 19 ps = (fillA (fun i => [(0, 1)][i]?) (AV.cells (.agg [.nil])) ps).map .agg := by kernel_rfl
theorem ag20 : isAggT Tryd.prog 20 = some false := by kernel_rfl
theorem sz20 : sizeT Tryd.prog 20 = some 1 := by kernel_rfl
theorem by20 : bytesT Tryd.prog 20 = some 16 := by kernel_rfl
theorem ze20 : zeroT Tryd.prog 20 = some (.nilI) := by kernel_rfl
theorem ag21 : isAggT Tryd.prog 21 = some false := by kernel_rfl
theorem sz21 : sizeT Tryd.prog 21 = some 1 := by kernel_rfl
theorem by21 : bytesT Tryd.prog 21 = some 4 := by kernel_rfl
theorem ze21 : zeroT Tryd.prog 21 = some (.int .i32 0) := by kernel_rfl
theorem ag22 : isAggT Tryd.prog 22 = some false := by kernel_rfl
theorem sz22 : sizeT Tryd.prog 22 = some 1 := by kernel_rfl
theorem by22 : bytesT Tryd.prog 22 = some 24 := by kernel_rfl
theorem se22 : sliceElem Tryd.prog 22 = some 25 := by kernel_rfl
theorem ze22 : zeroT Tryd.prog 22 = some (.nilS) := by kernel_rfl
theorem ag23 : isAggT Tryd.prog 23 = some false := by kernel_rfl
theorem sz23 : sizeT Tryd.prog 23 = some 1 := by kernel_rfl
theorem by23 : bytesT Tryd.prog 23 = some 24 := by kernel_rfl
theorem se23 : sliceElem Tryd.prog 23 = some 9 := by kernel_rfl
theorem ze23 : zeroT Tryd.prog 23 = some (.nilS) := by kernel_rfl
theorem ag24 : isAggT Tryd.prog 24 = some true := by kernel_rfl
theorem sz24 : sizeT Tryd.prog 24 = some 6 := by kernel_rfl
theorem by24 : bytesT Tryd.prog 24 = some 88 := by kernel_rfl
theorem ze24 : zeroT Tryd.prog 24 = some (.agg [.int .i64 0, .bool false, .int .i64 0, .str [], .nilS, .nilS]) := by kernel_rfl
theorem fa24_0 (a : AV) : aFieldAddr Tryd.prog 24 0 a = fieldOff 0 a := by cases a <;> kernel_rfl
theorem fd24_0 (a : AV) : aField Tryd.prog 24 0 a = fieldVal Tryd.prog 3 0 a := by cases a <;> kernel_rfl
theorem fa24_1 (a : AV) : aFieldAddr Tryd.prog 24 1 a = fieldOff 1 a := by cases a <;> kernel_rfl
theorem fd24_1 (a : AV) : aField Tryd.prog 24 1 a = fieldVal Tryd.prog 4 1 a := by cases a <;> kernel_rfl
theorem fa24_2 (a : AV) : aFieldAddr Tryd.prog 24 2 a = fieldOff 2 a := by cases a <;> kernel_rfl
theorem fd24_2 (a : AV) : aField Tryd.prog 24 2 a = fieldVal Tryd.prog 2 2 a := by cases a <;> kernel_rfl
theorem fa24_3 (a : AV) : aFieldAddr Tryd.prog 24 3 a = fieldOff 3 a := by cases a <;> kernel_rfl
theorem fd24_3 (a : AV) : aField Tryd.prog 24 3 a = fieldVal Tryd.prog 9 3 a := by cases a <;> kernel_rfl
theorem fa24_4 (a : AV) : aFieldAddr Tryd.prog 24 4 a = fieldOff 4 a := by cases a <;> kernel_rfl
theorem fd24_4 (a : AV) : aField Tryd.prog 24 4 a = fieldVal Tryd.prog 22 4 a := by cases a <;> kernel_rfl
theorem fa24_5 (a : AV) : aFieldAddr Tryd.prog 24 5 a = fieldOff 5 a := by cases a <;> kernel_rfl
theorem fd24_5 (a : AV) : aField Tryd.prog 24 5 a = fieldVal Tryd.prog 23 5 a := by cases a <;> kernel_rfl
theorem bu24 (ps : List (Nat × AV)) : aBuild Tryd.prog 24 ps = (fillA (fun i => [(0, 1), (1, 1), (2, 1), (3, 1), (4, 1), (5, 1)][i]?) (AV.cells (.agg [.int .i64 0, .bool false, .int .i64 0, .str [], .nilS, .nilS])) ps).map .agg := by kernel_rfl
theorem ag25 : isAggT Tryd.prog 25 = some true := by kernel_rfl
theorem sz25 : sizeT Tryd.prog 25 = some 6 := by kernel_rfl
theorem by25 : bytesT Tryd.prog 25 = some 88 := by kernel_rfl
theorem ze25 : zeroT Tryd.prog 25 = some (.agg [.int .i64 0, .bool false, .int .i64 0, .str [], .nilS, .nilS]) := by kernel_rfl
theorem fa25_0 (a : AV) : aFieldAddr Tryd.prog 25 0 a = fieldOff 0 a := by cases a <;> kernel_rfl
theorem fd25_0 (a : AV) : aField Tryd.prog 25 0 a = fieldVal Tryd.prog 3 0 a := by cases a <;> kernel_rfl
theorem fa25_1 (a : AV) : aFieldAddr Tryd.prog 25 1 a = fieldOff 1 a := by cases a <;> kernel_rfl
theorem fd25_1 (a : AV) : aField Tryd.prog 25 1 a = fieldVal Tryd.prog 4 1 a := by cases a <;> kernel_rfl
theorem fa25_2 (a : AV) : aFieldAddr Tryd.prog 25 2 a = fieldOff 2 a := by cases a <;> kernel_rfl
theorem fd25_2 (a : AV) : aField Tryd.prog 25 2 a = fieldVal Tryd.prog 2 2 a := by cases a <;> kernel_rfl
theorem fa25_3 (a : AV) : aFieldAddr Tryd.prog 25 3 a = fieldOff 3 a := by cases a <;> kernel_rfl
theorem fd25_3 (a : AV) : aField Tryd.prog 25 3 a = fieldVal Tryd.prog 9 3 a := by cases a <;> kernel_rfl
theorem fa25_4 (a : AV) : aFieldAddr Tryd.prog 25 4 a = fieldOff 4 a := by cases a <;> kernel_rfl
theorem fd25_4 (a : AV) : aField Tryd.prog 25 4 a = fieldVal Tryd.prog 22 4 a := by cases a <;> kernel_rfl
theorem fa25_5 (a : AV) : aFieldAddr Tryd.prog 25 5 a = fieldOff 5 a := by cases a <;> kernel_rfl
theorem fd25_5 (a : AV) : aField Tryd.prog 25 5 a = fieldVal Tryd.prog 23 5 a := by cases a <;> kernel_rfl
theorem bu25 (ps : List (Nat × AV)) : aBuild Tryd.prog 25 ps = (fillA (fun i => [(0, 1), (1, 1), (2, 1), (3, 1), (4, 1), (5, 1)][i]?) (AV.cells (.agg [.int .i64 0, .bool false, .int .i64 0, .str [], .nilS, .nilS])) ps).map .agg := by kernel_rfl
theorem ag26 : isAggT Tryd.prog 26 = some false := by kernel_rfl
theorem sz26 : sizeT Tryd.prog 26 = some 1 := by kernel_rfl
theorem by26 : bytesT Tryd.prog 26 = some 8 := by kernel_rfl
theorem ze26 : zeroT Tryd.prog 26 = some (.nilF) := by kernel_rfl
theorem ag27 : isAggT Tryd.prog 27 = some false := by kernel_rfl
theorem sz27 : sizeT Tryd.prog 27 = some 1 := by kernel_rfl
theorem by27 : bytesT Tryd.prog 27 = some 8 := by kernel_rfl
theorem ze27 : zeroT Tryd.prog 27 = some (.nilF) := by kernel_rfl
theorem ag28 : isAggT Tryd.prog 28 = some false := by kernel_rfl
theorem sz28 : sizeT Tryd.prog 28 = some 1 := by kernel_rfl
theorem by28 : bytesT Tryd.prog 28 = some 8 := by kernel_rfl
theorem ze28 : zeroT Tryd.prog 28 = some (.nilF) := by kernel_rfl
theorem ag29 : isAggT Tryd.prog 29 = some false := by kernel_rfl
theorem sz29 : sizeT Tryd.prog 29 = some 1 := by kernel_rfl
theorem by29 : bytesT Tryd.prog 29 = some 8 := by kernel_rfl
theorem ze29 : zeroT Tryd.prog 29 = some (.nilF) := by kernel_rfl
theorem ag30 : isAggT Tryd.prog 30 = some false := by kernel_rfl
theorem sz30 : sizeT Tryd.prog 30 = some 1 := by kernel_rfl
theorem by30 : bytesT Tryd.prog 30 = some 8 := by kernel_rfl
theorem ze30 : zeroT Tryd.prog 30 = some (.nilF) := by kernel_rfl
theorem ag31 : isAggT Tryd.prog 31 = some false := by kernel_rfl
theorem sz31 : sizeT Tryd.prog 31 = some 1 := by kernel_rfl
theorem by31 : bytesT Tryd.prog 31 = some 8 := by kernel_rfl
theorem ze31 : zeroT Tryd.prog 31 = some (.nilF) := by kernel_rfl
theorem ag32 : isAggT Tryd.prog 32 = some false := by kernel_rfl
theorem sz32 : sizeT Tryd.prog 32 = some 1 := by kernel_rfl
theorem by32 : bytesT Tryd.prog 32 = some 8 := by kernel_rfl
theorem ze32 : zeroT Tryd.prog 32 = some (.nilF) := by kernel_rfl
theorem ag33 : isAggT Tryd.prog 33 = some false := by kernel_rfl
theorem sz33 : sizeT Tryd.prog 33 = some 1 := by kernel_rfl
theorem by33 : bytesT Tryd.prog 33 = some 8 := by kernel_rfl
theorem ze33 : zeroT Tryd.prog 33 = some (.int .i64 0) := by kernel_rfl
theorem ag34 : isAggT Tryd.prog 34 = some false := by kernel_rfl
theorem sz34 : sizeT Tryd.prog 34 = some 1 := by kernel_rfl
theorem by34 : bytesT Tryd.prog 34 = some 0 := by kernel_rfl
theorem ag35 : isAggT Tryd.prog 35 = some false := by kernel_rfl
theorem sz35 : sizeT Tryd.prog 35 = some 1 := by kernel_rfl
theorem by35 : bytesT Tryd.prog 35 = some 8 := by kernel_rfl
theorem ze35 : zeroT Tryd.prog 35 = some (.nilF) := by kernel_rfl
theorem ag36 : isAggT Tryd.prog 36 = some false := by kernel_rfl
theorem sz36 : sizeT Tryd.prog 36 = some 1 := by kernel_rfl
theorem by36 : bytesT Tryd.prog 36 = some 8 := by kernel_rfl
theorem ze36 : zeroT Tryd.prog 36 = some (.nilF) := by kernel_rfl
theorem ag37 : isAggT Tryd.prog 37 = some false := by kernel_rfl
theorem sz37 : sizeT Tryd.prog 37 = some 1 := by kernel_rfl
theorem by37 : bytesT Tryd.prog 37 = some 8 := by kernel_rfl
theorem ze37 : zeroT Tryd.prog 37 = some (.nilF) := by kernel_rfl
theorem ag38 : isAggT Tryd.prog 38 = some false := by kernel_rfl
theorem sz38 : sizeT Tryd.prog 38 = some 1 := by kernel_rfl
theorem by38 : bytesT Tryd.prog 38 = some 8 := by kernel_rfl
theorem ze38 : zeroT Tryd.prog 38 = some (.nilF) := by kernel_rfl
theorem ag39 : isAggT Tryd.prog 39 = some false := by kernel_rfl
theorem sz39 : sizeT Tryd.prog 39 = some 1 := by kernel_rfl
theorem by39 : bytesT Tryd.prog 39 = some 24 := by kernel_rfl
theorem se39 : sliceElem Tryd.prog 39 = some 41 := by kernel_rfl
theorem ze39 : zeroT Tryd.prog 39 = some (.nilS) := by kernel_rfl
theorem ag40 : isAggT Tryd.prog 40 = some true := by kernel_rfl
theorem sz40 : sizeT Tryd.prog 40 = some 6 := by kernel_rfl
theorem by40 : bytesT Tryd.prog 40 = some 88 := by kernel_rfl
theorem ze40 : zeroT Tryd.prog 40 = some (.agg [.int .i64 0, .bool false, .int .i64 0, .str [], .nilS, .nilS]) := by kernel_rfl
theorem fa40_0 (a : AV) : aFieldAddr Tryd.prog 40 0 a = fieldOff 0 a := by cases a <;> kernel_rfl
theorem fd40_0 (a : AV) : aField Tryd.prog 40 0 a = fieldVal Tryd.prog 3 0 a := by cases a <;> kernel_rfl
theorem fa40_1 (a : AV) : aFieldAddr Tryd.prog 40 1 a = fieldOff 1 a := by cases a <;> kernel_rfl
theorem fd40_1 (a : AV) : aField Tryd.prog 40 1 a = fieldVal Tryd.prog 4 1 a := by cases a <;> kernel_rfl
theorem fa40_2 (a : AV) : aFieldAddr Tryd.prog 40 2 a = fieldOff 2 a := by cases a <;> kernel_rfl
theorem fd40_2 (a : AV) : aField Tryd.prog 40 2 a = fieldVal Tryd.prog 2 2 a := by cases a <;> kernel_rfl
theorem fa40_3 (a : AV) : aFieldAddr Tryd.prog 40 3 a = fieldOff 3 a := by cases a <;> kernel_rfl
theorem fd40_3 (a : AV) : aField Tryd.prog 40 3 a = fieldVal Tryd.prog 9 3 a := by cases a <;> kernel_rfl
theorem fa40_4 (a : AV) : aFieldAddr Tryd.prog 40 4 a = fieldOff 4 a := by cases a <;> kernel_rfl
theorem fd40_4 (a : AV) : aField Tryd.prog 40 4 a = fieldVal Tryd.prog 39 4 a := by cases a <;> kernel_rfl
theorem fa40_5 (a : AV) : aFieldAddr Tryd.prog 40 5 a = fieldOff 5 a := by cases a <;> kernel_rfl
theorem fd40_5 (a : AV) : aField Tryd.prog 40 5 a = fieldVal Tryd.prog 23 5 a := by cases a <;> kernel_rfl
theorem bu40 (ps : List (Nat × AV)) : aBuild Tryd.prog 40 ps = (fillA (fun i => [(0, 1), (1, 1), (2, 1), (3, 1), (4, 1), (5, 1)][i]?) (AV.cells (.agg [.int .i64 0, .bool false, .int .i64 0, .str [], .nilS, .nilS])) ps).map .agg := by kernel_rfl
theorem ag41 : isAggT Tryd.prog 41 = some true := by kernel_rfl
theorem sz41 : sizeT Tryd.prog 41 = some 6 := by kernel_rfl
theorem by41 : bytesT Tryd.prog 41 = some 88 := by kernel_rfl
theorem ze41 : zeroT Tryd.prog 41 = some (.agg [.int .i64 0, .bool false, .int .i64 0, .str [], .nilS, .nilS]) := by kernel_rfl
theorem fa41_0 (a : AV) : aFieldAddr Tryd.prog 41 0 a = fieldOff 0 a := by cases a <;> kernel_rfl
theorem fd41_0 (a : AV) : aField Tryd.prog 41 0 a = fieldVal Tryd.prog 3 0 a := by cases a <;> kernel_rfl
theorem fa41_1 (a : AV) : aFieldAddr Tryd.prog 41 1 a = fieldOff 1 a := by cases a <;> kernel_rfl
theorem fd41_1 (a : AV) : aField Tryd.prog 41 1 a = fieldVal Tryd.prog 4 1 a := by cases a <;> kernel_rfl
theorem fa41_2 (a : AV) : aFieldAddr Tryd.prog 41 2 a = fieldOff 2 a := by cases a <;> kernel_rfl
theorem fd41_2 (a : AV) : aField Tryd.prog 41 2 a = fieldVal Tryd.prog 2 2 a := by cases a <;> kernel_rfl
theorem fa41_3 (a : AV) : aFieldAddr Tryd.prog 41 3 a = fieldOff 3 a := by cases a <;> kernel_rfl
theorem fd41_3 (a : AV) : aField Tryd.prog 41 3 a = fieldVal Tryd.prog 9 3 a := by cases a <;> kernel_rfl
theorem fa41_4 (a : AV) : aFieldAddr Tryd.prog 41 4 a = fieldOff 4 a := by cases a <;> kernel_rfl
theorem fd41_4 (a : AV) : aField Tryd.prog 41 4 a = fieldVal Tryd.prog 39 4 a := by cases a <;> kernel_rfl
theorem fa41_5 (a : AV) : aFieldAddr Tryd.prog 41 5 a = fieldOff 5 a := by cases a <;> kernel_rfl
theorem fd41_5 (a : AV) : aField Tryd.prog 41 5 a = fieldVal Tryd.prog 23 5 a := by cases a <;> kernel_rfl
theorem bu41 (ps : List (Nat × AV)) : aBuild Tryd.prog 41 ps = (fillA (fun i => [(0, 1), (1, 1), (2, 1), (3, 1), (4, 1), (5, 1)][i]?) (AV.cells (.agg [.int .i64 0, .bool false, .int .i64 0, .str [], .nilS, .nilS])) ps).map .agg := by kernel_rfl
theorem ag42 : isAggT Tryd.prog 42 = some false := by kernel_rfl
theorem sz42 : sizeT Tryd.prog 42 = some 1 := by kernel_rfl
theorem by42 : bytesT Tryd.prog 42 = some 8 := by kernel_rfl
theorem ze42 : zeroT Tryd.prog 42 = some (.nilF) := by kernel_rfl
theorem ag43 : isAggT Tryd.prog 43 = some false := by kernel_rfl
theorem sz43 : sizeT Tryd.prog 43 = some 1 := by kernel_rfl
theorem by43 : bytesT Tryd.prog 43 = some 8 := by kernel_rfl
theorem ze43 : zeroT Tryd.prog 43 = some (.nilF) := by kernel_rfl
theorem ag44 : isAggT Tryd.prog 44 = some false := by kernel_rfl
theorem sz44 : sizeT Tryd.prog 44 = some 1 := by kernel_rfl
theorem by44 : bytesT Tryd.prog 44 = some 8 := by kernel_rfl
theorem ze44 : zeroT Tryd.prog 44 = some (.nilF) := by kernel_rfl
theorem ag45 : isAggT Tryd.prog 45 = some false := by kernel_rfl
theorem sz45 : sizeT Tryd.prog 45 = some 1 := by kernel_rfl
theorem by45 : bytesT Tryd.prog 45 = some 8 := by kernel_rfl
theorem ze45 : zeroT Tryd.prog 45 = some (.nilF) := by kernel_rfl
theorem ag46 : isAggT Tryd.prog 46 = some false := by kernel_rfl
theorem sz46 : sizeT Tryd.prog 46 = some 1 := by kernel_rfl
theorem by46 : bytesT Tryd.prog 46 = some 8 := by kernel_rfl
theorem ze46 : zeroT Tryd.prog 46 = some (.nilF) := by kernel_rfl
theorem ag47 : isAggT Tryd.prog 47 = some false := by kernel_rfl
theorem sz47 : sizeT Tryd.prog 47 = some 1 := by kernel_rfl
theorem by47 : bytesT Tryd.prog 47 = some 8 := by kernel_rfl
theorem ze47 : zeroT Tryd.prog 47 = some (.nil) := by kernel_rfl
theorem ag48 : isAggT Tryd.prog 48 = some true := by kernel_rfl
theorem sz48 : sizeT Tryd.prog 48 = some 5 := by kernel_rfl
theorem by48 : bytesT Tryd.prog 48 = some 48 := by kernel_rfl
theorem ze48 : zeroT Tryd.prog 48 = some (.agg [.int .i64 0, .int .i64 0, .int .i64 0, .str [], .int .i64 0]) := by kernel_rfl
theorem fa48_0 (a : AV) : aFieldAddr Tryd.prog 48 0 a = fieldOff 0 a := by cases a <;> kernel_rfl
theorem fd48_0 (a : AV) : aField Tryd.prog 48 0 a = fieldVal Tryd.prog 3 0 a := by cases a <;> kernel_rfl
theorem fa48_1 (a : AV) : aFieldAddr Tryd.prog 48 1 a = fieldOff 1 a := by cases a <;> kernel_rfl
theorem fd48_1 (a : AV) : aField Tryd.prog 48 1 a = fieldVal Tryd.prog 3 1 a := by cases a <;> kernel_rfl
theorem fa48_2 (a : AV) : aFieldAddr Tryd.prog 48 2 a = fieldOff 2 a := by cases a <;> kernel_rfl
theorem fd48_2 (a : AV) : aField Tryd.prog 48 2 a = fieldVal Tryd.prog 3 2 a := by cases a <;> kernel_rfl
theorem fa48_3 (a : AV) : aFieldAddr Tryd.prog 48 3 a = fieldOff 3 a := by cases a <;> kernel_rfl
theorem fd48_3 (a : AV) : aField Tryd.prog 48 3 a = fieldVal Tryd.prog 9 3 a := by cases a <;> kernel_rfl
theorem fa48_4 (a : AV) : aFieldAddr Tryd.prog 48 4 a = fieldOff 4 a := by cases a <;> kernel_rfl
theorem fd48_4 (a : AV) : aField Tryd.prog 48 4 a = fieldVal Tryd.prog 2 4 a := by cases a <;> kernel_rfl
theorem bu48 (ps : List (Nat × AV)) : aBuild Tryd.prog 48 ps = (fillA (fun i => [(0, 1), (1, 1), (2, 1), (3, 1), (4, 1)][i]?) (AV.cells (.agg [.int .i64 0, .int .i64 0, .int .i64 0, .str [], .int .i64 0])) ps).map .agg := by kernel_rfl
theorem ag49 : isAggT Tryd.prog 49 = some true := by kernel_rfl
theorem sz49 : sizeT Tryd.prog 49 = some 5 := by kernel_rfl
theorem by49 : bytesT Tryd.prog 49 = some 48 := by kernel_rfl
theorem ze49 : zeroT Tryd.prog 49 = some (.agg [.int .i64 0, .int .i64 0, .int .i64 0, .str [], .int .i64 0]) := by kernel_rfl
theorem fa49_0 (a : AV) : aFieldAddr Tryd.prog 49 0 a = fieldOff 0 a := by cases a <;> kernel_rfl
theorem fd49_0 (a : AV) : aField Tryd.prog 49 0 a = fieldVal Tryd.prog 3 0 a := by cases a <;> kernel_rfl
theorem fa49_1 (a : AV) : aFieldAddr Tryd.prog 49 1 a = fieldOff 1 a := by cases a <;> kernel_rfl
theorem fd49_1 (a : AV) : aField Tryd.prog 49 1 a = fieldVal Tryd.prog 3 1 a := by cases a <;> kernel_rfl
theorem fa49_2 (a : AV) : aFieldAddr Tryd.prog 49 2 a = fieldOff 2 a := by cases a <;> kernel_rfl
theorem fd49_2 (a : AV) : aField Tryd.prog 49 2 a = fieldVal Tryd.prog 3 2 a := by cases a <;> kernel_rfl
theorem fa49_3 (a : AV) : aFieldAddr Tryd.prog 49 3 a = fieldOff 3 a := by cases a <;> kernel_rfl
theorem fd49_3 (a : AV) : aField Tryd.prog 49 3 a = fieldVal Tryd.prog 9 3 a := by cases a <;> kernel_rfl
theorem fa49_4 (a : AV) : aFieldAddr Tryd.prog 49 4 a = fieldOff 4 a := by cases a <;> kernel_rfl
theorem fd49_4 (a : AV) : aField Tryd.prog 49 4 a = fieldVal Tryd.prog 2 4 a := by cases a <;> kernel_rfl
theorem bu49 (ps : List (Nat × AV)) : aBuild Tryd.prog 49 ps = (fillA (fun i => [(0, 1), (1, 1), (2, 1), (3, 1), (4, 1)][i]?) (AV.cells (.agg [.int .i64 0, .int .i64 0, .int .i64 0, .str [], .int .i64 0])) ps).map .agg := by kernel_rfl
theorem ag50 : isAggT Tryd.prog 50 = some true := by kernel_rfl
theorem sz50 : sizeT Tryd.prog 50 = some 9 := by kernel_rfl
theorem by50 : bytesT Tryd.prog 50 = some 88 := by kernel_rfl
theorem ze50 : zeroT Tryd.prog 50 = some (.agg [.str [], .int .i64 0, .int .i64 0, .int .i64 0, .str [], .int .i64 0, .int .i64 0, .int .i64 0, .int .i64 0]) := by kernel_rfl
theorem fa50_0 (a : AV) : aFieldAddr Tryd.prog 50 0 a = fieldOff 0 a := by cases a <;> kernel_rfl
theorem fd50_0 (a : AV) : aField Tryd.prog 50 0 a = fieldVal Tryd.prog 9 0 a := by cases a <;> kernel_rfl
theorem fa50_1 (a : AV) : aFieldAddr Tryd.prog 50 1 a = fieldOff 1 a := by cases a <;> kernel_rfl
theorem fd50_1 (a : AV) : aField Tryd.prog 50 1 a = fieldVal Tryd.prog 49 1 a := by cases a <;> kernel_rfl
theorem fa50_2 (a : AV) : aFieldAddr Tryd.prog 50 2 a = fieldOff 6 a := by cases a <;> kernel_rfl
theorem fd50_2 (a : AV) : aField Tryd.prog 50 2 a = fieldVal Tryd.prog 33 6 a := by cases a <;> kernel_rfl
theorem fa50_3 (a : AV) : aFieldAddr Tryd.prog 50 3 a = fieldOff 7 a := by cases a <;> kernel_rfl
theorem fd50_3 (a : AV) : aField Tryd.prog 50 3 a = fieldVal Tryd.prog 3 7 a := by cases a <;> kernel_rfl
theorem fa50_4 (a : AV) : aFieldAddr Tryd.prog 50 4 a = fieldOff 8 a := by cases a <;> kernel_rfl
theorem fd50_4 (a : AV) : aField Tryd.prog 50 4 a = fieldVal Tryd.prog 3 8 a := by cases a <;> kernel_rfl
theorem bu50 (ps : List (Nat × AV)) : aBuild Tryd.prog 50 ps = (fillA (fun i => [(0, 1), (1, 5), (6, 1), (7, 1), (8, 1)][i]?) (AV.cells (.agg [.str [], .int .i64 0, .int .i64 0, .int .i64 0, .str [], .int .i64 0, .int .i64 0, .int .i64 0, .int .i64 0])) ps).map .agg := by kernel_rfl
theorem ag51 : isAggT Tryd.prog 51 = some true := by kernel_rfl
theorem sz51 : sizeT Tryd.prog 51 = some 9 := by kernel_rfl
theorem by51 : bytesT Tryd.prog 51 = some 88 := by kernel_rfl
theorem ze51 : zeroT Tryd.prog 51 = some (.agg [.str [], .int .i64 0, .int .i64 0, .int .i64 0, .str [], .int .i64 0, .int .i64 0, .int .i64 0, .int .i64 0]) := by kernel_rfl
theorem fa51_0 (a : AV) : aFieldAddr Tryd.prog 51 0 a = fieldOff 0 a := by cases a <;> kernel_rfl
theorem fd51_0 (a : AV) : aField Tryd.prog 51 0 a = fieldVal Tryd.prog 9 0 a := by cases a <;> kernel_rfl
theorem fa51_1 (a : AV) : aFieldAddr Tryd.prog 51 1 a = fieldOff 1 a := by cases a <;> kernel_rfl
theorem fd51_1 (a : AV) : aField Tryd.prog 51 1 a = fieldVal Tryd.prog 49 1 a := by cases a <;> kernel_rfl
theorem fa51_2 (a : AV) : aFieldAddr Tryd.prog 51 2 a = fieldOff 6 a := by cases a <;> kernel_rfl
theorem fd51_2 (a : AV) : aField Tryd.prog 51 2 a = fieldVal Tryd.prog 33 6 a := by cases a <;> kernel_rfl
theorem fa51_3 (a : AV) : aFieldAddr Tryd.prog 51 3 a = fieldOff 7 a := by cases a <;> kernel_rfl
theorem fd51_3 (a : AV) : aField Tryd.prog 51 3 a = fieldVal Tryd.prog 3 7 a := by cases a <;> kernel_rfl
theorem fa51_4 (a : AV) : aFieldAddr Tryd.prog 51 4 a = fieldOff 8 a := by cases a <;> kernel_rfl
theorem fd51_4 (a : AV) : aField Tryd.prog 51 4 a = fieldVal Tryd.prog 3 8 a := by cases a <;> kernel_rfl
theorem bu51 (ps : List (Nat × AV)) : aBuild Tryd.prog 51 ps = (fillA (fun i => [(0, 1), (1, 5), (6, 1), (7, 1), (8, 1)][i]?) (AV.cells (.agg [.str [], .int .i64 0, .int .i64 0, .int .i64 0, .str [], .int .i64 0, .int .i64 0, .int .i64 0, .int .i64 0])) ps).map .agg := by kernel_rfl
theorem ag52 : isAggT Tryd.prog 52 = some false := by kernel_rfl
theorem sz52 : sizeT Tryd.prog 52 = some 1 := by kernel_rfl
theorem by52 : bytesT Tryd.prog 52 = some 0 := by kernel_rfl
theorem ag53 : isAggT Tryd.prog 53 = some false := by kernel_rfl
theorem sz53 : sizeT Tryd.prog 53 = some 1 := by kernel_rfl
theorem by53 : bytesT Tryd.prog 53 = some 8 := by kernel_rfl
theorem ze53 : zeroT Tryd.prog 53 = some (.nilF) := by kernel_rfl
theorem ag54 : isAggT Tryd.prog 54 = some false := by kernel_rfl
theorem sz54 : sizeT Tryd.prog 54 = some 1 := by kernel_rfl
theorem by54 : bytesT Tryd.prog 54 = some 8 := by kernel_rfl
theorem ze54 : zeroT Tryd.prog 54 = some (.nilF) := by kernel_rfl
theorem ag55 : isAggT Tryd.prog 55 = some false := by kernel_rfl
theorem sz55 : sizeT Tryd.prog 55 = some 1 := by kernel_rfl
theorem by55 : bytesT Tryd.prog 55 = some 8 := by kernel_rfl
theorem ze55 : zeroT Tryd.prog 55 = some (.nilF) := by kernel_rfl
theorem ag56 : isAggT Tryd.prog 56 = some false := by kernel_rfl
theorem sz56 : sizeT Tryd.prog 56 = some 1 := by kernel_rfl
theorem by56 : bytesT Tryd.prog 56 = some 8 := by kernel_rfl
theorem ze56 : zeroT Tryd.prog 56 = some (.nilF) := by kernel_rfl
theorem ag57 : isAggT Tryd.prog 57 = some false := by kernel_rfl
theorem sz57 : sizeT Tryd.prog 57 = some 1 := by kernel_rfl
theorem by57 : bytesT Tryd.prog 57 = some 8 := by kernel_rfl
theorem ze57 : zeroT Tryd.prog 57 = some (.nilF) := by kernel_rfl
theorem ag58 : isAggT Tryd.prog 58 = some false := by kernel_rfl
theorem sz58 : sizeT Tryd.prog 58 = some 1 := by kernel_rfl
theorem by58 : bytesT Tryd.prog 58 = some 0 := by kernel_rfl
theorem ag59 : isAggT Tryd.prog 59 = some false := by kernel_rfl
theorem sz59 : sizeT Tryd.prog 59 = some 1 := by kernel_rfl
theorem by59 : bytesT Tryd.prog 59 = some 8 := by kernel_rfl
theorem ze59 : zeroT Tryd.prog 59 = some (.nilF) := by kernel_rfl
theorem ag60 : isAggT Tryd.prog 60 = some false := by kernel_rfl
theorem sz60 : sizeT Tryd.prog 60 = some 1 := by kernel_rfl
theorem by60 : bytesT Tryd.prog 60 = some 24 := by kernel_rfl
theorem se60 : sliceElem Tryd.prog 60 = some 67 := by kernel_rfl
theorem ze60 : zeroT Tryd.prog 60 = some (.nilS) := by kernel_rfl
theorem ag61 : isAggT Tryd.prog 61 = some false := by kernel_rfl
theorem sz61 : sizeT Tryd.prog 61 = some 1 := by kernel_rfl
theorem by61 : bytesT Tryd.prog 61 = some 0 := by kernel_rfl
theorem ag62 : isAggT Tryd.prog 62 = some false := by kernel_rfl
theorem sz62 : sizeT Tryd.prog 62 = some 1 := by kernel_rfl
theorem by62 : bytesT Tryd.prog 62 = some 8 := by kernel_rfl
theorem ze62 : zeroT Tryd.prog 62 = some (.nilF) := by kernel_rfl
theorem ag63 : isAggT Tryd.prog 63 = some false := by kernel_rfl
theorem sz63 : sizeT Tryd.prog 63 = some 1 := by kernel_rfl
theorem by63 : bytesT Tryd.prog 63 = some 0 := by kernel_rfl
theorem ag64 : isAggT Tryd.prog 64 = some false := by kernel_rfl
theorem sz64 : sizeT Tryd.prog 64 = some 1 := by kernel_rfl
theorem by64 : bytesT Tryd.prog 64 = some 8 := by kernel_rfl
theorem ze64 : zeroT Tryd.prog 64 = some (.nilF) := by kernel_rfl
theorem ag65 : isAggT Tryd.prog 65 = some false := by kernel_rfl
theorem sz65 : sizeT Tryd.prog 65 = some 1 := by kernel_rfl
theorem by65 : bytesT Tryd.prog 65 = some 8 := by kernel_rfl
theorem ze65 : zeroT Tryd.prog 65 = some (.nil) := by kernel_rfl
theorem ag66 : isAggT Tryd.prog 66 = some true := by kernel_rfl
theorem sz66 : sizeT Tryd.prog 66 = some 8 := by kernel_rfl
theorem by66 : bytesT Tryd.prog 66 = some 112 := by kernel_rfl
theorem ze66 : zeroT Tryd.prog 66 = some (.agg [.int .i64 0, .bool false, .int .i64 0, .str [], .nilS, .nilS, .int .i64 0, .str []]) := by kernel_rfl
theorem fa66_0 (a : AV) : aFieldAddr Tryd.prog 66 0 a = fieldOff 0 a := by cases a <;> kernel_rfl
theorem fd66_0 (a : AV) : aField Tryd.prog 66 0 a = fieldVal Tryd.prog 25 0 a := by cases a <;> kernel_rfl
theorem fa66_1 (a : AV) : aFieldAddr Tryd.prog 66 1 a = fieldOff 6 a := by cases a <;> kernel_rfl
theorem fd66_1 (a : AV) : aField Tryd.prog 66 1 a = fieldVal Tryd.prog 3 6 a := by cases a <;> kernel_rfl
theorem fa66_2 (a : AV) : aFieldAddr Tryd.prog 66 2 a = fieldOff 7 a := by cases a <;> kernel_rfl
theorem fd66_2 (a : AV) : aField Tryd.prog 66 2 a = fieldVal Tryd.prog 9 7 a := by cases a <;> kernel_rfl
theorem bu66 (ps : List (Nat × AV)) : aBuild Tryd.prog 66 ps = (fillA (fun i => [(0, 6), (6, 1), (7, 1)][i]?) (AV.cells (.agg [.int .i64 0, .bool false, .int .i64 0, .str [], .nilS, .nilS, .int .i64 0, .str []])) ps).map .agg := by kernel_rfl
theorem ag67 : isAggT Tryd.prog 67 = some true := by kernel_rfl
theorem sz67 : sizeT Tryd.prog 67 = some 8 := by kernel_rfl
theorem by67 : bytesT Tryd.prog 67 = some 112 := by kernel_rfl
theorem ze67 : zeroT Tryd.prog 67 = some (.agg [.int .i64 0, .bool false, .int .i64 0, .str [], .nilS, .nilS, .int .i64 0, .str []]) := by kernel_rfl
theorem fa67_0 (a : AV) : aFieldAddr Tryd.prog 67 0 a = fieldOff 0 a := by cases a <;> kernel_rfl
theorem fd67_0 (a : AV) : aField Tryd.prog 67 0 a = fieldVal Tryd.prog 25 0 a := by cases a <;> kernel_rfl
theorem fa67_1 (a : AV) : aFieldAddr Tryd.prog 67 1 a = fieldOff 6 a := by cases a <;> kernel_rfl
theorem fd67_1 (a : AV) : aField Tryd.prog 67 1 a = fieldVal Tryd.prog 3 6 a := by cases a <;> kernel_rfl
theorem fa67_2 (a : AV) : aFieldAddr Tryd.prog 67 2 a = fieldOff 7 a := by cases a <;> kernel_rfl
theorem fd67_2 (a : AV) : aField Tryd.prog 67 2 a = fieldVal Tryd.prog 9 7 a := by cases a <;> kernel_rfl
theorem bu67 (ps : List (Nat × AV)) : aBuild Tryd.prog 67 ps = (fillA (fun i => [(0, 6), (6, 1), (7, 1)][i]?) (AV.cells (.agg [.int .i64 0, .bool false, .int .i64 0, .str [], .nilS, .nilS, .int .i64 0, .str []])) ps).map .agg := by kernel_rfl
theorem ag68 : isAggT Tryd.prog 68 = some false := by kernel_rfl
theorem sz68 : sizeT Tryd.prog 68 = some 1 := by kernel_rfl
theorem by68 : bytesT Tryd.prog 68 = some 8 := by kernel_rfl
theorem ze68 : zeroT Tryd.prog 68 = some (.nilF) := by kernel_rfl
theorem ag69 : isAggT Tryd.prog 69 = some false := by kernel_rfl
theorem sz69 : sizeT Tryd.prog 69 = some 1 := by kernel_rfl
theorem by69 : bytesT Tryd.prog 69 = some 8 := by kernel_rfl
theorem ze69 : zeroT Tryd.prog 69 = some (.nilF) := by kernel_rfl
theorem ag70 : isAggT Tryd.prog 70 = some false := by kernel_rfl
theorem sz70 : sizeT Tryd.prog 70 = some 1 := by kernel_rfl
theorem by70 : bytesT Tryd.prog 70 = some 8 := by kernel_rfl
theorem ze70 : zeroT Tryd.prog 70 = some (.nilF) := by kernel_rfl
theorem ag71 : isAggT Tryd.prog 71 = some false := by kernel_rfl
theorem sz71 : sizeT Tryd.prog 71 = some 1 := by kernel_rfl
theorem by71 : bytesT Tryd.prog 71 = some 24 := by kernel_rfl
theorem se71 : sliceElem Tryd.prog 71 = some 49 := by kernel_rfl
theorem ze71 : zeroT Tryd.prog 71 = some (.nilS) := by kernel_rfl
theorem ag72 : isAggT Tryd.prog 72 = some false := by kernel_rfl
theorem sz72 : sizeT Tryd.prog 72 = some 1 := by kernel_rfl
theorem by72 : bytesT Tryd.prog 72 = some 0 := by kernel_rfl
theorem ag73 : isAggT Tryd.prog 73 = some false := by kernel_rfl
theorem sz73 : sizeT Tryd.prog 73 = some 1 := by kernel_rfl
theorem by73 : bytesT Tryd.prog 73 = some 8 := by kernel_rfl
theorem ze73 : zeroT Tryd.prog 73 = some (.nilF) := by kernel_rfl
theorem ag74 : isAggT Tryd.prog 74 = some false := by kernel_rfl
theorem sz74 : sizeT Tryd.prog 74 = some 1 := by kernel_rfl
theorem by74 : bytesT Tryd.prog 74 = some 8 := by kernel_rfl
theorem ze74 : zeroT Tryd.prog 74 = some (.nilF) := by kernel_rfl
theorem ag75 : isAggT Tryd.prog 75 = some false := by kernel_rfl
theorem sz75 : sizeT Tryd.prog 75 = some 1 := by kernel_rfl
theorem by75 : bytesT Tryd.prog 75 = some 8 := by kernel_rfl
theorem ze75 : zeroT Tryd.prog 75 = some (.nilF) := by kernel_rfl
theorem ag76 : isAggT Tryd.prog 76 = some false := by kernel_rfl
theorem sz76 : sizeT Tryd.prog 76 = some 1 := by kernel_rfl
theorem by76 : bytesT Tryd.prog 76 = some 16 := by kernel_rfl
theorem ze76 : zeroT Tryd.prog 76 = some (.nilI) := by kernel_rfl
theorem ag77 : isAggT Tryd.prog 77 = some false := by kernel_rfl
theorem sz77 : sizeT Tryd.prog 77 = some 1 := by kernel_rfl
theorem by77 : bytesT Tryd.prog 77 = some 16 := by kernel_rfl
theorem ze77 : zeroT Tryd.prog 77 = some (.nilI) := by kernel_rfl
theorem ag78 : isAggT Tryd.prog 78 = some false := by kernel_rfl
theorem sz78 : sizeT Tryd.prog 78 = some 1 := by kernel_rfl
theorem by78 : bytesT Tryd.prog 78 = some 0 := by kernel_rfl
theorem ag79 : isAggT Tryd.prog 79 = some false := by kernel_rfl
theorem sz79 : sizeT Tryd.prog 79 = some 1 := by kernel_rfl
theorem by79 : bytesT Tryd.prog 79 = some 8 := by kernel_rfl
theorem ze79 : zeroT Tryd.prog 79 = some (.nilF) := by kernel_rfl
theorem ag80 : isAggT Tryd.prog 80 = some false := by kernel_rfl
theorem sz80 : sizeT Tryd.prog 80 = some 1 := by kernel_rfl
theorem by80 : bytesT Tryd.prog 80 = some 8 := by kernel_rfl
theorem ze80 : zeroT Tryd.prog 80 = some (.nilF) := by kernel_rfl
theorem ag81 : isAggT Tryd.prog 81 = some false := by kernel_rfl
theorem sz81 : sizeT Tryd.prog 81 = some 1 := by kernel_rfl
theorem by81 : bytesT Tryd.prog 81 = some 8 := by kernel_rfl
theorem ze81 : zeroT Tryd.prog 81 = some (.nilF) := by kernel_rfl
theorem ag82 : isAggT Tryd.prog 82 = some false := by kernel_rfl
theorem sz82 : sizeT Tryd.prog 82 = some 1 := by kernel_rfl
theorem by82 : bytesT Tryd.prog 82 = some 8 := by kernel_rfl
theorem ze82 : zeroT Tryd.prog 82 = some (.nilF) := by kernel_rfl
theorem ag83 : isAggT Tryd.prog 83 = some false := by kernel_rfl
theorem sz83 : sizeT Tryd.prog 83 = some 1 := by kernel_rfl
theorem by83 : bytesT Tryd.prog 83 = some 8 := by kernel_rfl
theorem ze83 : zeroT Tryd.prog 83 = some (.nilF) := by kernel_rfl
theorem ag84 : isAggT Tryd.prog 84 = some false := by kernel_rfl
theorem sz84 : sizeT Tryd.prog 84 = some 1 := by kernel_rfl
theorem by84 : bytesT Tryd.prog 84 = some 0 := by kernel_rfl
theorem ag85 : isAggT Tryd.prog 85 = some false := by kernel_rfl
theorem sz85 : sizeT Tryd.prog 85 = some 1 := by kernel_rfl
theorem by85 : bytesT Tryd.prog 85 = some 8 := by kernel_rfl
theorem ze85 : zeroT Tryd.prog 85 = some (.nilF) := by kernel_rfl
theorem ag86 : isAggT Tryd.prog 86 = some false := by kernel_rfl
theorem sz86 : sizeT Tryd.prog 86 = some 1 := by kernel_rfl
theorem by86 : bytesT Tryd.prog 86 = some 0 := by kernel_rfl
theorem ag87 : isAggT Tryd.prog 87 = some false := by kernel_rfl
theorem sz87 : sizeT Tryd.prog 87 = some 1 := by kernel_rfl
theorem by87 : bytesT Tryd.prog 87 = some 8 := by kernel_rfl
theorem ze87 : zeroT Tryd.prog 87 = some (.nilF) := by kernel_rfl
theorem ag88 : isAggT Tryd.prog 88 = some false := by kernel_rfl
theorem sz88 : sizeT Tryd.prog 88 = some 1 := by kernel_rfl
theorem by88 : bytesT Tryd.prog 88 = some 8 := by kernel_rfl
theorem ze88 : zeroT Tryd.prog 88 = some (.nilF) := by kernel_rfl
theorem ag89 : isAggT Tryd.prog 89 = some false := by kernel_rfl
theorem sz89 : sizeT Tryd.prog 89 = some 1 := by kernel_rfl
theorem by89 : bytesT Tryd.prog 89 = some 8 := by kernel_rfl
theorem ze89 : zeroT Tryd.prog 89 = some (.nilF) := by kernel_rfl
theorem ag90 : isAggT Tryd.prog 90 = some false := by kernel_rfl
theorem sz90 : sizeT Tryd.prog 90 = some 1 := by kernel_rfl
theorem by90 : bytesT Tryd.prog 90 = some 8 := by kernel_rfl
theorem ze90 : zeroT Tryd.prog 90 = some (.nilF) := by kernel_rfl
theorem ag91 : isAggT Tryd.prog 91 = some false := by kernel_rfl
theorem sz91 : sizeT Tryd.prog 91 = some 1 := by kernel_rfl
theorem by91 : bytesT Tryd.prog 91 = some 8 := by kernel_rfl
theorem ze91 : zeroT Tryd.prog 91 = some (.nil) := by kernel_rfl
theorem ag92 : isAggT Tryd.prog 92 = some false := by kernel_rfl
theorem sz92 : sizeT Tryd.prog 92 = some 1 := by kernel_rfl
theorem by92 : bytesT Tryd.prog 92 = some 8 := by kernel_rfl
theorem ze92 : zeroT Tryd.prog 92 = some (.nilF) := by kernel_rfl
theorem ag93 : isAggT Tryd.prog 93 = some false := by kernel_rfl
theorem sz93 : sizeT Tryd.prog 93 = some 1 := by kernel_rfl
theorem by93 : bytesT Tryd.prog 93 = some 16 := by kernel_rfl
theorem ze93 : zeroT Tryd.prog 93 = some (.nilI) := by kernel_rfl
theorem ag94 : isAggT Tryd.prog 94 = some false := by kernel_rfl
theorem sz94 : sizeT Tryd.prog 94 = some 1 := by kernel_rfl
theorem by94 : bytesT Tryd.prog 94 = some 16 := by kernel_rfl
theorem ze94 : zeroT Tryd.prog 94 = some (.nilI) := by kernel_rfl
theorem ag95 : isAggT Tryd.prog 95 = some false := by kernel_rfl
theorem sz95 : sizeT Tryd.prog 95 = some 1 := by kernel_rfl
theorem by95 : bytesT Tryd.prog 95 = some 8 := by kernel_rfl
theorem ze95 : zeroT Tryd.prog 95 = some (.nilF) := by kernel_rfl
theorem ag96 : isAggT Tryd.prog 96 = some false := by kernel_rfl
theorem sz96 : sizeT Tryd.prog 96 = some 1 := by kernel_rfl
theorem by96 : bytesT Tryd.prog 96 = some 8 := by kernel_rfl
theorem ze96 : zeroT Tryd.prog 96 = some (.nilF) := by kernel_rfl
theorem ag97 : isAggT Tryd.prog 97 = some false := by kernel_rfl
theorem sz97 : sizeT Tryd.prog 97 = some 1 := by kernel_rfl
theorem by97 : bytesT Tryd.prog 97 = some 24 := by kernel_rfl
theorem se97 : sliceElem Tryd.prog 97 = some 5 := by kernel_rfl
theorem ze97 : zeroT Tryd.prog 97 = some (.nilS) := by kernel_rfl
theorem ag98 : isAggT Tryd.prog 98 = some false := by kernel_rfl
theorem sz98 : sizeT Tryd.prog 98 = some 1 := by kernel_rfl
theorem by98 : bytesT Tryd.prog 98 = some 0 := by kernel_rfl
theorem ag99 : isAggT Tryd.prog 99 = some false := by kernel_rfl
theorem sz99 : sizeT Tryd.prog 99 = some 1 := by kernel_rfl
theorem by99 : bytesT Tryd.prog 99 = some 8 := by kernel_rfl
theorem ze99 : zeroT Tryd.prog 99 = some (.nilF) := by kernel_rfl
theorem ag100 : isAggT Tryd.prog 100 = some false := by kernel_rfl
theorem sz100 : sizeT Tryd.prog 100 = some 1 := by kernel_rfl
theorem by100 : bytesT Tryd.prog 100 = some 0 := by kernel_rfl
theorem ag101 : isAggT Tryd.prog 101 = some false := by kernel_rfl
theorem sz101 : sizeT Tryd.prog 101 = some 1 := by kernel_rfl
theorem by101 : bytesT Tryd.prog 101 = some 8 := by kernel_rfl
theorem ze101 : zeroT Tryd.prog 101 = some (.nilF) := by kernel_rfl
theorem ag102 : isAggT Tryd.prog 102 = some false := by kernel_rfl
theorem sz102 : sizeT Tryd.prog 102 = some 1 := by kernel_rfl
theorem by102 : bytesT Tryd.prog 102 = some 8 := by kernel_rfl
theorem ze102 : zeroT Tryd.prog 102 = some (.int .u64 0) := by kernel_rfl
theorem ag103 : isAggT Tryd.prog 103 = some false := by kernel_rfl
theorem sz103 : sizeT Tryd.prog 103 = some 1 := by kernel_rfl
theorem by103 : bytesT Tryd.prog 103 = some 8 := by kernel_rfl
theorem ze103 : zeroT Tryd.prog 103 = some (.nilF) := by kernel_rfl
theorem ag104 : isAggT Tryd.prog 104 = some false := by kernel_rfl
theorem sz104 : sizeT Tryd.prog 104 = some 1 := by kernel_rfl
theorem by104 : bytesT Tryd.prog 104 = some 0 := by kernel_rfl
theorem ag105 : isAggT Tryd.prog 105 = some false := by kernel_rfl
theorem sz105 : sizeT Tryd.prog 105 = some 1 := by kernel_rfl
theorem by105 : bytesT Tryd.prog 105 = some 8 := by kernel_rfl
theorem ze105 : zeroT Tryd.prog 105 = some (.nilF) := by kernel_rfl
theorem ag106 : isAggT Tryd.prog 106 = some false := by kernel_rfl
theorem sz106 : sizeT Tryd.prog 106 = some 1 := by kernel_rfl
theorem by106 : bytesT Tryd.prog 106 = some 8 := by kernel_rfl
theorem ze106 : zeroT Tryd.prog 106 = some (.nil) := by kernel_rfl
theorem ag107 : isAggT Tryd.prog 107 = some true := by kernel_rfl
theorem sz107 : sizeT Tryd.prog 107 = some 2 := by kernel_rfl
theorem by107 : bytesT Tryd.prog 107 = some 24 := by kernel_rfl
theorem ze107 : zeroT Tryd.prog 107 = some (.agg [.int .i64 0, .nilI]) := by kernel_rfl
theorem fa107_0 (a : AV) : aFieldAddr Tryd.prog 107 0 a = fieldOff 0 a := by cases a <;> kernel_rfl
theorem fd107_0 (a : AV) : aField Tryd.prog 107 0 a = fieldVal Tryd.prog 3 0 a := by cases a <;> kernel_rfl
theorem fa107_1 (a : AV) : aFieldAddr Tryd.prog 107 1 a = fieldOff 1 a := by cases a <;> kernel_rfl
theorem fd107_1 (a : AV) : aField Tryd.prog 107 1 a = fieldVal Tryd.prog 77 1 a := by cases a <;> kernel_rfl
theorem bu107 (ps : List (Nat × AV)) : aBuild Tryd.prog 107 ps = (fillA (fun i => [(0, 1), (1, 1)][i]?) (AV.cells (.agg [.int .i64 0, .nilI])) ps).map .agg := by kernel_rfl
theorem ag108 : isAggT Tryd.prog 108 = some true := by kernel_rfl
theorem sz108 : sizeT Tryd.prog 108 = some 2 := by kernel_rfl
theorem by108 : bytesT Tryd.prog 108 = some 24 := by kernel_rfl
theorem ze108 : zeroT Tryd.prog 108 = some (.agg [.int .i64 0, .nilI]) := by kernel_rfl
theorem fa108_0 (a : AV) : aFieldAddr Tryd.prog 108 0 a = fieldOff 0 a := by cases a <;> kernel_rfl
theorem fd108_0 (a : AV) : aField Tryd.prog 108 0 a = fieldVal Tryd.prog 3 0 a := by cases a <;> kernel_rfl
theorem fa108_1 (a : AV) : aFieldAddr Tryd.prog 108 1 a = fieldOff 1 a := by cases a <;> kernel_rfl
theorem fd108_1 (a : AV) : aField Tryd.prog 108 1 a = fieldVal Tryd.prog 77 1 a := by cases a <;> kernel_rfl
theorem bu108 (ps : List (Nat × AV)) : aBuild Tryd.prog 108 ps = (fillA (fun i => [(0, 1), (1, 1)][i]?) (AV.cells (.agg [.int .i64 0, .nilI])) ps).map .agg := by kernel_rfl
theorem ag109 : isAggT Tryd.prog 109 = some false := by kernel_rfl
theorem sz109 : sizeT Tryd.prog 109 = some 1 := by kernel_rfl
theorem by109 : bytesT Tryd.prog 109 = some 8 := by kernel_rfl
theorem ze109 : zeroT Tryd.prog 109 = some (.nil) := by kernel_rfl
theorem ag110 : isAggT Tryd.prog 110 = some false := by kernel_rfl
theorem sz110 : sizeT Tryd.prog 110 = some 1 := by kernel_rfl
theorem by110 : bytesT Tryd.prog 110 = some 8 := by kernel_rfl
theorem ze110 : zeroT Tryd.prog 110 = some (.int .u64 0) := by kernel_rfl
theorem ag111 : isAggT Tryd.prog 111 = some true := by kernel_rfl
theorem sz111 : sizeT Tryd.prog 111 = some 3 := by kernel_rfl
theorem by111 : bytesT Tryd.prog 111 = some 24 := by kernel_rfl
theorem ze111 : zeroT Tryd.prog 111 = some (.agg [.nil, .nil, .int .u64 0]) := by kernel_rfl
theorem fa111_0 (a : AV) : aFieldAddr Tryd.prog 111 0 a = fieldOff 0 a := by cases a <;> kernel_rfl
theorem fd111_0 (a : AV) : aField Tryd.prog 111 0 a = fieldVal Tryd.prog 17 0 a := by cases a <;> kernel_rfl
theorem fa111_1 (a : AV) : aFieldAddr Tryd.prog 111 1 a = fieldOff 1 a := by cases a <;> kernel_rfl
theorem fd111_1 (a : AV) : aField Tryd.prog 111 1 a = fieldVal Tryd.prog 109 1 a := by cases a <;> kernel_rfl
theorem fa111_2 (a : AV) : aFieldAddr Tryd.prog 111 2 a = fieldOff 2 a := by cases a <;> kernel_rfl
theorem fd111_2 (a : AV) : aField Tryd.prog 111 2 a = fieldVal Tryd.prog 110 2 a := by cases a <;> kernel_rfl
theorem bu111 (ps : List (Nat × AV)) : aBuild Tryd.prog 111 ps = (fillA (fun i => [(0, 1), (1, 1), (2, 1)][i]?) (AV.cells (.agg [.nil, .nil, .int .u64 0])) ps).map .agg := by kernel_rfl
theorem ag112 : isAggT Tryd.prog 112 = some true := by kernel_rfl
theorem sz112 : sizeT Tryd.prog 112 = some 3 := by kernel_rfl
theorem by112 : bytesT Tryd.prog 112 = some 24 := by kernel_rfl
theorem ze112 : zeroT Tryd.prog 112 = some (.agg [.nil, .nil, .int .u64 0]) := by kernel_rfl
theorem fa112_0 (a : AV) : aFieldAddr Tryd.prog 112 0 a = fieldOff 0 a := by cases a <;> kernel_rfl
theorem fd112_0 (a : AV) : aField Tryd.prog 112 0 a = fieldVal Tryd.prog 17 0 a := by cases a <;> kernel_rfl
theorem fa112_1 (a : AV) : aFieldAddr Tryd.prog 112 1 a = fieldOff 1 a := by cases a <;> kernel_rfl
theorem fd112_1 (a : AV) : aField Tryd.prog 112 1 a = fieldVal Tryd.prog 109 1 a := by cases a <;> kernel_rfl
theorem fa112_2 (a : AV) : aFieldAddr Tryd.prog 112 2 a = fieldOff 2 a := by cases a <;> kernel_rfl
theorem fd112_2 (a : AV) : aField Tryd.prog 112 2 a = fieldVal Tryd.prog 110 2 a := by cases a <;> kernel_rfl
theorem bu112 (ps : List (Nat × AV)) : aBuild Tryd.prog 112 ps = (fillA (fun i => [(0, 1), (1, 1), (2, 1)][i]?) (AV.cells (.agg [.nil, .nil, .int .u64 0])) ps).map .agg := by kernel_rfl
theorem ag113 : isAggT Tryd.prog 113 = some false := by kernel_rfl
theorem sz113 : sizeT Tryd.prog 113 = some 1 := by kernel_rfl
theorem by113 : bytesT Tryd.prog 113 = some 8 := by kernel_rfl
theorem ze113 : zeroT Tryd.prog 113 = some (.nilF) := by kernel_rfl
theorem ag114 : isAggT Tryd.prog 114 = some false := by kernel_rfl
theorem sz114 : sizeT Tryd.prog 114 = some 1 := by kernel_rfl
theorem by114 : bytesT Tryd.prog 114 = some 8 := by kernel_rfl
theorem ze114 : zeroT Tryd.prog 114 = some (.nilF) := by kernel_rfl
theorem ag115 : isAggT Tryd.prog 115 = some false := by kernel_rfl
theorem sz115 : sizeT Tryd.prog 115 = some 1 := by kernel_rfl
theorem by115 : bytesT Tryd.prog 115 = some 1 := by kernel_rfl
theorem ze115 : zeroT Tryd.prog 115 = some (.int .u8 0) := by kernel_rfl
theorem ag116 : isAggT Tryd.prog 116 = some false := by kernel_rfl
theorem sz116 : sizeT Tryd.prog 116 = some 1 := by kernel_rfl
theorem by116 : bytesT Tryd.prog 116 = some 8 := by kernel_rfl
theorem ze116 : zeroT Tryd.prog 116 = some (.nilF) := by kernel_rfl
theorem ag117 : isAggT Tryd.prog 117 = some false := by kernel_rfl
theorem sz117 : sizeT Tryd.prog 117 = some 1 := by kernel_rfl
theorem by117 : bytesT Tryd.prog 117 = some 8 := by kernel_rfl
theorem ze117 : zeroT Tryd.prog 117 = some (.nilF) := by kernel_rfl
theorem ag118 : isAggT Tryd.prog 118 = some false := by kernel_rfl
theorem sz118 : sizeT Tryd.prog 118 = some 1 := by kernel_rfl
theorem by118 : bytesT Tryd.prog 118 = some 8 := by kernel_rfl
theorem ze118 : zeroT Tryd.prog 118 = some (.nilF) := by kernel_rfl
theorem ag119 : isAggT Tryd.prog 119 = some true := by kernel_rfl
theorem sz119 : sizeT Tryd.prog 119 = some 1 := by kernel_rfl
theorem by119 : bytesT Tryd.prog 119 = some 8 := by kernel_rfl
theorem ze119 : zeroT Tryd.prog 119 = some (.agg [.nil]) := by kernel_rfl
theorem fa119_0 (a : AV) : aFieldAddr Tryd.prog 119 0 a = fieldOff 0 a := by cases a <;> kernel_rfl
theorem fd119_0 (a : AV) : aField Tryd.prog 119 0 a = fieldVal Tryd.prog 17 0 a := by cases a <;> kernel_rfl
theorem bu119 (ps : List (Nat × AV)) : aBuild Tryd.prog 119 ps = (fillA (fun i => [(0, 1)][i]?) (AV.cells (.agg [.nil])) ps).map .agg := by kernel_rfl
theorem ag120 : isAggT Tryd.prog 120 = some true := by kernel_rfl
theorem sz120 : sizeT Tryd.prog 120 = some 1 := by kernel_rfl
theorem by120 : bytesT Tryd.prog 120 = some 8 := by kernel_rfl
theorem ze120 : zeroT Tryd.prog 120 = some (.agg [.nil]) := by kernel_rfl
theorem fa120_0 (a : AV) : aFieldAddr Tryd.prog 120 0 a = fieldOff 0 a := by cases a <;> kernel_rfl
theorem fd120_0 (a : AV) : aField Tryd.prog 120 0 a = fieldVal Tryd.prog 17 0 a := by cases a <;> kernel_rfl
theorem bu120 (ps : List (Nat × AV)) : aBuild Tryd.prog 120 ps = (fillA (fun i => [(0, 1)][i]?) (AV.cells (.agg [.nil])) ps).map .agg := by kernel_rfl
theorem ag121 : isAggT Tryd.prog 121 = some false := by kernel_rfl
theorem sz121 : sizeT Tryd.prog 121 = some 1 := by kernel_rfl
theorem by121 : bytesT Tryd.prog 121 = some 8 := by kernel_rfl
theorem ze121 : zeroT Tryd.prog 121 = some (.nil) := by kernel_rfl
theorem ag122 : isAggT Tryd.prog 122 = some false := by kernel_rfl
theorem sz122 : sizeT Tryd.prog 122 = some 1 := by kernel_rfl
theorem by122 : bytesT Tryd.prog 122 = some 16 := by kernel_rfl
theorem ze122 : zeroT Tryd.prog 122 = some (.nilI) := by kernel_rfl
theorem ag123 : isAggT Tryd.prog 123 = some false := by kernel_rfl
theorem sz123 : sizeT Tryd.prog 123 = some 1 := by kernel_rfl
theorem by123 : bytesT Tryd.prog 123 = some 0 := by kernel_rfl
theorem ag124 : isAggT Tryd.prog 124 = some false := by kernel_rfl
theorem sz124 : sizeT Tryd.prog 124 = some 1 := by kernel_rfl
theorem by124 : bytesT Tryd.prog 124 = some 8 := by kernel_rfl
theorem ze124 : zeroT Tryd.prog 124 = some (.nilF) := by kernel_rfl
theorem ag125 : isAggT Tryd.prog 125 = some false := by kernel_rfl
theorem sz125 : sizeT Tryd.prog 125 = some 1 := by kernel_rfl
theorem by125 : bytesT Tryd.prog 125 = some 16 := by kernel_rfl
theorem ze125 : zeroT Tryd.prog 125 = some (.nilI) := by kernel_rfl
theorem ag126 : isAggT Tryd.prog 126 = some false := by kernel_rfl
theorem sz126 : sizeT Tryd.prog 126 = some 1 := by kernel_rfl
theorem by126 : bytesT Tryd.prog 126 = some 8 := by kernel_rfl
theorem ze126 : zeroT Tryd.prog 126 = some (.nilF) := by kernel_rfl
theorem ag127 : isAggT Tryd.prog 127 = some false := by kernel_rfl
theorem sz127 : sizeT Tryd.prog 127 = some 1 := by kernel_rfl
theorem by127 : bytesT Tryd.prog 127 = some 16 := by kernel_rfl
theorem ze127 : zeroT Tryd.prog 127 = some (.nilI) := by kernel_rfl
theorem ag128 : isAggT Tryd.prog 128 = some false := by kernel_rfl
theorem sz128 : sizeT Tryd.prog 128 = some 1 := by kernel_rfl
theorem by128 : bytesT Tryd.prog 128 = some 24 := by kernel_rfl
theorem se128 : sliceElem Tryd.prog 128 = some 77 := by kernel_rfl
theorem ze128 : zeroT Tryd.prog 128 = some (.nilS) := by kernel_rfl
theorem ag129 : isAggT Tryd.prog 129 = some false := by kernel_rfl
theorem sz129 : sizeT Tryd.prog 129 = some 1 := by kernel_rfl
theorem by129 : bytesT Tryd.prog 129 = some 8 := by kernel_rfl
theorem ze129 : zeroT Tryd.prog 129 = some (.nilF) := by kernel_rfl
theorem ag130 : isAggT Tryd.prog 130 = some false := by kernel_rfl
theorem sz130 : sizeT Tryd.prog 130 = some 1 := by kernel_rfl
theorem by130 : bytesT Tryd.prog 130 = some 8 := by kernel_rfl
theorem ze130 : zeroT Tryd.prog 130 = some (.nilF) := by kernel_rfl
theorem ag131 : isAggT Tryd.prog 131 = some false := by kernel_rfl
theorem sz131 : sizeT Tryd.prog 131 = some 1 := by kernel_rfl
theorem by131 : bytesT Tryd.prog 131 = some 8 := by kernel_rfl
theorem ze131 : zeroT Tryd.prog 131 = some (.nilF) := by kernel_rfl
theorem ag132 : isAggT Tryd.prog 132 = some false := by kernel_rfl
theorem sz132 : sizeT Tryd.prog 132 = some 1 := by kernel_rfl
theorem by132 : bytesT Tryd.prog 132 = some 8 := by kernel_rfl
theorem ze132 : zeroT Tryd.prog 132 = some (.nilF) := by kernel_rfl
theorem ag133 : isAggT Tryd.prog 133 = some false := by kernel_rfl
theorem sz133 : sizeT Tryd.prog 133 = some 1 := by kernel_rfl
theorem by133 : bytesT Tryd.prog 133 = some 8 := by kernel_rfl
theorem ze133 : zeroT Tryd.prog 133 = some (.int .u64 0) := by kernel_rfl
theorem ag134 : isAggT Tryd.prog 134 = some false := by kernel_rfl
theorem sz134 : sizeT Tryd.prog 134 = some 1 := by kernel_rfl
theorem by134 : bytesT Tryd.prog 134 = some 8 := by kernel_rfl
theorem ze134 : zeroT Tryd.prog 134 = some (.nilF) := by kernel_rfl
theorem ag135 : isAggT Tryd.prog 135 = some false := by kernel_rfl
theorem sz135 : sizeT Tryd.prog 135 = some 1 := by kernel_rfl
theorem by135 : bytesT Tryd.prog 135 = some 8 := by kernel_rfl
theorem ze135 : zeroT Tryd.prog 135 = some (.nilF) := by kernel_rfl
theorem ag136 : isAggT Tryd.prog 136 = some false := by kernel_rfl
theorem sz136 : sizeT Tryd.prog 136 = some 1 := by kernel_rfl
theorem by136 : bytesT Tryd.prog 136 = some 16 := by kernel_rfl
theorem ze136 : zeroT Tryd.prog 136 = some (.nilI) := by kernel_rfl
theorem ag137 : isAggT Tryd.prog 137 = some false := by kernel_rfl
theorem sz137 : sizeT Tryd.prog 137 = some 1 := by kernel_rfl
theorem by137 : bytesT Tryd.prog 137 = some 0 := by kernel_rfl
theorem ag138 : isAggT Tryd.prog 138 = some false := by kernel_rfl
theorem sz138 : sizeT Tryd.prog 138 = some 1 := by kernel_rfl
theorem by138 : bytesT Tryd.prog 138 = some 8 := by kernel_rfl
theorem ze138 : zeroT Tryd.prog 138 = some (.nilF) := by kernel_rfl
theorem ag139 : isAggT Tryd.prog 139 = some false := by kernel_rfl
theorem sz139 : sizeT Tryd.prog 139 = some 1 := by kernel_rfl
theorem by139 : bytesT Tryd.prog 139 = some 0 := by kernel_rfl
theorem ag140 : isAggT Tryd.prog 140 = some false := by kernel_rfl
theorem sz140 : sizeT Tryd.prog 140 = some 1 := by kernel_rfl
theorem by140 : bytesT Tryd.prog 140 = some 8 := by kernel_rfl
theorem ze140 : zeroT Tryd.prog 140 = some (.nilF) := by kernel_rfl
theorem ag141 : isAggT Tryd.prog 141 = some false := by kernel_rfl
theorem sz141 : sizeT Tryd.prog 141 = some 1 := by kernel_rfl
theorem by141 : bytesT Tryd.prog 141 = some 8 := by kernel_rfl
theorem ze141 : zeroT Tryd.prog 141 = some (.nilF) := by kernel_rfl
theorem ag142 : isAggT Tryd.prog 142 = some false := by kernel_rfl
theorem sz142 : sizeT Tryd.prog 142 = some 1 := by kernel_rfl
theorem by142 : bytesT Tryd.prog 142 = some 8 := by kernel_rfl
theorem ze142 : zeroT Tryd.prog 142 = some (.nilF) := by kernel_rfl
theorem ag143 : isAggT Tryd.prog 143 = some false := by kernel_rfl
theorem sz143 : sizeT Tryd.prog 143 = some 1 := by kernel_rfl
theorem by143 : bytesT Tryd.prog 143 = some 0 := by kernel_rfl
theorem ag144 : isAggT Tryd.prog 144 = some false := by kernel_rfl
theorem sz144 : sizeT Tryd.prog 144 = some 1 := by kernel_rfl
theorem by144 : bytesT Tryd.prog 144 = some 8 := by kernel_rfl
theorem ze144 : zeroT Tryd.prog 144 = some (.nilF) := by kernel_rfl
theorem ag145 : isAggT Tryd.prog 145 = some true := by kernel_rfl
theorem sz145 : sizeT Tryd.prog 145 = some 5 := by kernel_rfl
theorem by145 : bytesT Tryd.prog 145 = some 20 := by kernel_rfl
theorem ze145 : zeroT Tryd.prog 145 = some (.agg [.int .i32 0, .int .i32 0, .int .i32 0, .int .i32 0, .int .i32 0]) := by kernel_rfl
theorem ag146 : isAggT Tryd.prog 146 = some false := by kernel_rfl
theorem sz146 : sizeT Tryd.prog 146 = some 1 := by kernel_rfl
theorem by146 : bytesT Tryd.prog 146 = some 0 := by kernel_rfl
theorem ag147 : isAggT Tryd.prog 147 = some false := by kernel_rfl
theorem sz147 : sizeT Tryd.prog 147 = some 1 := by kernel_rfl
theorem by147 : bytesT Tryd.prog 147 = some 8 := by kernel_rfl
theorem ze147 : zeroT Tryd.prog 147 = some (.nilF) := by kernel_rfl
theorem ag148 : isAggT Tryd.prog 148 = some false := by kernel_rfl
theorem sz148 : sizeT Tryd.prog 148 = some 1 := by kernel_rfl
theorem by148 : bytesT Tryd.prog 148 = some 8 := by kernel_rfl
theorem ze148 : zeroT Tryd.prog 148 = some (.nilF) := by kernel_rfl
theorem ag149 : isAggT Tryd.prog 149 = some false := by kernel_rfl
theorem sz149 : sizeT Tryd.prog 149 = some 1 := by kernel_rfl
theorem by149 : bytesT Tryd.prog 149 = some 8 := by kernel_rfl
theorem ze149 : zeroT Tryd.prog 149 = some (.nilF) := by kernel_rfl
theorem ag150 : isAggT Tryd.prog 150 = some false := by kernel_rfl
theorem sz150 : sizeT Tryd.prog 150 = some 1 := by kernel_rfl
theorem by150 : bytesT Tryd.prog 150 = some 8 := by kernel_rfl
theorem ze150 : zeroT Tryd.prog 150 = some (.nilF) := by kernel_rfl
theorem ag151 : isAggT Tryd.prog 151 = some true := by kernel_rfl
theorem sz151 : sizeT Tryd.prog 151 = some 4 := by kernel_rfl
theorem by151 : bytesT Tryd.prog 151 = some 40 := by kernel_rfl
theorem ze151 : zeroT Tryd.prog 151 = some (.agg [.nil, .nil, .nil, .str []]) := by kernel_rfl
theorem fa151_0 (a : AV) : aFieldAddr Tryd.prog 151 0 a = fieldOff 0 a := by cases a <;> kernel_rfl
theorem fd151_0 (a : AV) : aField Tryd.prog 151 0 a = fieldVal Tryd.prog 17 0 a := by cases a <;> kernel_rfl
theorem fa151_1 (a : AV) : aFieldAddr Tryd.prog 151 1 a = fieldOff 1 a := by cases a <;> kernel_rfl
theorem fd151_1 (a : AV) : aField Tryd.prog 151 1 a = fieldVal Tryd.prog 17 1 a := by cases a <;> kernel_rfl
theorem fa151_2 (a : AV) : aFieldAddr Tryd.prog 151 2 a = fieldOff 2 a := by cases a <;> kernel_rfl
theorem fd151_2 (a : AV) : aField Tryd.prog 151 2 a = fieldVal Tryd.prog 17 2 a := by cases a <;> kernel_rfl
theorem fa151_3 (a : AV) : aFieldAddr Tryd.prog 151 3 a = fieldOff 3 a := by cases a <;> kernel_rfl
theorem fd151_3 (a : AV) : aField Tryd.prog 151 3 a = fieldVal Tryd.prog 9 3 a := by cases a <;> kernel_rfl
theorem bu151 (ps : List (Nat × AV)) : aBuild Tryd.prog 151 ps = (fillA (fun i => [(0, 1), (1, 1), (2, 1), (3, 1)][i]?) (AV.cells (.agg [.nil, .nil, .nil, .str []])) ps).map .agg := by kernel_rfl
theorem ag152 : isAggT Tryd.prog 152 = some true := by kernel_rfl
theorem sz152 : sizeT Tryd.prog 152 = some 4 := by kernel_rfl
theorem by152 : bytesT Tryd.prog 152 = some 40 := by kernel_rfl
theorem ze152 : zeroT Tryd.prog 152 = some (.agg [.nil, .nil, .nil, .str []]) := by kernel_rfl
theorem fa152_0 (a : AV) : aFieldAddr Tryd.prog 152 0 a = fieldOff 0 a := by cases a <;> kernel_rfl
theorem fd152_0 (a : AV) : aField Tryd.prog 152 0 a = fieldVal Tryd.prog 17 0 a := by cases a <;> kernel_rfl
theorem fa152_1 (a : AV) : aFieldAddr Tryd.prog 152 1 a = fieldOff 1 a := by cases a <;> kernel_rfl
theorem fd152_1 (a : AV) : aField Tryd.prog 152 1 a = fieldVal Tryd.prog 17 1 a := by cases a <;> kernel_rfl
theorem fa152_2 (a : AV) : aFieldAddr Tryd.prog 152 2 a = fieldOff 2 a := by cases a <;> kernel_rfl
theorem fd152_2 (a : AV) : aField Tryd.prog 152 2 a = fieldVal Tryd.prog 17 2 a := by cases a <;> kernel_rfl
theorem fa152_3 (a : AV) : aFieldAddr Tryd.prog 152 3 a = fieldOff 3 a := by cases a <;> kernel_rfl
theorem fd152_3 (a : AV) : aField Tryd.prog 152 3 a = fieldVal Tryd.prog 9 3 a := by cases a <;> kernel_rfl
theorem bu152 (ps : List (Nat × AV)) : aBuild Tryd.prog 152 ps = (fillA (fun i => [(0, 1), (1, 1), (2, 1), (3, 1)][i]?) (AV.cells (.agg [.nil, .nil, .nil, .str []])) ps).map .agg := by kernel_rfl
theorem ag153 : isAggT Tryd.prog 153 = some true := by kernel_rfl
theorem sz153 : sizeT Tryd.prog 153 = some 0 := by kernel_rfl
theorem by153 : bytesT Tryd.prog 153 = some 0 := by kernel_rfl
theorem ze153 : zeroT Tryd.prog 153 = some (.agg []) := by kernel_rfl
theorem ag154 : isAggT Tryd.prog 154 = some true := by kernel_rfl
theorem sz154 : sizeT Tryd.prog 154 = some 0 := by kernel_rfl
theorem by154 : bytesT Tryd.prog 154 = some 0 := by kernel_rfl
theorem ze154 : zeroT Tryd.prog 154 = some (.agg []) := by kernel_rfl
theorem bu154 (ps : List (Nat × AV)) : aBuild Tryd.prog 154 ps = (fillA (fun i => [(0, 0)][i]?) (AV.cells (.agg [])) ps).map .agg := by kernel_rfl
theorem ag155 : isAggT Tryd.prog 155 = some true := by kernel_rfl
theorem sz155 : sizeT Tryd.prog 155 = some 0 := by kernel_rfl
theorem by155 : bytesT Tryd.prog 155 = some 0 := by kernel_rfl
theorem ze155 : zeroT Tryd.prog 155 = some (.agg []) := by kernel_rfl
theorem bu155 (ps : List (Nat × AV)) : aBuild Tryd.prog 155 ps = (fillA (fun i => [(0, 0)][i]?) (AV.cells (.agg [])) ps).map .agg := by kernel_rfl
theorem ag156 : isAggT Tryd.prog 156 = some false := by kernel_rfl
theorem sz156 : sizeT Tryd.prog 156 = some 1 := by kernel_rfl
theorem by156 : bytesT Tryd.prog 156 = some 8 := by kernel_rfl
theorem ze156 : zeroT Tryd.prog 156 = some (.nilF) := by kernel_rfl
theorem ag157 : isAggT Tryd.prog 157 = some false := by kernel_rfl
theorem sz157 : sizeT Tryd.prog 157 = some 1 := by kernel_rfl
theorem by157 : bytesT Tryd.prog 157 = some 4 := by kernel_rfl
theorem ze157 : zeroT Tryd.prog 157 = some (.int .u32 0) := by kernel_rfl
theorem ag158 : isAggT Tryd.prog 158 = some false := by kernel_rfl
theorem sz158 : sizeT Tryd.prog 158 = some 1 := by kernel_rfl
theorem by158 : bytesT Tryd.prog 158 = some 1 := by kernel_rfl
theorem ze158 : zeroT Tryd.prog 158 = some (.int .u8 0) := by kernel_rfl
theorem ag159 : isAggT Tryd.prog 159 = some false := by kernel_rfl
theorem sz159 : sizeT Tryd.prog 159 = some 1 := by kernel_rfl
theorem by159 : bytesT Tryd.prog 159 = some 8 := by kernel_rfl
theorem ze159 : zeroT Tryd.prog 159 = some (.nilF) := by kernel_rfl
theorem ag160 : isAggT Tryd.prog 160 = some false := by kernel_rfl
theorem sz160 : sizeT Tryd.prog 160 = some 1 := by kernel_rfl
theorem by160 : bytesT Tryd.prog 160 = some 8 := by kernel_rfl
theorem ze160 : zeroT Tryd.prog 160 = some (.nil) := by kernel_rfl
theorem ag161 : isAggT Tryd.prog 161 = some false := by kernel_rfl
theorem sz161 : sizeT Tryd.prog 161 = some 1 := by kernel_rfl
theorem by161 : bytesT Tryd.prog 161 = some 4 := by kernel_rfl
theorem ze161 : zeroT Tryd.prog 161 = some (.int .i32 0) := by kernel_rfl
theorem ag162 : isAggT Tryd.prog 162 = some false := by kernel_rfl
theorem sz162 : sizeT Tryd.prog 162 = some 1 := by kernel_rfl
theorem by162 : bytesT Tryd.prog 162 = some 4 := by kernel_rfl
theorem ze162 : zeroT Tryd.prog 162 = some (.int .i32 0) := by kernel_rfl
theorem ag163 : isAggT Tryd.prog 163 = some true := by kernel_rfl
theorem sz163 : sizeT Tryd.prog 163 = some 11 := by kernel_rfl
theorem by163 : bytesT Tryd.prog 163 = some 48 := by kernel_rfl
theorem ze163 : zeroT Tryd.prog 163 = some (.agg [.int .u64 0, .int .u64 0, .int .u32 0, .int .u8 0, .int .u8 0, .int .u8 0, .int .u8 0, .nilF, .nil, .int .i32 0, .int .i32 0]) := by kernel_rfl
theorem fa163_0 (a : AV) : aFieldAddr Tryd.prog 163 0 a = fieldOff 0 a := by cases a <;> kernel_rfl
theorem fd163_0 (a : AV) : aField Tryd.prog 163 0 a = fieldVal Tryd.prog 12 0 a := by cases a <;> kernel_rfl
theorem fa163_1 (a : AV) : aFieldAddr Tryd.prog 163 1 a = fieldOff 1 a := by cases a <;> kernel_rfl
theorem fd163_1 (a : AV) : aField Tryd.prog 163 1 a = fieldVal Tryd.prog 12 1 a := by cases a <;> kernel_rfl
theorem fa163_2 (a : AV) : aFieldAddr Tryd.prog 163 2 a = fieldOff 2 a := by cases a <;> kernel_rfl
theorem fd163_2 (a : AV) : aField Tryd.prog 163 2 a = fieldVal Tryd.prog 157 2 a := by cases a <;> kernel_rfl
theorem fa163_3 (a : AV) : aFieldAddr Tryd.prog 163 3 a = fieldOff 3 a := by cases a <;> kernel_rfl
theorem fd163_3 (a : AV) : aField Tryd.prog 163 3 a = fieldVal Tryd.prog 158 3 a := by cases a <;> kernel_rfl
theorem fa163_4 (a : AV) : aFieldAddr Tryd.prog 163 4 a = fieldOff 4 a := by cases a <;> kernel_rfl
theorem fd163_4 (a : AV) : aField Tryd.prog 163 4 a = fieldVal Tryd.prog 5 4 a := by cases a <;> kernel_rfl
theorem fa163_5 (a : AV) : aFieldAddr Tryd.prog 163 5 a = fieldOff 5 a := by cases a <;> kernel_rfl
theorem fd163_5 (a : AV) : aField Tryd.prog 163 5 a = fieldVal Tryd.prog 5 5 a := by cases a <;> kernel_rfl
theorem fa163_6 (a : AV) : aFieldAddr Tryd.prog 163 6 a = fieldOff 6 a := by cases a <;> kernel_rfl
theorem fd163_6 (a : AV) : aField Tryd.prog 163 6 a = fieldVal Tryd.prog 115 6 a := by cases a <;> kernel_rfl
theorem fa163_7 (a : AV) : aFieldAddr Tryd.prog 163 7 a = fieldOff 7 a := by cases a <;> kernel_rfl
theorem fd163_7 (a : AV) : aField Tryd.prog 163 7 a = fieldVal Tryd.prog 159 7 a := by cases a <;> kernel_rfl
theorem fa163_8 (a : AV) : aFieldAddr Tryd.prog 163 8 a = fieldOff 8 a := by cases a <;> kernel_rfl
theorem fd163_8 (a : AV) : aField Tryd.prog 163 8 a = fieldVal Tryd.prog 160 8 a := by cases a <;> kernel_rfl
theorem fa163_9 (a : AV) : aFieldAddr Tryd.prog 163 9 a = fieldOff 9 a := by cases a <;> kernel_rfl
theorem fd163_9 (a : AV) : aField Tryd.prog 163 9 a = fieldVal Tryd.prog 161 9 a := by cases a <;> kernel_rfl
theorem fa163_10 (a : AV) : aFieldAddr Tryd.prog 163 10 a = fieldOff 10 a := by cases a <;> kernel_rfl
theorem fd163_10 (a : AV) : aField Tryd.prog 163 10 a = fieldVal Tryd.prog 162 10 a := by cases a <;> kernel_rfl
theorem bu163 (ps : List (Nat × AV)) : aBuild Tryd.prog 163 ps = (fillA (fun i => [(0, 1), (1, 1), (2, 1), (3, 1), (4, 1), (5, 1), (6, 1), (7, 1), (8, 1), (9, 1), (10, 1)][i]?) (AV.cells (.agg [.int .u64 0, .int .u64 0, .int .u32 0, .int .u8 0, .int .u8 0, .int .u8 0, .int .u8 0, .nilF, .nil, .int .i32 0, .int .i32 0])) ps).map .agg := by kernel_rfl
theorem ag164 : isAggT Tryd.prog 164 = some true := by kernel_rfl
theorem sz164 : sizeT Tryd.prog 164 = some 11 := by kernel_rfl
theorem by164 : bytesT Tryd.prog 164 = some 48 := by kernel_rfl
theorem ze164 : zeroT Tryd.prog 164 = some (.agg [.int .u64 0, .int .u64 0, .int .u32 0, .int .u8 0, .int .u8 0, .int .u8 0, .int .u8 0, .nilF, .nil, .int .i32 0, .int .i32 0]) := by kernel_rfl
theorem fa164_0 (a : AV) : aFieldAddr Tryd.prog 164 0 a = fieldOff 0 a := by cases a <;> kernel_rfl
theorem fd164_0 (a : AV) : aField Tryd.prog 164 0 a = fieldVal Tryd.prog 12 0 a := by cases a <;> kernel_rfl
theorem fa164_1 (a : AV) : aFieldAddr Tryd.prog 164 1 a = fieldOff 1 a := by cases a <;> kernel_rfl
theorem fd164_1 (a : AV) : aField Tryd.prog 164 1 a = fieldVal Tryd.prog 12 1 a := by cases a <;> kernel_rfl
theorem fa164_2 (a : AV) : aFieldAddr Tryd.prog 164 2 a = fieldOff 2 a := by cases a <;> kernel_rfl
theorem fd164_2 (a : AV) : aField Tryd.prog 164 2 a = fieldVal Tryd.prog 157 2 a := by cases a <;> kernel_rfl
theorem fa164_3 (a : AV) : aFieldAddr Tryd.prog 164 3 a = fieldOff 3 a := by cases a <;> kernel_rfl
theorem fd164_3 (a : AV) : aField Tryd.prog 164 3 a = fieldVal Tryd.prog 158 3 a := by cases a <;> kernel_rfl
theorem fa164_4 (a : AV) : aFieldAddr Tryd.prog 164 4 a = fieldOff 4 a := by cases a <;> kernel_rfl
theorem fd164_4 (a : AV) : aField Tryd.prog 164 4 a = fieldVal Tryd.prog 5 4 a := by cases a <;> kernel_rfl
theorem fa164_5 (a : AV) : aFieldAddr Tryd.prog 164 5 a = fieldOff 5 a := by cases a <;> kernel_rfl
theorem fd164_5 (a : AV) : aField Tryd.prog 164 5 a = fieldVal Tryd.prog 5 5 a := by cases a <;> kernel_rfl
theorem fa164_6 (a : AV) : aFieldAddr Tryd.prog 164 6 a = fieldOff 6 a := by cases a <;> kernel_rfl
theorem fd164_6 (a : AV) : aField Tryd.prog 164 6 a = fieldVal Tryd.prog 115 6 a := by cases a <;> kernel_rfl
theorem fa164_7 (a : AV) : aFieldAddr Tryd.prog 164 7 a = fieldOff 7 a := by cases a <;> kernel_rfl
theorem fd164_7 (a : AV) : aField Tryd.prog 164 7 a = fieldVal Tryd.prog 159 7 a := by cases a <;> kernel_rfl
theorem fa164_8 (a : AV) : aFieldAddr Tryd.prog 164 8 a = fieldOff 8 a := by cases a <;> kernel_rfl
theorem fd164_8 (a : AV) : aField Tryd.prog 164 8 a = fieldVal Tryd.prog 160 8 a := by cases a <;> kernel_rfl
theorem fa164_9 (a : AV) : aFieldAddr Tryd.prog 164 9 a = fieldOff 9 a := by cases a <;> kernel_rfl
theorem fd164_9 (a : AV) : aField Tryd.prog 164 9 a = fieldVal Tryd.prog 161 9 a := by cases a <;> kernel_rfl
theorem fa164_10 (a : AV) : aFieldAddr Tryd.prog 164 10 a = fieldOff 10 a := by cases a <;> kernel_rfl
theorem fd164_10 (a : AV) : aField Tryd.prog 164 10 a = fieldVal Tryd.prog 162 10 a := by cases a <;> kernel_rfl
theorem bu164 (ps : List (Nat × AV)) : aBuild Tryd.prog 164 ps = (fillA (fun i => [(0, 1), (1, 1), (2, 1), (3, 1), (4, 1), (5, 1), (6, 1), (7, 1), (8, 1), (9, 1), (10, 1)][i]?) (AV.cells (.agg [.int .u64 0, .int .u64 0, .int .u32 0, .int .u8 0, .int .u8 0, .int .u8 0, .int .u8 0, .nilF, .nil, .int .i32 0, .int .i32 0])) ps).map .agg := by kernel_rfl
theorem ag165 : isAggT Tryd.prog 165 = some false := by kernel_rfl
theorem sz165 : sizeT Tryd.prog 165 = some 1 := by kernel_rfl
theorem by165 : bytesT Tryd.prog 165 = some 8 := by kernel_rfl
theorem ze165 : zeroT Tryd.prog 165 = some (.nilF) := by kernel_rfl
theorem ag166 : isAggT Tryd.prog 166 = some false := by kernel_rfl
theorem sz166 : sizeT Tryd.prog 166 = some 1 := by kernel_rfl
theorem by166 : bytesT Tryd.prog 166 = some 8 := by kernel_rfl
theorem ze166 : zeroT Tryd.prog 166 = some (.nilF) := by kernel_rfl
theorem ag167 : isAggT Tryd.prog 167 = some true := by kernel_rfl
theorem sz167 : sizeT Tryd.prog 167 = some 2 := by kernel_rfl
theorem by167 : bytesT Tryd.prog 167 = some 24 := by kernel_rfl
theorem ze167 : zeroT Tryd.prog 167 = some (.agg [.str [], .int .u8 0]) := by kernel_rfl
theorem fa167_0 (a : AV) : aFieldAddr Tryd.prog 167 0 a = fieldOff 0 a := by cases a <;> kernel_rfl
theorem fd167_0 (a : AV) : aField Tryd.prog 167 0 a = fieldVal Tryd.prog 9 0 a := by cases a <;> kernel_rfl
theorem fa167_1 (a : AV) : aFieldAddr Tryd.prog 167 1 a = fieldOff 1 a := by cases a <;> kernel_rfl
theorem fd167_1 (a : AV) : aField Tryd.prog 167 1 a = fieldVal Tryd.prog 115 1 a := by cases a <;> kernel_rfl
theorem bu167 (ps : List (Nat × AV)) : aBuild Tryd.prog 167 ps = (fillA (fun i => [(0, 1), (1, 1)][i]?) (AV.cells (.agg [.str [], .int .u8 0])) ps).map .agg := by kernel_rfl
theorem ag168 : isAggT Tryd.prog 168 = some true := by kernel_rfl
theorem sz168 : sizeT Tryd.prog 168 = some 2 := by kernel_rfl
theorem by168 : bytesT Tryd.prog 168 = some 24 := by kernel_rfl
theorem ze168 : zeroT Tryd.prog 168 = some (.agg [.str [], .int .u8 0]) := by kernel_rfl
theorem fa168_0 (a : AV) : aFieldAddr Tryd.prog 168 0 a = fieldOff 0 a := by cases a <;> kernel_rfl
theorem fd168_0 (a : AV) : aField Tryd.prog 168 0 a = fieldVal Tryd.prog 9 0 a := by cases a <;> kernel_rfl
theorem fa168_1 (a : AV) : aFieldAddr Tryd.prog 168 1 a = fieldOff 1 a := by cases a <;> kernel_rfl
theorem fd168_1 (a : AV) : aField Tryd.prog 168 1 a = fieldVal Tryd.prog 115 1 a := by cases a <;> kernel_rfl
theorem bu168 (ps : List (Nat × AV)) : aBuild Tryd.prog 168 ps = (fillA (fun i => [(0, 1), (1, 1)][i]?) (AV.cells (.agg [.str [], .int .u8 0])) ps).map .agg := by kernel_rfl
theorem ag169 : isAggT Tryd.prog 169 = some false := by kernel_rfl
theorem sz169 : sizeT Tryd.prog 169 = some 1 := by kernel_rfl
theorem by169 : bytesT Tryd.prog 169 = some 8 := by kernel_rfl
theorem ze169 : zeroT Tryd.prog 169 = some (.nil) := by kernel_rfl
theorem ag170 : isAggT Tryd.prog 170 = some false := by kernel_rfl
theorem sz170 : sizeT Tryd.prog 170 = some 1 := by kernel_rfl
theorem by170 : bytesT Tryd.prog 170 = some 8 := by kernel_rfl
theorem ze170 : zeroT Tryd.prog 170 = some (.nilF) := by kernel_rfl
theorem ag171 : isAggT Tryd.prog 171 = some false := by kernel_rfl
theorem sz171 : sizeT Tryd.prog 171 = some 1 := by kernel_rfl
theorem by171 : bytesT Tryd.prog 171 = some 2 := by kernel_rfl
theorem ze171 : zeroT Tryd.prog 171 = some (.int .u16 0) := by kernel_rfl
theorem ag172 : isAggT Tryd.prog 172 = some true := by kernel_rfl
theorem sz172 : sizeT Tryd.prog 172 = some 5 := by kernel_rfl
theorem by172 : bytesT Tryd.prog 172 = some 16 := by kernel_rfl
theorem ze172 : zeroT Tryd.prog 172 = some (.agg [.int .i32 0, .int .u16 0, .int .u16 0, .int .u32 0, .int .u32 0]) := by kernel_rfl
theorem fa172_0 (a : AV) : aFieldAddr Tryd.prog 172 0 a = fieldOff 0 a := by cases a <;> kernel_rfl
theorem fd172_0 (a : AV) : aField Tryd.prog 172 0 a = fieldVal Tryd.prog 161 0 a := by cases a <;> kernel_rfl
theorem fa172_1 (a : AV) : aFieldAddr Tryd.prog 172 1 a = fieldOff 1 a := by cases a <;> kernel_rfl
theorem fd172_1 (a : AV) : aField Tryd.prog 172 1 a = fieldVal Tryd.prog 171 1 a := by cases a <;> kernel_rfl
theorem fa172_2 (a : AV) : aFieldAddr Tryd.prog 172 2 a = fieldOff 2 a := by cases a <;> kernel_rfl
theorem fd172_2 (a : AV) : aField Tryd.prog 172 2 a = fieldVal Tryd.prog 171 2 a := by cases a <;> kernel_rfl
theorem fa172_3 (a : AV) : aFieldAddr Tryd.prog 172 3 a = fieldOff 3 a := by cases a <;> kernel_rfl
theorem fd172_3 (a : AV) : aField Tryd.prog 172 3 a = fieldVal Tryd.prog 157 3 a := by cases a <;> kernel_rfl
theorem fa172_4 (a : AV) : aFieldAddr Tryd.prog 172 4 a = fieldOff 4 a := by cases a <;> kernel_rfl
theorem fd172_4 (a : AV) : aField Tryd.prog 172 4 a = fieldVal Tryd.prog 157 4 a := by cases a <;> kernel_rfl
theorem bu172 (ps : List (Nat × AV)) : aBuild Tryd.prog 172 ps = (fillA (fun i => [(0, 1), (1, 1), (2, 1), (3, 1), (4, 1)][i]?) (AV.cells (.agg [.int .i32 0, .int .u16 0, .int .u16 0, .int .u32 0, .int .u32 0])) ps).map .agg := by kernel_rfl
theorem ag173 : isAggT Tryd.prog 173 = some true := by kernel_rfl
theorem sz173 : sizeT Tryd.prog 173 = some 5 := by kernel_rfl
theorem by173 : bytesT Tryd.prog 173 = some 16 := by kernel_rfl
theorem ze173 : zeroT Tryd.prog 173 = some (.agg [.int .i32 0, .int .u16 0, .int .u16 0, .int .u32 0, .int .u32 0]) := by kernel_rfl
theorem fa173_0 (a : AV) : aFieldAddr Tryd.prog 173 0 a = fieldOff 0 a := by cases a <;> kernel_rfl
theorem fd173_0 (a : AV) : aField Tryd.prog 173 0 a = fieldVal Tryd.prog 161 0 a := by cases a <;> kernel_rfl
theorem fa173_1 (a : AV) : aFieldAddr Tryd.prog 173 1 a = fieldOff 1 a := by cases a <;> kernel_rfl
theorem fd173_1 (a : AV) : aField Tryd.prog 173 1 a = fieldVal Tryd.prog 171 1 a := by cases a <;> kernel_rfl
theorem fa173_2 (a : AV) : aFieldAddr Tryd.prog 173 2 a = fieldOff 2 a := by cases a <;> kernel_rfl
theorem fd173_2 (a : AV) : aField Tryd.prog 173 2 a = fieldVal Tryd.prog 171 2 a := by cases a <;> kernel_rfl
theorem fa173_3 (a : AV) : aFieldAddr Tryd.prog 173 3 a = fieldOff 3 a := by cases a <;> kernel_rfl
theorem fd173_3 (a : AV) : aField Tryd.prog 173 3 a = fieldVal Tryd.prog 157 3 a := by cases a <;> kernel_rfl
theorem fa173_4 (a : AV) : aFieldAddr Tryd.prog 173 4 a = fieldOff 4 a := by cases a <;> kernel_rfl
theorem fd173_4 (a : AV) : aField Tryd.prog 173 4 a = fieldVal Tryd.prog 157 4 a := by cases a <;> kernel_rfl
theorem bu173 (ps : List (Nat × AV)) : aBuild Tryd.prog 173 ps = (fillA (fun i => [(0, 1), (1, 1), (2, 1), (3, 1), (4, 1)][i]?) (AV.cells (.agg [.int .i32 0, .int .u16 0, .int .u16 0, .int .u32 0, .int .u32 0])) ps).map .agg := by kernel_rfl
theorem ag174 : isAggT Tryd.prog 174 = some false := by kernel_rfl
theorem sz174 : sizeT Tryd.prog 174 = some 1 := by kernel_rfl
theorem by174 : bytesT Tryd.prog 174 = some 24 := by kernel_rfl
theorem se174 : sliceElem Tryd.prog 174 = some 177 := by kernel_rfl
theorem ze174 : zeroT Tryd.prog 174 = some (.nilS) := by kernel_rfl
theorem ag175 : isAggT Tryd.prog 175 = some false := by kernel_rfl
theorem sz175 : sizeT Tryd.prog 175 = some 1 := by kernel_rfl
theorem by175 : bytesT Tryd.prog 175 = some 4 := by kernel_rfl
theorem ze175 : zeroT Tryd.prog 175 = some (.int .i32 0) := by kernel_rfl
theorem ag176 : isAggT Tryd.prog 176 = some true := by kernel_rfl
theorem sz176 : sizeT Tryd.prog 176 = some 4 := by kernel_rfl
theorem by176 : bytesT Tryd.prog 176 = some 16 := by kernel_rfl
theorem ze176 : zeroT Tryd.prog 176 = some (.agg [.int .i32 0, .int .i32 0, .int .i32 0, .int .i32 0]) := by kernel_rfl
theorem fa176_0 (a : AV) : aFieldAddr Tryd.prog 176 0 a = fieldOff 0 a := by cases a <;> kernel_rfl
theorem fd176_0 (a : AV) : aField Tryd.prog 176 0 a = fieldVal Tryd.prog 161 0 a := by cases a <;> kernel_rfl
theorem fa176_1 (a : AV) : aFieldAddr Tryd.prog 176 1 a = fieldOff 1 a := by cases a <;> kernel_rfl
theorem fd176_1 (a : AV) : aField Tryd.prog 176 1 a = fieldVal Tryd.prog 162 1 a := by cases a <;> kernel_rfl
theorem fa176_2 (a : AV) : aFieldAddr Tryd.prog 176 2 a = fieldOff 2 a := by cases a <;> kernel_rfl
theorem fd176_2 (a : AV) : aField Tryd.prog 176 2 a = fieldVal Tryd.prog 175 2 a := by cases a <;> kernel_rfl
theorem fa176_3 (a : AV) : aFieldAddr Tryd.prog 176 3 a = fieldOff 3 a := by cases a <;> kernel_rfl
theorem fd176_3 (a : AV) : aField Tryd.prog 176 3 a = fieldVal Tryd.prog 175 3 a := by cases a <;> kernel_rfl
theorem bu176 (ps : List (Nat × AV)) : aBuild Tryd.prog 176 ps = (fillA (fun i => [(0, 1), (1, 1), (2, 1), (3, 1)][i]?) (AV.cells (.agg [.int .i32 0, .int .i32 0, .int .i32 0, .int .i32 0])) ps).map .agg := by kernel_rfl
theorem ag177 : isAggT Tryd.prog 177 = some true := by kernel_rfl
theorem sz177 : sizeT Tryd.prog 177 = some 4 := by kernel_rfl
theorem by177 : bytesT Tryd.prog 177 = some 16 := by kernel_rfl
theorem ze177 : zeroT Tryd.prog 177 = some (.agg [.int .i32 0, .int .i32 0, .int .i32 0, .int .i32 0]) := by kernel_rfl
theorem fa177_0 (a : AV) : aFieldAddr Tryd.prog 177 0 a = fieldOff 0 a := by cases a <;> kernel_rfl
theorem fd177_0 (a : AV) : aField Tryd.prog 177 0 a = fieldVal Tryd.prog 161 0 a := by cases a <;> kernel_rfl
theorem fa177_1 (a : AV) : aFieldAddr Tryd.prog 177 1 a = fieldOff 1 a := by cases a <;> kernel_rfl
theorem fd177_1 (a : AV) : aField Tryd.prog 177 1 a = fieldVal Tryd.prog 162 1 a := by cases a <;> kernel_rfl
theorem fa177_2 (a : AV) : aFieldAddr Tryd.prog 177 2 a = fieldOff 2 a := by cases a <;> kernel_rfl
theorem fd177_2 (a : AV) : aField Tryd.prog 177 2 a = fieldVal Tryd.prog 175 2 a := by cases a <;> kernel_rfl
theorem fa177_3 (a : AV) : aFieldAddr Tryd.prog 177 3 a = fieldOff 3 a := by cases a <;> kernel_rfl
theorem fd177_3 (a : AV) : aField Tryd.prog 177 3 a = fieldVal Tryd.prog 175 3 a := by cases a <;> kernel_rfl
theorem bu177 (ps : List (Nat × AV)) : aBuild Tryd.prog 177 ps = (fillA (fun i => [(0, 1), (1, 1), (2, 1), (3, 1)][i]?) (AV.cells (.agg [.int .i32 0, .int .i32 0, .int .i32 0, .int .i32 0])) ps).map .agg := by kernel_rfl
theorem ag178 : isAggT Tryd.prog 178 = some false := by kernel_rfl
theorem sz178 : sizeT Tryd.prog 178 = some 1 := by kernel_rfl
theorem by178 : bytesT Tryd.prog 178 = some 8 := by kernel_rfl
theorem ze178 : zeroT Tryd.prog 178 = some (.nil) := by kernel_rfl
end Go.Proofs.YtimbhlbkidmplaaDoor.Ty
