import Derived.Test.YtnipaiklandliaaGreatDoorAbsSeat
import Derived.Test.YtnipaiklandliaaGreatDoorAbsWalk
/-! Closed facts of the seat's types. -/
namespace Go.Proofs.YtnipaiklandliaaGreatDoor.Ty
open Go Go.Abs Go.Proofs

theorem ag0 : isAggT Tryz.prog 0 = some false := by kernel_rfl
theorem sz0 : sizeT Tryz.prog 0 = some 1 := by kernel_rfl
theorem by0 : bytesT Tryz.prog 0 = some 0 := by kernel_rfl
theorem ag1 : isAggT Tryz.prog 1 = some false := by kernel_rfl
theorem sz1 : sizeT Tryz.prog 1 = some 1 := by kernel_rfl
theorem by1 : bytesT Tryz.prog 1 = some 8 := by kernel_rfl
theorem ze1 : zeroT Tryz.prog 1 = some (.nilF) := by kernel_rfl
theorem ag2 : isAggT Tryz.prog 2 = some false := by kernel_rfl
theorem sz2 : sizeT Tryz.prog 2 = some 1 := by kernel_rfl
theorem by2 : bytesT Tryz.prog 2 = some 8 := by kernel_rfl
theorem ze2 : zeroT Tryz.prog 2 = some (.int .i64 0) := by kernel_rfl
theorem ag3 : isAggT Tryz.prog 3 = some false := by kernel_rfl
theorem sz3 : sizeT Tryz.prog 3 = some 1 := by kernel_rfl
theorem by3 : bytesT Tryz.prog 3 = some 8 := by kernel_rfl
theorem ze3 : zeroT Tryz.prog 3 = some (.int .i64 0) := by kernel_rfl
theorem ag4 : isAggT Tryz.prog 4 = some false := by kernel_rfl
theorem sz4 : sizeT Tryz.prog 4 = some 1 := by kernel_rfl
theorem by4 : bytesT Tryz.prog 4 = some 1 := by kernel_rfl
theorem ze4 : zeroT Tryz.prog 4 = some (.bool false) := by kernel_rfl
theorem ag5 : isAggT Tryz.prog 5 = some false := by kernel_rfl
theorem sz5 : sizeT Tryz.prog 5 = some 1 := by kernel_rfl
theorem by5 : bytesT Tryz.prog 5 = some 1 := by kernel_rfl
theorem ze5 : zeroT Tryz.prog 5 = some (.int .u8 0) := by kernel_rfl
theorem ag6 : isAggT Tryz.prog 6 = some false := by kernel_rfl
theorem sz6 : sizeT Tryz.prog 6 = some 1 := by kernel_rfl
theorem by6 : bytesT Tryz.prog 6 = some 1 := by kernel_rfl
theorem ze6 : zeroT Tryz.prog 6 = some (.int .u8 0) := by kernel_rfl
theorem ag7 : isAggT Tryz.prog 7 = some true := by kernel_rfl
theorem sz7 : sizeT Tryz.prog 7 = some 4 := by kernel_rfl
theorem by7 : bytesT Tryz.prog 7 = some 24 := by kernel_rfl
theorem ze7 : zeroT Tryz.prog 7 = some (.agg [.int .i64 0, .int .i64 0, .bool false, .int .u8 0]) := by kernel_rfl
theorem fa7_0 (a : AV) : aFieldAddr Tryz.prog 7 0 a = fieldOff 0 a := by cases a <;> kernel_rfl
theorem fd7_0 (a : AV) : aField Tryz.prog 7 0 a = fieldVal Tryz.prog 2 0 a := by cases a <;> kernel_rfl
theorem fa7_1 (a : AV) : aFieldAddr Tryz.prog 7 1 a = fieldOff 1 a := by cases a <;> kernel_rfl
theorem fd7_1 (a : AV) : aField Tryz.prog 7 1 a = fieldVal Tryz.prog 3 1 a := by cases a <;> kernel_rfl
theorem fa7_2 (a : AV) : aFieldAddr Tryz.prog 7 2 a = fieldOff 2 a := by cases a <;> kernel_rfl
theorem fd7_2 (a : AV) : aField Tryz.prog 7 2 a = fieldVal Tryz.prog 4 2 a := by cases a <;> kernel_rfl
theorem fa7_3 (a : AV) : aFieldAddr Tryz.prog 7 3 a = fieldOff 3 a := by cases a <;> kernel_rfl
theorem fd7_3 (a : AV) : aField Tryz.prog 7 3 a = fieldVal Tryz.prog 6 3 a := by cases a <;> kernel_rfl
theorem bu7 (ps : List (Nat × AV)) : aBuild Tryz.prog 7 ps = (fillA (fun i => [(0, 1), (1, 1), (2, 1), (3, 1)][i]?) (AV.cells (.agg [.int .i64 0, .int .i64 0, .bool false, .int .u8 0])) ps).map .agg := by kernel_rfl
theorem ag8 : isAggT Tryz.prog 8 = some true := by kernel_rfl
theorem sz8 : sizeT Tryz.prog 8 = some 4 := by kernel_rfl
theorem by8 : bytesT Tryz.prog 8 = some 24 := by kernel_rfl
theorem ze8 : zeroT Tryz.prog 8 = some (.agg [.int .i64 0, .int .i64 0, .bool false, .int .u8 0]) := by kernel_rfl
theorem fa8_0 (a : AV) : aFieldAddr Tryz.prog 8 0 a = fieldOff 0 a := by cases a <;> kernel_rfl
theorem fd8_0 (a : AV) : aField Tryz.prog 8 0 a = fieldVal Tryz.prog 2 0 a := by cases a <;> kernel_rfl
theorem fa8_1 (a : AV) : aFieldAddr Tryz.prog 8 1 a = fieldOff 1 a := by cases a <;> kernel_rfl
theorem fd8_1 (a : AV) : aField Tryz.prog 8 1 a = fieldVal Tryz.prog 3 1 a := by cases a <;> kernel_rfl
theorem fa8_2 (a : AV) : aFieldAddr Tryz.prog 8 2 a = fieldOff 2 a := by cases a <;> kernel_rfl
theorem fd8_2 (a : AV) : aField Tryz.prog 8 2 a = fieldVal Tryz.prog 4 2 a := by cases a <;> kernel_rfl
theorem fa8_3 (a : AV) : aFieldAddr Tryz.prog 8 3 a = fieldOff 3 a := by cases a <;> kernel_rfl
theorem fd8_3 (a : AV) : aField Tryz.prog 8 3 a = fieldVal Tryz.prog 6 3 a := by cases a <;> kernel_rfl
theorem bu8 (ps : List (Nat × AV)) : aBuild Tryz.prog 8 ps = (fillA (fun i => [(0, 1), (1, 1), (2, 1), (3, 1)][i]?) (AV.cells (.agg [.int .i64 0, .int .i64 0, .bool false, .int .u8 0])) ps).map .agg := by kernel_rfl
theorem ag9 : isAggT Tryz.prog 9 = some false := by kernel_rfl
theorem sz9 : sizeT Tryz.prog 9 = some 1 := by kernel_rfl
theorem by9 : bytesT Tryz.prog 9 = some 16 := by kernel_rfl
theorem ze9 : zeroT Tryz.prog 9 = some (.str []) := by kernel_rfl
theorem ag10 : isAggT Tryz.prog 10 = some false := by kernel_rfl
theorem sz10 : sizeT Tryz.prog 10 = some 1 := by kernel_rfl
theorem by10 : bytesT Tryz.prog 10 = some 16 := by kernel_rfl
theorem ze10 : zeroT Tryz.prog 10 = some (.str []) := by kernel_rfl
theorem ag11 : isAggT Tryz.prog 11 = some false := by kernel_rfl
theorem sz11 : sizeT Tryz.prog 11 = some 1 := by kernel_rfl
theorem by11 : bytesT Tryz.prog 11 = some 16 := by kernel_rfl
theorem ze11 : zeroT Tryz.prog 11 = some (.str []) := by kernel_rfl
theorem ag12 : isAggT Tryz.prog 12 = some false := by kernel_rfl
theorem sz12 : sizeT Tryz.prog 12 = some 1 := by kernel_rfl
theorem by12 : bytesT Tryz.prog 12 = some 8 := by kernel_rfl
theorem ze12 : zeroT Tryz.prog 12 = some (.int .u64 0) := by kernel_rfl
theorem ag13 : isAggT Tryz.prog 13 = some true := by kernel_rfl
theorem sz13 : sizeT Tryz.prog 13 = some 2 := by kernel_rfl
theorem by13 : bytesT Tryz.prog 13 = some 24 := by kernel_rfl
theorem ze13 : zeroT Tryz.prog 13 = some (.agg [.str [], .int .u64 0]) := by kernel_rfl
theorem fa13_0 (a : AV) : aFieldAddr Tryz.prog 13 0 a = fieldOff 0 a := by cases a <;> kernel_rfl
theorem fd13_0 (a : AV) : aField Tryz.prog 13 0 a = fieldVal Tryz.prog 9 0 a := by cases a <;> kernel_rfl
theorem fa13_1 (a : AV) : aFieldAddr Tryz.prog 13 1 a = fieldOff 1 a := by cases a <;> kernel_rfl
theorem fd13_1 (a : AV) : aField Tryz.prog 13 1 a = fieldVal Tryz.prog 12 1 a := by cases a <;> kernel_rfl
theorem bu13 (ps : List (Nat × AV)) : aBuild Tryz.prog 13 ps = (fillA (fun i => [(0, 1), (1, 1)][i]?) (AV.cells (.agg [.str [], .int .u64 0])) ps).map .agg := by kernel_rfl
theorem ag14 : isAggT Tryz.prog 14 = some true := by kernel_rfl
theorem sz14 : sizeT Tryz.prog 14 = some 2 := by kernel_rfl
theorem by14 : bytesT Tryz.prog 14 = some 24 := by kernel_rfl
theorem ze14 : zeroT Tryz.prog 14 = some (.agg [.str [], .int .u64 0]) := by kernel_rfl
theorem fa14_0 (a : AV) : aFieldAddr Tryz.prog 14 0 a = fieldOff 0 a := by cases a <;> kernel_rfl
theorem fd14_0 (a : AV) : aField Tryz.prog 14 0 a = fieldVal Tryz.prog 9 0 a := by cases a <;> kernel_rfl
theorem fa14_1 (a : AV) : aFieldAddr Tryz.prog 14 1 a = fieldOff 1 a := by cases a <;> kernel_rfl
theorem fd14_1 (a : AV) : aField Tryz.prog 14 1 a = fieldVal Tryz.prog 12 1 a := by cases a <;> kernel_rfl
theorem bu14 (ps : List (Nat × AV)) : aBuild Tryz.prog 14 ps = (fillA (fun i => [(0, 1), (1, 1)][i]?) (AV.cells (.agg [.str [], .int .u64 0])) ps).map .agg := by kernel_rfl
theorem ag15 : isAggT Tryz.prog 15 = some false := by kernel_rfl
theorem sz15 : sizeT Tryz.prog 15 = some 1 := by kernel_rfl
theorem by15 : bytesT Tryz.prog 15 = some 8 := by kernel_rfl
theorem ze15 : zeroT Tryz.prog 15 = some (.nil) := by kernel_rfl
theorem ag16 : isAggT Tryz.prog 16 = some false := by kernel_rfl
theorem sz16 : sizeT Tryz.prog 16 = some 1 := by kernel_rfl
theorem by16 : bytesT Tryz.prog 16 = some 8 := by kernel_rfl
theorem ze16 : zeroT Tryz.prog 16 = some (.nil) := by kernel_rfl
theorem ag17 : isAggT Tryz.prog 17 = some false := by kernel_rfl
theorem sz17 : sizeT Tryz.prog 17 = some 1 := by kernel_rfl
theorem by17 : bytesT Tryz.prog 17 = some 8 := by kernel_rfl
theorem ze17 : zeroT Tryz.prog 17 = some (.nil) := by kernel_rfl
theorem ag18 : isAggT Tryz.prog 18 = some true := by kernel_rfl
theorem sz18 : sizeT Tryz.prog 18 = some 1 := by kernel_rfl
theorem by18 : bytesT Tryz.prog 18 = some 8 := by kernel_rfl
theorem ze18 : zeroT Tryz.prog 18 = some (.agg [.nil]) := by kernel_rfl
theorem fa18_0 (a : AV) : aFieldAddr Tryz.prog 18 0 a = fieldOff 0 a := by cases a <;> kernel_rfl
theorem fd18_0 (a : AV) : aField Tryz.prog 18 0 a = fieldVal Tryz.prog 17 0 a := by cases a <;> kernel_rfl
theorem bu18 (ps : List (Nat × AV)) : aBuild Tryz.prog 18 ps = (fillA (fun i => [(0, 1)][i]?) (AV.cells (.agg [.nil])) ps).map .agg := by kernel_rfl
theorem ag19 : isAggT Tryz.prog 19 = some true := by kernel_rfl
theorem sz19 : sizeT Tryz.prog 19 = some 1 := by kernel_rfl
theorem by19 : bytesT Tryz.prog 19 = some 8 := by kernel_rfl
theorem ze19 : zeroT Tryz.prog 19 = some (.agg [.nil]) := by kernel_rfl
theorem fa19_0 (a : AV) : aFieldAddr Tryz.prog 19 0 a = fieldOff 0 a := by cases a <;> kernel_rfl
theorem fd19_0 (a : AV) : aField Tryz.prog 19 0 a = fieldVal Tryz.prog 17 0 a := by cases a <;> kernel_rfl
theorem bu19 (ps : List (Nat × AV)) : aBuild Tryz.prog 19 ps = (fillA (fun i => [(0, 1)][i]?) (AV.cells (.agg [.nil])) ps).map .agg := by kernel_rfl
theorem ag20 : isAggT Tryz.prog 20 = some false := by kernel_rfl
theorem sz20 : sizeT Tryz.prog 20 = some 1 := by kernel_rfl
theorem by20 : bytesT Tryz.prog 20 = some 16 := by kernel_rfl
theorem ze20 : zeroT Tryz.prog 20 = some (.nilI) := by kernel_rfl
theorem ag21 : isAggT Tryz.prog 21 = some false := by kernel_rfl
theorem sz21 : sizeT Tryz.prog 21 = some 1 := by kernel_rfl
theorem by21 : bytesT Tryz.prog 21 = some 4 := by kernel_rfl
theorem ze21 : zeroT Tryz.prog 21 = some (.int .i32 0) := by kernel_rfl
theorem ag22 : isAggT Tryz.prog 22 = some false := by kernel_rfl
theorem sz22 : sizeT Tryz.prog 22 = some 1 := by kernel_rfl
theorem by22 : bytesT Tryz.prog 22 = some 24 := by kernel_rfl
theorem se22 : sliceElem Tryz.prog 22 = some 58 := by kernel_rfl
theorem ze22 : zeroT Tryz.prog 22 = some (.nilS) := by kernel_rfl
theorem ag23 : isAggT Tryz.prog 23 = some false := by kernel_rfl
theorem sz23 : sizeT Tryz.prog 23 = some 1 := by kernel_rfl
theorem by23 : bytesT Tryz.prog 23 = some 24 := by kernel_rfl
theorem se23 : sliceElem Tryz.prog 23 = some 59 := by kernel_rfl
theorem ze23 : zeroT Tryz.prog 23 = some (.nilS) := by kernel_rfl
theorem ag24 : isAggT Tryz.prog 24 = some false := by kernel_rfl
theorem sz24 : sizeT Tryz.prog 24 = some 1 := by kernel_rfl
theorem by24 : bytesT Tryz.prog 24 = some 0 := by kernel_rfl
theorem ag25 : isAggT Tryz.prog 25 = some false := by kernel_rfl
theorem sz25 : sizeT Tryz.prog 25 = some 1 := by kernel_rfl
theorem by25 : bytesT Tryz.prog 25 = some 8 := by kernel_rfl
theorem ze25 : zeroT Tryz.prog 25 = some (.nilF) := by kernel_rfl
theorem ag26 : isAggT Tryz.prog 26 = some true := by kernel_rfl
theorem sz26 : sizeT Tryz.prog 26 = some 1 := by kernel_rfl
theorem by26 : bytesT Tryz.prog 26 = some 24 := by kernel_rfl
theorem ze26 : zeroT Tryz.prog 26 = some (.agg [.nilS]) := by kernel_rfl
theorem fa26_0 (a : AV) : aFieldAddr Tryz.prog 26 0 a = fieldOff 0 a := by cases a <;> kernel_rfl
theorem fd26_0 (a : AV) : aField Tryz.prog 26 0 a = fieldVal Tryz.prog 23 0 a := by cases a <;> kernel_rfl
theorem bu26 (ps : List (Nat × AV)) : aBuild Tryz.prog 26 ps = (fillA (fun i => [(0, 1)][i]?) (AV.cells (.agg [.nilS])) ps).map .agg := by kernel_rfl
theorem ag27 : isAggT Tryz.prog 27 = some true := by kernel_rfl
theorem sz27 : sizeT Tryz.prog 27 = some 1 := by kernel_rfl
theorem by27 : bytesT Tryz.prog 27 = some 24 := by kernel_rfl
theorem ze27 : zeroT Tryz.prog 27 = some (.agg [.nilS]) := by kernel_rfl
theorem fa27_0 (a : AV) : aFieldAddr Tryz.prog 27 0 a = fieldOff 0 a := by cases a <;> kernel_rfl
theorem fd27_0 (a : AV) : aField Tryz.prog 27 0 a = fieldVal Tryz.prog 23 0 a := by cases a <;> kernel_rfl
theorem bu27 (ps : List (Nat × AV)) : aBuild Tryz.prog 27 ps = (fillA (fun i => [(0, 1)][i]?) (AV.cells (.agg [.nilS])) ps).map .agg := by kernel_rfl
theorem ag28 : isAggT Tryz.prog 28 = some false := by kernel_rfl
theorem sz28 : sizeT Tryz.prog 28 = some 1 := by kernel_rfl
theorem by28 : bytesT Tryz.prog 28 = some 8 := by kernel_rfl
theorem ze28 : zeroT Tryz.prog 28 = some (.int .i64 0) := by kernel_rfl
theorem ag29 : isAggT Tryz.prog 29 = some false := by kernel_rfl
theorem sz29 : sizeT Tryz.prog 29 = some 1 := by kernel_rfl
theorem by29 : bytesT Tryz.prog 29 = some 0 := by kernel_rfl
theorem ag30 : isAggT Tryz.prog 30 = some false := by kernel_rfl
theorem sz30 : sizeT Tryz.prog 30 = some 1 := by kernel_rfl
theorem by30 : bytesT Tryz.prog 30 = some 8 := by kernel_rfl
theorem ze30 : zeroT Tryz.prog 30 = some (.nilF) := by kernel_rfl
theorem ag31 : isAggT Tryz.prog 31 = some false := by kernel_rfl
theorem sz31 : sizeT Tryz.prog 31 = some 1 := by kernel_rfl
theorem by31 : bytesT Tryz.prog 31 = some 8 := by kernel_rfl
theorem ze31 : zeroT Tryz.prog 31 = some (.nilF) := by kernel_rfl
theorem ag32 : isAggT Tryz.prog 32 = some false := by kernel_rfl
theorem sz32 : sizeT Tryz.prog 32 = some 1 := by kernel_rfl
theorem by32 : bytesT Tryz.prog 32 = some 8 := by kernel_rfl
theorem ze32 : zeroT Tryz.prog 32 = some (.nilF) := by kernel_rfl
theorem ag33 : isAggT Tryz.prog 33 = some false := by kernel_rfl
theorem sz33 : sizeT Tryz.prog 33 = some 1 := by kernel_rfl
theorem by33 : bytesT Tryz.prog 33 = some 8 := by kernel_rfl
theorem ze33 : zeroT Tryz.prog 33 = some (.nilF) := by kernel_rfl
theorem ag34 : isAggT Tryz.prog 34 = some false := by kernel_rfl
theorem sz34 : sizeT Tryz.prog 34 = some 1 := by kernel_rfl
theorem by34 : bytesT Tryz.prog 34 = some 8 := by kernel_rfl
theorem ze34 : zeroT Tryz.prog 34 = some (.nilF) := by kernel_rfl
theorem ag35 : isAggT Tryz.prog 35 = some false := by kernel_rfl
theorem sz35 : sizeT Tryz.prog 35 = some 1 := by kernel_rfl
theorem by35 : bytesT Tryz.prog 35 = some 8 := by kernel_rfl
theorem ze35 : zeroT Tryz.prog 35 = some (.nilF) := by kernel_rfl
theorem ag36 : isAggT Tryz.prog 36 = some false := by kernel_rfl
theorem sz36 : sizeT Tryz.prog 36 = some 1 := by kernel_rfl
theorem by36 : bytesT Tryz.prog 36 = some 8 := by kernel_rfl
theorem ze36 : zeroT Tryz.prog 36 = some (.nilF) := by kernel_rfl
theorem ag37 : isAggT Tryz.prog 37 = some false := by kernel_rfl
theorem sz37 : sizeT Tryz.prog 37 = some 1 := by kernel_rfl
theorem by37 : bytesT Tryz.prog 37 = some 8 := by kernel_rfl
theorem ze37 : zeroT Tryz.prog 37 = some (.nilF) := by kernel_rfl
theorem ag38 : isAggT Tryz.prog 38 = some false := by kernel_rfl
theorem sz38 : sizeT Tryz.prog 38 = some 1 := by kernel_rfl
theorem by38 : bytesT Tryz.prog 38 = some 0 := by kernel_rfl
theorem ag39 : isAggT Tryz.prog 39 = some false := by kernel_rfl
theorem sz39 : sizeT Tryz.prog 39 = some 1 := by kernel_rfl
theorem by39 : bytesT Tryz.prog 39 = some 8 := by kernel_rfl
theorem ze39 : zeroT Tryz.prog 39 = some (.nilF) := by kernel_rfl
theorem ag40 : isAggT Tryz.prog 40 = some false := by kernel_rfl
theorem sz40 : sizeT Tryz.prog 40 = some 1 := by kernel_rfl
theorem by40 : bytesT Tryz.prog 40 = some 8 := by kernel_rfl
theorem ze40 : zeroT Tryz.prog 40 = some (.nilF) := by kernel_rfl
theorem ag41 : isAggT Tryz.prog 41 = some false := by kernel_rfl
theorem sz41 : sizeT Tryz.prog 41 = some 1 := by kernel_rfl
theorem by41 : bytesT Tryz.prog 41 = some 24 := by kernel_rfl
theorem se41 : sliceElem Tryz.prog 41 = some 94 := by kernel_rfl
theorem ze41 : zeroT Tryz.prog 41 = some (.nilS) := by kernel_rfl
theorem ag42 : isAggT Tryz.prog 42 = some false := by kernel_rfl
theorem sz42 : sizeT Tryz.prog 42 = some 1 := by kernel_rfl
theorem by42 : bytesT Tryz.prog 42 = some 24 := by kernel_rfl
theorem se42 : sliceElem Tryz.prog 42 = some 54 := by kernel_rfl
theorem ze42 : zeroT Tryz.prog 42 = some (.nilS) := by kernel_rfl
theorem ag43 : isAggT Tryz.prog 43 = some false := by kernel_rfl
theorem sz43 : sizeT Tryz.prog 43 = some 1 := by kernel_rfl
theorem by43 : bytesT Tryz.prog 43 = some 0 := by kernel_rfl
theorem ag44 : isAggT Tryz.prog 44 = some false := by kernel_rfl
theorem sz44 : sizeT Tryz.prog 44 = some 1 := by kernel_rfl
theorem by44 : bytesT Tryz.prog 44 = some 8 := by kernel_rfl
theorem ze44 : zeroT Tryz.prog 44 = some (.nilF) := by kernel_rfl
theorem ag45 : isAggT Tryz.prog 45 = some false := by kernel_rfl
theorem sz45 : sizeT Tryz.prog 45 = some 1 := by kernel_rfl
theorem by45 : bytesT Tryz.prog 45 = some 8 := by kernel_rfl
theorem ze45 : zeroT Tryz.prog 45 = some (.nil) := by kernel_rfl
theorem ag46 : isAggT Tryz.prog 46 = some false := by kernel_rfl
theorem sz46 : sizeT Tryz.prog 46 = some 1 := by kernel_rfl
theorem by46 : bytesT Tryz.prog 46 = some 0 := by kernel_rfl
theorem ag47 : isAggT Tryz.prog 47 = some false := by kernel_rfl
theorem sz47 : sizeT Tryz.prog 47 = some 1 := by kernel_rfl
theorem by47 : bytesT Tryz.prog 47 = some 8 := by kernel_rfl
theorem ze47 : zeroT Tryz.prog 47 = some (.nilF) := by kernel_rfl
theorem ag48 : isAggT Tryz.prog 48 = some false := by kernel_rfl
theorem sz48 : sizeT Tryz.prog 48 = some 1 := by kernel_rfl
theorem by48 : bytesT Tryz.prog 48 = some 8 := by kernel_rfl
theorem ze48 : zeroT Tryz.prog 48 = some (.nilF) := by kernel_rfl
theorem ag49 : isAggT Tryz.prog 49 = some false := by kernel_rfl
theorem sz49 : sizeT Tryz.prog 49 = some 1 := by kernel_rfl
theorem by49 : bytesT Tryz.prog 49 = some 8 := by kernel_rfl
theorem ze49 : zeroT Tryz.prog 49 = some (.nilF) := by kernel_rfl
theorem ag50 : isAggT Tryz.prog 50 = some false := by kernel_rfl
theorem sz50 : sizeT Tryz.prog 50 = some 1 := by kernel_rfl
theorem by50 : bytesT Tryz.prog 50 = some 8 := by kernel_rfl
theorem ze50 : zeroT Tryz.prog 50 = some (.nilF) := by kernel_rfl
theorem ag51 : isAggT Tryz.prog 51 = some false := by kernel_rfl
theorem sz51 : sizeT Tryz.prog 51 = some 1 := by kernel_rfl
theorem by51 : bytesT Tryz.prog 51 = some 8 := by kernel_rfl
theorem ze51 : zeroT Tryz.prog 51 = some (.nilF) := by kernel_rfl
theorem ag52 : isAggT Tryz.prog 52 = some false := by kernel_rfl
theorem sz52 : sizeT Tryz.prog 52 = some 1 := by kernel_rfl
theorem by52 : bytesT Tryz.prog 52 = some 8 := by kernel_rfl
theorem ze52 : zeroT Tryz.prog 52 = some (.nilF) := by kernel_rfl
theorem ag53 : isAggT Tryz.prog 53 = some true := by kernel_rfl
theorem sz53 : sizeT Tryz.prog 53 = some 3 := by kernel_rfl
theorem by53 : bytesT Tryz.prog 53 = some 40 := by kernel_rfl
theorem ze53 : zeroT Tryz.prog 53 = some (.agg [.str [], .int .i64 0, .str []]) := by kernel_rfl
theorem fa53_0 (a : AV) : aFieldAddr Tryz.prog 53 0 a = fieldOff 0 a := by cases a <;> kernel_rfl
theorem fd53_0 (a : AV) : aField Tryz.prog 53 0 a = fieldVal Tryz.prog 9 0 a := by cases a <;> kernel_rfl
theorem fa53_1 (a : AV) : aFieldAddr Tryz.prog 53 1 a = fieldOff 1 a := by cases a <;> kernel_rfl
theorem fd53_1 (a : AV) : aField Tryz.prog 53 1 a = fieldVal Tryz.prog 3 1 a := by cases a <;> kernel_rfl
theorem fa53_2 (a : AV) : aFieldAddr Tryz.prog 53 2 a = fieldOff 2 a := by cases a <;> kernel_rfl
theorem fd53_2 (a : AV) : aField Tryz.prog 53 2 a = fieldVal Tryz.prog 9 2 a := by cases a <;> kernel_rfl
theorem bu53 (ps : List (Nat × AV)) : aBuild Tryz.prog 53 ps = (fillA (fun i => [(0, 1), (1, 1), (2, 1)][i]?) (AV.cells (.agg [.str [], .int .i64 0, .str []])) ps).map .agg := by kernel_rfl
theorem ag54 : isAggT Tryz.prog 54 = some true := by kernel_rfl
theorem sz54 : sizeT Tryz.prog 54 = some 3 := by kernel_rfl
theorem by54 : bytesT Tryz.prog 54 = some 40 := by kernel_rfl
theorem ze54 : zeroT Tryz.prog 54 = some (.agg [.str [], .int .i64 0, .str []]) := by kernel_rfl
theorem fa54_0 (a : AV) : aFieldAddr Tryz.prog 54 0 a = fieldOff 0 a := by cases a <;> kernel_rfl
theorem fd54_0 (a : AV) : aField Tryz.prog 54 0 a = fieldVal Tryz.prog 9 0 a := by cases a <;> kernel_rfl
theorem fa54_1 (a : AV) : aFieldAddr Tryz.prog 54 1 a = fieldOff 1 a := by cases a <;> kernel_rfl
theorem fd54_1 (a : AV) : aField Tryz.prog 54 1 a = fieldVal Tryz.prog 3 1 a := by cases a <;> kernel_rfl
theorem fa54_2 (a : AV) : aFieldAddr Tryz.prog 54 2 a = fieldOff 2 a := by cases a <;> kernel_rfl
theorem fd54_2 (a : AV) : aField Tryz.prog 54 2 a = fieldVal Tryz.prog 9 2 a := by cases a <;> kernel_rfl
theorem bu54 (ps : List (Nat × AV)) : aBuild Tryz.prog 54 ps = (fillA (fun i => [(0, 1), (1, 1), (2, 1)][i]?) (AV.cells (.agg [.str [], .int .i64 0, .str []])) ps).map .agg := by kernel_rfl
theorem ag55 : isAggT Tryz.prog 55 = some false := by kernel_rfl
theorem sz55 : sizeT Tryz.prog 55 = some 1 := by kernel_rfl
theorem by55 : bytesT Tryz.prog 55 = some 8 := by kernel_rfl
theorem ze55 : zeroT Tryz.prog 55 = some (.nilF) := by kernel_rfl
theorem ag56 : isAggT Tryz.prog 56 = some false := by kernel_rfl
theorem sz56 : sizeT Tryz.prog 56 = some 1 := by kernel_rfl
theorem by56 : bytesT Tryz.prog 56 = some 8 := by kernel_rfl
theorem ze56 : zeroT Tryz.prog 56 = some (.nilF) := by kernel_rfl
theorem ag57 : isAggT Tryz.prog 57 = some true := by kernel_rfl
theorem sz57 : sizeT Tryz.prog 57 = some 2 := by kernel_rfl
theorem by57 : bytesT Tryz.prog 57 = some 32 := by kernel_rfl
theorem ze57 : zeroT Tryz.prog 57 = some (.agg [.str [], .str []]) := by kernel_rfl
theorem fa57_0 (a : AV) : aFieldAddr Tryz.prog 57 0 a = fieldOff 0 a := by cases a <;> kernel_rfl
theorem fd57_0 (a : AV) : aField Tryz.prog 57 0 a = fieldVal Tryz.prog 9 0 a := by cases a <;> kernel_rfl
theorem fa57_1 (a : AV) : aFieldAddr Tryz.prog 57 1 a = fieldOff 1 a := by cases a <;> kernel_rfl
theorem fd57_1 (a : AV) : aField Tryz.prog 57 1 a = fieldVal Tryz.prog 9 1 a := by cases a <;> kernel_rfl
theorem bu57 (ps : List (Nat × AV)) : aBuild Tryz.prog 57 ps = (fillA (fun i => [(0, 1), (1, 1)][i]?) (AV.cells (.agg [.str [], .str []])) ps).map .agg := by kernel_rfl
theorem ag58 : isAggT Tryz.prog 58 = some true := by kernel_rfl
theorem sz58 : sizeT Tryz.prog 58 = some 2 := by kernel_rfl
theorem by58 : bytesT Tryz.prog 58 = some 32 := by kernel_rfl
theorem ze58 : zeroT Tryz.prog 58 = some (.agg [.str [], .str []]) := by kernel_rfl
theorem fa58_0 (a : AV) : aFieldAddr Tryz.prog 58 0 a = fieldOff 0 a := by cases a <;> kernel_rfl
theorem fd58_0 (a : AV) : aField Tryz.prog 58 0 a = fieldVal Tryz.prog 9 0 a := by cases a <;> kernel_rfl
theorem fa58_1 (a : AV) : aFieldAddr Tryz.prog 58 1 a = fieldOff 1 a := by cases a <;> kernel_rfl
theorem fd58_1 (a : AV) : aField Tryz.prog 58 1 a = fieldVal Tryz.prog 9 1 a := by cases a <;> kernel_rfl
theorem bu58 (ps : List (Nat × AV)) : aBuild Tryz.prog 58 ps = (fillA (fun i => [(0, 1), (1, 1)][i]?) (AV.cells (.agg [.str [], .str []])) ps).map .agg := by kernel_rfl
theorem ag59 : isAggT Tryz.prog 59 = some true := by kernel_rfl
theorem sz59 : sizeT Tryz.prog 59 = some 2 := by kernel_rfl
theorem by59 : bytesT Tryz.prog 59 = some 32 := by kernel_rfl
theorem ze59 : zeroT Tryz.prog 59 = some (.agg [.str [], .str []]) := by kernel_rfl
theorem fa59_0 (a : AV) : aFieldAddr Tryz.prog 59 0 a = fieldOff 0 a := by cases a <;> kernel_rfl
theorem fd59_0 (a : AV) : aField Tryz.prog 59 0 a = fieldVal Tryz.prog 9 0 a := by cases a <;> kernel_rfl
theorem fa59_1 (a : AV) : aFieldAddr Tryz.prog 59 1 a = fieldOff 1 a := by cases a <;> kernel_rfl
theorem fd59_1 (a : AV) : aField Tryz.prog 59 1 a = fieldVal Tryz.prog 9 1 a := by cases a <;> kernel_rfl
theorem bu59 (ps : List (Nat × AV)) : aBuild Tryz.prog 59 ps = (fillA (fun i => [(0, 1), (1, 1)][i]?) (AV.cells (.agg [.str [], .str []])) ps).map .agg := by kernel_rfl
theorem ag60 : isAggT Tryz.prog 60 = some false := by kernel_rfl
theorem sz60 : sizeT Tryz.prog 60 = some 1 := by kernel_rfl
theorem by60 : bytesT Tryz.prog 60 = some 8 := by kernel_rfl
theorem ze60 : zeroT Tryz.prog 60 = some (.nilF) := by kernel_rfl
theorem ag61 : isAggT Tryz.prog 61 = some false := by kernel_rfl
theorem sz61 : sizeT Tryz.prog 61 = some 1 := by kernel_rfl
theorem by61 : bytesT Tryz.prog 61 = some 8 := by kernel_rfl
theorem ze61 : zeroT Tryz.prog 61 = some (.nilF) := by kernel_rfl
theorem ag62 : isAggT Tryz.prog 62 = some false := by kernel_rfl
theorem sz62 : sizeT Tryz.prog 62 = some 1 := by kernel_rfl
theorem by62 : bytesT Tryz.prog 62 = some 8 := by kernel_rfl
theorem ze62 : zeroT Tryz.prog 62 = some (.nilF) := by kernel_rfl
theorem ag63 : isAggT Tryz.prog 63 = some false := by kernel_rfl
theorem sz63 : sizeT Tryz.prog 63 = some 1 := by kernel_rfl
theorem by63 : bytesT Tryz.prog 63 = some 8 := by kernel_rfl
theorem ze63 : zeroT Tryz.prog 63 = some (.nilF) := by kernel_rfl
theorem ag64 : isAggT Tryz.prog 64 = some false := by kernel_rfl
theorem sz64 : sizeT Tryz.prog 64 = some 1 := by kernel_rfl
theorem by64 : bytesT Tryz.prog 64 = some 8 := by kernel_rfl
theorem ze64 : zeroT Tryz.prog 64 = some (.nilF) := by kernel_rfl
theorem ag65 : isAggT Tryz.prog 65 = some false := by kernel_rfl
theorem sz65 : sizeT Tryz.prog 65 = some 1 := by kernel_rfl
theorem by65 : bytesT Tryz.prog 65 = some 8 := by kernel_rfl
theorem ze65 : zeroT Tryz.prog 65 = some (.nilF) := by kernel_rfl
theorem ag66 : isAggT Tryz.prog 66 = some false := by kernel_rfl
theorem sz66 : sizeT Tryz.prog 66 = some 1 := by kernel_rfl
theorem by66 : bytesT Tryz.prog 66 = some 8 := by kernel_rfl
theorem ze66 : zeroT Tryz.prog 66 = some (.nilF) := by kernel_rfl
theorem ag67 : isAggT Tryz.prog 67 = some false := by kernel_rfl
theorem sz67 : sizeT Tryz.prog 67 = some 1 := by kernel_rfl
theorem by67 : bytesT Tryz.prog 67 = some 0 := by kernel_rfl
theorem ag68 : isAggT Tryz.prog 68 = some false := by kernel_rfl
theorem sz68 : sizeT Tryz.prog 68 = some 1 := by kernel_rfl
theorem by68 : bytesT Tryz.prog 68 = some 8 := by kernel_rfl
theorem ze68 : zeroT Tryz.prog 68 = some (.nilF) := by kernel_rfl
theorem ag69 : isAggT Tryz.prog 69 = some false := by kernel_rfl
theorem sz69 : sizeT Tryz.prog 69 = some 1 := by kernel_rfl
theorem by69 : bytesT Tryz.prog 69 = some 0 := by kernel_rfl
theorem ag70 : isAggT Tryz.prog 70 = some false := by kernel_rfl
theorem sz70 : sizeT Tryz.prog 70 = some 1 := by kernel_rfl
theorem by70 : bytesT Tryz.prog 70 = some 8 := by kernel_rfl
theorem ze70 : zeroT Tryz.prog 70 = some (.nilF) := by kernel_rfl
theorem ag71 : isAggT Tryz.prog 71 = some false := by kernel_rfl
theorem sz71 : sizeT Tryz.prog 71 = some 1 := by kernel_rfl
theorem by71 : bytesT Tryz.prog 71 = some 8 := by kernel_rfl
theorem ze71 : zeroT Tryz.prog 71 = some (.nil) := by kernel_rfl
theorem ag72 : isAggT Tryz.prog 72 = some false := by kernel_rfl
theorem sz72 : sizeT Tryz.prog 72 = some 1 := by kernel_rfl
theorem by72 : bytesT Tryz.prog 72 = some 24 := by kernel_rfl
theorem se72 : sliceElem Tryz.prog 72 = some 5 := by kernel_rfl
theorem ze72 : zeroT Tryz.prog 72 = some (.nilS) := by kernel_rfl
theorem ag73 : isAggT Tryz.prog 73 = some true := by kernel_rfl
theorem sz73 : sizeT Tryz.prog 73 = some 2 := by kernel_rfl
theorem by73 : bytesT Tryz.prog 73 = some 32 := by kernel_rfl
theorem ze73 : zeroT Tryz.prog 73 = some (.agg [.nil, .nilS]) := by kernel_rfl
theorem fa73_0 (a : AV) : aFieldAddr Tryz.prog 73 0 a = fieldOff 0 a := by cases a <;> kernel_rfl
theorem fd73_0 (a : AV) : aField Tryz.prog 73 0 a = fieldVal Tryz.prog 71 0 a := by cases a <;> kernel_rfl
theorem fa73_1 (a : AV) : aFieldAddr Tryz.prog 73 1 a = fieldOff 1 a := by cases a <;> kernel_rfl
theorem fd73_1 (a : AV) : aField Tryz.prog 73 1 a = fieldVal Tryz.prog 72 1 a := by cases a <;> kernel_rfl
theorem bu73 (ps : List (Nat × AV)) : aBuild Tryz.prog 73 ps = (fillA (fun i => [(0, 1), (1, 1)][i]?) (AV.cells (.agg [.nil, .nilS])) ps).map .agg := by kernel_rfl
theorem ag74 : isAggT Tryz.prog 74 = some true := by kernel_rfl
theorem sz74 : sizeT Tryz.prog 74 = some 2 := by kernel_rfl
theorem by74 : bytesT Tryz.prog 74 = some 32 := by kernel_rfl
theorem ze74 : zeroT Tryz.prog 74 = some (.agg [.nil, .nilS]) := by kernel_rfl
theorem fa74_0 (a : AV) : aFieldAddr Tryz.prog 74 0 a = fieldOff 0 a := by cases a <;> kernel_rfl
theorem fd74_0 (a : AV) : aField Tryz.prog 74 0 a = fieldVal Tryz.prog 71 0 a := by cases a <;> kernel_rfl
theorem fa74_1 (a : AV) : aFieldAddr Tryz.prog 74 1 a = fieldOff 1 a := by cases a <;> kernel_rfl
theorem fd74_1 (a : AV) : aField Tryz.prog 74 1 a = fieldVal Tryz.prog 72 1 a := by cases a <;> kernel_rfl
theorem bu74 (ps : List (Nat × AV)) : aBuild Tryz.prog 74 ps = (fillA (fun i => [(0, 1), (1, 1)][i]?) (AV.cells (.agg [.nil, .nilS])) ps).map .agg := by kernel_rfl
theorem ag75 : isAggT Tryz.prog 75 = some false := by kernel_rfl
theorem sz75 : sizeT Tryz.prog 75 = some 1 := by kernel_rfl
theorem by75 : bytesT Tryz.prog 75 = some 16 := by kernel_rfl
theorem ze75 : zeroT Tryz.prog 75 = some (.nilI) := by kernel_rfl
theorem ag76 : isAggT Tryz.prog 76 = some false := by kernel_rfl
theorem sz76 : sizeT Tryz.prog 76 = some 1 := by kernel_rfl
theorem by76 : bytesT Tryz.prog 76 = some 16 := by kernel_rfl
theorem ze76 : zeroT Tryz.prog 76 = some (.nilI) := by kernel_rfl
theorem ag77 : isAggT Tryz.prog 77 = some false := by kernel_rfl
theorem sz77 : sizeT Tryz.prog 77 = some 1 := by kernel_rfl
theorem by77 : bytesT Tryz.prog 77 = some 8 := by kernel_rfl
theorem ze77 : zeroT Tryz.prog 77 = some (.nilF) := by kernel_rfl
theorem ag78 : isAggT Tryz.prog 78 = some false := by kernel_rfl
theorem sz78 : sizeT Tryz.prog 78 = some 1 := by kernel_rfl
theorem by78 : bytesT Tryz.prog 78 = some 0 := by kernel_rfl
theorem ag79 : isAggT Tryz.prog 79 = some false := by kernel_rfl
theorem sz79 : sizeT Tryz.prog 79 = some 1 := by kernel_rfl
theorem by79 : bytesT Tryz.prog 79 = some 8 := by kernel_rfl
theorem ze79 : zeroT Tryz.prog 79 = some (.nilF) := by kernel_rfl
theorem ag80 : isAggT Tryz.prog 80 = some false := by kernel_rfl
theorem sz80 : sizeT Tryz.prog 80 = some 1 := by kernel_rfl
theorem by80 : bytesT Tryz.prog 80 = some 0 := by kernel_rfl
theorem ag81 : isAggT Tryz.prog 81 = some false := by kernel_rfl
theorem sz81 : sizeT Tryz.prog 81 = some 1 := by kernel_rfl
theorem by81 : bytesT Tryz.prog 81 = some 8 := by kernel_rfl
theorem ze81 : zeroT Tryz.prog 81 = some (.nilF) := by kernel_rfl
theorem ag82 : isAggT Tryz.prog 82 = some false := by kernel_rfl
theorem sz82 : sizeT Tryz.prog 82 = some 1 := by kernel_rfl
theorem by82 : bytesT Tryz.prog 82 = some 8 := by kernel_rfl
theorem ze82 : zeroT Tryz.prog 82 = some (.nilF) := by kernel_rfl
theorem ag83 : isAggT Tryz.prog 83 = some false := by kernel_rfl
theorem sz83 : sizeT Tryz.prog 83 = some 1 := by kernel_rfl
theorem by83 : bytesT Tryz.prog 83 = some 8 := by kernel_rfl
theorem ze83 : zeroT Tryz.prog 83 = some (.nilF) := by kernel_rfl
theorem ag84 : isAggT Tryz.prog 84 = some false := by kernel_rfl
theorem sz84 : sizeT Tryz.prog 84 = some 1 := by kernel_rfl
theorem by84 : bytesT Tryz.prog 84 = some 8 := by kernel_rfl
theorem ze84 : zeroT Tryz.prog 84 = some (.nilF) := by kernel_rfl
theorem ag85 : isAggT Tryz.prog 85 = some false := by kernel_rfl
theorem sz85 : sizeT Tryz.prog 85 = some 1 := by kernel_rfl
theorem by85 : bytesT Tryz.prog 85 = some 8 := by kernel_rfl
theorem ze85 : zeroT Tryz.prog 85 = some (.nilF) := by kernel_rfl
theorem ag86 : isAggT Tryz.prog 86 = some false := by kernel_rfl
theorem sz86 : sizeT Tryz.prog 86 = some 1 := by kernel_rfl
theorem by86 : bytesT Tryz.prog 86 = some 0 := by kernel_rfl
theorem ag87 : isAggT Tryz.prog 87 = some false := by kernel_rfl
theorem sz87 : sizeT Tryz.prog 87 = some 1 := by kernel_rfl
theorem by87 : bytesT Tryz.prog 87 = some 8 := by kernel_rfl
theorem ze87 : zeroT Tryz.prog 87 = some (.nilF) := by kernel_rfl
theorem ag88 : isAggT Tryz.prog 88 = some true := by kernel_rfl
theorem sz88 : sizeT Tryz.prog 88 = some 7 := by kernel_rfl
theorem by88 : bytesT Tryz.prog 88 = some 88 := by kernel_rfl
theorem ze88 : zeroT Tryz.prog 88 = some (.agg [.int .i64 0, .str [], .int .i64 0, .int .i64 0, .str [], .str [], .str []]) := by kernel_rfl
theorem fa88_0 (a : AV) : aFieldAddr Tryz.prog 88 0 a = fieldOff 0 a := by cases a <;> kernel_rfl
theorem fd88_0 (a : AV) : aField Tryz.prog 88 0 a = fieldVal Tryz.prog 2 0 a := by cases a <;> kernel_rfl
theorem fa88_1 (a : AV) : aFieldAddr Tryz.prog 88 1 a = fieldOff 1 a := by cases a <;> kernel_rfl
theorem fd88_1 (a : AV) : aField Tryz.prog 88 1 a = fieldVal Tryz.prog 9 1 a := by cases a <;> kernel_rfl
theorem fa88_2 (a : AV) : aFieldAddr Tryz.prog 88 2 a = fieldOff 2 a := by cases a <;> kernel_rfl
theorem fd88_2 (a : AV) : aField Tryz.prog 88 2 a = fieldVal Tryz.prog 2 2 a := by cases a <;> kernel_rfl
theorem fa88_3 (a : AV) : aFieldAddr Tryz.prog 88 3 a = fieldOff 3 a := by cases a <;> kernel_rfl
theorem fd88_3 (a : AV) : aField Tryz.prog 88 3 a = fieldVal Tryz.prog 2 3 a := by cases a <;> kernel_rfl
theorem fa88_4 (a : AV) : aFieldAddr Tryz.prog 88 4 a = fieldOff 4 a := by cases a <;> kernel_rfl
theorem fd88_4 (a : AV) : aField Tryz.prog 88 4 a = fieldVal Tryz.prog 9 4 a := by cases a <;> kernel_rfl
theorem fa88_5 (a : AV) : aFieldAddr Tryz.prog 88 5 a = fieldOff 5 a := by cases a <;> kernel_rfl
theorem fd88_5 (a : AV) : aField Tryz.prog 88 5 a = fieldVal Tryz.prog 9 5 a := by cases a <;> kernel_rfl
theorem fa88_6 (a : AV) : aFieldAddr Tryz.prog 88 6 a = fieldOff 6 a := by cases a <;> kernel_rfl
theorem fd88_6 (a : AV) : aField Tryz.prog 88 6 a = fieldVal Tryz.prog 9 6 a := by cases a <;> kernel_rfl
theorem bu88 (ps : List (Nat × AV)) : aBuild Tryz.prog 88 ps = (fillA (fun i => [(0, 1), (1, 1), (2, 1), (3, 1), (4, 1), (5, 1), (6, 1)][i]?) (AV.cells (.agg [.int .i64 0, .str [], .int .i64 0, .int .i64 0, .str [], .str [], .str []])) ps).map .agg := by kernel_rfl
theorem ag89 : isAggT Tryz.prog 89 = some true := by kernel_rfl
theorem sz89 : sizeT Tryz.prog 89 = some 7 := by kernel_rfl
theorem by89 : bytesT Tryz.prog 89 = some 88 := by kernel_rfl
theorem ze89 : zeroT Tryz.prog 89 = some (.agg [.int .i64 0, .str [], .int .i64 0, .int .i64 0, .str [], .str [], .str []]) := by kernel_rfl
theorem fa89_0 (a : AV) : aFieldAddr Tryz.prog 89 0 a = fieldOff 0 a := by cases a <;> kernel_rfl
theorem fd89_0 (a : AV) : aField Tryz.prog 89 0 a = fieldVal Tryz.prog 2 0 a := by cases a <;> kernel_rfl
theorem fa89_1 (a : AV) : aFieldAddr Tryz.prog 89 1 a = fieldOff 1 a := by cases a <;> kernel_rfl
theorem fd89_1 (a : AV) : aField Tryz.prog 89 1 a = fieldVal Tryz.prog 9 1 a := by cases a <;> kernel_rfl
theorem fa89_2 (a : AV) : aFieldAddr Tryz.prog 89 2 a = fieldOff 2 a := by cases a <;> kernel_rfl
theorem fd89_2 (a : AV) : aField Tryz.prog 89 2 a = fieldVal Tryz.prog 2 2 a := by cases a <;> kernel_rfl
theorem fa89_3 (a : AV) : aFieldAddr Tryz.prog 89 3 a = fieldOff 3 a := by cases a <;> kernel_rfl
theorem fd89_3 (a : AV) : aField Tryz.prog 89 3 a = fieldVal Tryz.prog 2 3 a := by cases a <;> kernel_rfl
theorem fa89_4 (a : AV) : aFieldAddr Tryz.prog 89 4 a = fieldOff 4 a := by cases a <;> kernel_rfl
theorem fd89_4 (a : AV) : aField Tryz.prog 89 4 a = fieldVal Tryz.prog 9 4 a := by cases a <;> kernel_rfl
theorem fa89_5 (a : AV) : aFieldAddr Tryz.prog 89 5 a = fieldOff 5 a := by cases a <;> kernel_rfl
theorem fd89_5 (a : AV) : aField Tryz.prog 89 5 a = fieldVal Tryz.prog 9 5 a := by cases a <;> kernel_rfl
theorem fa89_6 (a : AV) : aFieldAddr Tryz.prog 89 6 a = fieldOff 6 a := by cases a <;> kernel_rfl
theorem fd89_6 (a : AV) : aField Tryz.prog 89 6 a = fieldVal Tryz.prog 9 6 a := by cases a <;> kernel_rfl
theorem bu89 (ps : List (Nat × AV)) : aBuild Tryz.prog 89 ps = (fillA (fun i => [(0, 1), (1, 1), (2, 1), (3, 1), (4, 1), (5, 1), (6, 1)][i]?) (AV.cells (.agg [.int .i64 0, .str [], .int .i64 0, .int .i64 0, .str [], .str [], .str []])) ps).map .agg := by kernel_rfl
theorem ag90 : isAggT Tryz.prog 90 = some false := by kernel_rfl
theorem sz90 : sizeT Tryz.prog 90 = some 1 := by kernel_rfl
theorem by90 : bytesT Tryz.prog 90 = some 0 := by kernel_rfl
theorem ag91 : isAggT Tryz.prog 91 = some false := by kernel_rfl
theorem sz91 : sizeT Tryz.prog 91 = some 1 := by kernel_rfl
theorem by91 : bytesT Tryz.prog 91 = some 8 := by kernel_rfl
theorem ze91 : zeroT Tryz.prog 91 = some (.nilF) := by kernel_rfl
theorem ag92 : isAggT Tryz.prog 92 = some false := by kernel_rfl
theorem sz92 : sizeT Tryz.prog 92 = some 1 := by kernel_rfl
theorem by92 : bytesT Tryz.prog 92 = some 8 := by kernel_rfl
theorem ze92 : zeroT Tryz.prog 92 = some (.nilF) := by kernel_rfl
theorem ag93 : isAggT Tryz.prog 93 = some false := by kernel_rfl
theorem sz93 : sizeT Tryz.prog 93 = some 1 := by kernel_rfl
theorem by93 : bytesT Tryz.prog 93 = some 8 := by kernel_rfl
theorem ze93 : zeroT Tryz.prog 93 = some (.nilF) := by kernel_rfl
theorem ag94 : isAggT Tryz.prog 94 = some true := by kernel_rfl
theorem sz94 : sizeT Tryz.prog 94 = some 3 := by kernel_rfl
theorem by94 : bytesT Tryz.prog 94 = some 40 := by kernel_rfl
theorem ze94 : zeroT Tryz.prog 94 = some (.agg [.str [], .int .i64 0, .str []]) := by kernel_rfl
theorem fa94_0 (a : AV) : aFieldAddr Tryz.prog 94 0 a = fieldOff 0 a := by cases a <;> kernel_rfl
theorem fd94_0 (a : AV) : aField Tryz.prog 94 0 a = fieldVal Tryz.prog 9 0 a := by cases a <;> kernel_rfl
theorem fa94_1 (a : AV) : aFieldAddr Tryz.prog 94 1 a = fieldOff 1 a := by cases a <;> kernel_rfl
theorem fd94_1 (a : AV) : aField Tryz.prog 94 1 a = fieldVal Tryz.prog 3 1 a := by cases a <;> kernel_rfl
theorem fa94_2 (a : AV) : aFieldAddr Tryz.prog 94 2 a = fieldOff 2 a := by cases a <;> kernel_rfl
theorem fd94_2 (a : AV) : aField Tryz.prog 94 2 a = fieldVal Tryz.prog 9 2 a := by cases a <;> kernel_rfl
theorem bu94 (ps : List (Nat × AV)) : aBuild Tryz.prog 94 ps = (fillA (fun i => [(0, 1), (1, 1), (2, 1)][i]?) (AV.cells (.agg [.str [], .int .i64 0, .str []])) ps).map .agg := by kernel_rfl
theorem ag95 : isAggT Tryz.prog 95 = some false := by kernel_rfl
theorem sz95 : sizeT Tryz.prog 95 = some 1 := by kernel_rfl
theorem by95 : bytesT Tryz.prog 95 = some 24 := by kernel_rfl
theorem se95 : sliceElem Tryz.prog 95 = some 100 := by kernel_rfl
theorem ze95 : zeroT Tryz.prog 95 = some (.nilS) := by kernel_rfl
theorem ag96 : isAggT Tryz.prog 96 = some true := by kernel_rfl
theorem sz96 : sizeT Tryz.prog 96 = some 1 := by kernel_rfl
theorem by96 : bytesT Tryz.prog 96 = some 24 := by kernel_rfl
theorem ze96 : zeroT Tryz.prog 96 = some (.agg [.nilS]) := by kernel_rfl
theorem fa96_0 (a : AV) : aFieldAddr Tryz.prog 96 0 a = fieldOff 0 a := by cases a <;> kernel_rfl
theorem fd96_0 (a : AV) : aField Tryz.prog 96 0 a = fieldVal Tryz.prog 95 0 a := by cases a <;> kernel_rfl
theorem bu96 (ps : List (Nat × AV)) : aBuild Tryz.prog 96 ps = (fillA (fun i => [(0, 1)][i]?) (AV.cells (.agg [.nilS])) ps).map .agg := by kernel_rfl
theorem ag97 : isAggT Tryz.prog 97 = some true := by kernel_rfl
theorem sz97 : sizeT Tryz.prog 97 = some 1 := by kernel_rfl
theorem by97 : bytesT Tryz.prog 97 = some 24 := by kernel_rfl
theorem ze97 : zeroT Tryz.prog 97 = some (.agg [.nilS]) := by kernel_rfl
theorem fa97_0 (a : AV) : aFieldAddr Tryz.prog 97 0 a = fieldOff 0 a := by cases a <;> kernel_rfl
theorem fd97_0 (a : AV) : aField Tryz.prog 97 0 a = fieldVal Tryz.prog 95 0 a := by cases a <;> kernel_rfl
theorem bu97 (ps : List (Nat × AV)) : aBuild Tryz.prog 97 ps = (fillA (fun i => [(0, 1)][i]?) (AV.cells (.agg [.nilS])) ps).map .agg := by kernel_rfl
theorem ag98 : isAggT Tryz.prog 98 = some false := by kernel_rfl
theorem sz98 : sizeT Tryz.prog 98 = some 1 := by kernel_rfl
theorem by98 : bytesT Tryz.prog 98 = some 8 := by kernel_rfl
theorem ze98 : zeroT Tryz.prog 98 = some (.nil) := by kernel_rfl
theorem ag99 : isAggT Tryz.prog 99 = some true := by kernel_rfl
theorem sz99 : sizeT Tryz.prog 99 = some 4 := by kernel_rfl
theorem by99 : bytesT Tryz.prog 99 = some 48 := by kernel_rfl
theorem ze99 : zeroT Tryz.prog 99 = some (.agg [.str [], .int .i64 0, .str [], .nil]) := by kernel_rfl
theorem fa99_0 (a : AV) : aFieldAddr Tryz.prog 99 0 a = fieldOff 0 a := by cases a <;> kernel_rfl
theorem fd99_0 (a : AV) : aField Tryz.prog 99 0 a = fieldVal Tryz.prog 54 0 a := by cases a <;> kernel_rfl
theorem fa99_1 (a : AV) : aFieldAddr Tryz.prog 99 1 a = fieldOff 3 a := by cases a <;> kernel_rfl
theorem fd99_1 (a : AV) : aField Tryz.prog 99 1 a = fieldVal Tryz.prog 98 3 a := by cases a <;> kernel_rfl
theorem bu99 (ps : List (Nat × AV)) : aBuild Tryz.prog 99 ps = (fillA (fun i => [(0, 3), (3, 1)][i]?) (AV.cells (.agg [.str [], .int .i64 0, .str [], .nil])) ps).map .agg := by kernel_rfl
theorem ag100 : isAggT Tryz.prog 100 = some true := by kernel_rfl
theorem sz100 : sizeT Tryz.prog 100 = some 4 := by kernel_rfl
theorem by100 : bytesT Tryz.prog 100 = some 48 := by kernel_rfl
theorem ze100 : zeroT Tryz.prog 100 = some (.agg [.str [], .int .i64 0, .str [], .nil]) := by kernel_rfl
theorem fa100_0 (a : AV) : aFieldAddr Tryz.prog 100 0 a = fieldOff 0 a := by cases a <;> kernel_rfl
theorem fd100_0 (a : AV) : aField Tryz.prog 100 0 a = fieldVal Tryz.prog 54 0 a := by cases a <;> kernel_rfl
theorem fa100_1 (a : AV) : aFieldAddr Tryz.prog 100 1 a = fieldOff 3 a := by cases a <;> kernel_rfl
theorem fd100_1 (a : AV) : aField Tryz.prog 100 1 a = fieldVal Tryz.prog 98 3 a := by cases a <;> kernel_rfl
theorem bu100 (ps : List (Nat × AV)) : aBuild Tryz.prog 100 ps = (fillA (fun i => [(0, 3), (3, 1)][i]?) (AV.cells (.agg [.str [], .int .i64 0, .str [], .nil])) ps).map .agg := by kernel_rfl
theorem ag101 : isAggT Tryz.prog 101 = some false := by kernel_rfl
theorem sz101 : sizeT Tryz.prog 101 = some 1 := by kernel_rfl
theorem by101 : bytesT Tryz.prog 101 = some 0 := by kernel_rfl
theorem ag102 : isAggT Tryz.prog 102 = some false := by kernel_rfl
theorem sz102 : sizeT Tryz.prog 102 = some 1 := by kernel_rfl
theorem by102 : bytesT Tryz.prog 102 = some 8 := by kernel_rfl
theorem ze102 : zeroT Tryz.prog 102 = some (.nilF) := by kernel_rfl
theorem ag103 : isAggT Tryz.prog 103 = some false := by kernel_rfl
theorem sz103 : sizeT Tryz.prog 103 = some 1 := by kernel_rfl
theorem by103 : bytesT Tryz.prog 103 = some 8 := by kernel_rfl
theorem ze103 : zeroT Tryz.prog 103 = some (.nilF) := by kernel_rfl
theorem ag104 : isAggT Tryz.prog 104 = some false := by kernel_rfl
theorem sz104 : sizeT Tryz.prog 104 = some 1 := by kernel_rfl
theorem by104 : bytesT Tryz.prog 104 = some 0 := by kernel_rfl
theorem ag105 : isAggT Tryz.prog 105 = some false := by kernel_rfl
theorem sz105 : sizeT Tryz.prog 105 = some 1 := by kernel_rfl
theorem by105 : bytesT Tryz.prog 105 = some 8 := by kernel_rfl
theorem ze105 : zeroT Tryz.prog 105 = some (.nilF) := by kernel_rfl
theorem ag106 : isAggT Tryz.prog 106 = some false := by kernel_rfl
theorem sz106 : sizeT Tryz.prog 106 = some 1 := by kernel_rfl
theorem by106 : bytesT Tryz.prog 106 = some 24 := by kernel_rfl
theorem se106 : sliceElem Tryz.prog 106 = some 9 := by kernel_rfl
theorem ze106 : zeroT Tryz.prog 106 = some (.nilS) := by kernel_rfl
theorem ag107 : isAggT Tryz.prog 107 = some false := by kernel_rfl
theorem sz107 : sizeT Tryz.prog 107 = some 1 := by kernel_rfl
theorem by107 : bytesT Tryz.prog 107 = some 8 := by kernel_rfl
theorem ze107 : zeroT Tryz.prog 107 = some (.nilF) := by kernel_rfl
theorem ag108 : isAggT Tryz.prog 108 = some false := by kernel_rfl
theorem sz108 : sizeT Tryz.prog 108 = some 1 := by kernel_rfl
theorem by108 : bytesT Tryz.prog 108 = some 8 := by kernel_rfl
theorem ze108 : zeroT Tryz.prog 108 = some (.nilF) := by kernel_rfl
theorem ag109 : isAggT Tryz.prog 109 = some false := by kernel_rfl
theorem sz109 : sizeT Tryz.prog 109 = some 1 := by kernel_rfl
theorem by109 : bytesT Tryz.prog 109 = some 8 := by kernel_rfl
theorem ze109 : zeroT Tryz.prog 109 = some (.nilF) := by kernel_rfl
theorem ag110 : isAggT Tryz.prog 110 = some false := by kernel_rfl
theorem sz110 : sizeT Tryz.prog 110 = some 1 := by kernel_rfl
theorem by110 : bytesT Tryz.prog 110 = some 8 := by kernel_rfl
theorem ze110 : zeroT Tryz.prog 110 = some (.nilF) := by kernel_rfl
theorem ag111 : isAggT Tryz.prog 111 = some false := by kernel_rfl
theorem sz111 : sizeT Tryz.prog 111 = some 1 := by kernel_rfl
theorem by111 : bytesT Tryz.prog 111 = some 8 := by kernel_rfl
theorem ze111 : zeroT Tryz.prog 111 = some (.nilF) := by kernel_rfl
theorem ag112 : isAggT Tryz.prog 112 = some false := by kernel_rfl
theorem sz112 : sizeT Tryz.prog 112 = some 1 := by kernel_rfl
theorem by112 : bytesT Tryz.prog 112 = some 0 := by kernel_rfl
theorem ag113 : isAggT Tryz.prog 113 = some false := by kernel_rfl
theorem sz113 : sizeT Tryz.prog 113 = some 1 := by kernel_rfl
theorem by113 : bytesT Tryz.prog 113 = some 8 := by kernel_rfl
theorem ze113 : zeroT Tryz.prog 113 = some (.nilF) := by kernel_rfl
theorem ag114 : isAggT Tryz.prog 114 = some false := by kernel_rfl
theorem sz114 : sizeT Tryz.prog 114 = some 1 := by kernel_rfl
theorem by114 : bytesT Tryz.prog 114 = some 8 := by kernel_rfl
theorem ze114 : zeroT Tryz.prog 114 = some (.nilF) := by kernel_rfl
theorem ag115 : isAggT Tryz.prog 115 = some false := by kernel_rfl
theorem sz115 : sizeT Tryz.prog 115 = some 1 := by kernel_rfl
theorem by115 : bytesT Tryz.prog 115 = some 8 := by kernel_rfl
theorem ze115 : zeroT Tryz.prog 115 = some (.nilF) := by kernel_rfl
theorem ag116 : isAggT Tryz.prog 116 = some false := by kernel_rfl
theorem sz116 : sizeT Tryz.prog 116 = some 1 := by kernel_rfl
theorem by116 : bytesT Tryz.prog 116 = some 8 := by kernel_rfl
theorem ze116 : zeroT Tryz.prog 116 = some (.int .u64 0) := by kernel_rfl
theorem ag117 : isAggT Tryz.prog 117 = some false := by kernel_rfl
theorem sz117 : sizeT Tryz.prog 117 = some 1 := by kernel_rfl
theorem by117 : bytesT Tryz.prog 117 = some 0 := by kernel_rfl
theorem ag118 : isAggT Tryz.prog 118 = some false := by kernel_rfl
theorem sz118 : sizeT Tryz.prog 118 = some 1 := by kernel_rfl
theorem by118 : bytesT Tryz.prog 118 = some 8 := by kernel_rfl
theorem ze118 : zeroT Tryz.prog 118 = some (.nilF) := by kernel_rfl
theorem ag119 : isAggT Tryz.prog 119 = some true := by kernel_rfl
theorem sz119 : sizeT Tryz.prog 119 = some 5 := by kernel_rfl
theorem by119 : bytesT Tryz.prog 119 = some 48 := by kernel_rfl
theorem ze119 : zeroT Tryz.prog 119 = some (.agg [.int .i64 0, .int .i64 0, .int .i64 0, .str [], .int .i64 0]) := by kernel_rfl
theorem fa119_0 (a : AV) : aFieldAddr Tryz.prog 119 0 a = fieldOff 0 a := by cases a <;> kernel_rfl
theorem fd119_0 (a : AV) : aField Tryz.prog 119 0 a = fieldVal Tryz.prog 3 0 a := by cases a <;> kernel_rfl
theorem fa119_1 (a : AV) : aFieldAddr Tryz.prog 119 1 a = fieldOff 1 a := by cases a <;> kernel_rfl
theorem fd119_1 (a : AV) : aField Tryz.prog 119 1 a = fieldVal Tryz.prog 3 1 a := by cases a <;> kernel_rfl
theorem fa119_2 (a : AV) : aFieldAddr Tryz.prog 119 2 a = fieldOff 2 a := by cases a <;> kernel_rfl
theorem fd119_2 (a : AV) : aField Tryz.prog 119 2 a = fieldVal Tryz.prog 3 2 a := by cases a <;> kernel_rfl
theorem fa119_3 (a : AV) : aFieldAddr Tryz.prog 119 3 a = fieldOff 3 a := by cases a <;> kernel_rfl
theorem fd119_3 (a : AV) : aField Tryz.prog 119 3 a = fieldVal Tryz.prog 9 3 a := by cases a <;> kernel_rfl
theorem fa119_4 (a : AV) : aFieldAddr Tryz.prog 119 4 a = fieldOff 4 a := by cases a <;> kernel_rfl
theorem fd119_4 (a : AV) : aField Tryz.prog 119 4 a = fieldVal Tryz.prog 2 4 a := by cases a <;> kernel_rfl
theorem bu119 (ps : List (Nat × AV)) : aBuild Tryz.prog 119 ps = (fillA (fun i => [(0, 1), (1, 1), (2, 1), (3, 1), (4, 1)][i]?) (AV.cells (.agg [.int .i64 0, .int .i64 0, .int .i64 0, .str [], .int .i64 0])) ps).map .agg := by kernel_rfl
theorem ag120 : isAggT Tryz.prog 120 = some true := by kernel_rfl
theorem sz120 : sizeT Tryz.prog 120 = some 5 := by kernel_rfl
theorem by120 : bytesT Tryz.prog 120 = some 48 := by kernel_rfl
theorem ze120 : zeroT Tryz.prog 120 = some (.agg [.int .i64 0, .int .i64 0, .int .i64 0, .str [], .int .i64 0]) := by kernel_rfl
theorem fa120_0 (a : AV) : aFieldAddr Tryz.prog 120 0 a = fieldOff 0 a := by cases a <;> kernel_rfl
theorem fd120_0 (a : AV) : aField Tryz.prog 120 0 a = fieldVal Tryz.prog 3 0 a := by cases a <;> kernel_rfl
theorem fa120_1 (a : AV) : aFieldAddr Tryz.prog 120 1 a = fieldOff 1 a := by cases a <;> kernel_rfl
theorem fd120_1 (a : AV) : aField Tryz.prog 120 1 a = fieldVal Tryz.prog 3 1 a := by cases a <;> kernel_rfl
theorem fa120_2 (a : AV) : aFieldAddr Tryz.prog 120 2 a = fieldOff 2 a := by cases a <;> kernel_rfl
theorem fd120_2 (a : AV) : aField Tryz.prog 120 2 a = fieldVal Tryz.prog 3 2 a := by cases a <;> kernel_rfl
theorem fa120_3 (a : AV) : aFieldAddr Tryz.prog 120 3 a = fieldOff 3 a := by cases a <;> kernel_rfl
theorem fd120_3 (a : AV) : aField Tryz.prog 120 3 a = fieldVal Tryz.prog 9 3 a := by cases a <;> kernel_rfl
theorem fa120_4 (a : AV) : aFieldAddr Tryz.prog 120 4 a = fieldOff 4 a := by cases a <;> kernel_rfl
theorem fd120_4 (a : AV) : aField Tryz.prog 120 4 a = fieldVal Tryz.prog 2 4 a := by cases a <;> kernel_rfl
theorem bu120 (ps : List (Nat × AV)) : aBuild Tryz.prog 120 ps = (fillA (fun i => [(0, 1), (1, 1), (2, 1), (3, 1), (4, 1)][i]?) (AV.cells (.agg [.int .i64 0, .int .i64 0, .int .i64 0, .str [], .int .i64 0])) ps).map .agg := by kernel_rfl
theorem ag121 : isAggT Tryz.prog 121 = some false := by kernel_rfl
theorem sz121 : sizeT Tryz.prog 121 = some 1 := by kernel_rfl
theorem by121 : bytesT Tryz.prog 121 = some 0 := by kernel_rfl
theorem ag122 : isAggT Tryz.prog 122 = some false := by kernel_rfl
theorem sz122 : sizeT Tryz.prog 122 = some 1 := by kernel_rfl
theorem by122 : bytesT Tryz.prog 122 = some 8 := by kernel_rfl
theorem ze122 : zeroT Tryz.prog 122 = some (.nilF) := by kernel_rfl
theorem ag123 : isAggT Tryz.prog 123 = some false := by kernel_rfl
theorem sz123 : sizeT Tryz.prog 123 = some 1 := by kernel_rfl
theorem by123 : bytesT Tryz.prog 123 = some 8 := by kernel_rfl
theorem ze123 : zeroT Tryz.prog 123 = some (.nilF) := by kernel_rfl
theorem ag124 : isAggT Tryz.prog 124 = some false := by kernel_rfl
theorem sz124 : sizeT Tryz.prog 124 = some 1 := by kernel_rfl
theorem by124 : bytesT Tryz.prog 124 = some 8 := by kernel_rfl
theorem ze124 : zeroT Tryz.prog 124 = some (.nil) := by kernel_rfl
theorem ag125 : isAggT Tryz.prog 125 = some false := by kernel_rfl
theorem sz125 : sizeT Tryz.prog 125 = some 1 := by kernel_rfl
theorem by125 : bytesT Tryz.prog 125 = some 8 := by kernel_rfl
theorem ze125 : zeroT Tryz.prog 125 = some (.nilF) := by kernel_rfl
theorem ag126 : isAggT Tryz.prog 126 = some false := by kernel_rfl
theorem sz126 : sizeT Tryz.prog 126 = some 1 := by kernel_rfl
theorem by126 : bytesT Tryz.prog 126 = some 8 := by kernel_rfl
theorem ze126 : zeroT Tryz.prog 126 = some (.int .u64 0) := by kernel_rfl
theorem ag127 : isAggT Tryz.prog 127 = some false := by kernel_rfl
theorem sz127 : sizeT Tryz.prog 127 = some 1 := by kernel_rfl
theorem by127 : bytesT Tryz.prog 127 = some 0 := by kernel_rfl
theorem ag128 : isAggT Tryz.prog 128 = some false := by kernel_rfl
theorem sz128 : sizeT Tryz.prog 128 = some 1 := by kernel_rfl
theorem by128 : bytesT Tryz.prog 128 = some 8 := by kernel_rfl
theorem ze128 : zeroT Tryz.prog 128 = some (.nilF) := by kernel_rfl
theorem ag129 : isAggT Tryz.prog 129 = some false := by kernel_rfl
theorem sz129 : sizeT Tryz.prog 129 = some 1 := by kernel_rfl
theorem by129 : bytesT Tryz.prog 129 = some 8 := by kernel_rfl
theorem ze129 : zeroT Tryz.prog 129 = some (.nilF) := by kernel_rfl
theorem ag130 : isAggT Tryz.prog 130 = some false := by kernel_rfl
theorem sz130 : sizeT Tryz.prog 130 = some 1 := by kernel_rfl
theorem by130 : bytesT Tryz.prog 130 = some 8 := by kernel_rfl
theorem ze130 : zeroT Tryz.prog 130 = some (.nilF) := by kernel_rfl
theorem ag131 : isAggT Tryz.prog 131 = some false := by kernel_rfl
theorem sz131 : sizeT Tryz.prog 131 = some 1 := by kernel_rfl
theorem by131 : bytesT Tryz.prog 131 = some 8 := by kernel_rfl
theorem ze131 : zeroT Tryz.prog 131 = some (.nilF) := by kernel_rfl
theorem ag132 : isAggT Tryz.prog 132 = some true := by kernel_rfl
theorem sz132 : sizeT Tryz.prog 132 = some 256 := by kernel_rfl
theorem by132 : bytesT Tryz.prog 132 = some 256 := by kernel_rfl
theorem ze132 : zeroT Tryz.prog 132 = some (.agg [.bool false, .bool false, .bool false, .bool false, .bool false, .bool false, .bool false, .bool false, .bool false, .bool false, .bool false, .bool false, .bool false, .bool false, .bool false, .bool false, .bool false, .bool false, .bool false, .bool false, .bool false, .bool false, .bool false, .bool false, .bool false, .bool false, .bool false, .bool false, .bool false, .bool false, .bool false, .bool false, .bool false, .bool false, .bool false, .bool false, .bool false, .bool false, .bool false, .bool false, .bool false, .bool false, .bool false, .bool false, .bool false, .bool false, .bool false, .bool false, .bool false, .bool false, .bool false, .bool false, .bool false, .bool false, .bool false, .bool false, .bool false, .bool false, .bool false, .bool false, .bool false, .bool false, .bool false, .bool false, .bool false, .bool false, .bool false, .bool false, .bool false, .bool false, .bool false, .bool false, .bool false, .bool false, .bool false, .bool false, .bool false, .bool false, .bool false, .bool false, .bool false, .bool false, .bool false, .bool false, .bool false, .bool false, .bool false, .bool false, .bool false, .bool false, .bool false, .bool false, .bool false, .bool false, .bool false, .bool false, .bool false, .bool false, .bool false, .bool false, .bool false, .bool false, .bool false, .bool false, .bool false, .bool false, .bool false, .bool false, .bool false, .bool false, .bool false, .bool false, .bool false, .bool false, .bool false, .bool false, .bool false, .bool false, .bool false, .bool false, .bool false, .bool false, .bool false, .bool false, .bool false, .bool false, .bool false, .bool false, .bool false, .bool false, .bool false, .bool false, .bool false, .bool false, .bool false, .bool false, .bool false, .bool false, .bool false, .bool false, .bool false, .bool false, .bool false, .bool false, .bool false, .bool false, .bool false, .bool false, .bool false, .bool false, .bool false, .bool false, .bool false, .bool false, .bool false, .bool false, .bool false, .bool false, .bool false, .bool false, .bool false, .bool false, .bool false, .bool false, .bool false, .bool false, .bool false, .bool false, .bool false, .bool false, .bool false, .bool false, .bool false, .bool false, .bool false, .bool false, .bool false, .bool false, .bool false, .bool false, .bool false, .bool false, .bool false, .bool false, .bool false, .bool false, .bool false, .bool false, .bool false, .bool false, .bool false, .bool false, .bool false, .bool false, .bool false, .bool false, .bool false, .bool false, .bool false, .bool false, .bool false, .bool false, .bool false, .bool false, .bool false, .bool false, .bool false, .bool false, .bool false, .bool false, .bool false, .bool false, .bool false, .bool false, .bool false, .bool false, .bool false, .bool false, .bool false, .bool false, .bool false, .bool false, .bool false, .bool false, .bool false, .bool false, .bool false, .bool false, .bool false, .bool false, .bool false, .bool false, .bool false, .bool false, .bool false, .bool false, .bool false, .bool false, .bool false, .bool false, .bool false, .bool false, .bool false, .bool false, .bool false, .bool false, .bool false, .bool false, .bool false, .bool false, .bool false, .bool false, .bool false, .bool false, .bool false, .bool false]) := by kernel_rfl
theorem ag133 : isAggT Tryz.prog 133 = some true := by kernel_rfl
theorem sz133 : sizeT Tryz.prog 133 = some 256 := by kernel_rfl
theorem by133 : bytesT Tryz.prog 133 = some 256 := by kernel_rfl
theorem ze133 : zeroT Tryz.prog 133 = some (.agg [.bool false, .bool false, .bool false, .bool false, .bool false, .bool false, .bool false, .bool false, .bool false, .bool false, .bool false, .bool false, .bool false, .bool false, .bool false, .bool false, .bool false, .bool false, .bool false, .bool false, .bool false, .bool false, .bool false, .bool false, .bool false, .bool false, .bool false, .bool false, .bool false, .bool false, .bool false, .bool false, .bool false, .bool false, .bool false, .bool false, .bool false, .bool false, .bool false, .bool false, .bool false, .bool false, .bool false, .bool false, .bool false, .bool false, .bool false, .bool false, .bool false, .bool false, .bool false, .bool false, .bool false, .bool false, .bool false, .bool false, .bool false, .bool false, .bool false, .bool false, .bool false, .bool false, .bool false, .bool false, .bool false, .bool false, .bool false, .bool false, .bool false, .bool false, .bool false, .bool false, .bool false, .bool false, .bool false, .bool false, .bool false, .bool false, .bool false, .bool false, .bool false, .bool false, .bool false, .bool false, .bool false, .bool false, .bool false, .bool false, .bool false, .bool false, .bool false, .bool false, .bool false, .bool false, .bool false, .bool false, .bool false, .bool false, .bool false, .bool false, .bool false, .bool false, .bool false, .bool false, .bool false, .bool false, .bool false, .bool false, .bool false, .bool false, .bool false, .bool false, .bool false, .bool false, .bool false, .bool false, .bool false, .bool false, .bool false, .bool false, .bool false, .bool false, .bool false, .bool false, .bool false, .bool false, .bool false, .bool false, .bool false, .bool false, .bool false, .bool false, .bool false, .bool false, .bool false, .bool false, .bool false, .bool false, .bool false, .bool false, .bool false, .bool false, .bool false, .bool false, .bool false, .bool false, .bool false, .bool false, .bool false, .bool false, .bool false, .bool false, .bool false, .bool false, .bool false, .bool false, .bool false, .bool false, .bool false, .bool false, .bool false, .bool false, .bool false, .bool false, .bool false, .bool false, .bool false, .bool false, .bool false, .bool false, .bool false, .bool false, .bool false, .bool false, .bool false, .bool false, .bool false, .bool false, .bool false, .bool false, .bool false, .bool false, .bool false, .bool false, .bool false, .bool false, .bool false, .bool false, .bool false, .bool false, .bool false, .bool false, .bool false, .bool false, .bool false, .bool false, .bool false, .bool false, .bool false, .bool false, .bool false, .bool false, .bool false, .bool false, .bool false, .bool false, .bool false, .bool false, .bool false, .bool false, .bool false, .bool false, .bool false, .bool false, .bool false, .bool false, .bool false, .bool false, .bool false, .bool false, .bool false, .bool false, .bool false, .bool false, .bool false, .bool false, .bool false, .bool false, .bool false, .bool false, .bool false, .bool false, .bool false, .bool false, .bool false, .bool false, .bool false, .bool false, .bool false, .bool false, .bool false, .bool false, .bool false, .bool false, .bool false, .bool false, .bool false, .bool false, .bool false, .bool false, .bool false, .bool false, .bool false, .bool false, .bool false, .bool false]) := by kernel_rfl
theorem ag134 : isAggT Tryz.prog 134 = some false := by kernel_rfl
theorem sz134 : sizeT Tryz.prog 134 = some 1 := by kernel_rfl
theorem by134 : bytesT Tryz.prog 134 = some 0 := by kernel_rfl
theorem ag135 : isAggT Tryz.prog 135 = some false := by kernel_rfl
theorem sz135 : sizeT Tryz.prog 135 = some 1 := by kernel_rfl
theorem by135 : bytesT Tryz.prog 135 = some 8 := by kernel_rfl
theorem ze135 : zeroT Tryz.prog 135 = some (.nilF) := by kernel_rfl
theorem ag136 : isAggT Tryz.prog 136 = some false := by kernel_rfl
theorem sz136 : sizeT Tryz.prog 136 = some 1 := by kernel_rfl
theorem by136 : bytesT Tryz.prog 136 = some 8 := by kernel_rfl
theorem ze136 : zeroT Tryz.prog 136 = some (.nilF) := by kernel_rfl
theorem ag137 : isAggT Tryz.prog 137 = some false := by kernel_rfl
theorem sz137 : sizeT Tryz.prog 137 = some 1 := by kernel_rfl
theorem by137 : bytesT Tryz.prog 137 = some 8 := by kernel_rfl
theorem ze137 : zeroT Tryz.prog 137 = some (.nil) := by kernel_rfl
theorem ag138 : isAggT Tryz.prog 138 = some false := by kernel_rfl
theorem sz138 : sizeT Tryz.prog 138 = some 1 := by kernel_rfl
theorem by138 : bytesT Tryz.prog 138 = some 0 := by kernel_rfl
theorem ag139 : isAggT Tryz.prog 139 = some false := by kernel_rfl
theorem sz139 : sizeT Tryz.prog 139 = some 1 := by kernel_rfl
theorem by139 : bytesT Tryz.prog 139 = some 8 := by kernel_rfl
theorem ze139 : zeroT Tryz.prog 139 = some (.nilF) := by kernel_rfl
theorem ag140 : isAggT Tryz.prog 140 = some false := by kernel_rfl
theorem sz140 : sizeT Tryz.prog 140 = some 1 := by kernel_rfl
theorem by140 : bytesT Tryz.prog 140 = some 0 := by kernel_rfl
theorem ag141 : isAggT Tryz.prog 141 = some false := by kernel_rfl
theorem sz141 : sizeT Tryz.prog 141 = some 1 := by kernel_rfl
theorem by141 : bytesT Tryz.prog 141 = some 8 := by kernel_rfl
theorem ze141 : zeroT Tryz.prog 141 = some (.nilF) := by kernel_rfl
theorem ag142 : isAggT Tryz.prog 142 = some false := by kernel_rfl
theorem sz142 : sizeT Tryz.prog 142 = some 1 := by kernel_rfl
theorem by142 : bytesT Tryz.prog 142 = some 8 := by kernel_rfl
theorem ze142 : zeroT Tryz.prog 142 = some (.nilF) := by kernel_rfl
theorem ag143 : isAggT Tryz.prog 143 = some false := by kernel_rfl
theorem sz143 : sizeT Tryz.prog 143 = some 1 := by kernel_rfl
theorem by143 : bytesT Tryz.prog 143 = some 0 := by kernel_rfl
theorem ag144 : isAggT Tryz.prog 144 = some false := by kernel_rfl
theorem sz144 : sizeT Tryz.prog 144 = some 1 := by kernel_rfl
theorem by144 : bytesT Tryz.prog 144 = some 8 := by kernel_rfl
theorem ze144 : zeroT Tryz.prog 144 = some (.nilF) := by kernel_rfl
theorem ag145 : isAggT Tryz.prog 145 = some false := by kernel_rfl
theorem sz145 : sizeT Tryz.prog 145 = some 1 := by kernel_rfl
theorem by145 : bytesT Tryz.prog 145 = some 24 := by kernel_rfl
theorem se145 : sliceElem Tryz.prog 145 = some 3 := by kernel_rfl
theorem ze145 : zeroT Tryz.prog 145 = some (.nilS) := by kernel_rfl
theorem ag146 : isAggT Tryz.prog 146 = some true := by kernel_rfl
theorem sz146 : sizeT Tryz.prog 146 = some 5 := by kernel_rfl
theorem by146 : bytesT Tryz.prog 146 = some 80 := by kernel_rfl
theorem ze146 : zeroT Tryz.prog 146 = some (.agg [.str [], .str [], .str [], .str [], .str []]) := by kernel_rfl
theorem ag147 : isAggT Tryz.prog 147 = some false := by kernel_rfl
theorem sz147 : sizeT Tryz.prog 147 = some 1 := by kernel_rfl
theorem by147 : bytesT Tryz.prog 147 = some 0 := by kernel_rfl
theorem ag148 : isAggT Tryz.prog 148 = some false := by kernel_rfl
theorem sz148 : sizeT Tryz.prog 148 = some 1 := by kernel_rfl
theorem by148 : bytesT Tryz.prog 148 = some 8 := by kernel_rfl
theorem ze148 : zeroT Tryz.prog 148 = some (.nilF) := by kernel_rfl
theorem ag149 : isAggT Tryz.prog 149 = some false := by kernel_rfl
theorem sz149 : sizeT Tryz.prog 149 = some 1 := by kernel_rfl
theorem by149 : bytesT Tryz.prog 149 = some 8 := by kernel_rfl
theorem ze149 : zeroT Tryz.prog 149 = some (.nilF) := by kernel_rfl
theorem ag150 : isAggT Tryz.prog 150 = some false := by kernel_rfl
theorem sz150 : sizeT Tryz.prog 150 = some 1 := by kernel_rfl
theorem by150 : bytesT Tryz.prog 150 = some 8 := by kernel_rfl
theorem ze150 : zeroT Tryz.prog 150 = some (.int .i64 0) := by kernel_rfl
theorem ag151 : isAggT Tryz.prog 151 = some false := by kernel_rfl
theorem sz151 : sizeT Tryz.prog 151 = some 1 := by kernel_rfl
theorem by151 : bytesT Tryz.prog 151 = some 0 := by kernel_rfl
theorem ag152 : isAggT Tryz.prog 152 = some false := by kernel_rfl
theorem sz152 : sizeT Tryz.prog 152 = some 1 := by kernel_rfl
theorem by152 : bytesT Tryz.prog 152 = some 8 := by kernel_rfl
theorem ze152 : zeroT Tryz.prog 152 = some (.nilF) := by kernel_rfl
theorem ag153 : isAggT Tryz.prog 153 = some false := by kernel_rfl
theorem sz153 : sizeT Tryz.prog 153 = some 1 := by kernel_rfl
theorem by153 : bytesT Tryz.prog 153 = some 8 := by kernel_rfl
theorem ze153 : zeroT Tryz.prog 153 = some (.nilF) := by kernel_rfl
theorem ag154 : isAggT Tryz.prog 154 = some false := by kernel_rfl
theorem sz154 : sizeT Tryz.prog 154 = some 1 := by kernel_rfl
theorem by154 : bytesT Tryz.prog 154 = some 8 := by kernel_rfl
theorem ze154 : zeroT Tryz.prog 154 = some (.nilF) := by kernel_rfl
theorem ag155 : isAggT Tryz.prog 155 = some false := by kernel_rfl
theorem sz155 : sizeT Tryz.prog 155 = some 1 := by kernel_rfl
theorem by155 : bytesT Tryz.prog 155 = some 0 := by kernel_rfl
theorem ag156 : isAggT Tryz.prog 156 = some false := by kernel_rfl
theorem sz156 : sizeT Tryz.prog 156 = some 1 := by kernel_rfl
theorem by156 : bytesT Tryz.prog 156 = some 8 := by kernel_rfl
theorem ze156 : zeroT Tryz.prog 156 = some (.nilF) := by kernel_rfl
theorem ag157 : isAggT Tryz.prog 157 = some false := by kernel_rfl
theorem sz157 : sizeT Tryz.prog 157 = some 1 := by kernel_rfl
theorem by157 : bytesT Tryz.prog 157 = some 8 := by kernel_rfl
theorem ze157 : zeroT Tryz.prog 157 = some (.nilF) := by kernel_rfl
theorem ag158 : isAggT Tryz.prog 158 = some false := by kernel_rfl
theorem sz158 : sizeT Tryz.prog 158 = some 1 := by kernel_rfl
theorem by158 : bytesT Tryz.prog 158 = some 4 := by kernel_rfl
theorem ze158 : zeroT Tryz.prog 158 = some (.int .u32 0) := by kernel_rfl
theorem ag159 : isAggT Tryz.prog 159 = some false := by kernel_rfl
theorem sz159 : sizeT Tryz.prog 159 = some 1 := by kernel_rfl
theorem by159 : bytesT Tryz.prog 159 = some 8 := by kernel_rfl
theorem ze159 : zeroT Tryz.prog 159 = some (.nilF) := by kernel_rfl
theorem ag160 : isAggT Tryz.prog 160 = some false := by kernel_rfl
theorem sz160 : sizeT Tryz.prog 160 = some 1 := by kernel_rfl
theorem by160 : bytesT Tryz.prog 160 = some 8 := by kernel_rfl
theorem ze160 : zeroT Tryz.prog 160 = some (.nilF) := by kernel_rfl
theorem ag161 : isAggT Tryz.prog 161 = some false := by kernel_rfl
theorem sz161 : sizeT Tryz.prog 161 = some 1 := by kernel_rfl
theorem by161 : bytesT Tryz.prog 161 = some 0 := by kernel_rfl
theorem ag162 : isAggT Tryz.prog 162 = some false := by kernel_rfl
theorem sz162 : sizeT Tryz.prog 162 = some 1 := by kernel_rfl
theorem by162 : bytesT Tryz.prog 162 = some 8 := by kernel_rfl
theorem ze162 : zeroT Tryz.prog 162 = some (.nilF) := by kernel_rfl
theorem ag163 : isAggT Tryz.prog 163 = some false := by kernel_rfl
theorem sz163 : sizeT Tryz.prog 163 = some 1 := by kernel_rfl
theorem by163 : bytesT Tryz.prog 163 = some 8 := by kernel_rfl
theorem ze163 : zeroT Tryz.prog 163 = some (.nilF) := by kernel_rfl
theorem ag164 : isAggT Tryz.prog 164 = some false := by kernel_rfl
theorem sz164 : sizeT Tryz.prog 164 = some 1 := by kernel_rfl
theorem by164 : bytesT Tryz.prog 164 = some 8 := by kernel_rfl
theorem ze164 : zeroT Tryz.prog 164 = some (.nil) := by kernel_rfl
theorem ag165 : isAggT Tryz.prog 165 = some false := by kernel_rfl
theorem sz165 : sizeT Tryz.prog 165 = some 1 := by kernel_rfl
theorem by165 : bytesT Tryz.prog 165 = some 8 := by kernel_rfl
theorem ze165 : zeroT Tryz.prog 165 = some (.nilF) := by kernel_rfl
theorem ag166 : isAggT Tryz.prog 166 = some false := by kernel_rfl
theorem sz166 : sizeT Tryz.prog 166 = some 1 := by kernel_rfl
theorem by166 : bytesT Tryz.prog 166 = some 0 := by kernel_rfl
theorem ag167 : isAggT Tryz.prog 167 = some false := by kernel_rfl
theorem sz167 : sizeT Tryz.prog 167 = some 1 := by kernel_rfl
theorem by167 : bytesT Tryz.prog 167 = some 8 := by kernel_rfl
theorem ze167 : zeroT Tryz.prog 167 = some (.nilF) := by kernel_rfl
theorem ag168 : isAggT Tryz.prog 168 = some false := by kernel_rfl
theorem sz168 : sizeT Tryz.prog 168 = some 1 := by kernel_rfl
theorem by168 : bytesT Tryz.prog 168 = some 0 := by kernel_rfl
theorem ag169 : isAggT Tryz.prog 169 = some false := by kernel_rfl
theorem sz169 : sizeT Tryz.prog 169 = some 1 := by kernel_rfl
theorem by169 : bytesT Tryz.prog 169 = some 8 := by kernel_rfl
theorem ze169 : zeroT Tryz.prog 169 = some (.nilF) := by kernel_rfl
theorem ag170 : isAggT Tryz.prog 170 = some false := by kernel_rfl
theorem sz170 : sizeT Tryz.prog 170 = some 1 := by kernel_rfl
theorem by170 : bytesT Tryz.prog 170 = some 0 := by kernel_rfl
theorem ag171 : isAggT Tryz.prog 171 = some false := by kernel_rfl
theorem sz171 : sizeT Tryz.prog 171 = some 1 := by kernel_rfl
theorem by171 : bytesT Tryz.prog 171 = some 8 := by kernel_rfl
theorem ze171 : zeroT Tryz.prog 171 = some (.nilF) := by kernel_rfl
theorem ag172 : isAggT Tryz.prog 172 = some false := by kernel_rfl
theorem sz172 : sizeT Tryz.prog 172 = some 1 := by kernel_rfl
theorem by172 : bytesT Tryz.prog 172 = some 8 := by kernel_rfl
theorem ze172 : zeroT Tryz.prog 172 = some (.nilF) := by kernel_rfl
theorem ag173 : isAggT Tryz.prog 173 = some false := by kernel_rfl
theorem sz173 : sizeT Tryz.prog 173 = some 1 := by kernel_rfl
theorem by173 : bytesT Tryz.prog 173 = some 24 := by kernel_rfl
theorem se173 : sliceElem Tryz.prog 173 = some 276 := by kernel_rfl
theorem ze173 : zeroT Tryz.prog 173 = some (.nilS) := by kernel_rfl
theorem ag174 : isAggT Tryz.prog 174 = some false := by kernel_rfl
theorem sz174 : sizeT Tryz.prog 174 = some 1 := by kernel_rfl
theorem by174 : bytesT Tryz.prog 174 = some 24 := by kernel_rfl
theorem se174 : sliceElem Tryz.prog 174 = some 176 := by kernel_rfl
theorem ze174 : zeroT Tryz.prog 174 = some (.nilS) := by kernel_rfl
theorem ag175 : isAggT Tryz.prog 175 = some true := by kernel_rfl
theorem sz175 : sizeT Tryz.prog 175 = some 6 := by kernel_rfl
theorem by175 : bytesT Tryz.prog 175 = some 80 := by kernel_rfl
theorem ze175 : zeroT Tryz.prog 175 = some (.agg [.int .i64 0, .bool false, .nilS, .int .i64 0, .int .i64 0, .nilS]) := by kernel_rfl
theorem fa175_0 (a : AV) : aFieldAddr Tryz.prog 175 0 a = fieldOff 0 a := by cases a <;> kernel_rfl
theorem fd175_0 (a : AV) : aField Tryz.prog 175 0 a = fieldVal Tryz.prog 3 0 a := by cases a <;> kernel_rfl
theorem fa175_1 (a : AV) : aFieldAddr Tryz.prog 175 1 a = fieldOff 1 a := by cases a <;> kernel_rfl
theorem fd175_1 (a : AV) : aField Tryz.prog 175 1 a = fieldVal Tryz.prog 4 1 a := by cases a <;> kernel_rfl
theorem fa175_2 (a : AV) : aFieldAddr Tryz.prog 175 2 a = fieldOff 2 a := by cases a <;> kernel_rfl
theorem fd175_2 (a : AV) : aField Tryz.prog 175 2 a = fieldVal Tryz.prog 173 2 a := by cases a <;> kernel_rfl
theorem fa175_3 (a : AV) : aFieldAddr Tryz.prog 175 3 a = fieldOff 3 a := by cases a <;> kernel_rfl
theorem fd175_3 (a : AV) : aField Tryz.prog 175 3 a = fieldVal Tryz.prog 3 3 a := by cases a <;> kernel_rfl
theorem fa175_4 (a : AV) : aFieldAddr Tryz.prog 175 4 a = fieldOff 4 a := by cases a <;> kernel_rfl
theorem fd175_4 (a : AV) : aField Tryz.prog 175 4 a = fieldVal Tryz.prog 3 4 a := by cases a <;> kernel_rfl
theorem fa175_5 (a : AV) : aFieldAddr Tryz.prog 175 5 a = fieldOff 5 a := by cases a <;> kernel_rfl
theorem fd175_5 (a : AV) : aField Tryz.prog 175 5 a = fieldVal Tryz.prog 174 5 a := by cases a <;> kernel_rfl
theorem bu175 (ps : List (Nat × AV)) : aBuild Tryz.prog 175 ps = (fillA (fun i => [(0, 1), (1, 1), (2, 1), (3, 1), (4, 1), (5, 1)][i]?) (AV.cells (.agg [.int .i64 0, .bool false, .nilS, .int .i64 0, .int .i64 0, .nilS])) ps).map .agg := by kernel_rfl
theorem ag176 : isAggT Tryz.prog 176 = some true := by kernel_rfl
theorem sz176 : sizeT Tryz.prog 176 = some 6 := by kernel_rfl
theorem by176 : bytesT Tryz.prog 176 = some 80 := by kernel_rfl
theorem ze176 : zeroT Tryz.prog 176 = some (.agg [.int .i64 0, .bool false, .nilS, .int .i64 0, .int .i64 0, .nilS]) := by kernel_rfl
theorem fa176_0 (a : AV) : aFieldAddr Tryz.prog 176 0 a = fieldOff 0 a := by cases a <;> kernel_rfl
theorem fd176_0 (a : AV) : aField Tryz.prog 176 0 a = fieldVal Tryz.prog 3 0 a := by cases a <;> kernel_rfl
theorem fa176_1 (a : AV) : aFieldAddr Tryz.prog 176 1 a = fieldOff 1 a := by cases a <;> kernel_rfl
theorem fd176_1 (a : AV) : aField Tryz.prog 176 1 a = fieldVal Tryz.prog 4 1 a := by cases a <;> kernel_rfl
theorem fa176_2 (a : AV) : aFieldAddr Tryz.prog 176 2 a = fieldOff 2 a := by cases a <;> kernel_rfl
theorem fd176_2 (a : AV) : aField Tryz.prog 176 2 a = fieldVal Tryz.prog 173 2 a := by cases a <;> kernel_rfl
theorem fa176_3 (a : AV) : aFieldAddr Tryz.prog 176 3 a = fieldOff 3 a := by cases a <;> kernel_rfl
theorem fd176_3 (a : AV) : aField Tryz.prog 176 3 a = fieldVal Tryz.prog 3 3 a := by cases a <;> kernel_rfl
theorem fa176_4 (a : AV) : aFieldAddr Tryz.prog 176 4 a = fieldOff 4 a := by cases a <;> kernel_rfl
theorem fd176_4 (a : AV) : aField Tryz.prog 176 4 a = fieldVal Tryz.prog 3 4 a := by cases a <;> kernel_rfl
theorem fa176_5 (a : AV) : aFieldAddr Tryz.prog 176 5 a = fieldOff 5 a := by cases a <;> kernel_rfl
theorem fd176_5 (a : AV) : aField Tryz.prog 176 5 a = fieldVal Tryz.prog 174 5 a := by cases a <;> kernel_rfl
theorem bu176 (ps : List (Nat × AV)) : aBuild Tryz.prog 176 ps = (fillA (fun i => [(0, 1), (1, 1), (2, 1), (3, 1), (4, 1), (5, 1)][i]?) (AV.cells (.agg [.int .i64 0, .bool false, .nilS, .int .i64 0, .int .i64 0, .nilS])) ps).map .agg := by kernel_rfl
theorem ag177 : isAggT Tryz.prog 177 = some false := by kernel_rfl
theorem sz177 : sizeT Tryz.prog 177 = some 1 := by kernel_rfl
theorem by177 : bytesT Tryz.prog 177 = some 0 := by kernel_rfl
theorem ag178 : isAggT Tryz.prog 178 = some false := by kernel_rfl
theorem sz178 : sizeT Tryz.prog 178 = some 1 := by kernel_rfl
theorem by178 : bytesT Tryz.prog 178 = some 8 := by kernel_rfl
theorem ze178 : zeroT Tryz.prog 178 = some (.nilF) := by kernel_rfl
theorem ag179 : isAggT Tryz.prog 179 = some false := by kernel_rfl
theorem sz179 : sizeT Tryz.prog 179 = some 1 := by kernel_rfl
theorem by179 : bytesT Tryz.prog 179 = some 24 := by kernel_rfl
theorem se179 : sliceElem Tryz.prog 179 = some 219 := by kernel_rfl
theorem ze179 : zeroT Tryz.prog 179 = some (.nilS) := by kernel_rfl
theorem ag180 : isAggT Tryz.prog 180 = some false := by kernel_rfl
theorem sz180 : sizeT Tryz.prog 180 = some 1 := by kernel_rfl
theorem by180 : bytesT Tryz.prog 180 = some 0 := by kernel_rfl
theorem ag181 : isAggT Tryz.prog 181 = some false := by kernel_rfl
theorem sz181 : sizeT Tryz.prog 181 = some 1 := by kernel_rfl
theorem by181 : bytesT Tryz.prog 181 = some 8 := by kernel_rfl
theorem ze181 : zeroT Tryz.prog 181 = some (.nilF) := by kernel_rfl
theorem ag182 : isAggT Tryz.prog 182 = some false := by kernel_rfl
theorem sz182 : sizeT Tryz.prog 182 = some 1 := by kernel_rfl
theorem by182 : bytesT Tryz.prog 182 = some 8 := by kernel_rfl
theorem ze182 : zeroT Tryz.prog 182 = some (.nilF) := by kernel_rfl
theorem ag183 : isAggT Tryz.prog 183 = some false := by kernel_rfl
theorem sz183 : sizeT Tryz.prog 183 = some 1 := by kernel_rfl
theorem by183 : bytesT Tryz.prog 183 = some 8 := by kernel_rfl
theorem ze183 : zeroT Tryz.prog 183 = some (.nilF) := by kernel_rfl
theorem ag184 : isAggT Tryz.prog 184 = some false := by kernel_rfl
theorem sz184 : sizeT Tryz.prog 184 = some 1 := by kernel_rfl
theorem by184 : bytesT Tryz.prog 184 = some 8 := by kernel_rfl
theorem ze184 : zeroT Tryz.prog 184 = some (.nilF) := by kernel_rfl
theorem ag185 : isAggT Tryz.prog 185 = some false := by kernel_rfl
theorem sz185 : sizeT Tryz.prog 185 = some 1 := by kernel_rfl
theorem by185 : bytesT Tryz.prog 185 = some 8 := by kernel_rfl
theorem ze185 : zeroT Tryz.prog 185 = some (.nilF) := by kernel_rfl
theorem ag186 : isAggT Tryz.prog 186 = some false := by kernel_rfl
theorem sz186 : sizeT Tryz.prog 186 = some 1 := by kernel_rfl
theorem by186 : bytesT Tryz.prog 186 = some 8 := by kernel_rfl
theorem ze186 : zeroT Tryz.prog 186 = some (.nil) := by kernel_rfl
theorem ag187 : isAggT Tryz.prog 187 = some false := by kernel_rfl
theorem sz187 : sizeT Tryz.prog 187 = some 1 := by kernel_rfl
theorem by187 : bytesT Tryz.prog 187 = some 8 := by kernel_rfl
theorem ze187 : zeroT Tryz.prog 187 = some (.nilF) := by kernel_rfl
theorem ag188 : isAggT Tryz.prog 188 = some false := by kernel_rfl
theorem sz188 : sizeT Tryz.prog 188 = some 1 := by kernel_rfl
theorem by188 : bytesT Tryz.prog 188 = some 8 := by kernel_rfl
theorem ze188 : zeroT Tryz.prog 188 = some (.nilF) := by kernel_rfl
theorem ag189 : isAggT Tryz.prog 189 = some false := by kernel_rfl
theorem sz189 : sizeT Tryz.prog 189 = some 1 := by kernel_rfl
theorem by189 : bytesT Tryz.prog 189 = some 8 := by kernel_rfl
theorem ze189 : zeroT Tryz.prog 189 = some (.nilF) := by kernel_rfl
theorem ag190 : isAggT Tryz.prog 190 = some false := by kernel_rfl
theorem sz190 : sizeT Tryz.prog 190 = some 1 := by kernel_rfl
theorem by190 : bytesT Tryz.prog 190 = some 8 := by kernel_rfl
theorem ze190 : zeroT Tryz.prog 190 = some (.nilF) := by kernel_rfl
theorem ag191 : isAggT Tryz.prog 191 = some false := by kernel_rfl
theorem sz191 : sizeT Tryz.prog 191 = some 1 := by kernel_rfl
theorem by191 : bytesT Tryz.prog 191 = some 8 := by kernel_rfl
theorem ze191 : zeroT Tryz.prog 191 = some (.nilF) := by kernel_rfl
theorem ag192 : isAggT Tryz.prog 192 = some false := by kernel_rfl
theorem sz192 : sizeT Tryz.prog 192 = some 1 := by kernel_rfl
theorem by192 : bytesT Tryz.prog 192 = some 8 := by kernel_rfl
theorem ze192 : zeroT Tryz.prog 192 = some (.int .u64 0) := by kernel_rfl
theorem ag193 : isAggT Tryz.prog 193 = some false := by kernel_rfl
theorem sz193 : sizeT Tryz.prog 193 = some 1 := by kernel_rfl
theorem by193 : bytesT Tryz.prog 193 = some 8 := by kernel_rfl
theorem ze193 : zeroT Tryz.prog 193 = some (.nilF) := by kernel_rfl
theorem ag194 : isAggT Tryz.prog 194 = some false := by kernel_rfl
theorem sz194 : sizeT Tryz.prog 194 = some 1 := by kernel_rfl
theorem by194 : bytesT Tryz.prog 194 = some 8 := by kernel_rfl
theorem ze194 : zeroT Tryz.prog 194 = some (.nilF) := by kernel_rfl
theorem ag195 : isAggT Tryz.prog 195 = some false := by kernel_rfl
theorem sz195 : sizeT Tryz.prog 195 = some 1 := by kernel_rfl
theorem by195 : bytesT Tryz.prog 195 = some 8 := by kernel_rfl
theorem ze195 : zeroT Tryz.prog 195 = some (.nilF) := by kernel_rfl
theorem ag196 : isAggT Tryz.prog 196 = some false := by kernel_rfl
theorem sz196 : sizeT Tryz.prog 196 = some 1 := by kernel_rfl
theorem by196 : bytesT Tryz.prog 196 = some 8 := by kernel_rfl
theorem ze196 : zeroT Tryz.prog 196 = some (.nil) := by kernel_rfl
theorem ag197 : isAggT Tryz.prog 197 = some false := by kernel_rfl
theorem sz197 : sizeT Tryz.prog 197 = some 1 := by kernel_rfl
theorem by197 : bytesT Tryz.prog 197 = some 8 := by kernel_rfl
theorem ze197 : zeroT Tryz.prog 197 = some (.nilF) := by kernel_rfl
theorem ag198 : isAggT Tryz.prog 198 = some false := by kernel_rfl
theorem sz198 : sizeT Tryz.prog 198 = some 1 := by kernel_rfl
theorem by198 : bytesT Tryz.prog 198 = some 0 := by kernel_rfl
theorem ag199 : isAggT Tryz.prog 199 = some false := by kernel_rfl
theorem sz199 : sizeT Tryz.prog 199 = some 1 := by kernel_rfl
theorem by199 : bytesT Tryz.prog 199 = some 8 := by kernel_rfl
theorem ze199 : zeroT Tryz.prog 199 = some (.nilF) := by kernel_rfl
theorem ag200 : isAggT Tryz.prog 200 = some false := by kernel_rfl
theorem sz200 : sizeT Tryz.prog 200 = some 1 := by kernel_rfl
theorem by200 : bytesT Tryz.prog 200 = some 8 := by kernel_rfl
theorem ze200 : zeroT Tryz.prog 200 = some (.nilF) := by kernel_rfl
theorem ag201 : isAggT Tryz.prog 201 = some false := by kernel_rfl
theorem sz201 : sizeT Tryz.prog 201 = some 1 := by kernel_rfl
theorem by201 : bytesT Tryz.prog 201 = some 8 := by kernel_rfl
theorem ze201 : zeroT Tryz.prog 201 = some (.nilF) := by kernel_rfl
theorem ag202 : isAggT Tryz.prog 202 = some false := by kernel_rfl
theorem sz202 : sizeT Tryz.prog 202 = some 1 := by kernel_rfl
theorem by202 : bytesT Tryz.prog 202 = some 8 := by kernel_rfl
theorem ze202 : zeroT Tryz.prog 202 = some (.nilF) := by kernel_rfl
theorem ag203 : isAggT Tryz.prog 203 = some false := by kernel_rfl
theorem sz203 : sizeT Tryz.prog 203 = some 1 := by kernel_rfl
theorem by203 : bytesT Tryz.prog 203 = some 8 := by kernel_rfl
theorem ze203 : zeroT Tryz.prog 203 = some (.nil) := by kernel_rfl
theorem ag204 : isAggT Tryz.prog 204 = some false := by kernel_rfl
theorem sz204 : sizeT Tryz.prog 204 = some 1 := by kernel_rfl
theorem by204 : bytesT Tryz.prog 204 = some 8 := by kernel_rfl
theorem ze204 : zeroT Tryz.prog 204 = some (.nilF) := by kernel_rfl
theorem ag205 : isAggT Tryz.prog 205 = some false := by kernel_rfl
theorem sz205 : sizeT Tryz.prog 205 = some 1 := by kernel_rfl
theorem by205 : bytesT Tryz.prog 205 = some 8 := by kernel_rfl
theorem ze205 : zeroT Tryz.prog 205 = some (.nil) := by kernel_rfl
theorem ag206 : isAggT Tryz.prog 206 = some false := by kernel_rfl
theorem sz206 : sizeT Tryz.prog 206 = some 1 := by kernel_rfl
theorem by206 : bytesT Tryz.prog 206 = some 24 := by kernel_rfl
theorem se206 : sliceElem Tryz.prog 206 = some 21 := by kernel_rfl
theorem ze206 : zeroT Tryz.prog 206 = some (.nilS) := by kernel_rfl
theorem ag207 : isAggT Tryz.prog 207 = some false := by kernel_rfl
theorem sz207 : sizeT Tryz.prog 207 = some 1 := by kernel_rfl
theorem by207 : bytesT Tryz.prog 207 = some 8 := by kernel_rfl
theorem ze207 : zeroT Tryz.prog 207 = some (.nilF) := by kernel_rfl
theorem ag208 : isAggT Tryz.prog 208 = some true := by kernel_rfl
theorem sz208 : sizeT Tryz.prog 208 = some 2 := by kernel_rfl
theorem by208 : bytesT Tryz.prog 208 = some 32 := by kernel_rfl
theorem ze208 : zeroT Tryz.prog 208 = some (.agg [.nilS, .int .i64 0]) := by kernel_rfl
theorem fa208_0 (a : AV) : aFieldAddr Tryz.prog 208 0 a = fieldOff 0 a := by cases a <;> kernel_rfl
theorem fd208_0 (a : AV) : aField Tryz.prog 208 0 a = fieldVal Tryz.prog 206 0 a := by cases a <;> kernel_rfl
theorem fa208_1 (a : AV) : aFieldAddr Tryz.prog 208 1 a = fieldOff 1 a := by cases a <;> kernel_rfl
theorem fd208_1 (a : AV) : aField Tryz.prog 208 1 a = fieldVal Tryz.prog 3 1 a := by cases a <;> kernel_rfl
theorem bu208 (ps : List (Nat × AV)) : aBuild Tryz.prog 208 ps = (fillA (fun i => [(0, 1), (1, 1)][i]?) (AV.cells (.agg [.nilS, .int .i64 0])) ps).map .agg := by kernel_rfl
theorem ag209 : isAggT Tryz.prog 209 = some true := by kernel_rfl
theorem sz209 : sizeT Tryz.prog 209 = some 2 := by kernel_rfl
theorem by209 : bytesT Tryz.prog 209 = some 32 := by kernel_rfl
theorem ze209 : zeroT Tryz.prog 209 = some (.agg [.nilS, .int .i64 0]) := by kernel_rfl
theorem fa209_0 (a : AV) : aFieldAddr Tryz.prog 209 0 a = fieldOff 0 a := by cases a <;> kernel_rfl
theorem fd209_0 (a : AV) : aField Tryz.prog 209 0 a = fieldVal Tryz.prog 206 0 a := by cases a <;> kernel_rfl
theorem fa209_1 (a : AV) : aFieldAddr Tryz.prog 209 1 a = fieldOff 1 a := by cases a <;> kernel_rfl
theorem fd209_1 (a : AV) : aField Tryz.prog 209 1 a = fieldVal Tryz.prog 3 1 a := by cases a <;> kernel_rfl
theorem bu209 (ps : List (Nat × AV)) : aBuild Tryz.prog 209 ps = (fillA (fun i => [(0, 1), (1, 1)][i]?) (AV.cells (.agg [.nilS, .int .i64 0])) ps).map .agg := by kernel_rfl
theorem ag210 : isAggT Tryz.prog 210 = some false := by kernel_rfl
theorem sz210 : sizeT Tryz.prog 210 = some 1 := by kernel_rfl
theorem by210 : bytesT Tryz.prog 210 = some 0 := by kernel_rfl
theorem ag211 : isAggT Tryz.prog 211 = some false := by kernel_rfl
theorem sz211 : sizeT Tryz.prog 211 = some 1 := by kernel_rfl
theorem by211 : bytesT Tryz.prog 211 = some 8 := by kernel_rfl
theorem ze211 : zeroT Tryz.prog 211 = some (.nilF) := by kernel_rfl
theorem ag212 : isAggT Tryz.prog 212 = some false := by kernel_rfl
theorem sz212 : sizeT Tryz.prog 212 = some 1 := by kernel_rfl
theorem by212 : bytesT Tryz.prog 212 = some 8 := by kernel_rfl
theorem ze212 : zeroT Tryz.prog 212 = some (.nilF) := by kernel_rfl
theorem ag213 : isAggT Tryz.prog 213 = some false := by kernel_rfl
theorem sz213 : sizeT Tryz.prog 213 = some 1 := by kernel_rfl
theorem by213 : bytesT Tryz.prog 213 = some 8 := by kernel_rfl
theorem ze213 : zeroT Tryz.prog 213 = some (.nilF) := by kernel_rfl
theorem ag214 : isAggT Tryz.prog 214 = some false := by kernel_rfl
theorem sz214 : sizeT Tryz.prog 214 = some 1 := by kernel_rfl
theorem by214 : bytesT Tryz.prog 214 = some 8 := by kernel_rfl
theorem ze214 : zeroT Tryz.prog 214 = some (.nil) := by kernel_rfl
theorem ag215 : isAggT Tryz.prog 215 = some true := by kernel_rfl
theorem sz215 : sizeT Tryz.prog 215 = some 1 := by kernel_rfl
theorem by215 : bytesT Tryz.prog 215 = some 24 := by kernel_rfl
theorem ze215 : zeroT Tryz.prog 215 = some (.agg [.nilS]) := by kernel_rfl
theorem fa215_0 (a : AV) : aFieldAddr Tryz.prog 215 0 a = fieldOff 0 a := by cases a <;> kernel_rfl
theorem fd215_0 (a : AV) : aField Tryz.prog 215 0 a = fieldVal Tryz.prog 179 0 a := by cases a <;> kernel_rfl
theorem bu215 (ps : List (Nat × AV)) : aBuild Tryz.prog 215 ps = (fillA (fun i => [(0, 1)][i]?) (AV.cells (.agg [.nilS])) ps).map .agg := by kernel_rfl
theorem ag216 : isAggT Tryz.prog 216 = some true := by kernel_rfl
theorem sz216 : sizeT Tryz.prog 216 = some 1 := by kernel_rfl
theorem by216 : bytesT Tryz.prog 216 = some 24 := by kernel_rfl
theorem ze216 : zeroT Tryz.prog 216 = some (.agg [.nilS]) := by kernel_rfl
theorem fa216_0 (a : AV) : aFieldAddr Tryz.prog 216 0 a = fieldOff 0 a := by cases a <;> kernel_rfl
theorem fd216_0 (a : AV) : aField Tryz.prog 216 0 a = fieldVal Tryz.prog 179 0 a := by cases a <;> kernel_rfl
theorem bu216 (ps : List (Nat × AV)) : aBuild Tryz.prog 216 ps = (fillA (fun i => [(0, 1)][i]?) (AV.cells (.agg [.nilS])) ps).map .agg := by kernel_rfl
theorem ag217 : isAggT Tryz.prog 217 = some false := by kernel_rfl
theorem sz217 : sizeT Tryz.prog 217 = some 1 := by kernel_rfl
theorem by217 : bytesT Tryz.prog 217 = some 8 := by kernel_rfl
theorem ze217 : zeroT Tryz.prog 217 = some (.nilF) := by kernel_rfl
theorem ag218 : isAggT Tryz.prog 218 = some true := by kernel_rfl
theorem sz218 : sizeT Tryz.prog 218 = some 5 := by kernel_rfl
theorem by218 : bytesT Tryz.prog 218 = some 56 := by kernel_rfl
theorem ze218 : zeroT Tryz.prog 218 = some (.agg [.int .i64 0, .bool false, .nilS, .int .i64 0, .int .i64 0]) := by kernel_rfl
theorem fa218_0 (a : AV) : aFieldAddr Tryz.prog 218 0 a = fieldOff 0 a := by cases a <;> kernel_rfl
theorem fd218_0 (a : AV) : aField Tryz.prog 218 0 a = fieldVal Tryz.prog 3 0 a := by cases a <;> kernel_rfl
theorem fa218_1 (a : AV) : aFieldAddr Tryz.prog 218 1 a = fieldOff 1 a := by cases a <;> kernel_rfl
theorem fd218_1 (a : AV) : aField Tryz.prog 218 1 a = fieldVal Tryz.prog 4 1 a := by cases a <;> kernel_rfl
theorem fa218_2 (a : AV) : aFieldAddr Tryz.prog 218 2 a = fieldOff 2 a := by cases a <;> kernel_rfl
theorem fd218_2 (a : AV) : aField Tryz.prog 218 2 a = fieldVal Tryz.prog 173 2 a := by cases a <;> kernel_rfl
theorem fa218_3 (a : AV) : aFieldAddr Tryz.prog 218 3 a = fieldOff 3 a := by cases a <;> kernel_rfl
theorem fd218_3 (a : AV) : aField Tryz.prog 218 3 a = fieldVal Tryz.prog 3 3 a := by cases a <;> kernel_rfl
theorem fa218_4 (a : AV) : aFieldAddr Tryz.prog 218 4 a = fieldOff 4 a := by cases a <;> kernel_rfl
theorem fd218_4 (a : AV) : aField Tryz.prog 218 4 a = fieldVal Tryz.prog 3 4 a := by cases a <;> kernel_rfl
theorem bu218 (ps : List (Nat × AV)) : aBuild Tryz.prog 218 ps = (fillA (fun i => [(0, 1), (1, 1), (2, 1), (3, 1), (4, 1)][i]?) (AV.cells (.agg [.int .i64 0, .bool false, .nilS, .int .i64 0, .int .i64 0])) ps).map .agg := by kernel_rfl
theorem ag219 : isAggT Tryz.prog 219 = some true := by kernel_rfl
theorem sz219 : sizeT Tryz.prog 219 = some 5 := by kernel_rfl
theorem by219 : bytesT Tryz.prog 219 = some 56 := by kernel_rfl
theorem ze219 : zeroT Tryz.prog 219 = some (.agg [.int .i64 0, .bool false, .nilS, .int .i64 0, .int .i64 0]) := by kernel_rfl
theorem fa219_0 (a : AV) : aFieldAddr Tryz.prog 219 0 a = fieldOff 0 a := by cases a <;> kernel_rfl
theorem fd219_0 (a : AV) : aField Tryz.prog 219 0 a = fieldVal Tryz.prog 3 0 a := by cases a <;> kernel_rfl
theorem fa219_1 (a : AV) : aFieldAddr Tryz.prog 219 1 a = fieldOff 1 a := by cases a <;> kernel_rfl
theorem fd219_1 (a : AV) : aField Tryz.prog 219 1 a = fieldVal Tryz.prog 4 1 a := by cases a <;> kernel_rfl
theorem fa219_2 (a : AV) : aFieldAddr Tryz.prog 219 2 a = fieldOff 2 a := by cases a <;> kernel_rfl
theorem fd219_2 (a : AV) : aField Tryz.prog 219 2 a = fieldVal Tryz.prog 173 2 a := by cases a <;> kernel_rfl
theorem fa219_3 (a : AV) : aFieldAddr Tryz.prog 219 3 a = fieldOff 3 a := by cases a <;> kernel_rfl
theorem fd219_3 (a : AV) : aField Tryz.prog 219 3 a = fieldVal Tryz.prog 3 3 a := by cases a <;> kernel_rfl
theorem fa219_4 (a : AV) : aFieldAddr Tryz.prog 219 4 a = fieldOff 4 a := by cases a <;> kernel_rfl
theorem fd219_4 (a : AV) : aField Tryz.prog 219 4 a = fieldVal Tryz.prog 3 4 a := by cases a <;> kernel_rfl
theorem bu219 (ps : List (Nat × AV)) : aBuild Tryz.prog 219 ps = (fillA (fun i => [(0, 1), (1, 1), (2, 1), (3, 1), (4, 1)][i]?) (AV.cells (.agg [.int .i64 0, .bool false, .nilS, .int .i64 0, .int .i64 0])) ps).map .agg := by kernel_rfl
theorem ag220 : isAggT Tryz.prog 220 = some false := by kernel_rfl
theorem sz220 : sizeT Tryz.prog 220 = some 1 := by kernel_rfl
theorem by220 : bytesT Tryz.prog 220 = some 8 := by kernel_rfl
theorem ze220 : zeroT Tryz.prog 220 = some (.nilF) := by kernel_rfl
theorem ag221 : isAggT Tryz.prog 221 = some false := by kernel_rfl
theorem sz221 : sizeT Tryz.prog 221 = some 1 := by kernel_rfl
theorem by221 : bytesT Tryz.prog 221 = some 8 := by kernel_rfl
theorem ze221 : zeroT Tryz.prog 221 = some (.nilF) := by kernel_rfl
theorem ag222 : isAggT Tryz.prog 222 = some true := by kernel_rfl
theorem sz222 : sizeT Tryz.prog 222 = some 2 := by kernel_rfl
theorem by222 : bytesT Tryz.prog 222 = some 32 := by kernel_rfl
theorem ze222 : zeroT Tryz.prog 222 = some (.agg [.nilS, .int .i64 0]) := by kernel_rfl
theorem fa222_0 (a : AV) : aFieldAddr Tryz.prog 222 0 a = fieldOff 0 a := by cases a <;> kernel_rfl
theorem fd222_0 (a : AV) : aField Tryz.prog 222 0 a = fieldVal Tryz.prog 179 0 a := by cases a <;> kernel_rfl
theorem fa222_1 (a : AV) : aFieldAddr Tryz.prog 222 1 a = fieldOff 1 a := by cases a <;> kernel_rfl
theorem fd222_1 (a : AV) : aField Tryz.prog 222 1 a = fieldVal Tryz.prog 3 1 a := by cases a <;> kernel_rfl
theorem bu222 (ps : List (Nat × AV)) : aBuild Tryz.prog 222 ps = (fillA (fun i => [(0, 1), (1, 1)][i]?) (AV.cells (.agg [.nilS, .int .i64 0])) ps).map .agg := by kernel_rfl
theorem ag223 : isAggT Tryz.prog 223 = some true := by kernel_rfl
theorem sz223 : sizeT Tryz.prog 223 = some 2 := by kernel_rfl
theorem by223 : bytesT Tryz.prog 223 = some 32 := by kernel_rfl
theorem ze223 : zeroT Tryz.prog 223 = some (.agg [.nilS, .int .i64 0]) := by kernel_rfl
theorem fa223_0 (a : AV) : aFieldAddr Tryz.prog 223 0 a = fieldOff 0 a := by cases a <;> kernel_rfl
theorem fd223_0 (a : AV) : aField Tryz.prog 223 0 a = fieldVal Tryz.prog 179 0 a := by cases a <;> kernel_rfl
theorem fa223_1 (a : AV) : aFieldAddr Tryz.prog 223 1 a = fieldOff 1 a := by cases a <;> kernel_rfl
theorem fd223_1 (a : AV) : aField Tryz.prog 223 1 a = fieldVal Tryz.prog 3 1 a := by cases a <;> kernel_rfl
theorem bu223 (ps : List (Nat × AV)) : aBuild Tryz.prog 223 ps = (fillA (fun i => [(0, 1), (1, 1)][i]?) (AV.cells (.agg [.nilS, .int .i64 0])) ps).map .agg := by kernel_rfl
theorem ag224 : isAggT Tryz.prog 224 = some false := by kernel_rfl
theorem sz224 : sizeT Tryz.prog 224 = some 1 := by kernel_rfl
theorem by224 : bytesT Tryz.prog 224 = some 8 := by kernel_rfl
theorem ze224 : zeroT Tryz.prog 224 = some (.nilF) := by kernel_rfl
theorem ag225 : isAggT Tryz.prog 225 = some false := by kernel_rfl
theorem sz225 : sizeT Tryz.prog 225 = some 1 := by kernel_rfl
theorem by225 : bytesT Tryz.prog 225 = some 8 := by kernel_rfl
theorem ze225 : zeroT Tryz.prog 225 = some (.nilF) := by kernel_rfl
theorem ag226 : isAggT Tryz.prog 226 = some false := by kernel_rfl
theorem sz226 : sizeT Tryz.prog 226 = some 1 := by kernel_rfl
theorem by226 : bytesT Tryz.prog 226 = some 8 := by kernel_rfl
theorem ze226 : zeroT Tryz.prog 226 = some (.nilF) := by kernel_rfl
theorem ag227 : isAggT Tryz.prog 227 = some false := by kernel_rfl
theorem sz227 : sizeT Tryz.prog 227 = some 1 := by kernel_rfl
theorem by227 : bytesT Tryz.prog 227 = some 8 := by kernel_rfl
theorem ze227 : zeroT Tryz.prog 227 = some (.nilM) := by kernel_rfl
theorem ag228 : isAggT Tryz.prog 228 = some true := by kernel_rfl
theorem sz228 : sizeT Tryz.prog 228 = some 2 := by kernel_rfl
theorem by228 : bytesT Tryz.prog 228 = some 32 := by kernel_rfl
theorem ze228 : zeroT Tryz.prog 228 = some (.agg [.nilM, .nilS]) := by kernel_rfl
theorem fa228_0 (a : AV) : aFieldAddr Tryz.prog 228 0 a = fieldOff 0 a := by cases a <;> kernel_rfl
theorem fd228_0 (a : AV) : aField Tryz.prog 228 0 a = fieldVal Tryz.prog 227 0 a := by cases a <;> kernel_rfl
theorem fa228_1 (a : AV) : aFieldAddr Tryz.prog 228 1 a = fieldOff 1 a := by cases a <;> kernel_rfl
theorem fd228_1 (a : AV) : aField Tryz.prog 228 1 a = fieldVal Tryz.prog 145 1 a := by cases a <;> kernel_rfl
theorem bu228 (ps : List (Nat × AV)) : aBuild Tryz.prog 228 ps = (fillA (fun i => [(0, 1), (1, 1)][i]?) (AV.cells (.agg [.nilM, .nilS])) ps).map .agg := by kernel_rfl
theorem ag229 : isAggT Tryz.prog 229 = some true := by kernel_rfl
theorem sz229 : sizeT Tryz.prog 229 = some 2 := by kernel_rfl
theorem by229 : bytesT Tryz.prog 229 = some 32 := by kernel_rfl
theorem ze229 : zeroT Tryz.prog 229 = some (.agg [.nilM, .nilS]) := by kernel_rfl
theorem fa229_0 (a : AV) : aFieldAddr Tryz.prog 229 0 a = fieldOff 0 a := by cases a <;> kernel_rfl
theorem fd229_0 (a : AV) : aField Tryz.prog 229 0 a = fieldVal Tryz.prog 227 0 a := by cases a <;> kernel_rfl
theorem fa229_1 (a : AV) : aFieldAddr Tryz.prog 229 1 a = fieldOff 1 a := by cases a <;> kernel_rfl
theorem fd229_1 (a : AV) : aField Tryz.prog 229 1 a = fieldVal Tryz.prog 145 1 a := by cases a <;> kernel_rfl
theorem bu229 (ps : List (Nat × AV)) : aBuild Tryz.prog 229 ps = (fillA (fun i => [(0, 1), (1, 1)][i]?) (AV.cells (.agg [.nilM, .nilS])) ps).map .agg := by kernel_rfl
theorem ag230 : isAggT Tryz.prog 230 = some false := by kernel_rfl
theorem sz230 : sizeT Tryz.prog 230 = some 1 := by kernel_rfl
theorem by230 : bytesT Tryz.prog 230 = some 8 := by kernel_rfl
theorem ze230 : zeroT Tryz.prog 230 = some (.nilF) := by kernel_rfl
theorem ag231 : isAggT Tryz.prog 231 = some false := by kernel_rfl
theorem sz231 : sizeT Tryz.prog 231 = some 1 := by kernel_rfl
theorem by231 : bytesT Tryz.prog 231 = some 8 := by kernel_rfl
theorem ze231 : zeroT Tryz.prog 231 = some (.nilF) := by kernel_rfl
theorem ag232 : isAggT Tryz.prog 232 = some true := by kernel_rfl
theorem sz232 : sizeT Tryz.prog 232 = some 5 := by kernel_rfl
theorem by232 : bytesT Tryz.prog 232 = some 20 := by kernel_rfl
theorem ze232 : zeroT Tryz.prog 232 = some (.agg [.int .i32 0, .int .i32 0, .int .i32 0, .int .i32 0, .int .i32 0]) := by kernel_rfl
theorem ag233 : isAggT Tryz.prog 233 = some false := by kernel_rfl
theorem sz233 : sizeT Tryz.prog 233 = some 1 := by kernel_rfl
theorem by233 : bytesT Tryz.prog 233 = some 8 := by kernel_rfl
theorem ze233 : zeroT Tryz.prog 233 = some (.nil) := by kernel_rfl
theorem ag234 : isAggT Tryz.prog 234 = some false := by kernel_rfl
theorem sz234 : sizeT Tryz.prog 234 = some 1 := by kernel_rfl
theorem by234 : bytesT Tryz.prog 234 = some 8 := by kernel_rfl
theorem ze234 : zeroT Tryz.prog 234 = some (.nilF) := by kernel_rfl
theorem ag235 : isAggT Tryz.prog 235 = some false := by kernel_rfl
theorem sz235 : sizeT Tryz.prog 235 = some 1 := by kernel_rfl
theorem by235 : bytesT Tryz.prog 235 = some 0 := by kernel_rfl
theorem ag236 : isAggT Tryz.prog 236 = some false := by kernel_rfl
theorem sz236 : sizeT Tryz.prog 236 = some 1 := by kernel_rfl
theorem by236 : bytesT Tryz.prog 236 = some 8 := by kernel_rfl
theorem ze236 : zeroT Tryz.prog 236 = some (.nilF) := by kernel_rfl
theorem ag237 : isAggT Tryz.prog 237 = some false := by kernel_rfl
theorem sz237 : sizeT Tryz.prog 237 = some 1 := by kernel_rfl
theorem by237 : bytesT Tryz.prog 237 = some 8 := by kernel_rfl
theorem ze237 : zeroT Tryz.prog 237 = some (.nil) := by kernel_rfl
theorem ag238 : isAggT Tryz.prog 238 = some true := by kernel_rfl
theorem sz238 : sizeT Tryz.prog 238 = some 2 := by kernel_rfl
theorem by238 : bytesT Tryz.prog 238 = some 24 := by kernel_rfl
theorem ze238 : zeroT Tryz.prog 238 = some (.agg [.int .i64 0, .nilI]) := by kernel_rfl
theorem fa238_0 (a : AV) : aFieldAddr Tryz.prog 238 0 a = fieldOff 0 a := by cases a <;> kernel_rfl
theorem fd238_0 (a : AV) : aField Tryz.prog 238 0 a = fieldVal Tryz.prog 3 0 a := by cases a <;> kernel_rfl
theorem fa238_1 (a : AV) : aFieldAddr Tryz.prog 238 1 a = fieldOff 1 a := by cases a <;> kernel_rfl
theorem fd238_1 (a : AV) : aField Tryz.prog 238 1 a = fieldVal Tryz.prog 76 1 a := by cases a <;> kernel_rfl
theorem bu238 (ps : List (Nat × AV)) : aBuild Tryz.prog 238 ps = (fillA (fun i => [(0, 1), (1, 1)][i]?) (AV.cells (.agg [.int .i64 0, .nilI])) ps).map .agg := by kernel_rfl
theorem ag239 : isAggT Tryz.prog 239 = some true := by kernel_rfl
theorem sz239 : sizeT Tryz.prog 239 = some 2 := by kernel_rfl
theorem by239 : bytesT Tryz.prog 239 = some 24 := by kernel_rfl
theorem ze239 : zeroT Tryz.prog 239 = some (.agg [.int .i64 0, .nilI]) := by kernel_rfl
theorem fa239_0 (a : AV) : aFieldAddr Tryz.prog 239 0 a = fieldOff 0 a := by cases a <;> kernel_rfl
theorem fd239_0 (a : AV) : aField Tryz.prog 239 0 a = fieldVal Tryz.prog 3 0 a := by cases a <;> kernel_rfl
theorem fa239_1 (a : AV) : aFieldAddr Tryz.prog 239 1 a = fieldOff 1 a := by cases a <;> kernel_rfl
theorem fd239_1 (a : AV) : aField Tryz.prog 239 1 a = fieldVal Tryz.prog 76 1 a := by cases a <;> kernel_rfl
theorem bu239 (ps : List (Nat × AV)) : aBuild Tryz.prog 239 ps = (fillA (fun i => [(0, 1), (1, 1)][i]?) (AV.cells (.agg [.int .i64 0, .nilI])) ps).map .agg := by kernel_rfl
theorem ag240 : isAggT Tryz.prog 240 = some false := by kernel_rfl
theorem sz240 : sizeT Tryz.prog 240 = some 1 := by kernel_rfl
theorem by240 : bytesT Tryz.prog 240 = some 8 := by kernel_rfl
theorem ze240 : zeroT Tryz.prog 240 = some (.int .u64 0) := by kernel_rfl
theorem ag241 : isAggT Tryz.prog 241 = some true := by kernel_rfl
theorem sz241 : sizeT Tryz.prog 241 = some 3 := by kernel_rfl
theorem by241 : bytesT Tryz.prog 241 = some 24 := by kernel_rfl
theorem ze241 : zeroT Tryz.prog 241 = some (.agg [.nil, .nil, .int .u64 0]) := by kernel_rfl
theorem fa241_0 (a : AV) : aFieldAddr Tryz.prog 241 0 a = fieldOff 0 a := by cases a <;> kernel_rfl
theorem fd241_0 (a : AV) : aField Tryz.prog 241 0 a = fieldVal Tryz.prog 17 0 a := by cases a <;> kernel_rfl
theorem fa241_1 (a : AV) : aFieldAddr Tryz.prog 241 1 a = fieldOff 1 a := by cases a <;> kernel_rfl
theorem fd241_1 (a : AV) : aField Tryz.prog 241 1 a = fieldVal Tryz.prog 164 1 a := by cases a <;> kernel_rfl
theorem fa241_2 (a : AV) : aFieldAddr Tryz.prog 241 2 a = fieldOff 2 a := by cases a <;> kernel_rfl
theorem fd241_2 (a : AV) : aField Tryz.prog 241 2 a = fieldVal Tryz.prog 240 2 a := by cases a <;> kernel_rfl
theorem bu241 (ps : List (Nat × AV)) : aBuild Tryz.prog 241 ps = (fillA (fun i => [(0, 1), (1, 1), (2, 1)][i]?) (AV.cells (.agg [.nil, .nil, .int .u64 0])) ps).map .agg := by kernel_rfl
theorem ag242 : isAggT Tryz.prog 242 = some true := by kernel_rfl
theorem sz242 : sizeT Tryz.prog 242 = some 3 := by kernel_rfl
theorem by242 : bytesT Tryz.prog 242 = some 24 := by kernel_rfl
theorem ze242 : zeroT Tryz.prog 242 = some (.agg [.nil, .nil, .int .u64 0]) := by kernel_rfl
theorem fa242_0 (a : AV) : aFieldAddr Tryz.prog 242 0 a = fieldOff 0 a := by cases a <;> kernel_rfl
theorem fd242_0 (a : AV) : aField Tryz.prog 242 0 a = fieldVal Tryz.prog 17 0 a := by cases a <;> kernel_rfl
theorem fa242_1 (a : AV) : aFieldAddr Tryz.prog 242 1 a = fieldOff 1 a := by cases a <;> kernel_rfl
theorem fd242_1 (a : AV) : aField Tryz.prog 242 1 a = fieldVal Tryz.prog 164 1 a := by cases a <;> kernel_rfl
theorem fa242_2 (a : AV) : aFieldAddr Tryz.prog 242 2 a = fieldOff 2 a := by cases a <;> kernel_rfl
theorem fd242_2 (a : AV) : aField Tryz.prog 242 2 a = fieldVal Tryz.prog 240 2 a := by cases a <;> kernel_rfl
theorem bu242 (ps : List (Nat × AV)) : aBuild Tryz.prog 242 ps = (fillA (fun i => [(0, 1), (1, 1), (2, 1)][i]?) (AV.cells (.agg [.nil, .nil, .int .u64 0])) ps).map .agg := by kernel_rfl
theorem ag243 : isAggT Tryz.prog 243 = some false := by kernel_rfl
theorem sz243 : sizeT Tryz.prog 243 = some 1 := by kernel_rfl
theorem by243 : bytesT Tryz.prog 243 = some 8 := by kernel_rfl
theorem ze243 : zeroT Tryz.prog 243 = some (.nilF) := by kernel_rfl
theorem ag244 : isAggT Tryz.prog 244 = some false := by kernel_rfl
theorem sz244 : sizeT Tryz.prog 244 = some 1 := by kernel_rfl
theorem by244 : bytesT Tryz.prog 244 = some 16 := by kernel_rfl
theorem ze244 : zeroT Tryz.prog 244 = some (.nilI) := by kernel_rfl
theorem ag245 : isAggT Tryz.prog 245 = some false := by kernel_rfl
theorem sz245 : sizeT Tryz.prog 245 = some 1 := by kernel_rfl
theorem by245 : bytesT Tryz.prog 245 = some 16 := by kernel_rfl
theorem ze245 : zeroT Tryz.prog 245 = some (.nilI) := by kernel_rfl
theorem ag246 : isAggT Tryz.prog 246 = some false := by kernel_rfl
theorem sz246 : sizeT Tryz.prog 246 = some 1 := by kernel_rfl
theorem by246 : bytesT Tryz.prog 246 = some 8 := by kernel_rfl
theorem ze246 : zeroT Tryz.prog 246 = some (.nilF) := by kernel_rfl
theorem ag247 : isAggT Tryz.prog 247 = some false := by kernel_rfl
theorem sz247 : sizeT Tryz.prog 247 = some 1 := by kernel_rfl
theorem by247 : bytesT Tryz.prog 247 = some 1 := by kernel_rfl
theorem ze247 : zeroT Tryz.prog 247 = some (.int .u8 0) := by kernel_rfl
theorem ag248 : isAggT Tryz.prog 248 = some false := by kernel_rfl
theorem sz248 : sizeT Tryz.prog 248 = some 1 := by kernel_rfl
theorem by248 : bytesT Tryz.prog 248 = some 8 := by kernel_rfl
theorem ze248 : zeroT Tryz.prog 248 = some (.nilF) := by kernel_rfl
theorem ag249 : isAggT Tryz.prog 249 = some false := by kernel_rfl
theorem sz249 : sizeT Tryz.prog 249 = some 1 := by kernel_rfl
theorem by249 : bytesT Tryz.prog 249 = some 8 := by kernel_rfl
theorem ze249 : zeroT Tryz.prog 249 = some (.nilF) := by kernel_rfl
theorem ag250 : isAggT Tryz.prog 250 = some false := by kernel_rfl
theorem sz250 : sizeT Tryz.prog 250 = some 1 := by kernel_rfl
theorem by250 : bytesT Tryz.prog 250 = some 8 := by kernel_rfl
theorem ze250 : zeroT Tryz.prog 250 = some (.nilF) := by kernel_rfl
theorem ag251 : isAggT Tryz.prog 251 = some true := by kernel_rfl
theorem sz251 : sizeT Tryz.prog 251 = some 256 := by kernel_rfl
theorem by251 : bytesT Tryz.prog 251 = some 256 := by kernel_rfl
theorem ze251 : zeroT Tryz.prog 251 = some (.agg [.int .u8 0, .int .u8 0, .int .u8 0, .int .u8 0, .int .u8 0, .int .u8 0, .int .u8 0, .int .u8 0, .int .u8 0, .int .u8 0, .int .u8 0, .int .u8 0, .int .u8 0, .int .u8 0, .int .u8 0, .int .u8 0, .int .u8 0, .int .u8 0, .int .u8 0, .int .u8 0, .int .u8 0, .int .u8 0, .int .u8 0, .int .u8 0, .int .u8 0, .int .u8 0, .int .u8 0, .int .u8 0, .int .u8 0, .int .u8 0, .int .u8 0, .int .u8 0, .int .u8 0, .int .u8 0, .int .u8 0, .int .u8 0, .int .u8 0, .int .u8 0, .int .u8 0, .int .u8 0, .int .u8 0, .int .u8 0, .int .u8 0, .int .u8 0, .int .u8 0, .int .u8 0, .int .u8 0, .int .u8 0, .int .u8 0, .int .u8 0, .int .u8 0, .int .u8 0, .int .u8 0, .int .u8 0, .int .u8 0, .int .u8 0, .int .u8 0, .int .u8 0, .int .u8 0, .int .u8 0, .int .u8 0, .int .u8 0, .int .u8 0, .int .u8 0, .int .u8 0, .int .u8 0, .int .u8 0, .int .u8 0, .int .u8 0, .int .u8 0, .int .u8 0, .int .u8 0, .int .u8 0, .int .u8 0, .int .u8 0, .int .u8 0, .int .u8 0, .int .u8 0, .int .u8 0, .int .u8 0, .int .u8 0, .int .u8 0, .int .u8 0, .int .u8 0, .int .u8 0, .int .u8 0, .int .u8 0, .int .u8 0, .int .u8 0, .int .u8 0, .int .u8 0, .int .u8 0, .int .u8 0, .int .u8 0, .int .u8 0, .int .u8 0, .int .u8 0, .int .u8 0, .int .u8 0, .int .u8 0, .int .u8 0, .int .u8 0, .int .u8 0, .int .u8 0, .int .u8 0, .int .u8 0, .int .u8 0, .int .u8 0, .int .u8 0, .int .u8 0, .int .u8 0, .int .u8 0, .int .u8 0, .int .u8 0, .int .u8 0, .int .u8 0, .int .u8 0, .int .u8 0, .int .u8 0, .int .u8 0, .int .u8 0, .int .u8 0, .int .u8 0, .int .u8 0, .int .u8 0, .int .u8 0, .int .u8 0, .int .u8 0, .int .u8 0, .int .u8 0, .int .u8 0, .int .u8 0, .int .u8 0, .int .u8 0, .int .u8 0, .int .u8 0, .int .u8 0, .int .u8 0, .int .u8 0, .int .u8 0, .int .u8 0, .int .u8 0, .int .u8 0, .int .u8 0, .int .u8 0, .int .u8 0, .int .u8 0, .int .u8 0, .int .u8 0, .int .u8 0, .int .u8 0, .int .u8 0, .int .u8 0, .int .u8 0, .int .u8 0, .int .u8 0, .int .u8 0, .int .u8 0, .int .u8 0, .int .u8 0, .int .u8 0, .int .u8 0, .int .u8 0, .int .u8 0, .int .u8 0, .int .u8 0, .int .u8 0, .int .u8 0, .int .u8 0, .int .u8 0, .int .u8 0, .int .u8 0, .int .u8 0, .int .u8 0, .int .u8 0, .int .u8 0, .int .u8 0, .int .u8 0, .int .u8 0, .int .u8 0, .int .u8 0, .int .u8 0, .int .u8 0, .int .u8 0, .int .u8 0, .int .u8 0, .int .u8 0, .int .u8 0, .int .u8 0, .int .u8 0, .int .u8 0, .int .u8 0, .int .u8 0, .int .u8 0, .int .u8 0, .int .u8 0, .int .u8 0, .int .u8 0, .int .u8 0, .int .u8 0, .int .u8 0, .int .u8 0, .int .u8 0, .int .u8 0, .int .u8 0, .int .u8 0, .int .u8 0, .int .u8 0, .int .u8 0, .int .u8 0, .int .u8 0, .int .u8 0, .int .u8 0, .int .u8 0, .int .u8 0, .int .u8 0, .int .u8 0, .int .u8 0, .int .u8 0, .int .u8 0, .int .u8 0, .int .u8 0, .int .u8 0, .int .u8 0, .int .u8 0, .int .u8 0, .int .u8 0, .int .u8 0, .int .u8 0, .int .u8 0, .int .u8 0, .int .u8 0, .int .u8 0, .int .u8 0, .int .u8 0, .int .u8 0, .int .u8 0, .int .u8 0, .int .u8 0, .int .u8 0, .int .u8 0, .int .u8 0, .int .u8 0, .int .u8 0, .int .u8 0, .int .u8 0, .int .u8 0, .int .u8 0, .int .u8 0, .int .u8 0, .int .u8 0, .int .u8 0, .int .u8 0, .int .u8 0, .int .u8 0, .int .u8 0]) := by kernel_rfl
theorem ag252 : isAggT Tryz.prog 252 = some true := by kernel_rfl
theorem sz252 : sizeT Tryz.prog 252 = some 2 := by kernel_rfl
theorem by252 : bytesT Tryz.prog 252 = some 2 := by kernel_rfl
theorem ze252 : zeroT Tryz.prog 252 = some (.agg [.int .u8 0, .int .u8 0]) := by kernel_rfl
theorem fa252_0 (a : AV) : aFieldAddr Tryz.prog 252 0 a = fieldOff 0 a := by cases a <;> kernel_rfl
theorem fd252_0 (a : AV) : aField Tryz.prog 252 0 a = fieldVal Tryz.prog 5 0 a := by cases a <;> kernel_rfl
theorem fa252_1 (a : AV) : aFieldAddr Tryz.prog 252 1 a = fieldOff 1 a := by cases a <;> kernel_rfl
theorem fd252_1 (a : AV) : aField Tryz.prog 252 1 a = fieldVal Tryz.prog 5 1 a := by cases a <;> kernel_rfl
theorem bu252 (ps : List (Nat × AV)) : aBuild Tryz.prog 252 ps = (fillA (fun i => [(0, 1), (1, 1)][i]?) (AV.cells (.agg [.int .u8 0, .int .u8 0])) ps).map .agg := by kernel_rfl
theorem ag253 : isAggT Tryz.prog 253 = some true := by kernel_rfl
theorem sz253 : sizeT Tryz.prog 253 = some 2 := by kernel_rfl
theorem by253 : bytesT Tryz.prog 253 = some 2 := by kernel_rfl
theorem ze253 : zeroT Tryz.prog 253 = some (.agg [.int .u8 0, .int .u8 0]) := by kernel_rfl
theorem fa253_0 (a : AV) : aFieldAddr Tryz.prog 253 0 a = fieldOff 0 a := by cases a <;> kernel_rfl
theorem fd253_0 (a : AV) : aField Tryz.prog 253 0 a = fieldVal Tryz.prog 5 0 a := by cases a <;> kernel_rfl
theorem fa253_1 (a : AV) : aFieldAddr Tryz.prog 253 1 a = fieldOff 1 a := by cases a <;> kernel_rfl
theorem fd253_1 (a : AV) : aField Tryz.prog 253 1 a = fieldVal Tryz.prog 5 1 a := by cases a <;> kernel_rfl
theorem bu253 (ps : List (Nat × AV)) : aBuild Tryz.prog 253 ps = (fillA (fun i => [(0, 1), (1, 1)][i]?) (AV.cells (.agg [.int .u8 0, .int .u8 0])) ps).map .agg := by kernel_rfl
theorem ag254 : isAggT Tryz.prog 254 = some true := by kernel_rfl
theorem sz254 : sizeT Tryz.prog 254 = some 32 := by kernel_rfl
theorem by254 : bytesT Tryz.prog 254 = some 32 := by kernel_rfl
theorem ze254 : zeroT Tryz.prog 254 = some (.agg [.int .u8 0, .int .u8 0, .int .u8 0, .int .u8 0, .int .u8 0, .int .u8 0, .int .u8 0, .int .u8 0, .int .u8 0, .int .u8 0, .int .u8 0, .int .u8 0, .int .u8 0, .int .u8 0, .int .u8 0, .int .u8 0, .int .u8 0, .int .u8 0, .int .u8 0, .int .u8 0, .int .u8 0, .int .u8 0, .int .u8 0, .int .u8 0, .int .u8 0, .int .u8 0, .int .u8 0, .int .u8 0, .int .u8 0, .int .u8 0, .int .u8 0, .int .u8 0]) := by kernel_rfl
theorem ag255 : isAggT Tryz.prog 255 = some false := by kernel_rfl
theorem sz255 : sizeT Tryz.prog 255 = some 1 := by kernel_rfl
theorem by255 : bytesT Tryz.prog 255 = some 8 := by kernel_rfl
theorem ze255 : zeroT Tryz.prog 255 = some (.nilF) := by kernel_rfl
theorem ag256 : isAggT Tryz.prog 256 = some false := by kernel_rfl
theorem sz256 : sizeT Tryz.prog 256 = some 1 := by kernel_rfl
theorem by256 : bytesT Tryz.prog 256 = some 8 := by kernel_rfl
theorem ze256 : zeroT Tryz.prog 256 = some (.nilF) := by kernel_rfl
theorem ag257 : isAggT Tryz.prog 257 = some false := by kernel_rfl
theorem sz257 : sizeT Tryz.prog 257 = some 1 := by kernel_rfl
theorem by257 : bytesT Tryz.prog 257 = some 8 := by kernel_rfl
theorem ze257 : zeroT Tryz.prog 257 = some (.nilF) := by kernel_rfl
theorem ag258 : isAggT Tryz.prog 258 = some false := by kernel_rfl
theorem sz258 : sizeT Tryz.prog 258 = some 1 := by kernel_rfl
theorem by258 : bytesT Tryz.prog 258 = some 8 := by kernel_rfl
theorem ze258 : zeroT Tryz.prog 258 = some (.nilF) := by kernel_rfl
theorem ag259 : isAggT Tryz.prog 259 = some true := by kernel_rfl
theorem sz259 : sizeT Tryz.prog 259 = some 1 := by kernel_rfl
theorem by259 : bytesT Tryz.prog 259 = some 8 := by kernel_rfl
theorem ze259 : zeroT Tryz.prog 259 = some (.agg [.nil]) := by kernel_rfl
theorem fa259_0 (a : AV) : aFieldAddr Tryz.prog 259 0 a = fieldOff 0 a := by cases a <;> kernel_rfl
theorem fd259_0 (a : AV) : aField Tryz.prog 259 0 a = fieldVal Tryz.prog 17 0 a := by cases a <;> kernel_rfl
theorem bu259 (ps : List (Nat × AV)) : aBuild Tryz.prog 259 ps = (fillA (fun i => [(0, 1)][i]?) (AV.cells (.agg [.nil])) ps).map .agg := by kernel_rfl
theorem ag260 : isAggT Tryz.prog 260 = some true := by kernel_rfl
theorem sz260 : sizeT Tryz.prog 260 = some 1 := by kernel_rfl
theorem by260 : bytesT Tryz.prog 260 = some 8 := by kernel_rfl
theorem ze260 : zeroT Tryz.prog 260 = some (.agg [.nil]) := by kernel_rfl
theorem fa260_0 (a : AV) : aFieldAddr Tryz.prog 260 0 a = fieldOff 0 a := by cases a <;> kernel_rfl
theorem fd260_0 (a : AV) : aField Tryz.prog 260 0 a = fieldVal Tryz.prog 17 0 a := by cases a <;> kernel_rfl
theorem bu260 (ps : List (Nat × AV)) : aBuild Tryz.prog 260 ps = (fillA (fun i => [(0, 1)][i]?) (AV.cells (.agg [.nil])) ps).map .agg := by kernel_rfl
theorem ag261 : isAggT Tryz.prog 261 = some false := by kernel_rfl
theorem sz261 : sizeT Tryz.prog 261 = some 1 := by kernel_rfl
theorem by261 : bytesT Tryz.prog 261 = some 8 := by kernel_rfl
theorem ze261 : zeroT Tryz.prog 261 = some (.nil) := by kernel_rfl
theorem ag262 : isAggT Tryz.prog 262 = some false := by kernel_rfl
theorem sz262 : sizeT Tryz.prog 262 = some 1 := by kernel_rfl
theorem by262 : bytesT Tryz.prog 262 = some 8 := by kernel_rfl
theorem ze262 : zeroT Tryz.prog 262 = some (.nilF) := by kernel_rfl
theorem ag263 : isAggT Tryz.prog 263 = some false := by kernel_rfl
theorem sz263 : sizeT Tryz.prog 263 = some 1 := by kernel_rfl
theorem by263 : bytesT Tryz.prog 263 = some 8 := by kernel_rfl
theorem ze263 : zeroT Tryz.prog 263 = some (.nilF) := by kernel_rfl
theorem ag264 : isAggT Tryz.prog 264 = some false := by kernel_rfl
theorem sz264 : sizeT Tryz.prog 264 = some 1 := by kernel_rfl
theorem by264 : bytesT Tryz.prog 264 = some 8 := by kernel_rfl
theorem ze264 : zeroT Tryz.prog 264 = some (.nilF) := by kernel_rfl
theorem ag265 : isAggT Tryz.prog 265 = some false := by kernel_rfl
theorem sz265 : sizeT Tryz.prog 265 = some 1 := by kernel_rfl
theorem by265 : bytesT Tryz.prog 265 = some 16 := by kernel_rfl
theorem ze265 : zeroT Tryz.prog 265 = some (.nilI) := by kernel_rfl
theorem ag266 : isAggT Tryz.prog 266 = some false := by kernel_rfl
theorem sz266 : sizeT Tryz.prog 266 = some 1 := by kernel_rfl
theorem by266 : bytesT Tryz.prog 266 = some 0 := by kernel_rfl
theorem ag267 : isAggT Tryz.prog 267 = some false := by kernel_rfl
theorem sz267 : sizeT Tryz.prog 267 = some 1 := by kernel_rfl
theorem by267 : bytesT Tryz.prog 267 = some 8 := by kernel_rfl
theorem ze267 : zeroT Tryz.prog 267 = some (.nilF) := by kernel_rfl
theorem ag268 : isAggT Tryz.prog 268 = some false := by kernel_rfl
theorem sz268 : sizeT Tryz.prog 268 = some 1 := by kernel_rfl
theorem by268 : bytesT Tryz.prog 268 = some 16 := by kernel_rfl
theorem ze268 : zeroT Tryz.prog 268 = some (.nilI) := by kernel_rfl
theorem ag269 : isAggT Tryz.prog 269 = some false := by kernel_rfl
theorem sz269 : sizeT Tryz.prog 269 = some 1 := by kernel_rfl
theorem by269 : bytesT Tryz.prog 269 = some 8 := by kernel_rfl
theorem ze269 : zeroT Tryz.prog 269 = some (.nilF) := by kernel_rfl
theorem ag270 : isAggT Tryz.prog 270 = some false := by kernel_rfl
theorem sz270 : sizeT Tryz.prog 270 = some 1 := by kernel_rfl
theorem by270 : bytesT Tryz.prog 270 = some 16 := by kernel_rfl
theorem ze270 : zeroT Tryz.prog 270 = some (.nilI) := by kernel_rfl
theorem ag271 : isAggT Tryz.prog 271 = some false := by kernel_rfl
theorem sz271 : sizeT Tryz.prog 271 = some 1 := by kernel_rfl
theorem by271 : bytesT Tryz.prog 271 = some 24 := by kernel_rfl
theorem se271 : sliceElem Tryz.prog 271 = some 76 := by kernel_rfl
theorem ze271 : zeroT Tryz.prog 271 = some (.nilS) := by kernel_rfl
theorem ag272 : isAggT Tryz.prog 272 = some false := by kernel_rfl
theorem sz272 : sizeT Tryz.prog 272 = some 1 := by kernel_rfl
theorem by272 : bytesT Tryz.prog 272 = some 8 := by kernel_rfl
theorem ze272 : zeroT Tryz.prog 272 = some (.nilF) := by kernel_rfl
theorem ag273 : isAggT Tryz.prog 273 = some false := by kernel_rfl
theorem sz273 : sizeT Tryz.prog 273 = some 1 := by kernel_rfl
theorem by273 : bytesT Tryz.prog 273 = some 8 := by kernel_rfl
theorem ze273 : zeroT Tryz.prog 273 = some (.nilF) := by kernel_rfl
theorem ag274 : isAggT Tryz.prog 274 = some false := by kernel_rfl
theorem sz274 : sizeT Tryz.prog 274 = some 1 := by kernel_rfl
theorem by274 : bytesT Tryz.prog 274 = some 8 := by kernel_rfl
theorem ze274 : zeroT Tryz.prog 274 = some (.nilF) := by kernel_rfl
theorem ag275 : isAggT Tryz.prog 275 = some true := by kernel_rfl
theorem sz275 : sizeT Tryz.prog 275 = some 2 := by kernel_rfl
theorem by275 : bytesT Tryz.prog 275 = some 8 := by kernel_rfl
theorem ze275 : zeroT Tryz.prog 275 = some (.agg [.int .i32 0, .int .i32 0]) := by kernel_rfl
theorem fa275_0 (a : AV) : aFieldAddr Tryz.prog 275 0 a = fieldOff 0 a := by cases a <;> kernel_rfl
theorem fd275_0 (a : AV) : aField Tryz.prog 275 0 a = fieldVal Tryz.prog 21 0 a := by cases a <;> kernel_rfl
theorem fa275_1 (a : AV) : aFieldAddr Tryz.prog 275 1 a = fieldOff 1 a := by cases a <;> kernel_rfl
theorem fd275_1 (a : AV) : aField Tryz.prog 275 1 a = fieldVal Tryz.prog 21 1 a := by cases a <;> kernel_rfl
theorem bu275 (ps : List (Nat × AV)) : aBuild Tryz.prog 275 ps = (fillA (fun i => [(0, 1), (1, 1)][i]?) (AV.cells (.agg [.int .i32 0, .int .i32 0])) ps).map .agg := by kernel_rfl
theorem ag276 : isAggT Tryz.prog 276 = some true := by kernel_rfl
theorem sz276 : sizeT Tryz.prog 276 = some 2 := by kernel_rfl
theorem by276 : bytesT Tryz.prog 276 = some 8 := by kernel_rfl
theorem ze276 : zeroT Tryz.prog 276 = some (.agg [.int .i32 0, .int .i32 0]) := by kernel_rfl
theorem fa276_0 (a : AV) : aFieldAddr Tryz.prog 276 0 a = fieldOff 0 a := by cases a <;> kernel_rfl
theorem fd276_0 (a : AV) : aField Tryz.prog 276 0 a = fieldVal Tryz.prog 21 0 a := by cases a <;> kernel_rfl
theorem fa276_1 (a : AV) : aFieldAddr Tryz.prog 276 1 a = fieldOff 1 a := by cases a <;> kernel_rfl
theorem fd276_1 (a : AV) : aField Tryz.prog 276 1 a = fieldVal Tryz.prog 21 1 a := by cases a <;> kernel_rfl
theorem bu276 (ps : List (Nat × AV)) : aBuild Tryz.prog 276 ps = (fillA (fun i => [(0, 1), (1, 1)][i]?) (AV.cells (.agg [.int .i32 0, .int .i32 0])) ps).map .agg := by kernel_rfl
theorem ag277 : isAggT Tryz.prog 277 = some false := by kernel_rfl
theorem sz277 : sizeT Tryz.prog 277 = some 1 := by kernel_rfl
theorem by277 : bytesT Tryz.prog 277 = some 8 := by kernel_rfl
theorem ze277 : zeroT Tryz.prog 277 = some (.nilF) := by kernel_rfl
theorem ag278 : isAggT Tryz.prog 278 = some false := by kernel_rfl
theorem sz278 : sizeT Tryz.prog 278 = some 1 := by kernel_rfl
theorem by278 : bytesT Tryz.prog 278 = some 0 := by kernel_rfl
theorem ag279 : isAggT Tryz.prog 279 = some false := by kernel_rfl
theorem sz279 : sizeT Tryz.prog 279 = some 1 := by kernel_rfl
theorem by279 : bytesT Tryz.prog 279 = some 8 := by kernel_rfl
theorem ze279 : zeroT Tryz.prog 279 = some (.nilF) := by kernel_rfl
theorem ag280 : isAggT Tryz.prog 280 = some false := by kernel_rfl
theorem sz280 : sizeT Tryz.prog 280 = some 1 := by kernel_rfl
theorem by280 : bytesT Tryz.prog 280 = some 8 := by kernel_rfl
theorem ze280 : zeroT Tryz.prog 280 = some (.nilF) := by kernel_rfl
theorem ag281 : isAggT Tryz.prog 281 = some false := by kernel_rfl
theorem sz281 : sizeT Tryz.prog 281 = some 1 := by kernel_rfl
theorem by281 : bytesT Tryz.prog 281 = some 0 := by kernel_rfl
theorem ag282 : isAggT Tryz.prog 282 = some false := by kernel_rfl
theorem sz282 : sizeT Tryz.prog 282 = some 1 := by kernel_rfl
theorem by282 : bytesT Tryz.prog 282 = some 8 := by kernel_rfl
theorem ze282 : zeroT Tryz.prog 282 = some (.nilF) := by kernel_rfl
theorem ag283 : isAggT Tryz.prog 283 = some false := by kernel_rfl
theorem sz283 : sizeT Tryz.prog 283 = some 1 := by kernel_rfl
theorem by283 : bytesT Tryz.prog 283 = some 0 := by kernel_rfl
theorem ag284 : isAggT Tryz.prog 284 = some false := by kernel_rfl
theorem sz284 : sizeT Tryz.prog 284 = some 1 := by kernel_rfl
theorem by284 : bytesT Tryz.prog 284 = some 8 := by kernel_rfl
theorem ze284 : zeroT Tryz.prog 284 = some (.nilF) := by kernel_rfl
theorem ag285 : isAggT Tryz.prog 285 = some false := by kernel_rfl
theorem sz285 : sizeT Tryz.prog 285 = some 1 := by kernel_rfl
theorem by285 : bytesT Tryz.prog 285 = some 8 := by kernel_rfl
theorem ze285 : zeroT Tryz.prog 285 = some (.nilF) := by kernel_rfl
theorem ag286 : isAggT Tryz.prog 286 = some false := by kernel_rfl
theorem sz286 : sizeT Tryz.prog 286 = some 1 := by kernel_rfl
theorem by286 : bytesT Tryz.prog 286 = some 0 := by kernel_rfl
theorem ag287 : isAggT Tryz.prog 287 = some false := by kernel_rfl
theorem sz287 : sizeT Tryz.prog 287 = some 1 := by kernel_rfl
theorem by287 : bytesT Tryz.prog 287 = some 8 := by kernel_rfl
theorem ze287 : zeroT Tryz.prog 287 = some (.nilF) := by kernel_rfl
theorem ag288 : isAggT Tryz.prog 288 = some false := by kernel_rfl
theorem sz288 : sizeT Tryz.prog 288 = some 1 := by kernel_rfl
theorem by288 : bytesT Tryz.prog 288 = some 8 := by kernel_rfl
theorem ze288 : zeroT Tryz.prog 288 = some (.nilF) := by kernel_rfl
theorem ag289 : isAggT Tryz.prog 289 = some false := by kernel_rfl
theorem sz289 : sizeT Tryz.prog 289 = some 1 := by kernel_rfl
theorem by289 : bytesT Tryz.prog 289 = some 8 := by kernel_rfl
theorem ze289 : zeroT Tryz.prog 289 = some (.nilF) := by kernel_rfl
theorem ag290 : isAggT Tryz.prog 290 = some false := by kernel_rfl
theorem sz290 : sizeT Tryz.prog 290 = some 1 := by kernel_rfl
theorem by290 : bytesT Tryz.prog 290 = some 0 := by kernel_rfl
theorem ag291 : isAggT Tryz.prog 291 = some false := by kernel_rfl
theorem sz291 : sizeT Tryz.prog 291 = some 1 := by kernel_rfl
theorem by291 : bytesT Tryz.prog 291 = some 8 := by kernel_rfl
theorem ze291 : zeroT Tryz.prog 291 = some (.nilF) := by kernel_rfl
theorem ag292 : isAggT Tryz.prog 292 = some false := by kernel_rfl
theorem sz292 : sizeT Tryz.prog 292 = some 1 := by kernel_rfl
theorem by292 : bytesT Tryz.prog 292 = some 8 := by kernel_rfl
theorem ze292 : zeroT Tryz.prog 292 = some (.nilF) := by kernel_rfl
theorem ag293 : isAggT Tryz.prog 293 = some false := by kernel_rfl
theorem sz293 : sizeT Tryz.prog 293 = some 1 := by kernel_rfl
theorem by293 : bytesT Tryz.prog 293 = some 8 := by kernel_rfl
theorem ze293 : zeroT Tryz.prog 293 = some (.nilF) := by kernel_rfl
theorem ag294 : isAggT Tryz.prog 294 = some true := by kernel_rfl
theorem sz294 : sizeT Tryz.prog 294 = some 4 := by kernel_rfl
theorem by294 : bytesT Tryz.prog 294 = some 40 := by kernel_rfl
theorem ze294 : zeroT Tryz.prog 294 = some (.agg [.nil, .nil, .nil, .str []]) := by kernel_rfl
theorem fa294_0 (a : AV) : aFieldAddr Tryz.prog 294 0 a = fieldOff 0 a := by cases a <;> kernel_rfl
theorem fd294_0 (a : AV) : aField Tryz.prog 294 0 a = fieldVal Tryz.prog 17 0 a := by cases a <;> kernel_rfl
theorem fa294_1 (a : AV) : aFieldAddr Tryz.prog 294 1 a = fieldOff 1 a := by cases a <;> kernel_rfl
theorem fd294_1 (a : AV) : aField Tryz.prog 294 1 a = fieldVal Tryz.prog 17 1 a := by cases a <;> kernel_rfl
theorem fa294_2 (a : AV) : aFieldAddr Tryz.prog 294 2 a = fieldOff 2 a := by cases a <;> kernel_rfl
theorem fd294_2 (a : AV) : aField Tryz.prog 294 2 a = fieldVal Tryz.prog 17 2 a := by cases a <;> kernel_rfl
theorem fa294_3 (a : AV) : aFieldAddr Tryz.prog 294 3 a = fieldOff 3 a := by cases a <;> kernel_rfl
theorem fd294_3 (a : AV) : aField Tryz.prog 294 3 a = fieldVal Tryz.prog 9 3 a := by cases a <;> kernel_rfl
theorem bu294 (ps : List (Nat × AV)) : aBuild Tryz.prog 294 ps = (fillA (fun i => [(0, 1), (1, 1), (2, 1), (3, 1)][i]?) (AV.cells (.agg [.nil, .nil, .nil, .str []])) ps).map .agg := by kernel_rfl
theorem ag295 : isAggT Tryz.prog 295 = some true := by kernel_rfl
theorem sz295 : sizeT Tryz.prog 295 = some 4 := by kernel_rfl
theorem by295 : bytesT Tryz.prog 295 = some 40 := by kernel_rfl
theorem ze295 : zeroT Tryz.prog 295 = some (.agg [.nil, .nil, .nil, .str []]) := by kernel_rfl
theorem fa295_0 (a : AV) : aFieldAddr Tryz.prog 295 0 a = fieldOff 0 a := by cases a <;> kernel_rfl
theorem fd295_0 (a : AV) : aField Tryz.prog 295 0 a = fieldVal Tryz.prog 17 0 a := by cases a <;> kernel_rfl
theorem fa295_1 (a : AV) : aFieldAddr Tryz.prog 295 1 a = fieldOff 1 a := by cases a <;> kernel_rfl
theorem fd295_1 (a : AV) : aField Tryz.prog 295 1 a = fieldVal Tryz.prog 17 1 a := by cases a <;> kernel_rfl
theorem fa295_2 (a : AV) : aFieldAddr Tryz.prog 295 2 a = fieldOff 2 a := by cases a <;> kernel_rfl
theorem fd295_2 (a : AV) : aField Tryz.prog 295 2 a = fieldVal Tryz.prog 17 2 a := by cases a <;> kernel_rfl
theorem fa295_3 (a : AV) : aFieldAddr Tryz.prog 295 3 a = fieldOff 3 a := by cases a <;> kernel_rfl
theorem fd295_3 (a : AV) : aField Tryz.prog 295 3 a = fieldVal Tryz.prog 9 3 a := by cases a <;> kernel_rfl
theorem bu295 (ps : List (Nat × AV)) : aBuild Tryz.prog 295 ps = (fillA (fun i => [(0, 1), (1, 1), (2, 1), (3, 1)][i]?) (AV.cells (.agg [.nil, .nil, .nil, .str []])) ps).map .agg := by kernel_rfl
theorem ag296 : isAggT Tryz.prog 296 = some true := by kernel_rfl
theorem sz296 : sizeT Tryz.prog 296 = some 0 := by kernel_rfl
theorem by296 : bytesT Tryz.prog 296 = some 0 := by kernel_rfl
theorem ze296 : zeroT Tryz.prog 296 = some (.agg []) := by kernel_rfl
theorem ag297 : isAggT Tryz.prog 297 = some true := by kernel_rfl
theorem sz297 : sizeT Tryz.prog 297 = some 0 := by kernel_rfl
theorem by297 : bytesT Tryz.prog 297 = some 0 := by kernel_rfl
theorem ze297 : zeroT Tryz.prog 297 = some (.agg []) := by kernel_rfl
theorem bu297 (ps : List (Nat × AV)) : aBuild Tryz.prog 297 ps = (fillA (fun i => [(0, 0)][i]?) (AV.cells (.agg [])) ps).map .agg := by kernel_rfl
theorem ag298 : isAggT Tryz.prog 298 = some true := by kernel_rfl
theorem sz298 : sizeT Tryz.prog 298 = some 0 := by kernel_rfl
theorem by298 : bytesT Tryz.prog 298 = some 0 := by kernel_rfl
theorem ze298 : zeroT Tryz.prog 298 = some (.agg []) := by kernel_rfl
theorem bu298 (ps : List (Nat × AV)) : aBuild Tryz.prog 298 ps = (fillA (fun i => [(0, 0)][i]?) (AV.cells (.agg [])) ps).map .agg := by kernel_rfl
theorem ag299 : isAggT Tryz.prog 299 = some false := by kernel_rfl
theorem sz299 : sizeT Tryz.prog 299 = some 1 := by kernel_rfl
theorem by299 : bytesT Tryz.prog 299 = some 8 := by kernel_rfl
theorem ze299 : zeroT Tryz.prog 299 = some (.nilF) := by kernel_rfl
theorem ag300 : isAggT Tryz.prog 300 = some false := by kernel_rfl
theorem sz300 : sizeT Tryz.prog 300 = some 1 := by kernel_rfl
theorem by300 : bytesT Tryz.prog 300 = some 1 := by kernel_rfl
theorem ze300 : zeroT Tryz.prog 300 = some (.int .u8 0) := by kernel_rfl
theorem ag301 : isAggT Tryz.prog 301 = some false := by kernel_rfl
theorem sz301 : sizeT Tryz.prog 301 = some 1 := by kernel_rfl
theorem by301 : bytesT Tryz.prog 301 = some 8 := by kernel_rfl
theorem ze301 : zeroT Tryz.prog 301 = some (.nilF) := by kernel_rfl
theorem ag302 : isAggT Tryz.prog 302 = some false := by kernel_rfl
theorem sz302 : sizeT Tryz.prog 302 = some 1 := by kernel_rfl
theorem by302 : bytesT Tryz.prog 302 = some 4 := by kernel_rfl
theorem ze302 : zeroT Tryz.prog 302 = some (.int .i32 0) := by kernel_rfl
theorem ag303 : isAggT Tryz.prog 303 = some false := by kernel_rfl
theorem sz303 : sizeT Tryz.prog 303 = some 1 := by kernel_rfl
theorem by303 : bytesT Tryz.prog 303 = some 4 := by kernel_rfl
theorem ze303 : zeroT Tryz.prog 303 = some (.int .i32 0) := by kernel_rfl
theorem ag304 : isAggT Tryz.prog 304 = some true := by kernel_rfl
theorem sz304 : sizeT Tryz.prog 304 = some 11 := by kernel_rfl
theorem by304 : bytesT Tryz.prog 304 = some 48 := by kernel_rfl
theorem ze304 : zeroT Tryz.prog 304 = some (.agg [.int .u64 0, .int .u64 0, .int .u32 0, .int .u8 0, .int .u8 0, .int .u8 0, .int .u8 0, .nilF, .nil, .int .i32 0, .int .i32 0]) := by kernel_rfl
theorem fa304_0 (a : AV) : aFieldAddr Tryz.prog 304 0 a = fieldOff 0 a := by cases a <;> kernel_rfl
theorem fd304_0 (a : AV) : aField Tryz.prog 304 0 a = fieldVal Tryz.prog 12 0 a := by cases a <;> kernel_rfl
theorem fa304_1 (a : AV) : aFieldAddr Tryz.prog 304 1 a = fieldOff 1 a := by cases a <;> kernel_rfl
theorem fd304_1 (a : AV) : aField Tryz.prog 304 1 a = fieldVal Tryz.prog 12 1 a := by cases a <;> kernel_rfl
theorem fa304_2 (a : AV) : aFieldAddr Tryz.prog 304 2 a = fieldOff 2 a := by cases a <;> kernel_rfl
theorem fd304_2 (a : AV) : aField Tryz.prog 304 2 a = fieldVal Tryz.prog 158 2 a := by cases a <;> kernel_rfl
theorem fa304_3 (a : AV) : aFieldAddr Tryz.prog 304 3 a = fieldOff 3 a := by cases a <;> kernel_rfl
theorem fd304_3 (a : AV) : aField Tryz.prog 304 3 a = fieldVal Tryz.prog 300 3 a := by cases a <;> kernel_rfl
theorem fa304_4 (a : AV) : aFieldAddr Tryz.prog 304 4 a = fieldOff 4 a := by cases a <;> kernel_rfl
theorem fd304_4 (a : AV) : aField Tryz.prog 304 4 a = fieldVal Tryz.prog 5 4 a := by cases a <;> kernel_rfl
theorem fa304_5 (a : AV) : aFieldAddr Tryz.prog 304 5 a = fieldOff 5 a := by cases a <;> kernel_rfl
theorem fd304_5 (a : AV) : aField Tryz.prog 304 5 a = fieldVal Tryz.prog 5 5 a := by cases a <;> kernel_rfl
theorem fa304_6 (a : AV) : aFieldAddr Tryz.prog 304 6 a = fieldOff 6 a := by cases a <;> kernel_rfl
theorem fd304_6 (a : AV) : aField Tryz.prog 304 6 a = fieldVal Tryz.prog 247 6 a := by cases a <;> kernel_rfl
theorem fa304_7 (a : AV) : aFieldAddr Tryz.prog 304 7 a = fieldOff 7 a := by cases a <;> kernel_rfl
theorem fd304_7 (a : AV) : aField Tryz.prog 304 7 a = fieldVal Tryz.prog 301 7 a := by cases a <;> kernel_rfl
theorem fa304_8 (a : AV) : aFieldAddr Tryz.prog 304 8 a = fieldOff 8 a := by cases a <;> kernel_rfl
theorem fd304_8 (a : AV) : aField Tryz.prog 304 8 a = fieldVal Tryz.prog 124 8 a := by cases a <;> kernel_rfl
theorem fa304_9 (a : AV) : aFieldAddr Tryz.prog 304 9 a = fieldOff 9 a := by cases a <;> kernel_rfl
theorem fd304_9 (a : AV) : aField Tryz.prog 304 9 a = fieldVal Tryz.prog 302 9 a := by cases a <;> kernel_rfl
theorem fa304_10 (a : AV) : aFieldAddr Tryz.prog 304 10 a = fieldOff 10 a := by cases a <;> kernel_rfl
theorem fd304_10 (a : AV) : aField Tryz.prog 304 10 a = fieldVal Tryz.prog 303 10 a := by cases a <;> kernel_rfl
theorem bu304 (ps : List (Nat × AV)) : aBuild Tryz.prog 304 ps = (fillA (fun i => [(0, 1), (1, 1), (2, 1), (3, 1), (4, 1), (5, 1), (6, 1), (7, 1), (8, 1), (9, 1), (10, 1)][i]?) (AV.cells (.agg [.int .u64 0, .int .u64 0, .int .u32 0, .int .u8 0, .int .u8 0, .int .u8 0, .int .u8 0, .nilF, .nil, .int .i32 0, .int .i32 0])) ps).map .agg := by kernel_rfl
theorem ag305 : isAggT Tryz.prog 305 = some true := by kernel_rfl
theorem sz305 : sizeT Tryz.prog 305 = some 11 := by kernel_rfl
theorem by305 : bytesT Tryz.prog 305 = some 48 := by kernel_rfl
theorem ze305 : zeroT Tryz.prog 305 = some (.agg [.int .u64 0, .int .u64 0, .int .u32 0, .int .u8 0, .int .u8 0, .int .u8 0, .int .u8 0, .nilF, .nil, .int .i32 0, .int .i32 0]) := by kernel_rfl
theorem fa305_0 (a : AV) : aFieldAddr Tryz.prog 305 0 a = fieldOff 0 a := by cases a <;> kernel_rfl
theorem fd305_0 (a : AV) : aField Tryz.prog 305 0 a = fieldVal Tryz.prog 12 0 a := by cases a <;> kernel_rfl
theorem fa305_1 (a : AV) : aFieldAddr Tryz.prog 305 1 a = fieldOff 1 a := by cases a <;> kernel_rfl
theorem fd305_1 (a : AV) : aField Tryz.prog 305 1 a = fieldVal Tryz.prog 12 1 a := by cases a <;> kernel_rfl
theorem fa305_2 (a : AV) : aFieldAddr Tryz.prog 305 2 a = fieldOff 2 a := by cases a <;> kernel_rfl
theorem fd305_2 (a : AV) : aField Tryz.prog 305 2 a = fieldVal Tryz.prog 158 2 a := by cases a <;> kernel_rfl
theorem fa305_3 (a : AV) : aFieldAddr Tryz.prog 305 3 a = fieldOff 3 a := by cases a <;> kernel_rfl
theorem fd305_3 (a : AV) : aField Tryz.prog 305 3 a = fieldVal Tryz.prog 300 3 a := by cases a <;> kernel_rfl
theorem fa305_4 (a : AV) : aFieldAddr Tryz.prog 305 4 a = fieldOff 4 a := by cases a <;> kernel_rfl
theorem fd305_4 (a : AV) : aField Tryz.prog 305 4 a = fieldVal Tryz.prog 5 4 a := by cases a <;> kernel_rfl
theorem fa305_5 (a : AV) : aFieldAddr Tryz.prog 305 5 a = fieldOff 5 a := by cases a <;> kernel_rfl
theorem fd305_5 (a : AV) : aField Tryz.prog 305 5 a = fieldVal Tryz.prog 5 5 a := by cases a <;> kernel_rfl
theorem fa305_6 (a : AV) : aFieldAddr Tryz.prog 305 6 a = fieldOff 6 a := by cases a <;> kernel_rfl
theorem fd305_6 (a : AV) : aField Tryz.prog 305 6 a = fieldVal Tryz.prog 247 6 a := by cases a <;> kernel_rfl
theorem fa305_7 (a : AV) : aFieldAddr Tryz.prog 305 7 a = fieldOff 7 a := by cases a <;> kernel_rfl
theorem fd305_7 (a : AV) : aField Tryz.prog 305 7 a = fieldVal Tryz.prog 301 7 a := by cases a <;> kernel_rfl
theorem fa305_8 (a : AV) : aFieldAddr Tryz.prog 305 8 a = fieldOff 8 a := by cases a <;> kernel_rfl
theorem fd305_8 (a : AV) : aField Tryz.prog 305 8 a = fieldVal Tryz.prog 124 8 a := by cases a <;> kernel_rfl
theorem fa305_9 (a : AV) : aFieldAddr Tryz.prog 305 9 a = fieldOff 9 a := by cases a <;> kernel_rfl
theorem fd305_9 (a : AV) : aField Tryz.prog 305 9 a = fieldVal Tryz.prog 302 9 a := by cases a <;> kernel_rfl
theorem fa305_10 (a : AV) : aFieldAddr Tryz.prog 305 10 a = fieldOff 10 a := by cases a <;> kernel_rfl
theorem fd305_10 (a : AV) : aField Tryz.prog 305 10 a = fieldVal Tryz.prog 303 10 a := by cases a <;> kernel_rfl
theorem bu305 (ps : List (Nat × AV)) : aBuild Tryz.prog 305 ps = (fillA (fun i => [(0, 1), (1, 1), (2, 1), (3, 1), (4, 1), (5, 1), (6, 1), (7, 1), (8, 1), (9, 1), (10, 1)][i]?) (AV.cells (.agg [.int .u64 0, .int .u64 0, .int .u32 0, .int .u8 0, .int .u8 0, .int .u8 0, .int .u8 0, .nilF, .nil, .int .i32 0, .int .i32 0])) ps).map .agg := by kernel_rfl
theorem ag306 : isAggT Tryz.prog 306 = some false := by kernel_rfl
theorem sz306 : sizeT Tryz.prog 306 = some 1 := by kernel_rfl
theorem by306 : bytesT Tryz.prog 306 = some 8 := by kernel_rfl
theorem ze306 : zeroT Tryz.prog 306 = some (.nilF) := by kernel_rfl
theorem ag307 : isAggT Tryz.prog 307 = some false := by kernel_rfl
theorem sz307 : sizeT Tryz.prog 307 = some 1 := by kernel_rfl
theorem by307 : bytesT Tryz.prog 307 = some 8 := by kernel_rfl
theorem ze307 : zeroT Tryz.prog 307 = some (.nilF) := by kernel_rfl
theorem ag308 : isAggT Tryz.prog 308 = some true := by kernel_rfl
theorem sz308 : sizeT Tryz.prog 308 = some 2 := by kernel_rfl
theorem by308 : bytesT Tryz.prog 308 = some 24 := by kernel_rfl
theorem ze308 : zeroT Tryz.prog 308 = some (.agg [.str [], .int .u8 0]) := by kernel_rfl
theorem fa308_0 (a : AV) : aFieldAddr Tryz.prog 308 0 a = fieldOff 0 a := by cases a <;> kernel_rfl
theorem fd308_0 (a : AV) : aField Tryz.prog 308 0 a = fieldVal Tryz.prog 9 0 a := by cases a <;> kernel_rfl
theorem fa308_1 (a : AV) : aFieldAddr Tryz.prog 308 1 a = fieldOff 1 a := by cases a <;> kernel_rfl
theorem fd308_1 (a : AV) : aField Tryz.prog 308 1 a = fieldVal Tryz.prog 247 1 a := by cases a <;> kernel_rfl
theorem bu308 (ps : List (Nat × AV)) : aBuild Tryz.prog 308 ps = (fillA (fun i => [(0, 1), (1, 1)][i]?) (AV.cells (.agg [.str [], .int .u8 0])) ps).map .agg := by kernel_rfl
theorem ag309 : isAggT Tryz.prog 309 = some true := by kernel_rfl
theorem sz309 : sizeT Tryz.prog 309 = some 2 := by kernel_rfl
theorem by309 : bytesT Tryz.prog 309 = some 24 := by kernel_rfl
theorem ze309 : zeroT Tryz.prog 309 = some (.agg [.str [], .int .u8 0]) := by kernel_rfl
theorem fa309_0 (a : AV) : aFieldAddr Tryz.prog 309 0 a = fieldOff 0 a := by cases a <;> kernel_rfl
theorem fd309_0 (a : AV) : aField Tryz.prog 309 0 a = fieldVal Tryz.prog 9 0 a := by cases a <;> kernel_rfl
theorem fa309_1 (a : AV) : aFieldAddr Tryz.prog 309 1 a = fieldOff 1 a := by cases a <;> kernel_rfl
theorem fd309_1 (a : AV) : aField Tryz.prog 309 1 a = fieldVal Tryz.prog 247 1 a := by cases a <;> kernel_rfl
theorem bu309 (ps : List (Nat × AV)) : aBuild Tryz.prog 309 ps = (fillA (fun i => [(0, 1), (1, 1)][i]?) (AV.cells (.agg [.str [], .int .u8 0])) ps).map .agg := by kernel_rfl
theorem ag310 : isAggT Tryz.prog 310 = some false := by kernel_rfl
theorem sz310 : sizeT Tryz.prog 310 = some 1 := by kernel_rfl
theorem by310 : bytesT Tryz.prog 310 = some 8 := by kernel_rfl
theorem ze310 : zeroT Tryz.prog 310 = some (.nil) := by kernel_rfl
theorem ag311 : isAggT Tryz.prog 311 = some false := by kernel_rfl
theorem sz311 : sizeT Tryz.prog 311 = some 1 := by kernel_rfl
theorem by311 : bytesT Tryz.prog 311 = some 8 := by kernel_rfl
theorem ze311 : zeroT Tryz.prog 311 = some (.nilF) := by kernel_rfl
theorem ag312 : isAggT Tryz.prog 312 = some false := by kernel_rfl
theorem sz312 : sizeT Tryz.prog 312 = some 1 := by kernel_rfl
theorem by312 : bytesT Tryz.prog 312 = some 2 := by kernel_rfl
theorem ze312 : zeroT Tryz.prog 312 = some (.int .u16 0) := by kernel_rfl
theorem ag313 : isAggT Tryz.prog 313 = some true := by kernel_rfl
theorem sz313 : sizeT Tryz.prog 313 = some 5 := by kernel_rfl
theorem by313 : bytesT Tryz.prog 313 = some 16 := by kernel_rfl
theorem ze313 : zeroT Tryz.prog 313 = some (.agg [.int .i32 0, .int .u16 0, .int .u16 0, .int .u32 0, .int .u32 0]) := by kernel_rfl
theorem fa313_0 (a : AV) : aFieldAddr Tryz.prog 313 0 a = fieldOff 0 a := by cases a <;> kernel_rfl
theorem fd313_0 (a : AV) : aField Tryz.prog 313 0 a = fieldVal Tryz.prog 302 0 a := by cases a <;> kernel_rfl
theorem fa313_1 (a : AV) : aFieldAddr Tryz.prog 313 1 a = fieldOff 1 a := by cases a <;> kernel_rfl
theorem fd313_1 (a : AV) : aField Tryz.prog 313 1 a = fieldVal Tryz.prog 312 1 a := by cases a <;> kernel_rfl
theorem fa313_2 (a : AV) : aFieldAddr Tryz.prog 313 2 a = fieldOff 2 a := by cases a <;> kernel_rfl
theorem fd313_2 (a : AV) : aField Tryz.prog 313 2 a = fieldVal Tryz.prog 312 2 a := by cases a <;> kernel_rfl
theorem fa313_3 (a : AV) : aFieldAddr Tryz.prog 313 3 a = fieldOff 3 a := by cases a <;> kernel_rfl
theorem fd313_3 (a : AV) : aField Tryz.prog 313 3 a = fieldVal Tryz.prog 158 3 a := by cases a <;> kernel_rfl
theorem fa313_4 (a : AV) : aFieldAddr Tryz.prog 313 4 a = fieldOff 4 a := by cases a <;> kernel_rfl
theorem fd313_4 (a : AV) : aField Tryz.prog 313 4 a = fieldVal Tryz.prog 158 4 a := by cases a <;> kernel_rfl
theorem bu313 (ps : List (Nat × AV)) : aBuild Tryz.prog 313 ps = (fillA (fun i => [(0, 1), (1, 1), (2, 1), (3, 1), (4, 1)][i]?) (AV.cells (.agg [.int .i32 0, .int .u16 0, .int .u16 0, .int .u32 0, .int .u32 0])) ps).map .agg := by kernel_rfl
theorem ag314 : isAggT Tryz.prog 314 = some true := by kernel_rfl
theorem sz314 : sizeT Tryz.prog 314 = some 5 := by kernel_rfl
theorem by314 : bytesT Tryz.prog 314 = some 16 := by kernel_rfl
theorem ze314 : zeroT Tryz.prog 314 = some (.agg [.int .i32 0, .int .u16 0, .int .u16 0, .int .u32 0, .int .u32 0]) := by kernel_rfl
theorem fa314_0 (a : AV) : aFieldAddr Tryz.prog 314 0 a = fieldOff 0 a := by cases a <;> kernel_rfl
theorem fd314_0 (a : AV) : aField Tryz.prog 314 0 a = fieldVal Tryz.prog 302 0 a := by cases a <;> kernel_rfl
theorem fa314_1 (a : AV) : aFieldAddr Tryz.prog 314 1 a = fieldOff 1 a := by cases a <;> kernel_rfl
theorem fd314_1 (a : AV) : aField Tryz.prog 314 1 a = fieldVal Tryz.prog 312 1 a := by cases a <;> kernel_rfl
theorem fa314_2 (a : AV) : aFieldAddr Tryz.prog 314 2 a = fieldOff 2 a := by cases a <;> kernel_rfl
theorem fd314_2 (a : AV) : aField Tryz.prog 314 2 a = fieldVal Tryz.prog 312 2 a := by cases a <;> kernel_rfl
theorem fa314_3 (a : AV) : aFieldAddr Tryz.prog 314 3 a = fieldOff 3 a := by cases a <;> kernel_rfl
theorem fd314_3 (a : AV) : aField Tryz.prog 314 3 a = fieldVal Tryz.prog 158 3 a := by cases a <;> kernel_rfl
theorem fa314_4 (a : AV) : aFieldAddr Tryz.prog 314 4 a = fieldOff 4 a := by cases a <;> kernel_rfl
theorem fd314_4 (a : AV) : aField Tryz.prog 314 4 a = fieldVal Tryz.prog 158 4 a := by cases a <;> kernel_rfl
theorem bu314 (ps : List (Nat × AV)) : aBuild Tryz.prog 314 ps = (fillA (fun i => [(0, 1), (1, 1), (2, 1), (3, 1), (4, 1)][i]?) (AV.cells (.agg [.int .i32 0, .int .u16 0, .int .u16 0, .int .u32 0, .int .u32 0])) ps).map .agg := by kernel_rfl
theorem ag315 : isAggT Tryz.prog 315 = some false := by kernel_rfl
theorem sz315 : sizeT Tryz.prog 315 = some 1 := by kernel_rfl
theorem by315 : bytesT Tryz.prog 315 = some 24 := by kernel_rfl
theorem se315 : sliceElem Tryz.prog 315 = some 318 := by kernel_rfl
theorem ze315 : zeroT Tryz.prog 315 = some (.nilS) := by kernel_rfl
theorem ag316 : isAggT Tryz.prog 316 = some false := by kernel_rfl
theorem sz316 : sizeT Tryz.prog 316 = some 1 := by kernel_rfl
theorem by316 : bytesT Tryz.prog 316 = some 4 := by kernel_rfl
theorem ze316 : zeroT Tryz.prog 316 = some (.int .i32 0) := by kernel_rfl
theorem ag317 : isAggT Tryz.prog 317 = some true := by kernel_rfl
theorem sz317 : sizeT Tryz.prog 317 = some 4 := by kernel_rfl
theorem by317 : bytesT Tryz.prog 317 = some 16 := by kernel_rfl
theorem ze317 : zeroT Tryz.prog 317 = some (.agg [.int .i32 0, .int .i32 0, .int .i32 0, .int .i32 0]) := by kernel_rfl
theorem fa317_0 (a : AV) : aFieldAddr Tryz.prog 317 0 a = fieldOff 0 a := by cases a <;> kernel_rfl
theorem fd317_0 (a : AV) : aField Tryz.prog 317 0 a = fieldVal Tryz.prog 302 0 a := by cases a <;> kernel_rfl
theorem fa317_1 (a : AV) : aFieldAddr Tryz.prog 317 1 a = fieldOff 1 a := by cases a <;> kernel_rfl
theorem fd317_1 (a : AV) : aField Tryz.prog 317 1 a = fieldVal Tryz.prog 303 1 a := by cases a <;> kernel_rfl
theorem fa317_2 (a : AV) : aFieldAddr Tryz.prog 317 2 a = fieldOff 2 a := by cases a <;> kernel_rfl
theorem fd317_2 (a : AV) : aField Tryz.prog 317 2 a = fieldVal Tryz.prog 316 2 a := by cases a <;> kernel_rfl
theorem fa317_3 (a : AV) : aFieldAddr Tryz.prog 317 3 a = fieldOff 3 a := by cases a <;> kernel_rfl
theorem fd317_3 (a : AV) : aField Tryz.prog 317 3 a = fieldVal Tryz.prog 316 3 a := by cases a <;> kernel_rfl
theorem bu317 (ps : List (Nat × AV)) : aBuild Tryz.prog 317 ps = (fillA (fun i => [(0, 1), (1, 1), (2, 1), (3, 1)][i]?) (AV.cells (.agg [.int .i32 0, .int .i32 0, .int .i32 0, .int .i32 0])) ps).map .agg := by kernel_rfl
theorem ag318 : isAggT Tryz.prog 318 = some true := by kernel_rfl
theorem sz318 : sizeT Tryz.prog 318 = some 4 := by kernel_rfl
theorem by318 : bytesT Tryz.prog 318 = some 16 := by kernel_rfl
theorem ze318 : zeroT Tryz.prog 318 = some (.agg [.int .i32 0, .int .i32 0, .int .i32 0, .int .i32 0]) := by kernel_rfl
theorem fa318_0 (a : AV) : aFieldAddr Tryz.prog 318 0 a = fieldOff 0 a := by cases a <;> kernel_rfl
theorem fd318_0 (a : AV) : aField Tryz.prog 318 0 a = fieldVal Tryz.prog 302 0 a := by cases a <;> kernel_rfl
theorem fa318_1 (a : AV) : aFieldAddr Tryz.prog 318 1 a = fieldOff 1 a := by cases a <;> kernel_rfl
theorem fd318_1 (a : AV) : aField Tryz.prog 318 1 a = fieldVal Tryz.prog 303 1 a := by cases a <;> kernel_rfl
theorem fa318_2 (a : AV) : aFieldAddr Tryz.prog 318 2 a = fieldOff 2 a := by cases a <;> kernel_rfl
theorem fd318_2 (a : AV) : aField Tryz.prog 318 2 a = fieldVal Tryz.prog 316 2 a := by cases a <;> kernel_rfl
theorem fa318_3 (a : AV) : aFieldAddr Tryz.prog 318 3 a = fieldOff 3 a := by cases a <;> kernel_rfl
theorem fd318_3 (a : AV) : aField Tryz.prog 318 3 a = fieldVal Tryz.prog 316 3 a := by cases a <;> kernel_rfl
theorem bu318 (ps : List (Nat × AV)) : aBuild Tryz.prog 318 ps = (fillA (fun i => [(0, 1), (1, 1), (2, 1), (3, 1)][i]?) (AV.cells (.agg [.int .i32 0, .int .i32 0, .int .i32 0, .int .i32 0])) ps).map .agg := by kernel_rfl
theorem ag319 : isAggT Tryz.prog 319 = some false := by kernel_rfl
theorem sz319 : sizeT Tryz.prog 319 = some 1 := by kernel_rfl
theorem by319 : bytesT Tryz.prog 319 = some 8 := by kernel_rfl
theorem ze319 : zeroT Tryz.prog 319 = some (.nil) := by kernel_rfl
end Go.Proofs.YtnipaiklandliaaGreatDoor.Ty
