import Derived.Test.YtnipaiklandliaaGreatDoorAbsSeat
import Derived.Test.YtnipaiklandliaaGreatDoorAbsWalk
namespace Go.Proofs.YtnipaiklandliaaGreatDoor.Ty
open Go Go.Abs Go.Proofs
theorem ag0 : isAggT Tryz.prog 0 = some false := by kernel_rfl
theorem sz0 : sizeT Tryz.prog 0 = some 1 := by kernel_rfl
theorem by0 : bytesT Tryz.prog 0 = some 0 := by kernel_rfl
theorem ag1 : isAggT Tryz.prog 1 = some false := by kernel_rfl
theorem sz1 : sizeT Tryz.prog 1 = some 1 := by kernel_rfl
theorem by1 : bytesT Tryz.prog 1 = some 8 := by kernel_rfl
theorem ze1 : zeroT Tryz.prog 1 = some (.nilF) := by kernel_rfl
theorem ag2 : isAggT Tryz.prog 2 = some false := by kernel_rfl
theorem sz2 : sizeT Tryz.prog 2 = some 1 := by kernel_rfl
theorem by2 : bytesT Tryz.prog 2 = some 8 := by kernel_rfl
theorem ze2 : zeroT Tryz.prog 2 = some (.int .i64 0) := by kernel_rfl
theorem ag3 : isAggT Tryz.prog 3 = some false := by kernel_rfl
theorem sz3 : sizeT Tryz.prog 3 = some 1 := by kernel_rfl
theorem by3 : bytesT Tryz.prog 3 = some 8 := by kernel_rfl
theorem ze3 : zeroT Tryz.prog 3 = some (.int .i64 0) := by kernel_rfl
theorem ag4 : isAggT Tryz.prog 4 = some false := by kernel_rfl
theorem sz4 : sizeT Tryz.prog 4 = some 1 := by kernel_rfl
theorem by4 : bytesT Tryz.prog 4 = some 1 := by kernel_rfl
theorem ze4 : zeroT Tryz.prog 4 = some (.bool false) := by kernel_rfl
theorem ag5 : isAggT Tryz.prog 5 = some false := by kernel_rfl
theorem sz5 : sizeT Tryz.prog 5 = some 1 := by kernel_rfl
theorem by5 : bytesT Tryz.prog 5 = some 1 := by kernel_rfl
theorem ze5 : zeroT Tryz.prog 5 = some (.int .u8 0) := by kernel_rfl
theorem ag9 : isAggT Tryz.prog 9 = some false := by kernel_rfl
theorem sz9 : sizeT Tryz.prog 9 = some 1 := by kernel_rfl
theorem by9 : bytesT Tryz.prog 9 = some 16 := by kernel_rfl
theorem ze9 : zeroT Tryz.prog 9 = some (.str []) := by kernel_rfl
theorem ag20 : isAggT Tryz.prog 20 = some false := by kernel_rfl
theorem sz20 : sizeT Tryz.prog 20 = some 1 := by kernel_rfl
theorem by20 : bytesT Tryz.prog 20 = some 16 := by kernel_rfl
theorem ze20 : zeroT Tryz.prog 20 = some (.nilI) := by kernel_rfl
theorem ag21 : isAggT Tryz.prog 21 = some false := by kernel_rfl
theorem sz21 : sizeT Tryz.prog 21 = some 1 := by kernel_rfl
theorem by21 : bytesT Tryz.prog 21 = some 4 := by kernel_rfl
theorem ze21 : zeroT Tryz.prog 21 = some (.int .i32 0) := by kernel_rfl
theorem ag23 : isAggT Tryz.prog 23 = some false := by kernel_rfl
theorem sz23 : sizeT Tryz.prog 23 = some 1 := by kernel_rfl
theorem by23 : bytesT Tryz.prog 23 = some 24 := by kernel_rfl
theorem se23 : sliceElem Tryz.prog 23 = some 59 := by kernel_rfl
theorem ze23 : zeroT Tryz.prog 23 = some (.nilS) := by kernel_rfl
theorem ag27 : isAggT Tryz.prog 27 = some true := by kernel_rfl
theorem sz27 : sizeT Tryz.prog 27 = some 1 := by kernel_rfl
theorem by27 : bytesT Tryz.prog 27 = some 24 := by kernel_rfl
theorem ze27 : zeroT Tryz.prog 27 = some (.agg [.nilS]) := by kernel_rfl
theorem bu27 (ps : List (Nat × AV)) : aBuild Tryz.prog 27 ps = (fillA (fun i => [(0, 1)][i]?) (AV.cells (.agg [.nilS])) ps).map .agg := by kernel_rfl
theorem ag28 : isAggT Tryz.prog 28 = some false := by kernel_rfl
theorem sz28 : sizeT Tryz.prog 28 = some 1 := by kernel_rfl
theorem by28 : bytesT Tryz.prog 28 = some 8 := by kernel_rfl
theorem ze28 : zeroT Tryz.prog 28 = some (.int .i64 0) := by kernel_rfl
theorem ag41 : isAggT Tryz.prog 41 = some false := by kernel_rfl
theorem sz41 : sizeT Tryz.prog 41 = some 1 := by kernel_rfl
theorem by41 : bytesT Tryz.prog 41 = some 24 := by kernel_rfl
theorem se41 : sliceElem Tryz.prog 41 = some 94 := by kernel_rfl
theorem ze41 : zeroT Tryz.prog 41 = some (.nilS) := by kernel_rfl
theorem ag42 : isAggT Tryz.prog 42 = some false := by kernel_rfl
theorem sz42 : sizeT Tryz.prog 42 = some 1 := by kernel_rfl
theorem by42 : bytesT Tryz.prog 42 = some 24 := by kernel_rfl
theorem se42 : sliceElem Tryz.prog 42 = some 54 := by kernel_rfl
theorem ze42 : zeroT Tryz.prog 42 = some (.nilS) := by kernel_rfl
theorem ag45 : isAggT Tryz.prog 45 = some false := by kernel_rfl
theorem sz45 : sizeT Tryz.prog 45 = some 1 := by kernel_rfl
theorem by45 : bytesT Tryz.prog 45 = some 8 := by kernel_rfl
theorem ze45 : zeroT Tryz.prog 45 = some (.nil) := by kernel_rfl
theorem ag54 : isAggT Tryz.prog 54 = some true := by kernel_rfl
theorem sz54 : sizeT Tryz.prog 54 = some 3 := by kernel_rfl
theorem by54 : bytesT Tryz.prog 54 = some 40 := by kernel_rfl
theorem ze54 : zeroT Tryz.prog 54 = some (.agg [.str [], .int .i64 0, .str []]) := by kernel_rfl
theorem fa54_0 (a : AV) : aFieldAddr Tryz.prog 54 0 a = fieldOff 0 a := by cases a <;> kernel_rfl
theorem fd54_0 (a : AV) : aField Tryz.prog 54 0 a = fieldVal Tryz.prog 9 0 a := by cases a <;> kernel_rfl
theorem fa54_1 (a : AV) : aFieldAddr Tryz.prog 54 1 a = fieldOff 1 a := by cases a <;> kernel_rfl
theorem fd54_1 (a : AV) : aField Tryz.prog 54 1 a = fieldVal Tryz.prog 3 1 a := by cases a <;> kernel_rfl
theorem fa54_2 (a : AV) : aFieldAddr Tryz.prog 54 2 a = fieldOff 2 a := by cases a <;> kernel_rfl
theorem fd54_2 (a : AV) : aField Tryz.prog 54 2 a = fieldVal Tryz.prog 9 2 a := by cases a <;> kernel_rfl
theorem bu54 (ps : List (Nat × AV)) : aBuild Tryz.prog 54 ps = (fillA (fun i => [(0, 1), (1, 1), (2, 1)][i]?) (AV.cells (.agg [.str [], .int .i64 0, .str []])) ps).map .agg := by kernel_rfl
theorem ag59 : isAggT Tryz.prog 59 = some true := by kernel_rfl
theorem sz59 : sizeT Tryz.prog 59 = some 2 := by kernel_rfl
theorem by59 : bytesT Tryz.prog 59 = some 32 := by kernel_rfl
theorem ze59 : zeroT Tryz.prog 59 = some (.agg [.str [], .str []]) := by kernel_rfl
theorem fa59_0 (a : AV) : aFieldAddr Tryz.prog 59 0 a = fieldOff 0 a := by cases a <;> kernel_rfl
theorem fd59_0 (a : AV) : aField Tryz.prog 59 0 a = fieldVal Tryz.prog 9 0 a := by cases a <;> kernel_rfl
theorem fa59_1 (a : AV) : aFieldAddr Tryz.prog 59 1 a = fieldOff 1 a := by cases a <;> kernel_rfl
theorem fd59_1 (a : AV) : aField Tryz.prog 59 1 a = fieldVal Tryz.prog 9 1 a := by cases a <;> kernel_rfl
theorem bu59 (ps : List (Nat × AV)) : aBuild Tryz.prog 59 ps = (fillA (fun i => [(0, 1), (1, 1)][i]?) (AV.cells (.agg [.str [], .str []])) ps).map .agg := by kernel_rfl
theorem ag62 : isAggT Tryz.prog 62 = some false := by kernel_rfl
theorem sz62 : sizeT Tryz.prog 62 = some 1 := by kernel_rfl
theorem by62 : bytesT Tryz.prog 62 = some 8 := by kernel_rfl
theorem ze62 : zeroT Tryz.prog 62 = some (.nilF) := by kernel_rfl
theorem ag66 : isAggT Tryz.prog 66 = some false := by kernel_rfl
theorem sz66 : sizeT Tryz.prog 66 = some 1 := by kernel_rfl
theorem by66 : bytesT Tryz.prog 66 = some 8 := by kernel_rfl
theorem ze66 : zeroT Tryz.prog 66 = some (.nilF) := by kernel_rfl
theorem ag71 : isAggT Tryz.prog 71 = some false := by kernel_rfl
theorem sz71 : sizeT Tryz.prog 71 = some 1 := by kernel_rfl
theorem by71 : bytesT Tryz.prog 71 = some 8 := by kernel_rfl
theorem ze71 : zeroT Tryz.prog 71 = some (.nil) := by kernel_rfl
theorem ag72 : isAggT Tryz.prog 72 = some false := by kernel_rfl
theorem sz72 : sizeT Tryz.prog 72 = some 1 := by kernel_rfl
theorem by72 : bytesT Tryz.prog 72 = some 24 := by kernel_rfl
theorem se72 : sliceElem Tryz.prog 72 = some 5 := by kernel_rfl
theorem ze72 : zeroT Tryz.prog 72 = some (.nilS) := by kernel_rfl
theorem ag74 : isAggT Tryz.prog 74 = some true := by kernel_rfl
theorem sz74 : sizeT Tryz.prog 74 = some 2 := by kernel_rfl
theorem by74 : bytesT Tryz.prog 74 = some 32 := by kernel_rfl
theorem ze74 : zeroT Tryz.prog 74 = some (.agg [.nil, .nilS]) := by kernel_rfl
theorem fa74_0 (a : AV) : aFieldAddr Tryz.prog 74 0 a = fieldOff 0 a := by cases a <;> kernel_rfl
theorem fd74_0 (a : AV) : aField Tryz.prog 74 0 a = fieldVal Tryz.prog 71 0 a := by cases a <;> kernel_rfl
theorem fa74_1 (a : AV) : aFieldAddr Tryz.prog 74 1 a = fieldOff 1 a := by cases a <;> kernel_rfl
theorem fd74_1 (a : AV) : aField Tryz.prog 74 1 a = fieldVal Tryz.prog 72 1 a := by cases a <;> kernel_rfl
theorem bu74 (ps : List (Nat × AV)) : aBuild Tryz.prog 74 ps = (fillA (fun i => [(0, 1), (1, 1)][i]?) (AV.cells (.agg [.nil, .nilS])) ps).map .agg := by kernel_rfl
theorem ag76 : isAggT Tryz.prog 76 = some false := by kernel_rfl
theorem sz76 : sizeT Tryz.prog 76 = some 1 := by kernel_rfl
theorem by76 : bytesT Tryz.prog 76 = some 16 := by kernel_rfl
theorem ze76 : zeroT Tryz.prog 76 = some (.nilI) := by kernel_rfl
theorem ag94 : isAggT Tryz.prog 94 = some true := by kernel_rfl
theorem sz94 : sizeT Tryz.prog 94 = some 3 := by kernel_rfl
theorem by94 : bytesT Tryz.prog 94 = some 40 := by kernel_rfl
theorem ze94 : zeroT Tryz.prog 94 = some (.agg [.str [], .int .i64 0, .str []]) := by kernel_rfl
theorem fa94_0 (a : AV) : aFieldAddr Tryz.prog 94 0 a = fieldOff 0 a := by cases a <;> kernel_rfl
theorem fd94_0 (a : AV) : aField Tryz.prog 94 0 a = fieldVal Tryz.prog 9 0 a := by cases a <;> kernel_rfl
theorem fa94_1 (a : AV) : aFieldAddr Tryz.prog 94 1 a = fieldOff 1 a := by cases a <;> kernel_rfl
theorem fd94_1 (a : AV) : aField Tryz.prog 94 1 a = fieldVal Tryz.prog 3 1 a := by cases a <;> kernel_rfl
theorem fa94_2 (a : AV) : aFieldAddr Tryz.prog 94 2 a = fieldOff 2 a := by cases a <;> kernel_rfl
theorem fd94_2 (a : AV) : aField Tryz.prog 94 2 a = fieldVal Tryz.prog 9 2 a := by cases a <;> kernel_rfl
theorem bu94 (ps : List (Nat × AV)) : aBuild Tryz.prog 94 ps = (fillA (fun i => [(0, 1), (1, 1), (2, 1)][i]?) (AV.cells (.agg [.str [], .int .i64 0, .str []])) ps).map .agg := by kernel_rfl
theorem ag95 : isAggT Tryz.prog 95 = some false := by kernel_rfl
theorem sz95 : sizeT Tryz.prog 95 = some 1 := by kernel_rfl
theorem by95 : bytesT Tryz.prog 95 = some 24 := by kernel_rfl
theorem se95 : sliceElem Tryz.prog 95 = some 100 := by kernel_rfl
theorem ze95 : zeroT Tryz.prog 95 = some (.nilS) := by kernel_rfl
theorem ag97 : isAggT Tryz.prog 97 = some true := by kernel_rfl
theorem sz97 : sizeT Tryz.prog 97 = some 1 := by kernel_rfl
theorem by97 : bytesT Tryz.prog 97 = some 24 := by kernel_rfl
theorem ze97 : zeroT Tryz.prog 97 = some (.agg [.nilS]) := by kernel_rfl
theorem fa97_0 (a : AV) : aFieldAddr Tryz.prog 97 0 a = fieldOff 0 a := by cases a <;> kernel_rfl
theorem fd97_0 (a : AV) : aField Tryz.prog 97 0 a = fieldVal Tryz.prog 95 0 a := by cases a <;> kernel_rfl
theorem bu97 (ps : List (Nat × AV)) : aBuild Tryz.prog 97 ps = (fillA (fun i => [(0, 1)][i]?) (AV.cells (.agg [.nilS])) ps).map .agg := by kernel_rfl
theorem ag98 : isAggT Tryz.prog 98 = some false := by kernel_rfl
theorem sz98 : sizeT Tryz.prog 98 = some 1 := by kernel_rfl
theorem by98 : bytesT Tryz.prog 98 = some 8 := by kernel_rfl
theorem ze98 : zeroT Tryz.prog 98 = some (.nil) := by kernel_rfl
theorem ag100 : isAggT Tryz.prog 100 = some true := by kernel_rfl
theorem sz100 : sizeT Tryz.prog 100 = some 4 := by kernel_rfl
theorem by100 : bytesT Tryz.prog 100 = some 48 := by kernel_rfl
theorem ze100 : zeroT Tryz.prog 100 = some (.agg [.str [], .int .i64 0, .str [], .nil]) := by kernel_rfl
theorem fa100_0 (a : AV) : aFieldAddr Tryz.prog 100 0 a = fieldOff 0 a := by cases a <;> kernel_rfl
theorem fd100_0 (a : AV) : aField Tryz.prog 100 0 a = fieldVal Tryz.prog 54 0 a := by cases a <;> kernel_rfl
theorem fa100_1 (a : AV) : aFieldAddr Tryz.prog 100 1 a = fieldOff 3 a := by cases a <;> kernel_rfl
theorem fd100_1 (a : AV) : aField Tryz.prog 100 1 a = fieldVal Tryz.prog 98 3 a := by cases a <;> kernel_rfl
theorem bu100 (ps : List (Nat × AV)) : aBuild Tryz.prog 100 ps = (fillA (fun i => [(0, 3), (3, 1)][i]?) (AV.cells (.agg [.str [], .int .i64 0, .str [], .nil])) ps).map .agg := by kernel_rfl
theorem ag106 : isAggT Tryz.prog 106 = some false := by kernel_rfl
theorem sz106 : sizeT Tryz.prog 106 = some 1 := by kernel_rfl
theorem by106 : bytesT Tryz.prog 106 = some 24 := by kernel_rfl
theorem se106 : sliceElem Tryz.prog 106 = some 9 := by kernel_rfl
theorem ze106 : zeroT Tryz.prog 106 = some (.nilS) := by kernel_rfl
theorem ag110 : isAggT Tryz.prog 110 = some false := by kernel_rfl
theorem sz110 : sizeT Tryz.prog 110 = some 1 := by kernel_rfl
theorem by110 : bytesT Tryz.prog 110 = some 8 := by kernel_rfl
theorem ze110 : zeroT Tryz.prog 110 = some (.nilF) := by kernel_rfl
theorem ag116 : isAggT Tryz.prog 116 = some false := by kernel_rfl
theorem sz116 : sizeT Tryz.prog 116 = some 1 := by kernel_rfl
theorem by116 : bytesT Tryz.prog 116 = some 8 := by kernel_rfl
theorem ze116 : zeroT Tryz.prog 116 = some (.int .u64 0) := by kernel_rfl
theorem ag120 : isAggT Tryz.prog 120 = some true := by kernel_rfl
theorem sz120 : sizeT Tryz.prog 120 = some 5 := by kernel_rfl
theorem by120 : bytesT Tryz.prog 120 = some 48 := by kernel_rfl
theorem ze120 : zeroT Tryz.prog 120 = some (.agg [.int .i64 0, .int .i64 0, .int .i64 0, .str [], .int .i64 0]) := by kernel_rfl
theorem fa120_0 (a : AV) : aFieldAddr Tryz.prog 120 0 a = fieldOff 0 a := by cases a <;> kernel_rfl
theorem fd120_0 (a : AV) : aField Tryz.prog 120 0 a = fieldVal Tryz.prog 3 0 a := by cases a <;> kernel_rfl
theorem fa120_1 (a : AV) : aFieldAddr Tryz.prog 120 1 a = fieldOff 1 a := by cases a <;> kernel_rfl
theorem fd120_1 (a : AV) : aField Tryz.prog 120 1 a = fieldVal Tryz.prog 3 1 a := by cases a <;> kernel_rfl
theorem fa120_2 (a : AV) : aFieldAddr Tryz.prog 120 2 a = fieldOff 2 a := by cases a <;> kernel_rfl
theorem fd120_2 (a : AV) : aField Tryz.prog 120 2 a = fieldVal Tryz.prog 3 2 a := by cases a <;> kernel_rfl
theorem fa120_3 (a : AV) : aFieldAddr Tryz.prog 120 3 a = fieldOff 3 a := by cases a <;> kernel_rfl
theorem fd120_3 (a : AV) : aField Tryz.prog 120 3 a = fieldVal Tryz.prog 9 3 a := by cases a <;> kernel_rfl
theorem fa120_4 (a : AV) : aFieldAddr Tryz.prog 120 4 a = fieldOff 4 a := by cases a <;> kernel_rfl
theorem fd120_4 (a : AV) : aField Tryz.prog 120 4 a = fieldVal Tryz.prog 2 4 a := by cases a <;> kernel_rfl
theorem bu120 (ps : List (Nat × AV)) : aBuild Tryz.prog 120 ps = (fillA (fun i => [(0, 1), (1, 1), (2, 1), (3, 1), (4, 1)][i]?) (AV.cells (.agg [.int .i64 0, .int .i64 0, .int .i64 0, .str [], .int .i64 0])) ps).map .agg := by kernel_rfl
theorem ag124 : isAggT Tryz.prog 124 = some false := by kernel_rfl
theorem sz124 : sizeT Tryz.prog 124 = some 1 := by kernel_rfl
theorem by124 : bytesT Tryz.prog 124 = some 8 := by kernel_rfl
theorem ze124 : zeroT Tryz.prog 124 = some (.nil) := by kernel_rfl
theorem ag126 : isAggT Tryz.prog 126 = some false := by kernel_rfl
theorem sz126 : sizeT Tryz.prog 126 = some 1 := by kernel_rfl
theorem by126 : bytesT Tryz.prog 126 = some 8 := by kernel_rfl
theorem ze126 : zeroT Tryz.prog 126 = some (.int .u64 0) := by kernel_rfl
theorem ag133 : isAggT Tryz.prog 133 = some true := by kernel_rfl
theorem sz133 : sizeT Tryz.prog 133 = some 256 := by kernel_rfl
theorem by133 : bytesT Tryz.prog 133 = some 256 := by kernel_rfl
theorem ze133 : zeroT Tryz.prog 133 = some (.agg [.bool false, .bool false, .bool false, .bool false, .bool false, .bool false, .bool false, .bool false, .bool false, .bool false, .bool false, .bool false, .bool false, .bool false, .bool false, .bool false, .bool false, .bool false, .bool false, .bool false, .bool false, .bool false, .bool false, .bool false, .bool false, .bool false, .bool false, .bool false, .bool false, .bool false, .bool false, .bool false, .bool false, .bool false, .bool false, .bool false, .bool false, .bool false, .bool false, .bool false, .bool false, .bool false, .bool false, .bool false, .bool false, .bool false, .bool false, .bool false, .bool false, .bool false, .bool false, .bool false, .bool false, .bool false, .bool false, .bool false, .bool false, .bool false, .bool false, .bool false, .bool false, .bool false, .bool false, .bool false, .bool false, .bool false, .bool false, .bool false, .bool false, .bool false, .bool false, .bool false, .bool false, .bool false, .bool false, .bool false, .bool false, .bool false, .bool false, .bool false, .bool false, .bool false, .bool false, .bool false, .bool false, .bool false, .bool false, .bool false, .bool false, .bool false, .bool false, .bool false, .bool false, .bool false, .bool false, .bool false, .bool false, .bool false, .bool false, .bool false, .bool false, .bool false, .bool false, .bool false, .bool false, .bool false, .bool false, .bool false, .bool false, .bool false, .bool false, .bool false, .bool false, .bool false, .bool false, .bool false, .bool false, .bool false, .bool false, .bool false, .bool false, .bool false, .bool false, .bool false, .bool false, .bool false, .bool false, .bool false, .bool false, .bool false, .bool false, .bool false, .bool false, .bool false, .bool false, .bool false, .bool false, .bool false, .bool false, .bool false, .bool false, .bool false, .bool false, .bool false, .bool false, .bool false, .bool false, .bool false, .bool false, .bool false, .bool false, .bool false, .bool false, .bool false, .bool false, .bool false, .bool false, .bool false, .bool false, .bool false, .bool false, .bool false, .bool false, .bool false, .bool false, .bool false, .bool false, .bool false, .bool false, .bool false, .bool false, .bool false, .bool false, .bool false, .bool false, .bool false, .bool false, .bool false, .bool false, .bool false, .bool false, .bool false, .bool false, .bool false, .bool false, .bool false, .bool false, .bool false, .bool false, .bool false, .bool false, .bool false, .bool false, .bool false, .bool false, .bool false, .bool false, .bool false, .bool false, .bool false, .bool false, .bool false, .bool false, .bool false, .bool false, .bool false, .bool false, .bool false, .bool false, .bool false, .bool false, .bool false, .bool false, .bool false, .bool false, .bool false, .bool false, .bool false, .bool false, .bool false, .bool false, .bool false, .bool false, .bool false, .bool false, .bool false, .bool false, .bool false, .bool false, .bool false, .bool false, .bool false, .bool false, .bool false, .bool false, .bool false, .bool false, .bool false, .bool false, .bool false, .bool false, .bool false, .bool false, .bool false, .bool false, .bool false, .bool false, .bool false, .bool false, .bool false, .bool false, .bool false, .bool false, .bool false, .bool false, .bool false]) := by kernel_rfl
theorem ag137 : isAggT Tryz.prog 137 = some false := by kernel_rfl
theorem sz137 : sizeT Tryz.prog 137 = some 1 := by kernel_rfl
theorem by137 : bytesT Tryz.prog 137 = some 8 := by kernel_rfl
theorem ze137 : zeroT Tryz.prog 137 = some (.nil) := by kernel_rfl
theorem ag145 : isAggT Tryz.prog 145 = some false := by kernel_rfl
theorem sz145 : sizeT Tryz.prog 145 = some 1 := by kernel_rfl
theorem by145 : bytesT Tryz.prog 145 = some 24 := by kernel_rfl
theorem se145 : sliceElem Tryz.prog 145 = some 3 := by kernel_rfl
theorem ze145 : zeroT Tryz.prog 145 = some (.nilS) := by kernel_rfl
theorem ag150 : isAggT Tryz.prog 150 = some false := by kernel_rfl
theorem sz150 : sizeT Tryz.prog 150 = some 1 := by kernel_rfl
theorem by150 : bytesT Tryz.prog 150 = some 8 := by kernel_rfl
theorem ze150 : zeroT Tryz.prog 150 = some (.int .i64 0) := by kernel_rfl
theorem ag164 : isAggT Tryz.prog 164 = some false := by kernel_rfl
theorem sz164 : sizeT Tryz.prog 164 = some 1 := by kernel_rfl
theorem by164 : bytesT Tryz.prog 164 = some 8 := by kernel_rfl
theorem ze164 : zeroT Tryz.prog 164 = some (.nil) := by kernel_rfl
theorem ag173 : isAggT Tryz.prog 173 = some false := by kernel_rfl
theorem sz173 : sizeT Tryz.prog 173 = some 1 := by kernel_rfl
theorem by173 : bytesT Tryz.prog 173 = some 24 := by kernel_rfl
theorem se173 : sliceElem Tryz.prog 173 = some 276 := by kernel_rfl
theorem ze173 : zeroT Tryz.prog 173 = some (.nilS) := by kernel_rfl
theorem ag174 : isAggT Tryz.prog 174 = some false := by kernel_rfl
theorem sz174 : sizeT Tryz.prog 174 = some 1 := by kernel_rfl
theorem by174 : bytesT Tryz.prog 174 = some 24 := by kernel_rfl
theorem se174 : sliceElem Tryz.prog 174 = some 176 := by kernel_rfl
theorem ze174 : zeroT Tryz.prog 174 = some (.nilS) := by kernel_rfl
theorem ag176 : isAggT Tryz.prog 176 = some true := by kernel_rfl
theorem sz176 : sizeT Tryz.prog 176 = some 6 := by kernel_rfl
theorem by176 : bytesT Tryz.prog 176 = some 80 := by kernel_rfl
theorem ze176 : zeroT Tryz.prog 176 = some (.agg [.int .i64 0, .bool false, .nilS, .int .i64 0, .int .i64 0, .nilS]) := by kernel_rfl
theorem fa176_0 (a : AV) : aFieldAddr Tryz.prog 176 0 a = fieldOff 0 a := by cases a <;> kernel_rfl
theorem fd176_0 (a : AV) : aField Tryz.prog 176 0 a = fieldVal Tryz.prog 3 0 a := by cases a <;> kernel_rfl
theorem fa176_1 (a : AV) : aFieldAddr Tryz.prog 176 1 a = fieldOff 1 a := by cases a <;> kernel_rfl
theorem fd176_1 (a : AV) : aField Tryz.prog 176 1 a = fieldVal Tryz.prog 4 1 a := by cases a <;> kernel_rfl
theorem fa176_2 (a : AV) : aFieldAddr Tryz.prog 176 2 a = fieldOff 2 a := by cases a <;> kernel_rfl
theorem fd176_2 (a : AV) : aField Tryz.prog 176 2 a = fieldVal Tryz.prog 173 2 a := by cases a <;> kernel_rfl
theorem fa176_3 (a : AV) : aFieldAddr Tryz.prog 176 3 a = fieldOff 3 a := by cases a <;> kernel_rfl
theorem fd176_3 (a : AV) : aField Tryz.prog 176 3 a = fieldVal Tryz.prog 3 3 a := by cases a <;> kernel_rfl
theorem fa176_4 (a : AV) : aFieldAddr Tryz.prog 176 4 a = fieldOff 4 a := by cases a <;> kernel_rfl
theorem fd176_4 (a : AV) : aField Tryz.prog 176 4 a = fieldVal Tryz.prog 3 4 a := by cases a <;> kernel_rfl
theorem fa176_5 (a : AV) : aFieldAddr Tryz.prog 176 5 a = fieldOff 5 a := by cases a <;> kernel_rfl
theorem fd176_5 (a : AV) : aField Tryz.prog 176 5 a = fieldVal Tryz.prog 174 5 a := by cases a <;> kernel_rfl
theorem bu176 (ps : List (Nat × AV)) : aBuild Tryz.prog 176 ps = (fillA (fun i => [(0, 1), (1, 1), (2, 1), (3, 1), (4, 1), (5, 1)][i]?) (AV.cells (.agg [.int .i64 0, .bool false, .nilS, .int .i64 0, .int .i64 0, .nilS])) ps).map .agg := by kernel_rfl
theorem ag179 : isAggT Tryz.prog 179 = some false := by kernel_rfl
theorem sz179 : sizeT Tryz.prog 179 = some 1 := by kernel_rfl
theorem by179 : bytesT Tryz.prog 179 = some 24 := by kernel_rfl
theorem se179 : sliceElem Tryz.prog 179 = some 219 := by kernel_rfl
theorem ze179 : zeroT Tryz.prog 179 = some (.nilS) := by kernel_rfl
theorem ag186 : isAggT Tryz.prog 186 = some false := by kernel_rfl
theorem sz186 : sizeT Tryz.prog 186 = some 1 := by kernel_rfl
theorem by186 : bytesT Tryz.prog 186 = some 8 := by kernel_rfl
theorem ze186 : zeroT Tryz.prog 186 = some (.nil) := by kernel_rfl
theorem ag188 : isAggT Tryz.prog 188 = some false := by kernel_rfl
theorem sz188 : sizeT Tryz.prog 188 = some 1 := by kernel_rfl
theorem by188 : bytesT Tryz.prog 188 = some 8 := by kernel_rfl
theorem ze188 : zeroT Tryz.prog 188 = some (.nilF) := by kernel_rfl
theorem ag203 : isAggT Tryz.prog 203 = some false := by kernel_rfl
theorem sz203 : sizeT Tryz.prog 203 = some 1 := by kernel_rfl
theorem by203 : bytesT Tryz.prog 203 = some 8 := by kernel_rfl
theorem ze203 : zeroT Tryz.prog 203 = some (.nil) := by kernel_rfl
theorem ag205 : isAggT Tryz.prog 205 = some false := by kernel_rfl
theorem sz205 : sizeT Tryz.prog 205 = some 1 := by kernel_rfl
theorem by205 : bytesT Tryz.prog 205 = some 8 := by kernel_rfl
theorem ze205 : zeroT Tryz.prog 205 = some (.nil) := by kernel_rfl
theorem ag206 : isAggT Tryz.prog 206 = some false := by kernel_rfl
theorem sz206 : sizeT Tryz.prog 206 = some 1 := by kernel_rfl
theorem by206 : bytesT Tryz.prog 206 = some 24 := by kernel_rfl
theorem se206 : sliceElem Tryz.prog 206 = some 21 := by kernel_rfl
theorem ze206 : zeroT Tryz.prog 206 = some (.nilS) := by kernel_rfl
theorem ag209 : isAggT Tryz.prog 209 = some true := by kernel_rfl
theorem sz209 : sizeT Tryz.prog 209 = some 2 := by kernel_rfl
theorem by209 : bytesT Tryz.prog 209 = some 32 := by kernel_rfl
theorem ze209 : zeroT Tryz.prog 209 = some (.agg [.nilS, .int .i64 0]) := by kernel_rfl
theorem fa209_0 (a : AV) : aFieldAddr Tryz.prog 209 0 a = fieldOff 0 a := by cases a <;> kernel_rfl
theorem fd209_0 (a : AV) : aField Tryz.prog 209 0 a = fieldVal Tryz.prog 206 0 a := by cases a <;> kernel_rfl
theorem fa209_1 (a : AV) : aFieldAddr Tryz.prog 209 1 a = fieldOff 1 a := by cases a <;> kernel_rfl
theorem fd209_1 (a : AV) : aField Tryz.prog 209 1 a = fieldVal Tryz.prog 3 1 a := by cases a <;> kernel_rfl
theorem bu209 (ps : List (Nat × AV)) : aBuild Tryz.prog 209 ps = (fillA (fun i => [(0, 1), (1, 1)][i]?) (AV.cells (.agg [.nilS, .int .i64 0])) ps).map .agg := by kernel_rfl
theorem ag214 : isAggT Tryz.prog 214 = some false := by kernel_rfl
theorem sz214 : sizeT Tryz.prog 214 = some 1 := by kernel_rfl
theorem by214 : bytesT Tryz.prog 214 = some 8 := by kernel_rfl
theorem ze214 : zeroT Tryz.prog 214 = some (.nil) := by kernel_rfl
theorem ag216 : isAggT Tryz.prog 216 = some true := by kernel_rfl
theorem sz216 : sizeT Tryz.prog 216 = some 1 := by kernel_rfl
theorem by216 : bytesT Tryz.prog 216 = some 24 := by kernel_rfl
theorem ze216 : zeroT Tryz.prog 216 = some (.agg [.nilS]) := by kernel_rfl
theorem fa216_0 (a : AV) : aFieldAddr Tryz.prog 216 0 a = fieldOff 0 a := by cases a <;> kernel_rfl
theorem fd216_0 (a : AV) : aField Tryz.prog 216 0 a = fieldVal Tryz.prog 179 0 a := by cases a <;> kernel_rfl
theorem bu216 (ps : List (Nat × AV)) : aBuild Tryz.prog 216 ps = (fillA (fun i => [(0, 1)][i]?) (AV.cells (.agg [.nilS])) ps).map .agg := by kernel_rfl
theorem ag219 : isAggT Tryz.prog 219 = some true := by kernel_rfl
theorem sz219 : sizeT Tryz.prog 219 = some 5 := by kernel_rfl
theorem by219 : bytesT Tryz.prog 219 = some 56 := by kernel_rfl
theorem ze219 : zeroT Tryz.prog 219 = some (.agg [.int .i64 0, .bool false, .nilS, .int .i64 0, .int .i64 0]) := by kernel_rfl
theorem fa219_0 (a : AV) : aFieldAddr Tryz.prog 219 0 a = fieldOff 0 a := by cases a <;> kernel_rfl
theorem fd219_0 (a : AV) : aField Tryz.prog 219 0 a = fieldVal Tryz.prog 3 0 a := by cases a <;> kernel_rfl
theorem fa219_1 (a : AV) : aFieldAddr Tryz.prog 219 1 a = fieldOff 1 a := by cases a <;> kernel_rfl
theorem fd219_1 (a : AV) : aField Tryz.prog 219 1 a = fieldVal Tryz.prog 4 1 a := by cases a <;> kernel_rfl
theorem fa219_2 (a : AV) : aFieldAddr Tryz.prog 219 2 a = fieldOff 2 a := by cases a <;> kernel_rfl
theorem fd219_2 (a : AV) : aField Tryz.prog 219 2 a = fieldVal Tryz.prog 173 2 a := by cases a <;> kernel_rfl
theorem fa219_3 (a : AV) : aFieldAddr Tryz.prog 219 3 a = fieldOff 3 a := by cases a <;> kernel_rfl
theorem fd219_3 (a : AV) : aField Tryz.prog 219 3 a = fieldVal Tryz.prog 3 3 a := by cases a <;> kernel_rfl
theorem fa219_4 (a : AV) : aFieldAddr Tryz.prog 219 4 a = fieldOff 4 a := by cases a <;> kernel_rfl
theorem fd219_4 (a : AV) : aField Tryz.prog 219 4 a = fieldVal Tryz.prog 3 4 a := by cases a <;> kernel_rfl
theorem bu219 (ps : List (Nat × AV)) : aBuild Tryz.prog 219 ps = (fillA (fun i => [(0, 1), (1, 1), (2, 1), (3, 1), (4, 1)][i]?) (AV.cells (.agg [.int .i64 0, .bool false, .nilS, .int .i64 0, .int .i64 0])) ps).map .agg := by kernel_rfl
theorem ag223 : isAggT Tryz.prog 223 = some true := by kernel_rfl
theorem sz223 : sizeT Tryz.prog 223 = some 2 := by kernel_rfl
theorem by223 : bytesT Tryz.prog 223 = some 32 := by kernel_rfl
theorem ze223 : zeroT Tryz.prog 223 = some (.agg [.nilS, .int .i64 0]) := by kernel_rfl
theorem fa223_0 (a : AV) : aFieldAddr Tryz.prog 223 0 a = fieldOff 0 a := by cases a <;> kernel_rfl
theorem fd223_0 (a : AV) : aField Tryz.prog 223 0 a = fieldVal Tryz.prog 179 0 a := by cases a <;> kernel_rfl
theorem fa223_1 (a : AV) : aFieldAddr Tryz.prog 223 1 a = fieldOff 1 a := by cases a <;> kernel_rfl
theorem fd223_1 (a : AV) : aField Tryz.prog 223 1 a = fieldVal Tryz.prog 3 1 a := by cases a <;> kernel_rfl
theorem bu223 (ps : List (Nat × AV)) : aBuild Tryz.prog 223 ps = (fillA (fun i => [(0, 1), (1, 1)][i]?) (AV.cells (.agg [.nilS, .int .i64 0])) ps).map .agg := by kernel_rfl
theorem ag227 : isAggT Tryz.prog 227 = some false := by kernel_rfl
theorem sz227 : sizeT Tryz.prog 227 = some 1 := by kernel_rfl
theorem by227 : bytesT Tryz.prog 227 = some 8 := by kernel_rfl
theorem ze227 : zeroT Tryz.prog 227 = some (.nilM) := by kernel_rfl
theorem ag229 : isAggT Tryz.prog 229 = some true := by kernel_rfl
theorem sz229 : sizeT Tryz.prog 229 = some 2 := by kernel_rfl
theorem by229 : bytesT Tryz.prog 229 = some 32 := by kernel_rfl
theorem ze229 : zeroT Tryz.prog 229 = some (.agg [.nilM, .nilS]) := by kernel_rfl
theorem fa229_0 (a : AV) : aFieldAddr Tryz.prog 229 0 a = fieldOff 0 a := by cases a <;> kernel_rfl
theorem fd229_0 (a : AV) : aField Tryz.prog 229 0 a = fieldVal Tryz.prog 227 0 a := by cases a <;> kernel_rfl
theorem fa229_1 (a : AV) : aFieldAddr Tryz.prog 229 1 a = fieldOff 1 a := by cases a <;> kernel_rfl
theorem fd229_1 (a : AV) : aField Tryz.prog 229 1 a = fieldVal Tryz.prog 145 1 a := by cases a <;> kernel_rfl
theorem bu229 (ps : List (Nat × AV)) : aBuild Tryz.prog 229 ps = (fillA (fun i => [(0, 1), (1, 1)][i]?) (AV.cells (.agg [.nilM, .nilS])) ps).map .agg := by kernel_rfl
theorem ag232 : isAggT Tryz.prog 232 = some true := by kernel_rfl
theorem sz232 : sizeT Tryz.prog 232 = some 5 := by kernel_rfl
theorem by232 : bytesT Tryz.prog 232 = some 20 := by kernel_rfl
theorem ze232 : zeroT Tryz.prog 232 = some (.agg [.int .i32 0, .int .i32 0, .int .i32 0, .int .i32 0, .int .i32 0]) := by kernel_rfl
theorem ag237 : isAggT Tryz.prog 237 = some false := by kernel_rfl
theorem sz237 : sizeT Tryz.prog 237 = some 1 := by kernel_rfl
theorem by237 : bytesT Tryz.prog 237 = some 8 := by kernel_rfl
theorem ze237 : zeroT Tryz.prog 237 = some (.nil) := by kernel_rfl
theorem ag239 : isAggT Tryz.prog 239 = some true := by kernel_rfl
theorem sz239 : sizeT Tryz.prog 239 = some 2 := by kernel_rfl
theorem by239 : bytesT Tryz.prog 239 = some 24 := by kernel_rfl
theorem ze239 : zeroT Tryz.prog 239 = some (.agg [.int .i64 0, .nilI]) := by kernel_rfl
theorem fa239_1 (a : AV) : aFieldAddr Tryz.prog 239 1 a = fieldOff 1 a := by cases a <;> kernel_rfl
theorem fd239_1 (a : AV) : aField Tryz.prog 239 1 a = fieldVal Tryz.prog 76 1 a := by cases a <;> kernel_rfl
theorem bu239 (ps : List (Nat × AV)) : aBuild Tryz.prog 239 ps = (fillA (fun i => [(0, 1), (1, 1)][i]?) (AV.cells (.agg [.int .i64 0, .nilI])) ps).map .agg := by kernel_rfl
theorem ag242 : isAggT Tryz.prog 242 = some true := by kernel_rfl
theorem sz242 : sizeT Tryz.prog 242 = some 3 := by kernel_rfl
theorem by242 : bytesT Tryz.prog 242 = some 24 := by kernel_rfl
theorem ze242 : zeroT Tryz.prog 242 = some (.agg [.nil, .nil, .int .u64 0]) := by kernel_rfl
theorem bu242 (ps : List (Nat × AV)) : aBuild Tryz.prog 242 ps = (fillA (fun i => [(0, 1), (1, 1), (2, 1)][i]?) (AV.cells (.agg [.nil, .nil, .int .u64 0])) ps).map .agg := by kernel_rfl
theorem ag245 : isAggT Tryz.prog 245 = some false := by kernel_rfl
theorem sz245 : sizeT Tryz.prog 245 = some 1 := by kernel_rfl
theorem by245 : bytesT Tryz.prog 245 = some 16 := by kernel_rfl
theorem ze245 : zeroT Tryz.prog 245 = some (.nilI) := by kernel_rfl
theorem ag247 : isAggT Tryz.prog 247 = some false := by kernel_rfl
theorem sz247 : sizeT Tryz.prog 247 = some 1 := by kernel_rfl
theorem by247 : bytesT Tryz.prog 247 = some 1 := by kernel_rfl
theorem ze247 : zeroT Tryz.prog 247 = some (.int .u8 0) := by kernel_rfl
theorem ag271 : isAggT Tryz.prog 271 = some false := by kernel_rfl
theorem sz271 : sizeT Tryz.prog 271 = some 1 := by kernel_rfl
theorem by271 : bytesT Tryz.prog 271 = some 24 := by kernel_rfl
theorem se271 : sliceElem Tryz.prog 271 = some 76 := by kernel_rfl
theorem ze271 : zeroT Tryz.prog 271 = some (.nilS) := by kernel_rfl
theorem ag276 : isAggT Tryz.prog 276 = some true := by kernel_rfl
theorem sz276 : sizeT Tryz.prog 276 = some 2 := by kernel_rfl
theorem by276 : bytesT Tryz.prog 276 = some 8 := by kernel_rfl
theorem ze276 : zeroT Tryz.prog 276 = some (.agg [.int .i32 0, .int .i32 0]) := by kernel_rfl
theorem bu276 (ps : List (Nat × AV)) : aBuild Tryz.prog 276 ps = (fillA (fun i => [(0, 1), (1, 1)][i]?) (AV.cells (.agg [.int .i32 0, .int .i32 0])) ps).map .agg := by kernel_rfl
end Go.Proofs.YtnipaiklandliaaGreatDoor.Ty

