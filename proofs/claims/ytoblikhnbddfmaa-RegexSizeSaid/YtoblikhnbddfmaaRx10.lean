import Derived.Test.YtoblikhnbddfmaaRx9
import Derived.Test.YtoblikhnbddfmaaRef01
/-! Chapter 15 of the document: its reader's small parts, walked. -/
set_option linter.unusedSimpArgs false
namespace Go.Proofs.Ytoblikhnbddfmaa
open Go Go.Abs AbsSeat Ty

theorem u85 : type_of% (And.intro (fun (K : Heap) (n : Int) => conv_int Try.underlying5 Try.underlying21 K n) (And.intro (fun (K : Heap) (n : Int) => conv_int Try.underlying21 Try.underlying5 K n) (And.intro (show tagT Try.prog 47 = 0 from by kernel_rfl) (And.intro (show tagT Try.prog 131 = 0 from by kernel_rfl) (And.intro (fun (K : Heap) (n : Int) => conv_int Try.underlying21 Try.underlying3 K n) (And.intro ag1 (And.intro sz1 (And.intro by1 (And.intro ze1 (And.intro Try.underlying1 (And.intro ag3 (And.intro sz3 (And.intro by3 (And.intro ze3 (And.intro Try.underlying3 (And.intro ag4 (And.intro sz4 (And.intro by4 (And.intro ze4 (And.intro Try.underlying4 (And.intro ag5 (And.intro sz5 (And.intro by5 (And.intro ze5 (And.intro Try.underlying5 (And.intro ag9 (And.intro sz9 (And.intro by9 (And.intro ze9 (And.intro Try.underlying9 (And.intro ag21 (And.intro sz21 (And.intro by21 (And.intro ze21 (And.intro Try.underlying21 (And.intro ag44 (And.intro sz44 (And.intro by44 (And.intro se44 (And.intro ze44 (And.intro Try.underlying44 (And.intro ag45 (And.intro sz45 (And.intro by45 (And.intro se45 (And.intro ze45 (And.intro Try.underlying45 (And.intro ag47 (And.intro sz47 (And.intro by47 (And.intro ze47 (And.intro bu47 (And.intro Try.underlying47 (And.intro ag80 (And.intro sz80 (And.intro by80 (And.intro se80 (And.intro ze80 (And.intro Try.underlying80 (And.intro ag109 (And.intro sz109 (And.intro by109 (And.intro ze109 (And.intro Try.underlying109 (And.intro ag111 (And.intro sz111 (And.intro by111 (And.intro ze111 (And.intro bu111 (And.intro Try.underlying111 (And.intro ag131 (And.intro sz131 (And.intro by131 (And.intro ze131 (And.intro bu131 (And.intro Try.underlying131 (And.intro fa47_1 (And.intro fd47_1 (And.intro fa47_2 (And.intro fd47_2 (And.intro fa47_3 (And.intro fd47_3 (And.intro fa47_4 (And.intro fd47_4 (And.intro fa111_0 (And.intro fd111_0 (And.intro fa111_1 (And.intro fd111_1 (And.intro fa111_2 (And.intro fd111_2 (And.intro fa131_1 fd131_1))))))))))))))))))))))))))))))))))))))))))))))))))))))))))))))))))))))))))))))))))))))))))) := And.intro (fun (K : Heap) (n : Int) => conv_int Try.underlying5 Try.underlying21 K n) (And.intro (fun (K : Heap) (n : Int) => conv_int Try.underlying21 Try.underlying5 K n) (And.intro (show tagT Try.prog 47 = 0 from by kernel_rfl) (And.intro (show tagT Try.prog 131 = 0 from by kernel_rfl) (And.intro (fun (K : Heap) (n : Int) => conv_int Try.underlying21 Try.underlying3 K n) (And.intro ag1 (And.intro sz1 (And.intro by1 (And.intro ze1 (And.intro Try.underlying1 (And.intro ag3 (And.intro sz3 (And.intro by3 (And.intro ze3 (And.intro Try.underlying3 (And.intro ag4 (And.intro sz4 (And.intro by4 (And.intro ze4 (And.intro Try.underlying4 (And.intro ag5 (And.intro sz5 (And.intro by5 (And.intro ze5 (And.intro Try.underlying5 (And.intro ag9 (And.intro sz9 (And.intro by9 (And.intro ze9 (And.intro Try.underlying9 (And.intro ag21 (And.intro sz21 (And.intro by21 (And.intro ze21 (And.intro Try.underlying21 (And.intro ag44 (And.intro sz44 (And.intro by44 (And.intro se44 (And.intro ze44 (And.intro Try.underlying44 (And.intro ag45 (And.intro sz45 (And.intro by45 (And.intro se45 (And.intro ze45 (And.intro Try.underlying45 (And.intro ag47 (And.intro sz47 (And.intro by47 (And.intro ze47 (And.intro bu47 (And.intro Try.underlying47 (And.intro ag80 (And.intro sz80 (And.intro by80 (And.intro se80 (And.intro ze80 (And.intro Try.underlying80 (And.intro ag109 (And.intro sz109 (And.intro by109 (And.intro ze109 (And.intro Try.underlying109 (And.intro ag111 (And.intro sz111 (And.intro by111 (And.intro ze111 (And.intro bu111 (And.intro Try.underlying111 (And.intro ag131 (And.intro sz131 (And.intro by131 (And.intro ze131 (And.intro bu131 (And.intro Try.underlying131 (And.intro fa47_1 (And.intro fd47_1 (And.intro fa47_2 (And.intro fd47_2 (And.intro fa47_3 (And.intro fd47_3 (And.intro fa47_4 (And.intro fd47_4 (And.intro fa111_0 (And.intro fd111_0 (And.intro fa111_1 (And.intro fd111_1 (And.intro fa111_2 (And.intro fd111_2 (And.intro fa131_1 fd131_1))))))))))))))))))))))))))))))))))))))))))))))))))))))))))))))))))))))))))))))))))))))))))
def g85 : Code :=
  .seq (.region 0 #[q 4 (.assign (.const (.bool false))) 4] false) (.seq (.seq (.region 1 #[q 5 (.move (.tmp 0)) 109, q 6 (.nilCheck (.tmp 5)) 0, q 7 (.fieldAddr 111 (.tmp 6) 1) 0, q 8 (.load 3 (.tmp 7)) 3, q 9 (.move (.tmp 0)) 109, q 10 (.nilCheck (.tmp 9)) 0, q 11 (.fieldAddr 111 (.tmp 10) 0) 0, q 12 (.load 80 (.tmp 11)) 80, q 13 (bi .len #[.tmp 12] #[80]) 3, q 14 (.binOp .lss 3 (.tmp 8) (.tmp 13) 3) 4, q 15 (.move (.tmp 14)) 4, qg 16 (.move (.tmp 0)) 109 10 true, qg 17 (.nilCheck (.tmp 16)) 0 10 true, qg 18 (.fieldAddr 111 (.tmp 17) 0) 0 10 true, qg 19 (.load 80 (.tmp 18)) 80 10 true, qg 20 (.move (.tmp 0)) 109 10 true, qg 21 (.nilCheck (.tmp 20)) 0 10 true, qg 22 (.fieldAddr 111 (.tmp 21) 1) 0 10 true, qg 23 (.load 3 (.tmp 22)) 3 10 true, qg 24 (.indexAddr 80 (.tmp 19) (.tmp 23)) 0 10 true, qg 25 (.load 21 (.tmp 24)) 21 10 true, qg 26 (.move (.tmp 1)) 21 10 true, qg 27 (.binOp .eql 21 (.tmp 25) (.tmp 26) 21) 4 10 true, q 28 (.pick (.tmp 15) (.tmp 27) (.const (.bool false))) 4] false) (.cond (.tmp 28) (.seq (.region 2 #[q 29 (.move (.tmp 0)) 109, q 30 (.nilCheck (.tmp 29)) 0, q 31 (.fieldAddr 111 (.tmp 30) 1) 0, q 32 (.load 3 (.tmp 31)) 3, q 33 (.binOp .add 3 (.tmp 32) (ik 1) 3) 3, q 34 (.nilCheck (.tmp 29)) 0, q 35 (.fieldAddr 111 (.tmp 34) 1) 0, qn (.store 3 (.tmp 35) (.tmp 33)) 0] false) (.seq (.region 3 #[q 4 (.assign (.const (.bool true))) 4] false) .ret)) .skip)) (.seq (.region 4 #[q 4 (.assign (.const (.bool false))) 4] false) .ret))
theorem s85 : Try.f85.body.map (slim cfg) = some g85 := by kernel_rfl
def g130 : Code :=
  .seq (.region 0 #[q 2 (.assign (.const (.int .i32 0))) 21] false) (.seq (.region 1 #[q 3 (.move (.tmp 0)) 109, q 4 (.nilCheck (.tmp 3)) 0, q 5 (.fieldAddr 111 (.tmp 4) 1) 0, q 6 (.load 3 (.tmp 5)) 3, q 7 (.binOp .add 3 (.tmp 6) (ik 1) 3) 3, q 8 (.nilCheck (.tmp 3)) 0, q 9 (.fieldAddr 111 (.tmp 8) 1) 0, qn (.store 3 (.tmp 9) (.tmp 7)) 0] false) (.seq (.seq (.region 2 #[q 10 (.move (.tmp 0)) 109, q 11 (.nilCheck (.tmp 10)) 0, q 12 (.fieldAddr 111 (.tmp 11) 1) 0, q 13 (.load 3 (.tmp 12)) 3, q 14 (.move (.tmp 0)) 109, q 15 (.nilCheck (.tmp 14)) 0, q 16 (.fieldAddr 111 (.tmp 15) 0) 0, q 17 (.load 80 (.tmp 16)) 80, q 18 (bi .len #[.tmp 17] #[80]) 3, q 19 (.binOp .gtr 3 (.tmp 13) (.tmp 18) 3) 4] false) (.cond (.tmp 19) (.seq (.region 3 #[q 20 (.move (.tmp 0)) 109, q 21 (.nilCheck (.tmp 20)) 0, q 22 (.fieldAddr 111 (.tmp 21) 2) 0, qn (.store 4 (.tmp 22) (.const (.bool true))) 0] false) (.seq (.region 4 #[q 2 (.assign (.const (.int .i32 (-1)))) 21] false) .ret)) .skip)) (.seq (.region 5 #[q 23 (.move (.tmp 0)) 109, q 24 (.nilCheck (.tmp 23)) 0, q 25 (.fieldAddr 111 (.tmp 24) 0) 0, q 26 (.load 80 (.tmp 25)) 80, q 27 (.move (.tmp 0)) 109, q 28 (.nilCheck (.tmp 27)) 0, q 29 (.fieldAddr 111 (.tmp 28) 1) 0, q 30 (.load 3 (.tmp 29)) 3, q 31 (.binOp .sub 3 (.tmp 30) (ik 1) 3) 3, q 32 (.indexAddr 80 (.tmp 26) (.tmp 31)) 0, q 33 (.load 21 (.tmp 32)) 21, q 2 (.assign (.tmp 33)) 21] false) .ret)))
theorem s130 : Try.f130.body.map (slim cfg) = some g130 := by kernel_rfl
def g133 : Code :=
  .seq (.region 0 #[q 4 (.assign (.const (.bool false))) 4] false) (.seq (.seq (.region 1 #[q 5 (.assign (ik 0)) 3] false) (.block 0 (.loop (.seq (.seq (.region 2 #[q 6 (.move (.tmp 5)) 3, q 7 (.move (.tmp 1)) 9, q 8 (bi .len #[.tmp 7] #[9]) 3, q 9 (.binOp .lss 3 (.tmp 6) (.tmp 8) 3) 4] false) (.cond (.tmp 9) .skip (.exit 0))) (.seq (.block 1 (.seq (.region 4 #[q 12 (.move (.tmp 1)) 9, q 13 (.move (.tmp 5)) 3, q 14 (.index 9 (.tmp 12) (.tmp 13)) 5, q 15 (.convert 5 21 (.tmp 14)) 21, q 16 (.move (.tmp 0)) 21, q 17 (.binOp .eql 21 (.tmp 15) (.tmp 16) 21) 4] false) (.cond (.tmp 17) (.seq (.region 5 #[q 4 (.assign (.const (.bool true))) 4] false) .ret) .skip))) (.region 3 #[q 10 (.move (.tmp 5)) 3, q 11 (.binOp .add 3 (.tmp 10) (ik 1) 3) 3, q 5 (.assign (.tmp 11)) 3] false)))))) (.seq (.region 6 #[q 4 (.assign (.const (.bool false))) 4] false) .ret))
theorem s133 : Try.f133.body.map (slim cfg) = some g133 := by kernel_rfl
def g131 : Code :=
  .seq (.region 0 #[q 2 (.assign (.const (.slice none 0 0))) 44] false) (.seq (.region 1 #[q 4 (.move (.tmp 0)) 109, q 5 (cl 130 #[.tmp 4] #[109]) 21, q 3 (.assign (.tmp 5)) 21] false) (.seq (.seq (.region 2 #[q 6 (.move (.tmp 3)) 21] false) (.block 0 (.seq (.region 3 #[q 8 (.binOp .eql 21 (.tmp 6) (.const (.int .i32 100)) 21) 4, q 7 (.assign (.tmp 8)) 4] false) (.cond (.tmp 7) (.seq (.region 4 #[q 9 (.build 131 #[(0, .const (.int .i32 48)), (1, .const (.int .i32 57))]) 131, q 10 (.buildSlice 44 1 #[(0, .tmp 9)]) 44, q 2 (.assign (.tmp 10)) 44] false) .ret) (.seq (.region 5 #[q 12 (.binOp .eql 21 (.tmp 6) (.const (.int .i32 119)) 21) 4, q 11 (.assign (.tmp 12)) 4] false) (.cond (.tmp 11) (.seq (.region 6 #[q 13 (.build 131 #[(0, .const (.int .i32 97)), (1, .const (.int .i32 122))]) 131, q 14 (.build 131 #[(0, .const (.int .i32 65)), (1, .const (.int .i32 90))]) 131, q 15 (.build 131 #[(0, .const (.int .i32 48)), (1, .const (.int .i32 57))]) 131, q 16 (.build 131 #[(0, .const (.int .i32 95)), (1, .const (.int .i32 95))]) 131, q 17 (.buildSlice 44 4 #[(0, .tmp 13), (1, .tmp 14), (2, .tmp 15), (3, .tmp 16)]) 44, q 2 (.assign (.tmp 17)) 44] false) .ret) (.seq (.region 7 #[q 19 (.binOp .eql 21 (.tmp 6) (.const (.int .i32 115)) 21) 4, q 18 (.assign (.tmp 19)) 4] false) (.cond (.tmp 18) (.seq (.region 8 #[q 20 (.build 131 #[(0, .const (.int .i32 9)), (1, .const (.int .i32 9))]) 131, q 21 (.build 131 #[(0, .const (.int .i32 10)), (1, .const (.int .i32 10))]) 131, q 22 (.build 131 #[(0, .const (.int .i32 13)), (1, .const (.int .i32 13))]) 131, q 23 (.build 131 #[(0, .const (.int .i32 32)), (1, .const (.int .i32 32))]) 131, q 24 (.buildSlice 44 4 #[(0, .tmp 20), (1, .tmp 21), (2, .tmp 22), (3, .tmp 23)]) 44, q 2 (.assign (.tmp 24)) 44] false) .ret) .skip)))))))) (.seq (.seq (.region 9 #[q 25 (.move (.tmp 3)) 21, q 26 (.binOp .lss 21 (.tmp 25) (.const (.int .i32 33)) 21) 4, q 27 (.move (.tmp 26)) 4, qg 28 (.move (.tmp 3)) 21 2 false, qg 29 (.binOp .gtr 21 (.tmp 28) (.const (.int .i32 126)) 21) 4 2 false, q 30 (.pick (.tmp 27) (.const (.bool true)) (.tmp 29)) 4, q 31 (.move (.tmp 30)) 4, qg 32 (.move (.tmp 3)) 21 6 false, qg 33 (.convert 21 5 (.tmp 32)) 5 6 false, qg 34 (cl 138 #[.tmp 33] #[5]) 4 6 false, q 35 (.pick (.tmp 31) (.const (.bool true)) (.tmp 34)) 4, q 36 (.move (.tmp 35)) 4, qg 37 (.move (.tmp 3)) 21 11 false, qg 38 (.convert 21 5 (.tmp 37)) 5 11 false, qg 39 (cl 139 #[.tmp 38] #[5]) 4 11 false, q 40 (.pick (.tmp 36) (.const (.bool true)) (.tmp 39)) 4] false) (.cond (.tmp 40) (.region 10 #[q 41 (.move (.tmp 0)) 109, q 42 (.nilCheck (.tmp 41)) 0, q 43 (.fieldAddr 111 (.tmp 42) 2) 0, qn (.store 4 (.tmp 43) (.const (.bool true))) 0] false) .skip)) (.seq (.region 11 #[q 44 (.move (.tmp 3)) 21, q 45 (.move (.tmp 3)) 21, q 46 (.build 131 #[(0, .tmp 44), (1, .tmp 45)]) 131, q 47 (.buildSlice 44 1 #[(0, .tmp 46)]) 44, q 2 (.assign (.tmp 47)) 44] false) .ret))))
theorem s131 : Try.f131.body.map (slim cfg) = some g131 := by kernel_rfl
def g132 : Code :=
  .seq (.region 0 #[q 2 (.alloc 47) 0] false) (.seq (.region 1 #[q 6 (.build 47 #[(0, ik 1)]) 47, q 3 (.alloc 47) 0, qn (.store 47 (.tmp 3) (.tmp 6)) 0] false) (.seq (.region 2 #[q 7 (.move (.tmp 0)) 109, q 8 (cl 85 #[.tmp 7, .const (.int .i32 94)] #[109, 21]) 4, q 9 (.fieldAddr 47 (.tmp 3) 1) 0, qn (.store 4 (.tmp 9) (.tmp 8)) 0] false) (.seq (.block 0 (.loop (.seq (.seq (.region 3 #[q 10 (.move (.tmp 0)) 109, q 11 (.nilCheck (.tmp 10)) 0, q 12 (.fieldAddr 111 (.tmp 11) 2) 0, q 13 (.load 4 (.tmp 12)) 4, q 14 (.unOp .not 4 (.tmp 13)) 4, q 15 (.move (.tmp 14)) 4, qg 16 (.move (.tmp 0)) 109 5 true, qg 17 (cl 85 #[.tmp 16, .const (.int .i32 93)] #[109, 21]) 4 5 true, qg 18 (.unOp .not 4 (.tmp 17)) 4 5 true, q 19 (.pick (.tmp 15) (.tmp 18) (.const (.bool false))) 4] false) (.cond (.tmp 19) .skip (.exit 0))) (.block 1 (.seq (.region 4 #[q 20 (.move (.tmp 0)) 109, q 21 (cl 130 #[.tmp 20] #[109]) 21, q 4 (.assign (.tmp 21)) 21] false) (.seq (.seq (.region 5 #[q 22 (.move (.tmp 4)) 21, q 23 (.binOp .eql 21 (.tmp 22) (.const (.int .i32 92)) 21) 4] false) (.cond (.tmp 23) (.seq (.region 6 #[{ dst := some 24, op := .fieldAddr 47 (.tmp 3) 2, type := 0, pos := "ref.go:103", after := #[], guard := none }, { dst := some 25, op := .load 44 (.tmp 24), type := 44, pos := "ref.go:103", after := #[{ on := 0, ground := .data }], guard := none }, { dst := some 26, op := .move (.tmp 0), type := 109, pos := "ref.go:103", after := #[], guard := none }, { dst := some 27, op := cl 131 #[.tmp 26] #[109], type := 44, pos := "ref.go:103", after := #[{ on := 2, ground := .data }], guard := none }, { dst := some 28, op := bi .append #[.tmp 25, .tmp 27] #[44, 44], type := 44, pos := "ref.go:103", after := #[{ on := 1, ground := .data }, { on := 3, ground := .data }, { on := 3, ground := .chain }], guard := none }, { dst := some 29, op := .fieldAddr 47 (.tmp 3) 2, type := 0, pos := "ref.go:103", after := #[{ on := 0, ground := .phase }, { on := 1, ground := .phase }, { on := 2, ground := .phase }, { on := 3, ground := .phase }, { on := 4, ground := .phase }], guard := none }, { dst := none, op := .store 44 (.tmp 29) (.tmp 28), type := 0, pos := "ref.go:103", after := #[{ on := 5, ground := .data }, { on := 4, ground := .data }, { on := 4, ground := .chain }, { on := 0, ground := .phase }, { on := 1, ground := .phase }, { on := 2, ground := .phase }, { on := 3, ground := .phase }, { on := 4, ground := .phase }], guard := none }] true) (.exit 1)) .skip)) (.seq (.region 7 #[q 30 (.move (.tmp 4)) 21, q 31 (.move (.tmp 4)) 21, q 32 (.build 131 #[(0, .tmp 30), (1, .tmp 31)]) 131, q 5 (.alloc 131) 0, qn (.store 131 (.tmp 5) (.tmp 32)) 0] false) (.seq (.seq (.region 8 #[q 33 (.move (.tmp 4)) 21, q 34 (cl 133 #[.tmp 33, .const (.string { data := #[91, 93, 94, 45] })] #[21, 9]) 4] false) (.cond (.tmp 34) (.region 9 #[q 35 (.move (.tmp 0)) 109, q 36 (.nilCheck (.tmp 35)) 0, q 37 (.fieldAddr 111 (.tmp 36) 2) 0, qn (.store 4 (.tmp 37) (.const (.bool true))) 0] false) .skip)) (.seq (.seq (.region 10 #[q 38 (.move (.tmp 0)) 109, q 39 (cl 85 #[.tmp 38, .const (.int .i32 45)] #[109, 21]) 4] false) (.cond (.tmp 39) (.seq (.region 11 #[q 40 (.move (.tmp 0)) 109, q 41 (cl 130 #[.tmp 40] #[109]) 21, q 42 (.fieldAddr 131 (.tmp 5) 1) 0, qn (.store 21 (.tmp 42) (.tmp 41)) 0] false) (.seq (.region 12 #[q 43 (.fieldAddr 131 (.tmp 5) 1) 0, q 44 (.load 21 (.tmp 43)) 21, q 45 (cl 133 #[.tmp 44, .const (.string { data := #[91, 93, 94, 45, 92] })] #[21, 9]) 4, q 46 (.move (.tmp 45)) 4, qg 47 (.fieldAddr 131 (.tmp 5) 1) 0 3 false, qg 48 (.load 21 (.tmp 47)) 21 3 false, qg 49 (.move (.tmp 4)) 21 3 false, qg 50 (.binOp .lss 21 (.tmp 48) (.tmp 49) 21) 4 3 false, q 51 (.pick (.tmp 46) (.const (.bool true)) (.tmp 50)) 4] false) (.cond (.tmp 51) (.region 13 #[q 52 (.move (.tmp 0)) 109, q 53 (.nilCheck (.tmp 52)) 0, q 54 (.fieldAddr 111 (.tmp 53) 2) 0, qn (.store 4 (.tmp 54) (.const (.bool true))) 0] false) .skip))) .skip)) (.region 14 #[q 55 (.fieldAddr 47 (.tmp 3) 2) 0, q 56 (.load 44 (.tmp 55)) 44, q 57 (.load 131 (.tmp 5)) 131, q 58 (.buildSlice 44 1 #[(0, .tmp 57)]) 44, q 59 (bi .append #[.tmp 56, .tmp 58] #[44, 44]) 44, q 60 (.fieldAddr 47 (.tmp 3) 2) 0, qn (.store 44 (.tmp 60) (.tmp 59)) 0] false)))))))))) (.seq (.seq (.region 15 #[q 61 (.fieldAddr 47 (.tmp 3) 2) 0, q 62 (.load 44 (.tmp 61)) 44, q 63 (bi .len #[.tmp 62] #[44]) 3, q 64 (.binOp .eql 3 (.tmp 63) (ik 0) 3) 4] false) (.cond (.tmp 64) (.region 16 #[q 65 (.move (.tmp 0)) 109, q 66 (.nilCheck (.tmp 65)) 0, q 67 (.fieldAddr 111 (.tmp 66) 2) 0, qn (.store 4 (.tmp 67) (.const (.bool true))) 0] false) .skip)) (.seq (.region 17 #[q 68 (.load 47 (.tmp 3)) 47, qn (.store 47 (.tmp 2) (.tmp 68)) 0] false) .ret)))))
theorem s132 : Try.f132.body.map (slim cfg) = some g132 := by kernel_rfl
def g118 : Code :=
  .seq (.region 0 #[q 2 (.assign (ik 0)) 3] false) (.seq (.region 1 #[q 3 (.assign (ik 0)) 3, q 4 (.assign (ik 0)) 3] false) (.seq (.block 0 (.loop (.seq (.seq (.region 2 #[q 5 (.move (.tmp 4)) 3, q 6 (.binOp .lss 3 (.tmp 5) (ik 2) 3) 4, q 7 (.move (.tmp 6)) 4, qg 8 (.move (.tmp 0)) 109 2 true, qg 9 (.nilCheck (.tmp 8)) 0 2 true, qg 10 (.fieldAddr 111 (.tmp 9) 1) 0 2 true, qg 11 (.load 3 (.tmp 10)) 3 2 true, qg 12 (.move (.tmp 0)) 109 2 true, qg 13 (.nilCheck (.tmp 12)) 0 2 true, qg 14 (.fieldAddr 111 (.tmp 13) 0) 0 2 true, qg 15 (.load 80 (.tmp 14)) 80 2 true, qg 16 (bi .len #[.tmp 15] #[80]) 3 2 true, qg 17 (.binOp .lss 3 (.tmp 11) (.tmp 16) 3) 4 2 true, q 18 (.pick (.tmp 7) (.tmp 17) (.const (.bool false))) 4, q 19 (.move (.tmp 18)) 4, qg 20 (.move (.tmp 0)) 109 14 true, qg 21 (.nilCheck (.tmp 20)) 0 14 true, qg 22 (.fieldAddr 111 (.tmp 21) 0) 0 14 true, qg 23 (.load 80 (.tmp 22)) 80 14 true, qg 24 (.move (.tmp 0)) 109 14 true, qg 25 (.nilCheck (.tmp 24)) 0 14 true, qg 26 (.fieldAddr 111 (.tmp 25) 1) 0 14 true, qg 27 (.load 3 (.tmp 26)) 3 14 true, qg 28 (.indexAddr 80 (.tmp 23) (.tmp 27)) 0 14 true, qg 29 (.load 21 (.tmp 28)) 21 14 true, qg 30 (.binOp .geq 21 (.tmp 29) (.const (.int .i32 48)) 21) 4 14 true, q 31 (.pick (.tmp 19) (.tmp 30) (.const (.bool false))) 4, q 32 (.move (.tmp 31)) 4, qg 33 (.move (.tmp 0)) 109 27 true, qg 34 (.nilCheck (.tmp 33)) 0 27 true, qg 35 (.fieldAddr 111 (.tmp 34) 0) 0 27 true, qg 36 (.load 80 (.tmp 35)) 80 27 true, qg 37 (.move (.tmp 0)) 109 27 true, qg 38 (.nilCheck (.tmp 37)) 0 27 true, qg 39 (.fieldAddr 111 (.tmp 38) 1) 0 27 true, qg 40 (.load 3 (.tmp 39)) 3 27 true, qg 41 (.indexAddr 80 (.tmp 36) (.tmp 40)) 0 27 true, qg 42 (.load 21 (.tmp 41)) 21 27 true, qg 43 (.binOp .leq 21 (.tmp 42) (.const (.int .i32 57)) 21) 4 27 true, q 44 (.pick (.tmp 32) (.tmp 43) (.const (.bool false))) 4] false) (.cond (.tmp 44) .skip (.exit 0))) (.block 1 (.seq (.region 3 #[q 45 (.move (.tmp 3)) 3, q 46 (.binOp .mul 3 (ik 10) (.tmp 45) 3) 3, q 47 (.move (.tmp 0)) 109, q 48 (.nilCheck (.tmp 47)) 0, q 49 (.fieldAddr 111 (.tmp 48) 0) 0, q 50 (.load 80 (.tmp 49)) 80, q 51 (.move (.tmp 0)) 109, q 52 (.nilCheck (.tmp 51)) 0, q 53 (.fieldAddr 111 (.tmp 52) 1) 0, q 54 (.load 3 (.tmp 53)) 3, q 55 (.indexAddr 80 (.tmp 50) (.tmp 54)) 0, q 56 (.load 21 (.tmp 55)) 21, q 57 (.convert 21 3 (.tmp 56)) 3, q 58 (.binOp .add 3 (.tmp 46) (.tmp 57) 3) 3, q 59 (.binOp .sub 3 (.tmp 58) (ik 48) 3) 3, q 3 (.assign (.tmp 59)) 3] false) (.seq (.region 4 #[q 60 (.move (.tmp 0)) 109, q 61 (.nilCheck (.tmp 60)) 0, q 62 (.fieldAddr 111 (.tmp 61) 1) 0, q 63 (.load 3 (.tmp 62)) 3, q 64 (.binOp .add 3 (.tmp 63) (ik 1) 3) 3, q 65 (.nilCheck (.tmp 60)) 0, q 66 (.fieldAddr 111 (.tmp 65) 1) 0, qn (.store 3 (.tmp 66) (.tmp 64)) 0] false) (.region 5 #[q 67 (.move (.tmp 4)) 3, q 68 (.binOp .add 3 (.tmp 67) (ik 1) 3) 3, q 4 (.assign (.tmp 68)) 3] false))))))) (.seq (.seq (.region 6 #[q 69 (.move (.tmp 4)) 3, q 70 (.binOp .eql 3 (.tmp 69) (ik 0) 3) 4, q 71 (.move (.tmp 70)) 4, qg 72 (.move (.tmp 3)) 3 2 false, qg 73 (.binOp .gtr 3 (.tmp 72) (ik 16) 3) 4 2 false, q 74 (.pick (.tmp 71) (.const (.bool true)) (.tmp 73)) 4] false) (.cond (.tmp 74) (.region 7 #[q 75 (.move (.tmp 0)) 109, q 76 (.nilCheck (.tmp 75)) 0, q 77 (.fieldAddr 111 (.tmp 76) 2) 0, qn (.store 4 (.tmp 77) (.const (.bool true))) 0] false) .skip)) (.seq (.region 8 #[q 78 (.move (.tmp 3)) 3, q 2 (.assign (.tmp 78)) 3] false) .ret))))
theorem s118 : Try.f118.body.map (slim cfg) = some g118 := by kernel_rfl
def g117 : Code :=
  .seq (.region 0 #[q 4 (.alloc 47) 0] false) (.seq (.region 1 #[q 7 (.move (.tmp 0)) 109, q 8 (cl 130 #[.tmp 7] #[109]) 21, q 5 (.assign (.tmp 8)) 21] false) (.seq (.seq (.region 2 #[q 9 (.move (.tmp 5)) 21] false) (.block 0 (.seq (.region 3 #[q 11 (.binOp .eql 21 (.tmp 9) (.const (.int .i32 46)) 21) 4, q 10 (.assign (.tmp 11)) 4] false) (.cond (.tmp 10) (.seq (.region 4 #[q 12 (.build 47 #[(0, ik 1), (1, .const (.bool true))]) 47, qn (.store 47 (.tmp 4) (.tmp 12)) 0] false) .ret) (.seq (.region 5 #[q 14 (.binOp .eql 21 (.tmp 9) (.const (.int .i32 92)) 21) 4, q 13 (.assign (.tmp 14)) 4] false) (.cond (.tmp 13) (.seq (.region 6 #[q 15 (.move (.tmp 0)) 109, q 16 (cl 131 #[.tmp 15] #[109]) 44, q 17 (.build 47 #[(0, ik 1), (2, .tmp 16)]) 47, qn (.store 47 (.tmp 4) (.tmp 17)) 0] false) .ret) (.seq (.region 7 #[q 19 (.binOp .eql 21 (.tmp 9) (.const (.int .i32 91)) 21) 4, q 18 (.assign (.tmp 19)) 4] false) (.cond (.tmp 18) (.seq (.region 8 #[q 20 (.move (.tmp 0)) 109, q 21 (cl 132 #[.tmp 20] #[109]) 47, qn (.store 47 (.tmp 4) (.tmp 21)) 0] false) .ret) (.seq (.region 9 #[q 23 (.binOp .eql 21 (.tmp 9) (.const (.int .i32 40)) 21) 4, q 22 (.assign (.tmp 23)) 4] false) (.cond (.tmp 22) (.seq (.seq (.region 10 #[q 24 (.move (.tmp 1)) 3, q 25 (.binOp .geq 3 (.tmp 24) (ik 16) 3) 4] false) (.cond (.tmp 25) (.seq (.region 11 #[q 26 (.move (.tmp 0)) 109, q 27 (.nilCheck (.tmp 26)) 0, q 28 (.fieldAddr 111 (.tmp 27) 2) 0, qn (.store 4 (.tmp 28) (.const (.bool true))) 0] false) (.seq (.region 12 #[q 29 (.build 47 #[]) 47, qn (.store 47 (.tmp 4) (.tmp 29)) 0] false) .ret)) .skip)) (.seq (.region 13 #[q 30 (.move (.tmp 0)) 109, q 31 (.move (.tmp 1)) 3, q 32 (.binOp .add 3 (.tmp 31) (ik 1) 3) 3, q 33 (cl 58 #[.tmp 30, .tmp 32] #[109, 3]) 47, q 6 (.alloc 47) 0, qn (.store 47 (.tmp 6) (.tmp 33)) 0] false) (.seq (.seq (.region 14 #[q 34 (.move (.tmp 0)) 109, q 35 (cl 85 #[.tmp 34, .const (.int .i32 41)] #[109, 21]) 4, q 36 (.unOp .not 4 (.tmp 35)) 4] false) (.cond (.tmp 36) (.region 15 #[q 37 (.move (.tmp 0)) 109, q 38 (.nilCheck (.tmp 37)) 0, q 39 (.fieldAddr 111 (.tmp 38) 2) 0, qn (.store 4 (.tmp 39) (.const (.bool true))) 0] false) .skip)) (.seq (.region 16 #[q 40 (.load 47 (.tmp 6)) 47, qn (.store 47 (.tmp 4) (.tmp 40)) 0] false) .ret)))) .skip)))))))))) (.seq (.seq (.region 17 #[q 41 (.move (.tmp 5)) 21, q 42 (cl 133 #[.tmp 41, .const (.string { data := #[124, 42, 43, 63, 41, 93, 123, 125] })] #[21, 9]) 4] false) (.cond (.tmp 42) (.region 18 #[q 43 (.move (.tmp 0)) 109, q 44 (.nilCheck (.tmp 43)) 0, q 45 (.fieldAddr 111 (.tmp 44) 2) 0, qn (.store 4 (.tmp 45) (.const (.bool true))) 0] false) .skip)) (.seq (.region 19 #[q 46 (.move (.tmp 5)) 21, q 47 (.move (.tmp 5)) 21, q 48 (.build 131 #[(0, .tmp 46), (1, .tmp 47)]) 131, q 49 (.buildSlice 44 1 #[(0, .tmp 48)]) 44, q 50 (.build 47 #[(0, ik 1), (2, .tmp 49)]) 47, qn (.store 47 (.tmp 4) (.tmp 50)) 0] false) .ret))))
theorem s117 : Try.f117.body.map (slim cfg) = some g117 := by kernel_rfl
def g103 : Code :=
  .seq (.region 0 #[q 4 (.alloc 47) 0] false) (.seq (.region 1 #[q 7 (.move (.tmp 0)) 109, q 8 (.move (.tmp 1)) 3, q 9 (cl 117 #[.tmp 7, .tmp 8] #[109, 3]) 47, q 5 (.alloc 47) 0, qn (.store 47 (.tmp 5) (.tmp 9)) 0] false) (.seq (.seq (.region 2 #[q 10 (.move (.tmp 0)) 109, q 11 (.nilCheck (.tmp 10)) 0, q 12 (.fieldAddr 111 (.tmp 11) 2) 0, q 13 (.load 4 (.tmp 12)) 4] false) (.cond (.tmp 13) (.seq (.region 3 #[q 14 (.load 47 (.tmp 5)) 47, qn (.store 47 (.tmp 4) (.tmp 14)) 0] false) .ret) .skip)) (.seq (.region 4 #[q 15 (.load 47 (.tmp 5)) 47, q 16 (.buildSlice 45 1 #[(0, .tmp 15)]) 45, q 17 (.build 47 #[(0, ik 4), (4, ik (-1)), (5, .tmp 16)]) 47, q 6 (.alloc 47) 0, qn (.store 47 (.tmp 6) (.tmp 17)) 0] false) (.seq (.block 0 (.seq (.region 6 #[q 20 (.move (.tmp 0)) 109, q 21 (cl 85 #[.tmp 20, .const (.int .i32 42)] #[109, 21]) 4, q 19 (.assign (.tmp 21)) 4] false) (.cond (.tmp 19) .skip (.seq (.region 7 #[q 23 (.move (.tmp 0)) 109, q 24 (cl 85 #[.tmp 23, .const (.int .i32 43)] #[109, 21]) 4, q 22 (.assign (.tmp 24)) 4] false) (.cond (.tmp 22) (.region 8 #[q 25 (.fieldAddr 47 (.tmp 6) 3) 0, qn (.store 3 (.tmp 25) (ik 1)) 0] false) (.seq (.region 9 #[q 27 (.move (.tmp 0)) 109, q 28 (cl 85 #[.tmp 27, .const (.int .i32 63)] #[109, 21]) 4, q 26 (.assign (.tmp 28)) 4] false) (.cond (.tmp 26) (.region 10 #[q 29 (.fieldAddr 47 (.tmp 6) 4) 0, qn (.store 3 (.tmp 29) (ik 1)) 0] false) (.seq (.region 11 #[q 31 (.move (.tmp 0)) 109, q 32 (cl 85 #[.tmp 31, .const (.int .i32 123)] #[109, 21]) 4, q 30 (.assign (.tmp 32)) 4] false) (.cond (.tmp 30) (.seq (.region 12 #[q 33 (.move (.tmp 0)) 109, q 34 (cl 118 #[.tmp 33] #[109]) 3, q 35 (.fieldAddr 47 (.tmp 6) 3) 0, qn (.store 3 (.tmp 35) (.tmp 34)) 0] false) (.seq (.region 13 #[q 36 (.fieldAddr 47 (.tmp 6) 3) 0, q 37 (.load 3 (.tmp 36)) 3, q 38 (.fieldAddr 47 (.tmp 6) 4) 0, qn (.store 3 (.tmp 38) (.tmp 37)) 0] false) (.seq (.region 14 #[q 39 (.move (.tmp 0)) 109, q 40 (cl 85 #[.tmp 39, .const (.int .i32 44)] #[109, 21]) 4] false) (.cond (.tmp 40) (.seq (.region 15 #[q 41 (.fieldAddr 47 (.tmp 6) 4) 0, qn (.store 3 (.tmp 41) (ik (-1))) 0] false) (.seq (.region 16 #[q 42 (.move (.tmp 0)) 109, q 43 (cl 85 #[.tmp 42, .const (.int .i32 125)] #[109, 21]) 4, q 44 (.unOp .not 4 (.tmp 43)) 4] false) (.cond (.tmp 44) (.seq (.region 17 #[q 45 (.move (.tmp 0)) 109, q 46 (cl 118 #[.tmp 45] #[109]) 3, q 47 (.fieldAddr 47 (.tmp 6) 4) 0, qn (.store 3 (.tmp 47) (.tmp 46)) 0] false) (.seq (.region 18 #[q 48 (.fieldAddr 47 (.tmp 6) 4) 0, q 49 (.load 3 (.tmp 48)) 3, q 50 (.fieldAddr 47 (.tmp 6) 3) 0, q 51 (.load 3 (.tmp 50)) 3, q 52 (.binOp .lss 3 (.tmp 49) (.tmp 51) 3) 4, q 53 (.move (.tmp 52)) 4, qg 54 (.move (.tmp 0)) 109 5 false, qg 55 (cl 85 #[.tmp 54, .const (.int .i32 125)] #[109, 21]) 4 5 false, qg 56 (.unOp .not 4 (.tmp 55)) 4 5 false, q 57 (.pick (.tmp 53) (.const (.bool true)) (.tmp 56)) 4] false) (.cond (.tmp 57) (.region 19 #[q 58 (.move (.tmp 0)) 109, q 59 (.nilCheck (.tmp 58)) 0, q 60 (.fieldAddr 111 (.tmp 59) 2) 0, qn (.store 4 (.tmp 60) (.const (.bool true))) 0] false) .skip))) .skip))) (.seq (.region 20 #[q 61 (.move (.tmp 0)) 109, q 62 (cl 85 #[.tmp 61, .const (.int .i32 125)] #[109, 21]) 4, q 63 (.unOp .not 4 (.tmp 62)) 4] false) (.cond (.tmp 63) (.region 21 #[q 64 (.move (.tmp 0)) 109, q 65 (.nilCheck (.tmp 64)) 0, q 66 (.fieldAddr 111 (.tmp 65) 2) 0, qn (.store 4 (.tmp 66) (.const (.bool true))) 0] false) .skip)))))) (.seq (.region 5 #[q 18 (.load 47 (.tmp 5)) 47, qn (.store 47 (.tmp 4) (.tmp 18)) 0] false) .ret)))))))))) (.seq (.region 22 #[q 67 (.load 47 (.tmp 6)) 47, qn (.store 47 (.tmp 4) (.tmp 67)) 0] false) .ret)))))
theorem s103 : Try.f103.body.map (slim cfg) = some g103 := by kernel_rfl
def g84 : Code :=
  .seq (.region 0 #[q 4 (.alloc 47) 0] false) (.seq (.region 1 #[q 5 (.assign (.const (.slice none 0 0))) 45] false) (.seq (.block 0 (.loop (.seq (.seq (.region 2 #[q 6 (.move (.tmp 0)) 109, q 7 (.nilCheck (.tmp 6)) 0, q 8 (.fieldAddr 111 (.tmp 7) 2) 0, q 9 (.load 4 (.tmp 8)) 4, q 10 (.unOp .not 4 (.tmp 9)) 4, q 11 (.move (.tmp 10)) 4, qg 12 (.move (.tmp 0)) 109 5 true, qg 13 (.nilCheck (.tmp 12)) 0 5 true, qg 14 (.fieldAddr 111 (.tmp 13) 1) 0 5 true, qg 15 (.load 3 (.tmp 14)) 3 5 true, qg 16 (.move (.tmp 0)) 109 5 true, qg 17 (.nilCheck (.tmp 16)) 0 5 true, qg 18 (.fieldAddr 111 (.tmp 17) 0) 0 5 true, qg 19 (.load 80 (.tmp 18)) 80 5 true, qg 20 (bi .len #[.tmp 19] #[80]) 3 5 true, qg 21 (.binOp .lss 3 (.tmp 15) (.tmp 20) 3) 4 5 true, q 22 (.pick (.tmp 11) (.tmp 21) (.const (.bool false))) 4, q 23 (.move (.tmp 22)) 4, qg 24 (.move (.tmp 0)) 109 17 true, qg 25 (.nilCheck (.tmp 24)) 0 17 true, qg 26 (.fieldAddr 111 (.tmp 25) 0) 0 17 true, qg 27 (.load 80 (.tmp 26)) 80 17 true, qg 28 (.move (.tmp 0)) 109 17 true, qg 29 (.nilCheck (.tmp 28)) 0 17 true, qg 30 (.fieldAddr 111 (.tmp 29) 1) 0 17 true, qg 31 (.load 3 (.tmp 30)) 3 17 true, qg 32 (.indexAddr 80 (.tmp 27) (.tmp 31)) 0 17 true, qg 33 (.load 21 (.tmp 32)) 21 17 true, qg 34 (.binOp .neq 21 (.tmp 33) (.const (.int .i32 124)) 21) 4 17 true, q 35 (.pick (.tmp 23) (.tmp 34) (.const (.bool false))) 4, q 36 (.move (.tmp 35)) 4, qg 37 (.move (.tmp 0)) 109 30 true, qg 38 (.nilCheck (.tmp 37)) 0 30 true, qg 39 (.fieldAddr 111 (.tmp 38) 0) 0 30 true, qg 40 (.load 80 (.tmp 39)) 80 30 true, qg 41 (.move (.tmp 0)) 109 30 true, qg 42 (.nilCheck (.tmp 41)) 0 30 true, qg 43 (.fieldAddr 111 (.tmp 42) 1) 0 30 true, qg 44 (.load 3 (.tmp 43)) 3 30 true, qg 45 (.indexAddr 80 (.tmp 40) (.tmp 44)) 0 30 true, qg 46 (.load 21 (.tmp 45)) 21 30 true, qg 47 (.binOp .neq 21 (.tmp 46) (.const (.int .i32 41)) 21) 4 30 true, q 48 (.pick (.tmp 36) (.tmp 47) (.const (.bool false))) 4] false) (.cond (.tmp 48) .skip (.exit 0))) (.block 1 (.region 3 #[q 49 (.move (.tmp 5)) 45, q 50 (.move (.tmp 0)) 109, q 51 (.move (.tmp 1)) 3, q 52 (cl 103 #[.tmp 50, .tmp 51] #[109, 3]) 47, q 53 (.buildSlice 45 1 #[(0, .tmp 52)]) 45, q 54 (bi .append #[.tmp 49, .tmp 53] #[45, 45]) 45, q 5 (.assign (.tmp 54)) 45] false))))) (.seq (.seq (.region 4 #[q 55 (.move (.tmp 5)) 45, q 56 (bi .len #[.tmp 55] #[45]) 3, q 57 (.binOp .eql 3 (.tmp 56) (ik 0) 3) 4] false) (.cond (.tmp 57) (.seq (.region 5 #[q 58 (.build 47 #[]) 47, qn (.store 47 (.tmp 4) (.tmp 58)) 0] false) .ret) .skip)) (.seq (.seq (.region 6 #[q 59 (.move (.tmp 5)) 45, q 60 (bi .len #[.tmp 59] #[45]) 3, q 61 (.binOp .eql 3 (.tmp 60) (ik 1) 3) 4] false) (.cond (.tmp 61) (.seq (.region 7 #[q 62 (.move (.tmp 5)) 45, q 63 (.indexAddr 45 (.tmp 62) (ik 0)) 0, q 64 (.load 47 (.tmp 63)) 47, qn (.store 47 (.tmp 4) (.tmp 64)) 0] false) .ret) .skip)) (.seq (.region 8 #[q 65 (.move (.tmp 5)) 45, q 66 (.build 47 #[(0, ik 2), (5, .tmp 65)]) 47, qn (.store 47 (.tmp 4) (.tmp 66)) 0] false) .ret)))))
theorem s84 : Try.f84.body.map (slim cfg) = some g84 := by kernel_rfl
def g58 : Code :=
  .seq (.region 0 #[q 4 (.alloc 47) 0] false) (.seq (.region 1 #[q 6 (.move (.tmp 0)) 109, q 7 (.move (.tmp 1)) 3, q 8 (cl 84 #[.tmp 6, .tmp 7] #[109, 3]) 47, q 9 (.buildSlice 45 1 #[(0, .tmp 8)]) 45, q 5 (.assign (.tmp 9)) 45] false) (.seq (.block 0 (.loop (.seq (.seq (.region 2 #[q 10 (.move (.tmp 0)) 109, q 11 (.nilCheck (.tmp 10)) 0, q 12 (.fieldAddr 111 (.tmp 11) 2) 0, q 13 (.load 4 (.tmp 12)) 4, q 14 (.unOp .not 4 (.tmp 13)) 4, q 15 (.move (.tmp 14)) 4, qg 16 (.move (.tmp 0)) 109 5 true, qg 17 (cl 85 #[.tmp 16, .const (.int .i32 124)] #[109, 21]) 4 5 true, q 18 (.pick (.tmp 15) (.tmp 17) (.const (.bool false))) 4] false) (.cond (.tmp 18) .skip (.exit 0))) (.block 1 (.region 3 #[q 19 (.move (.tmp 5)) 45, q 20 (.move (.tmp 0)) 109, q 21 (.move (.tmp 1)) 3, q 22 (cl 84 #[.tmp 20, .tmp 21] #[109, 3]) 47, q 23 (.buildSlice 45 1 #[(0, .tmp 22)]) 45, q 24 (bi .append #[.tmp 19, .tmp 23] #[45, 45]) 45, q 5 (.assign (.tmp 24)) 45] false))))) (.seq (.seq (.region 4 #[q 25 (.move (.tmp 5)) 45, q 26 (bi .len #[.tmp 25] #[45]) 3, q 27 (.binOp .eql 3 (.tmp 26) (ik 1) 3) 4] false) (.cond (.tmp 27) (.seq (.region 5 #[q 28 (.move (.tmp 5)) 45, q 29 (.indexAddr 45 (.tmp 28) (ik 0)) 0, q 30 (.load 47 (.tmp 29)) 47, qn (.store 47 (.tmp 4) (.tmp 30)) 0] false) .ret) .skip)) (.seq (.region 6 #[q 31 (.move (.tmp 5)) 45, q 32 (.build 47 #[(0, ik 3), (5, .tmp 31)]) 47, qn (.store 47 (.tmp 4) (.tmp 32)) 0] false) .ret))))
theorem s58 : Try.f58.body.map (slim cfg) = some g58 := by kernel_rfl

theorem rowG2 : RowT Try.prog 44 131 2 8 true where
  un := Try.underlying44
  size := sz131
  bytes := by131
  agg := ag131
  zero := ⟨_, ze131, rfl⟩
  pos := by decide
  tree := rfl
theorem rlitG1 (a b : Int) (H : Heap) : aBuildSlice Try.prog H 44 1 [(0, .agg [.int .i32 a, .int .i32 b])] = some (.vs ([⟨a, b⟩].map encG) true, none) :=
  lit1 rowG2 encG_T ze131 rfl (by decide) (⟨a, b⟩ : Sg) rfl
theorem rlitG4 (a b c d e f g h : Int) (H : Heap) : aBuildSlice Try.prog H 44 4 [(0, .agg [.int .i32 a, .int .i32 b]), (1, .agg [.int .i32 c, .int .i32 d]), (2, .agg [.int .i32 e, .int .i32 f]), (3, .agg [.int .i32 g, .int .i32 h])] =
    some (.vs (([⟨a, b⟩, ⟨c, d⟩, ⟨e, f⟩, ⟨g, h⟩] : List Sg).map encG) true, none) := by
  simp [aBuildSlice, se44, sz131, by131, ag131, ze131, AV.cells, fillA, zrep, List.range_succ, splice, litOk, AV.scal, AV.plL, AV.pl, chunk, AV.leaf, encG]
theorem slI_plain3 {l : List Int} {L : AV} (h : Sl encI L l) (x : Int) (b : Bool) : AV.plL [L, .int .i64 x, .bool b] = true := by
  cases h with
  | nil => rfl
  | vs l f => simp only [AV.plL, AV.pl, encI_plL, Bool.and_true]
theorem hput3 {prot b : Nat} {H : Heap} {L : AV} {a a' : Int} {x x' : Bool} (hg : hget H b 0 = some [L, .int .i64 a, .bool x]) (hp : prot ≤ b) : hput prot H b 0 1 [.int .i64 a'] = some (H.set b (.cells 0 [L, .int .i64 a', .bool x])) ∧ hput prot H b 0 2 [.bool x'] = some (H.set b (.cells 0 [L, .int .i64 a, .bool x'])) := by
  constructor
  · rw [hput_eq hg hp (by simp) (by simp [AV.leaf])]; rfl
  · rw [hput_eq hg hp (by simp) (by simp [AV.leaf])]; rfl

theorem ris15_ok (l : List Int) (L : AV) (hL : Sl encI L l) (hl : Runes l) (at_ b : Nat) (bad : Bool) (c : Int) (hc : 0 ≤ c) (prot : Nat) (H : Heap) (hp : prot ≤ b) (hg : hget H b 0 = some [L, .int .i64 at_, .bool bad]) :
    aLim cfg prot 85 [.ptr b 0 0, .int .i32 c] H = some (.bool (decide (pk l at_ = c)), some (H.set b (.cells 0 [L, .int .i64 ((if pk l at_ = c then at_ + 1 else at_ : Nat)), .bool bad]))) := by
  have hb := hget_lt hg
  have hll := hl.1
  have hLb : ∀ x : Int, AV.blwL H.length [L, .int .i64 x, .bool bad] = true := fun x => plL_blwL _ _ (slI_plain3 hL _ _)
  have kp0 := Kp.start hg
  have hL1 := fun K : Heap => hL.len (H := K) Try.underlying80
  refine trim_slim rfl (by kernel_rfl) (by kernel_rfl) (by kernel_rfl) Try.func85 s85 (by simp [Try.f85]) fun fr hlen h => ?_
  simp only [Has, Nat.zero_add] at h
  obtain ⟨a0, a1, -⟩ := h
  simp only [Try.f85] at hlen ⊢
  unfold g85
  by_cases hi : at_ < l.length
  · have d1 : decide (((at_ : Nat) : Int) < (l.length : Nat)) = true := decide_eq_true (by omega)
    have e1 := hL.at (k := .i64) (i := at_) Try.underlying80 sz21 encI_len hi
    have hww : IntKind.i64.wrap ((at_ : Int) + 1) = ((at_ + 1 : Nat) : Int) := by rw [wrap64 (by omega) (by omega)]; simp
    rw [pk_lt hi]
    generalize l[at_] = x at *
    by_cases h : x = c
    · have hput1 := (hput3 (prot := prot) (a' := ((at_ + 1 : Nat) : Int)) (x' := true) hg hp).1
      have d2 : decide (x = c) = true := decide_eq_true h
      rw [if_pos h, d2]
      simp only [wk, aBuiltin, AV.cells, AV.leaf, Nat.reduceEqDiff, Nat.reduceLT, Nat.reduceAdd, Nat.reduceLeDiff, reduceCtorEq, Nat.reduceMul, cfgP, u85, hlen, a0, a1, hg, hL1, d1, e1, encI, d2, hww, hput1, none_beq]
      exact (kp0.put (hLb _)).fin (l := [.bool true]) (by simp [wk, aBuiltin, AV.cells, AV.leaf, Nat.reduceEqDiff, Nat.reduceLT, Nat.reduceAdd, Nat.reduceLeDiff, reduceCtorEq, Nat.reduceMul, cfgP, u85, hlen, aResults, aResult]) (.still rfl)
    · have d2 : decide (x = c) = false := decide_eq_false h
      rw [if_neg h, d2]
      simp only [wk, aBuiltin, AV.cells, AV.leaf, Nat.reduceEqDiff, Nat.reduceLT, Nat.reduceAdd, Nat.reduceLeDiff, reduceCtorEq, Nat.reduceMul, cfgP, u85, hlen, a0, a1, hg, hL1, d1, e1, encI, d2, none_beq]
      exact kp0.fin (l := [.bool false]) (by simp [wk, aBuiltin, AV.cells, AV.leaf, Nat.reduceEqDiff, Nat.reduceLT, Nat.reduceAdd, Nat.reduceLeDiff, reduceCtorEq, Nat.reduceMul, cfgP, u85, hlen, aResults, aResult]) (.still rfl)
  · have d1 : decide (((at_ : Nat) : Int) < (l.length : Nat)) = false := decide_eq_false (by omega)
    rw [pk_ge (by omega), if_neg (by omega), decide_eq_false (show ¬ (-1 : Int) = c by omega)]
    simp only [wk, aBuiltin, AV.cells, AV.leaf, Nat.reduceEqDiff, Nat.reduceLT, Nat.reduceAdd, Nat.reduceLeDiff, reduceCtorEq, Nat.reduceMul, cfgP, u85, hlen, a0, a1, hg, hL1, d1, none_beq]
    exact kp0.fin (l := [.bool false]) (by simp [wk, aBuiltin, AV.cells, AV.leaf, Nat.reduceEqDiff, Nat.reduceLT, Nat.reduceAdd, Nat.reduceLeDiff, reduceCtorEq, Nat.reduceMul, cfgP, u85, hlen, aResults, aResult]) (.still rfl)

theorem rnext15_ok (l : List Int) (L : AV) (hL : Sl encI L l) (hl : Runes l) (at_ b : Nat) (bad : Bool) (hat : at_ ≤ 2000000) (prot : Nat) (H : Heap) (hp : prot ≤ b) (hg : hget H b 0 = some [L, .int .i64 at_, .bool bad]) :
    aLim cfg prot 130 [.ptr b 0 0] H = some (.int .i32 (pk l at_), some (H.set b (.cells 0 [L, .int .i64 ((at_ + 1 : Nat)), .bool (bad || decide (l.length ≤ at_))]))) := by
  have hb := hget_lt hg
  have hll := hl.1
  have hLb : ∀ (x : Int) (y : Bool), AV.blwL H.length [L, .int .i64 x, .bool y] = true := fun x y => plL_blwL _ _ (slI_plain3 hL _ _)
  have kp0 := Kp.start hg
  have hL1 := fun K : Heap => hL.len (H := K) Try.underlying80
  have hww : IntKind.i64.wrap ((at_ : Int) + 1) = ((at_ + 1 : Nat) : Int) := by rw [wrap64 (by omega) (by omega)]; simp
  have hput1 := (hput3 (prot := prot) (a' := ((at_ + 1 : Nat) : Int)) (x' := true) hg hp).1
  have hgs : ∀ c, hget (H.set b (.cells 0 c)) b 0 = some c := fun c => hget_set_at hb
  have hput2 := (hput3 (prot := prot) (a' := 0) (x' := true) (hgs [L, .int .i64 ((at_ + 1 : Nat)), .bool bad]) hp).2
  rw [List.set_set] at hput2
  refine trim_slim rfl (by kernel_rfl) (by kernel_rfl) (by kernel_rfl) Try.func130 s130 (by simp [Try.f130]) fun fr hlen h => ?_
  simp only [Has, Nat.zero_add] at h
  obtain ⟨a0, -⟩ := h
  simp only [Try.f130] at hlen ⊢
  unfold g130
  by_cases hi : at_ < l.length
  · have d1 : decide (((l.length : Nat) : Int) < ((at_ + 1 : Nat) : Int)) = false := decide_eq_false (by omega)
    have d3 : decide (l.length ≤ at_) = false := decide_eq_false (by omega)
    have e1 := hL.at (k := .i64) (i := at_) Try.underlying80 sz21 encI_len hi
    have w2 : IntKind.i64.wrap (((at_ + 1 : Nat) : Int) - 1) = (at_ : Nat) := by rw [wrap64 (by omega) (by omega)]; omega
    rw [pk_lt hi, d3, Bool.or_false]
    generalize l[at_] = x at *
    simp only [wk, aBuiltin, AV.cells, AV.leaf, Nat.reduceEqDiff, Nat.reduceLT, Nat.reduceAdd, Nat.reduceLeDiff, reduceCtorEq, Nat.reduceMul, cfgP, u85, hlen, a0, hg, hww, hput1, hgs, hL1, d1, w2, e1, encI]
    exact (kp0.put (hLb _ _)).fin (l := [.int .i32 x]) (by simp [wk, aBuiltin, AV.cells, AV.leaf, Nat.reduceEqDiff, Nat.reduceLT, Nat.reduceAdd, Nat.reduceLeDiff, reduceCtorEq, Nat.reduceMul, cfgP, u85, hlen, aResults, aResult]) (.still rfl)
  · have d1 : decide (((l.length : Nat) : Int) < ((at_ + 1 : Nat) : Int)) = true := decide_eq_true (by omega)
    have d3 : decide (l.length ≤ at_) = true := decide_eq_true (by omega)
    rw [pk_ge (by omega), d3, Bool.or_true]
    simp only [wk, aBuiltin, AV.cells, AV.leaf, Nat.reduceEqDiff, Nat.reduceLT, Nat.reduceAdd, Nat.reduceLeDiff, reduceCtorEq, Nat.reduceMul, cfgP, u85, hlen, a0, hg, hww, hput1, hgs, hL1, d1, hput2]
    exact (kp0.put (hLb _ _)).fin (l := [.int .i32 (-1)]) (by simp [wk, aBuiltin, AV.cells, AV.leaf, Nat.reduceEqDiff, Nat.reduceLT, Nat.reduceAdd, Nat.reduceLeDiff, reduceCtorEq, Nat.reduceMul, cfgP, u85, hlen, aResults, aResult]) (.still rfl)

theorem rone_ok (s : List UInt8) (c : Int) (hs : s.length ≤ 1000) (prot : Nat) (H : Heap) (hp : prot ≤ H.length) : aLim cfg prot 133 [.int .i32 c, .str s] H = some (.bool (hasS s c), none) := by
  have hsnap : snap H [.int .i32 c, .str s] = some ([.int .i32 c, .str s], false) := rfl
  refine pure_slim rfl (by kernel_rfl) Try.func133 s133 hp hsnap (by simp [Try.f133]) fun fr hlen h => ?_
  simp only [Has, Nat.zero_add] at h
  obtain ⟨a0, a1, -⟩ := h
  simp only [Try.f133] at hlen ⊢
  unfold g133
  simp only [wk, aBuiltin, AV.cells, AV.leaf, Nat.reduceEqDiff, Nat.reduceLT, Nat.reduceAdd, Nat.reduceLeDiff, reduceCtorEq, Nat.reduceMul, cfgP, u85, hlen, a0, a1]
  refine loop_rule (fun m fr H' => ∃ (k : Nat), m = s.length - k ∧ k ≤ s.length ∧ fr.length = 18 ∧ fget fr 0 = .int .i32 c ∧ fget fr 1 = .str s ∧ fget fr 5 = .int .i64 k ∧ H.length ≤ H'.length ∧ hasS s c = hasS (s.drop k) c) ?_ s.length _ _ ⟨0, by simp [wk, aBuiltin, AV.cells, AV.leaf, Nat.reduceEqDiff, Nat.reduceLT, Nat.reduceAdd, Nat.reduceLeDiff, reduceCtorEq, Nat.reduceMul, cfgP, u85, hlen, a0, a1]⟩
  rintro m fr H' ⟨k, rfl, hk, hlen, a0, a1, a5, hH, hc⟩ ih
  simp only [wk, aBuiltin, AV.cells, AV.leaf, Nat.reduceEqDiff, Nat.reduceLT, Nat.reduceAdd, Nat.reduceLeDiff, reduceCtorEq, Nat.reduceMul, cfgP, u85, hlen, a0, a1, a5, str_len Try.underlying9]
  refine RC_split (fun h => ?_) (fun h => ?_)
  · have hlt : k < s.length := by simpa using h
    have e1 := str_at (P := Try.prog) Try.underlying9 s (k := .i64) hlt
    have hww : IntKind.i64.wrap ((k : Int) + 1) = ((k + 1 : Nat) : Int) := by rw [wrap64 (by omega) (by omega)]; simp
    have hd : s.drop k = s[k] :: s.drop (k + 1) := by simp
    rw [hd] at hc
    generalize s[k] = x at *
    have hx := x.toNat_lt
    have w1 : IntKind.i32.wrap ((x.toNat : Nat) : Int) = ((x.toNat : Nat) : Int) := by simp [IntKind.wrap, IntKind.bits, IntKind.signed]; omega
    have hcs : hasS (x :: s.drop (k + 1)) c = (decide ((x.toNat : Int) = c) || hasS (s.drop (k + 1)) c) := by simp [hasS]
    rw [hcs] at hc
    by_cases h1 : (x.toNat : Int) = c
    · rw [decide_eq_true h1, Bool.true_or] at hc
      have d1 : decide ((x.toNat : Int) = c) = true := decide_eq_true h1
      rw [hc]
      simp only [wk, aBuiltin, AV.cells, AV.leaf, Nat.reduceEqDiff, Nat.reduceLT, Nat.reduceAdd, Nat.reduceLeDiff, reduceCtorEq, Nat.reduceMul, cfgP, u85, hlen, a0, a1, a5, e1, w1, d1]
      exact Fin_pure (l := [.bool true]) (by simp [wk, aBuiltin, AV.cells, AV.leaf, Nat.reduceEqDiff, Nat.reduceLT, Nat.reduceAdd, Nat.reduceLeDiff, reduceCtorEq, Nat.reduceMul, cfgP, u85, aResults, aResult, hlen]) (.still rfl) (by simp)
    · rw [decide_eq_false h1, Bool.false_or] at hc
      have d1 : decide ((x.toNat : Int) = c) = false := decide_eq_false h1
      simp only [wk, aBuiltin, AV.cells, AV.leaf, Nat.reduceEqDiff, Nat.reduceLT, Nat.reduceAdd, Nat.reduceLeDiff, reduceCtorEq, Nat.reduceMul, cfgP, u85, hlen, a0, a1, a5, e1, w1, d1, hww]
      refine ih _ _ (s.length - (k + 1)) (by omega) ⟨k + 1, rfl, hlt, ?_⟩
      simp [wk, aBuiltin, AV.cells, AV.leaf, Nat.reduceEqDiff, Nat.reduceLT, Nat.reduceAdd, Nat.reduceLeDiff, reduceCtorEq, Nat.reduceMul, cfgP, u85, hlen, a0, a1, hH, hc]
  · have hnl : ¬ k < s.length := by simpa using h
    have : s.drop k = [] := by simp; omega
    rw [this] at hc
    have h0 : hasS [] c = false := rfl
    rw [hc, h0]
    simp only [wk, aBuiltin, AV.cells, AV.leaf, Nat.reduceEqDiff, Nat.reduceLT, Nat.reduceAdd, Nat.reduceLeDiff, reduceCtorEq, Nat.reduceMul, cfgP, u85, hlen, a0, a1, a5]
    exact Fin_pure (l := [.bool false]) (by simp [wk, aBuiltin, AV.cells, AV.leaf, Nat.reduceEqDiff, Nat.reduceLT, Nat.reduceAdd, Nat.reduceLeDiff, reduceCtorEq, Nat.reduceMul, cfgP, u85, aResults, aResult, hlen]) (.still rfl) (by simp)
end Go.Proofs.Ytoblikhnbddfmaa
/-! Chapter 15 of the document: escapes, numbers, classes, walked. -/
namespace Go.Proofs.Ytoblikhnbddfmaa
open Go Go.Abs AbsSeat Ty

theorem wordy_rd (c : Nat) : wordyC (c : Int) = (letterC (c : Int) || digitC (c : Int)) := by
  rw [Bool.eq_iff_iff]
  simp only [wordyC, letterC, greatC, digitC, Bool.or_eq_true, Bool.and_eq_true, decide_eq_true_eq]
  omega

theorem resc_ok (l : List Int) (L : AV) (hL : Sl encI L l) (hl : Runes l) (at_ b : Nat) (hat : at_ ≤ 2000000) (bad : Bool) (prot : Nat) (H : Heap) (hp : prot ≤ b) (hg : hget H b 0 = some [L, .int .i64 at_, .bool bad]) :
    aLim cfg prot 131 [.ptr b 0 0] H = some (.vs ((escS (pk l at_)).1.map encG) true, some (H.set b (.cells 0 [L, .int .i64 ((at_ + 1 : Nat)), .bool (bad || !(escS (pk l at_)).2)]))) := by
  have hb := hget_lt hg
  have hll := hl.1
  have n1 := rnext15_ok l L hL hl at_ b bad hat prot H hp hg
  have hgs : ∀ c, hget (H.set b (.cells 0 c)) b 0 = some c := fun c => hget_set_at hb
  have hLb : ∀ (x : Int) (y : Bool), AV.blwL H.length [L, .int .i64 x, .bool y] = true := fun x y => plL_blwL _ _ (slI_plain3 hL _ _)
  have kp := fun (x : Int) (y : Bool) => (Kp.start hg).put (hLb x y)
  have hfz : ∀ (K : Heap) (m : List Sg), Frz K H.length (packR [.vs (m.map encG) true]) (.vs (m.map encG) true) := fun K m => .still rfl
  have hlc : pk l at_ ≠ -1 → decide (l.length ≤ at_) = false := fun h => decide_eq_false (by have := pk_in h; omega)
  have hlc2 : pk l at_ = -1 → decide (l.length ≤ at_) = true := fun h => decide_eq_true (by
    refine Classical.byContradiction fun hn => ?_
    rw [pk_lt (by omega)] at h
    have := hl.2 _ (List.getElem_mem (l := l) (n := at_) (by omega))
    omega)
  have hr := pk_nn hl at_
  generalize pk l at_ = c at *
  refine trim_slim rfl (by kernel_rfl) (by kernel_rfl) (by kernel_rfl) Try.func131 s131 (by simp [Try.f131]) fun fr hlen h => ?_
  simp only [Has, Nat.zero_add] at h
  obtain ⟨a0, -⟩ := h
  simp only [Try.f131] at hlen ⊢
  unfold g131
  by_cases h1 : c = 100
  · subst h1
    have e : escS 100 = ([⟨48, 57⟩], true) := rfl
    rw [hlc (by decide)] at n1
    rw [e]
    simp only [wk, aBuiltin, AV.cells, AV.leaf, Nat.reduceEqDiff, Nat.reduceLT, Nat.reduceAdd, Nat.reduceLeDiff, reduceCtorEq, Nat.reduceMul, cfgP, u85, hlen, a0, n1, rlitG1, none_beq]
    exact (kp _ _).fin (l := [.vs (([⟨48, 57⟩] : List Sg).map encG) true]) (by simp [wk, aBuiltin, AV.cells, AV.leaf, Nat.reduceEqDiff, Nat.reduceLT, Nat.reduceAdd, Nat.reduceLeDiff, reduceCtorEq, Nat.reduceMul, cfgP, u85, hlen, aResults, aResult]) (hfz _ _)
  by_cases h2 : c = 119
  · subst h2
    have d1 : decide ((119 : Int) = 100) = false := by decide
    have e : escS 119 = ([⟨97, 122⟩, ⟨65, 90⟩, ⟨48, 57⟩, ⟨95, 95⟩], true) := rfl
    rw [hlc (by decide)] at n1
    rw [e]
    simp only [wk, aBuiltin, AV.cells, AV.leaf, Nat.reduceEqDiff, Nat.reduceLT, Nat.reduceAdd, Nat.reduceLeDiff, reduceCtorEq, Nat.reduceMul, cfgP, u85, hlen, a0, n1, rlitG4, d1, none_beq]
    exact (kp _ _).fin (l := [.vs (([⟨97, 122⟩, ⟨65, 90⟩, ⟨48, 57⟩, ⟨95, 95⟩] : List Sg).map encG) true]) (by simp [wk, aBuiltin, AV.cells, AV.leaf, Nat.reduceEqDiff, Nat.reduceLT, Nat.reduceAdd, Nat.reduceLeDiff, reduceCtorEq, Nat.reduceMul, cfgP, u85, hlen, aResults, aResult]) (hfz _ _)
  by_cases h3 : c = 115
  · subst h3
    have d1 : decide ((115 : Int) = 100) = false := by decide
    have d2 : decide ((115 : Int) = 119) = false := by decide
    have e : escS 115 = ([⟨9, 9⟩, ⟨10, 10⟩, ⟨13, 13⟩, ⟨32, 32⟩], true) := rfl
    rw [hlc (by decide)] at n1
    rw [e]
    simp only [wk, aBuiltin, AV.cells, AV.leaf, Nat.reduceEqDiff, Nat.reduceLT, Nat.reduceAdd, Nat.reduceLeDiff, reduceCtorEq, Nat.reduceMul, cfgP, u85, hlen, a0, n1, rlitG4, d1, d2, none_beq]
    exact (kp _ _).fin (l := [.vs (([⟨9, 9⟩, ⟨10, 10⟩, ⟨13, 13⟩, ⟨32, 32⟩] : List Sg).map encG) true]) (by simp [wk, aBuiltin, AV.cells, AV.leaf, Nat.reduceEqDiff, Nat.reduceLT, Nat.reduceAdd, Nat.reduceLeDiff, reduceCtorEq, Nat.reduceMul, cfgP, u85, hlen, aResults, aResult]) (hfz _ _)
  have e : escS c = ([⟨c, c⟩], decide (32 < c) && decide (c < 127) && !wordyC c) := by simp [escS, h1, h2, h3]
  rw [e]
  have d1 : decide (c = 100) = false := by simp [h1]
  have d2 : decide (c = 119) = false := by simp [h2]
  have d3 : decide (c = 115) = false := by simp [h3]
  have hp2 : ∀ y, hput prot (H.set b (.cells 0 [L, .int .i64 ((at_ + 1 : Nat)), .bool y])) b 0 2 [.bool true] = some (H.set b (.cells 0 [L, .int .i64 ((at_ + 1 : Nat)), .bool true])) := fun y => by
    have := (hput3 (prot := prot) (a' := 0) (x' := true) (hgs [L, .int .i64 ((at_ + 1 : Nat)), .bool y]) hp).2
    rw [List.set_set] at this; exact this
  have hlK : ∀ c, prot ≤ (H.set b (.cells 0 c)).length := fun c => by simp; omega
  by_cases h4 : c < 33
  · have d4 : decide (c < 33) = true := decide_eq_true h4
    have d5 : decide (32 < c) = false := decide_eq_false (by omega)
    simp only [d5, Bool.false_and, Bool.not_false, Bool.or_true]
    simp only [wk, aBuiltin, AV.cells, AV.leaf, Nat.reduceEqDiff, Nat.reduceLT, Nat.reduceAdd, Nat.reduceLeDiff, reduceCtorEq, Nat.reduceMul, cfgP, u85, hlen, a0, n1, d1, d2, d3, d4, hp2, rlitG1, none_beq]
    exact (kp _ _).fin (l := [.vs (([⟨c, c⟩] : List Sg).map encG) true]) (by simp [wk, aBuiltin, AV.cells, AV.leaf, Nat.reduceEqDiff, Nat.reduceLT, Nat.reduceAdd, Nat.reduceLeDiff, reduceCtorEq, Nat.reduceMul, cfgP, u85, hlen, aResults, aResult]) (hfz _ _)
  · have d4 : decide (c < 33) = false := decide_eq_false h4
    have d5 : decide (32 < c) = true := decide_eq_true (by omega)
    rw [hlc (by omega)] at n1
    by_cases h5 : 126 < c
    · have d6 : decide (126 < c) = true := decide_eq_true h5
      have d7 : decide (c < 127) = false := decide_eq_false (by omega)
      simp only [d5, d7, Bool.true_and, Bool.false_and, Bool.not_false, Bool.or_true]
      simp only [wk, aBuiltin, AV.cells, AV.leaf, Nat.reduceEqDiff, Nat.reduceLT, Nat.reduceAdd, Nat.reduceLeDiff, reduceCtorEq, Nat.reduceMul, cfgP, u85, hlen, a0, n1, d1, d2, d3, d4, d6, hp2, rlitG1, none_beq]
      exact (kp _ _).fin (l := [.vs (([⟨c, c⟩] : List Sg).map encG) true]) (by simp [wk, aBuiltin, AV.cells, AV.leaf, Nat.reduceEqDiff, Nat.reduceLT, Nat.reduceAdd, Nat.reduceLeDiff, reduceCtorEq, Nat.reduceMul, cfgP, u85, hlen, aResults, aResult]) (hfz _ _)
    · have d6 : decide (126 < c) = false := decide_eq_false h5
      have d7 : decide (c < 127) = true := decide_eq_true (by omega)
      obtain ⟨n, rfl⟩ : ∃ n : Nat, c = n := ⟨c.toNat, by omega⟩
      have en : (UInt8.ofNat n).toNat = n := by simp; omega
      have w1 : IntKind.u8.wrap (n : Int) = (n : Int) := by simp [IntKind.wrap, IntKind.bits, IntKind.signed]; omega
      have n2 := fun (K : Heap) (hK : prot ≤ K.length) => rletter_ok (UInt8.ofNat n) prot K hK
      have n3 := fun (K : Heap) (hK : prot ≤ K.length) => rdigit_ok (UInt8.ofNat n) prot K hK
      rw [en] at n2 n3
      have hw := wordy_rd n
      simp only [d5, d7, Bool.true_and, Bool.not_not]
      rw [hw]
      cases hlt : letterC (n : Int) with
      | true =>
        rw [hlt] at n2
        simp only [Bool.true_or, Bool.or_true]
        simp only [wk, aBuiltin, AV.cells, AV.leaf, Nat.reduceEqDiff, Nat.reduceLT, Nat.reduceAdd, Nat.reduceLeDiff, reduceCtorEq, Nat.reduceMul, cfgP, u85, hlen, a0, n1, d1, d2, d3, d4, d6, w1, n2, hlK, hp2, rlitG1, none_beq]
        exact (kp _ _).fin (l := [.vs (([⟨n, n⟩] : List Sg).map encG) true]) (by simp [wk, aBuiltin, AV.cells, AV.leaf, Nat.reduceEqDiff, Nat.reduceLT, Nat.reduceAdd, Nat.reduceLeDiff, reduceCtorEq, Nat.reduceMul, cfgP, u85, hlen, aResults, aResult]) (hfz _ _)
      | false =>
        rw [hlt] at n2
        cases hdg : digitC (n : Int) with
        | true =>
          rw [hdg] at n3
          simp only [Bool.false_or, Bool.or_true]
          simp only [wk, aBuiltin, AV.cells, AV.leaf, Nat.reduceEqDiff, Nat.reduceLT, Nat.reduceAdd, Nat.reduceLeDiff, reduceCtorEq, Nat.reduceMul, cfgP, u85, hlen, a0, n1, d1, d2, d3, d4, d6, w1, n2, n3, hlK, hp2, rlitG1, none_beq]
          exact (kp _ _).fin (l := [.vs (([⟨n, n⟩] : List Sg).map encG) true]) (by simp [wk, aBuiltin, AV.cells, AV.leaf, Nat.reduceEqDiff, Nat.reduceLT, Nat.reduceAdd, Nat.reduceLeDiff, reduceCtorEq, Nat.reduceMul, cfgP, u85, hlen, aResults, aResult]) (hfz _ _)
        | false =>
          rw [hdg] at n3
          simp only [Bool.or_false] at n1 ⊢
          simp only [wk, aBuiltin, AV.cells, AV.leaf, Nat.reduceEqDiff, Nat.reduceLT, Nat.reduceAdd, Nat.reduceLeDiff, reduceCtorEq, Nat.reduceMul, cfgP, u85, hlen, a0, n1, d1, d2, d3, d4, d6, w1, n2, n3, hlK, hp2, rlitG1, none_beq]
          exact (kp _ _).fin (l := [.vs (([⟨n, n⟩] : List Sg).map encG) true]) (by simp [wk, aBuiltin, AV.cells, AV.leaf, Nat.reduceEqDiff, Nat.reduceLT, Nat.reduceAdd, Nat.reduceLeDiff, reduceCtorEq, Nat.reduceMul, cfgP, u85, hlen, aResults, aResult]) (hfz _ _)
/-- what the first digits tell. -/
def numP (l : List Int) (i : Nat) : Nat → Int
  | 0 => 0
  | 1 => pk l i - 48
  | _ => 10 * (pk l i - 48) + (pk l (i + 1) - 48)
theorem numP_step (l : List Int) (i k : Nat) (hk : k < 2) : 10 * numP l i k + pk l (i + k) - 48 = numP l i (k + 1) := by
  have : k = 0 ∨ k = 1 := by omega
  rcases this with rfl | rfl <;> simp [numP] <;> omega
theorem numP_end (l : List Int) (i : Nat) : numP l i (numL l i) = numV l i := by
  unfold numL numV
  by_cases h1 : dgC (pk l i) = true
  · by_cases h2 : dgC (pk l (i + 1)) = true <;> simp [h1, h2, numP]
  · simp [h1, numP]
theorem numP_in (l : List Int) (i k : Nat) (hk : k ≤ numL l i) : 0 ≤ numP l i k ∧ numP l i k ≤ 99 := by
  have hk2 : k = 0 ∨ (k = 1 ∧ dgC (pk l i) = true) ∨ (k = 2 ∧ dgC (pk l i) = true ∧ dgC (pk l (i + 1)) = true) := by
    unfold numL at hk
    by_cases h1 : dgC (pk l i) = true
    · by_cases h2 : dgC (pk l (i + 1)) = true
      · simp only [h1, h2, if_true] at hk
        have : k = 0 ∨ k = 1 ∨ k = 2 := by omega
        rcases this with h | h | h
        · exact .inl h
        · exact .inr (.inl ⟨h, h1⟩)
        · exact .inr (.inr ⟨h, h1, h2⟩)
      · simp only [h1, h2, if_true, Bool.false_eq_true, if_false] at hk
        have : k = 0 ∨ k = 1 := by omega
        rcases this with h | h
        · exact .inl h
        · exact .inr (.inl ⟨h, h1⟩)
    · simp only [h1, Bool.false_eq_true, if_false] at hk
      exact .inl (by omega)
  rcases hk2 with rfl | ⟨rfl, h1⟩ | ⟨rfl, h1, h2⟩
  · simp [numP]
  · have := dgC_iff.1 h1
    simp only [numP]; omega
  · have := dgC_iff.1 h1
    have := dgC_iff.1 h2
    simp only [numP]; omega

theorem rnum_ok (l : List Int) (L : AV) (hL : Sl encI L l) (hl : Runes l) (at_ b : Nat) (hat : at_ ≤ l.length) (bad : Bool) (prot : Nat) (H : Heap) (hp : prot ≤ b) (hg : hget H b 0 = some [L, .int .i64 at_, .bool bad]) :
    aLim cfg prot 118 [.ptr b 0 0] H = some (.int .i64 (numV l at_), some (H.set b (.cells 0 [L, .int .i64 ((at_ + numL l at_ : Nat)), .bool (bad || !numB l at_)]))) := by
  have hb := hget_lt hg
  have hll := hl.1
  have hin := numL_in hat
  have kp0 := Kp.start hg
  have hLb : ∀ (x : Int) (y : Bool), AV.blwL H.length [L, .int .i64 x, .bool y] = true := fun x y => plL_blwL _ _ (slI_plain3 hL _ _)
  have hL1 := fun K : Heap => hL.len (H := K) Try.underlying80
  refine trim_slim rfl (by kernel_rfl) (by kernel_rfl) (by kernel_rfl) Try.func118 s118 (by simp [Try.f118]) fun fr hlen h => ?_
  simp only [Has, Nat.zero_add] at h
  obtain ⟨a0, -⟩ := h
  simp only [Try.f118] at hlen ⊢
  unfold g118
  simp only [wk, aBuiltin, AV.cells, AV.leaf, Nat.reduceEqDiff, Nat.reduceLT, Nat.reduceAdd, Nat.reduceLeDiff, reduceCtorEq, Nat.reduceMul, cfgP, u85, hlen, a0, hg]
  refine loop_rule (fun m fr H' => ∃ (k : Nat), m = numL l at_ - k ∧ k ≤ numL l at_ ∧ fr.length = 79 ∧ fget fr 0 = .ptr b 0 0 ∧ fget fr 4 = .int .i64 k ∧ fget fr 3 = .int .i64 (numP l at_ k) ∧ Kp H b [L, .int .i64 ((at_ + k : Nat)), .bool bad] H') ?_ (numL l at_) _ _ ⟨0, by
      refine ⟨by omega, by omega, ?_⟩
      simp [wk, aBuiltin, AV.cells, AV.leaf, Nat.reduceEqDiff, Nat.reduceLT, Nat.reduceAdd, Nat.reduceLeDiff, reduceCtorEq, Nat.reduceMul, cfgP, u85, hlen, a0, numP]
      exact kp0⟩
  rintro m fr H' ⟨k, rfl, hk, hlen, a0, a4, a3, kp⟩ ih
  have hlt := numL_lt hk
  have hg' := kp.get
  by_cases hc : k < numL l at_
  · obtain ⟨hk2, hd⟩ := hlt.1 hc
    have hd := dgC_iff.1 hd
    have hi := pk_in (l := l) (i := at_ + k) (by omega)
    have e1 := hL.at (k := .i64) (i := at_ + k) Try.underlying80 sz21 encI_len hi
    have hnp := numP_step l at_ k hk2
    have hpk : pk l (at_ + k) = l[at_ + k] := pk_lt hi
    rw [hpk] at hd hnp
    have hnb := numP_in l at_ k hk
    generalize l[at_ + k] = c at *
    have d1 : decide ((k : Int) < 2) = true := decide_eq_true (by omega)
    have d2 : decide (((at_ + k : Nat) : Int) < (l.length : Nat)) = true := decide_eq_true (by omega)
    have d3 : decide (48 ≤ c) = true := decide_eq_true (by omega)
    have d4 : decide (c ≤ 57) = true := decide_eq_true (by omega)
    have hww : IntKind.i64.wrap (((at_ + k : Nat) : Int) + 1) = ((at_ + k + 1 : Nat) : Int) := by rw [wrap64 (by omega) (by omega)]; simp
    have hwk : IntKind.i64.wrap ((k : Int) + 1) = ((k + 1 : Nat) : Int) := by rw [wrap64 (by omega) (by omega)]; simp
    have hput1 := (hput3 (prot := prot) (a' := ((at_ + k + 1 : Nat) : Int)) (x' := true) hg' hp).1
    generalize numP l at_ k = v at *
    have w1 : IntKind.i64.wrap (10 * v) = 10 * v := wrap64 (by omega) (by omega)
    have w2 : IntKind.i64.wrap c = c := wrap64 (by omega) (by omega)
    have w3 : IntKind.i64.wrap (10 * v + c) = 10 * v + c := wrap64 (by omega) (by omega)
    have w4 : IntKind.i64.wrap (10 * v + c - 48) = 10 * v + c - 48 := wrap64 (by omega) (by omega)
    simp only [wk, aBuiltin, AV.cells, AV.leaf, Nat.reduceEqDiff, Nat.reduceLT, Nat.reduceAdd, Nat.reduceLeDiff, reduceCtorEq, Nat.reduceMul, cfgP, u85, hlen, a0, a4, a3, hg', hL1, e1, encI, d1, d2, d3, d4, w1, w2, w3, w4, hww, hwk, hput1, none_beq]
    refine ih _ _ (numL l at_ - (k + 1)) (by omega) ⟨k + 1, rfl, by omega, ?_⟩
    exact ⟨by simp [wk, aBuiltin, AV.cells, AV.leaf, Nat.reduceEqDiff, Nat.reduceLT, Nat.reduceAdd, Nat.reduceLeDiff, reduceCtorEq, Nat.reduceMul, cfgP, u85, hlen], by simp [wk, aBuiltin, AV.cells, AV.leaf, Nat.reduceEqDiff, Nat.reduceLT, Nat.reduceAdd, Nat.reduceLeDiff, reduceCtorEq, Nat.reduceMul, cfgP, u85, hlen, a0], by simp [wk, aBuiltin, AV.cells, AV.leaf, Nat.reduceEqDiff, Nat.reduceLT, Nat.reduceAdd, Nat.reduceLeDiff, reduceCtorEq, Nat.reduceMul, cfgP, u85, hlen], by simp [wk, aBuiltin, AV.cells, AV.leaf, Nat.reduceEqDiff, Nat.reduceLT, Nat.reduceAdd, Nat.reduceLeDiff, reduceCtorEq, Nat.reduceMul, cfgP, u85, hlen, hnp], kp.put (hLb _ _)⟩
  · obtain rfl : k = numL l at_ := by omega
    have hnv := numP_end l at_
    rw [hnv] at a3
    have hnb : numB l at_ = (decide (0 < numL l at_) && decide (numV l at_ ≤ 16)) := rfl
    have hdis : 2 ≤ numL l at_ ∨ (numL l at_ < 2 ∧ l.length ≤ at_ + numL l at_) ∨ (∃ h : at_ + numL l at_ < l.length, numL l at_ < 2 ∧ l[at_ + numL l at_] < 48) ∨ (∃ h : at_ + numL l at_ < l.length, numL l at_ < 2 ∧ ¬ l[at_ + numL l at_] < 48 ∧ 57 < l[at_ + numL l at_]) := by
      by_cases h2 : 2 ≤ numL l at_
      · exact .inl h2
      · by_cases h1 : l.length ≤ at_ + numL l at_
        · exact .inr (.inl ⟨by omega, h1⟩)
        · have hi : at_ + numL l at_ < l.length := by omega
          have h3 : ¬ dgC (pk l (at_ + numL l at_)) = true := fun h => hc (hlt.2 ⟨by omega, h⟩)
          rw [pk_lt hi, dgC_iff] at h3
          by_cases h4 : l[at_ + numL l at_] < 48
          · exact .inr (.inr (.inl ⟨hi, by omega, h4⟩))
          · exact .inr (.inr (.inr ⟨hi, by omega, h4, by omega⟩))
    have hput2 := (hput3 (prot := prot) (a' := 0) (x' := true) hg' hp).2
    have hend : (numL l at_ = 0 ∧ numB l at_ = false) ∨ (numL l at_ ≠ 0 ∧ 16 < numV l at_ ∧ numB l at_ = false) ∨ (numL l at_ ≠ 0 ∧ ¬ 16 < numV l at_ ∧ numB l at_ = true) := by
      by_cases h0 : numL l at_ = 0
      · exact .inl ⟨h0, by rw [hnb, h0]; rfl⟩
      · by_cases h1 : 16 < numV l at_
        · exact .inr (.inl ⟨h0, h1, by rw [hnb, decide_eq_false (show ¬ numV l at_ ≤ 16 by omega), Bool.and_false]⟩)
        · exact .inr (.inr ⟨h0, h1, by rw [hnb, decide_eq_true (show 0 < numL l at_ by omega), decide_eq_true (show numV l at_ ≤ 16 by omega)]; rfl⟩)
    clear hnb
    have q : (decide ((numL l at_ : Int) < 2) = false ∧ True ∧ True ∧ True ∧ True) ∨ (decide ((numL l at_ : Int) < 2) = true ∧ decide (((at_ + numL l at_ : Nat) : Int) < (l.length : Nat)) = false ∧ True ∧ True ∧ True) ∨
        (∃ c : Int, decide ((numL l at_ : Int) < 2) = true ∧ decide (((at_ + numL l at_ : Nat) : Int) < (l.length : Nat)) = true ∧ aIndexAddr Try.prog 80 L (.int .i64 ((at_ + numL l at_ : Nat) : Int)) = some (.vptr [.int .i32 c] 0) ∧ decide (48 ≤ c) = false ∧ True) ∨
        (∃ c : Int, decide ((numL l at_ : Int) < 2) = true ∧ decide (((at_ + numL l at_ : Nat) : Int) < (l.length : Nat)) = true ∧ aIndexAddr Try.prog 80 L (.int .i64 ((at_ + numL l at_ : Nat) : Int)) = some (.vptr [.int .i32 c] 0) ∧ decide (48 ≤ c) = true ∧ decide (c ≤ 57) = false) := by
      rcases hdis with h | ⟨h, h1⟩ | ⟨h, h1, h2⟩ | ⟨h, h1, h2, h3⟩
      · exact .inl ⟨decide_eq_false (by omega), trivial, trivial, trivial, trivial⟩
      · exact .inr (.inl ⟨decide_eq_true (by omega), decide_eq_false (by omega), trivial, trivial, trivial⟩)
      · exact .inr (.inr (.inl ⟨_, decide_eq_true (by omega), decide_eq_true (by omega), hL.at (k := .i64) (i := at_ + numL l at_) Try.underlying80 sz21 encI_len h, decide_eq_false (by omega), trivial⟩))
      · exact .inr (.inr (.inr ⟨_, decide_eq_true (by omega), decide_eq_true (by omega), hL.at (k := .i64) (i := at_ + numL l at_) Try.underlying80 sz21 encI_len h, decide_eq_true (by omega), decide_eq_false (by omega)⟩))
    rcases hend with ⟨h0, hb0⟩ | ⟨h0, h16, hb0⟩ | ⟨h0, h16, hb0⟩
    · have d5 : decide ((numL l at_ : Int) = 0) = true := decide_eq_true (by omega)
      rw [hb0, Bool.not_false, Bool.or_true]
      rcases q with ⟨d1, d2, e1, d3, d4⟩ | ⟨d1, d2, e1, d3, d4⟩ | ⟨c, d1, d2, e1, d3, d4⟩ | ⟨c, d1, d2, e1, d3, d4⟩
      all_goals
        simp only [wk, aBuiltin, AV.cells, AV.leaf, Nat.reduceEqDiff, Nat.reduceLT, Nat.reduceAdd, Nat.reduceLeDiff, reduceCtorEq, Nat.reduceMul, cfgP, u85, hlen, a0, a4, a3, hg', hL1, e1, d1, d2, d3, d4, d5, hput2, none_beq]
        exact (kp.put (hLb _ _)).fin (l := [.int .i64 (numV l at_)]) (by simp [wk, aBuiltin, AV.cells, AV.leaf, Nat.reduceEqDiff, Nat.reduceLT, Nat.reduceAdd, Nat.reduceLeDiff, reduceCtorEq, Nat.reduceMul, cfgP, u85, hlen, a3, aResults, aResult]) (.still rfl)
    · have d5 : decide ((numL l at_ : Int) = 0) = false := decide_eq_false (by omega)
      have d6 : decide (16 < numV l at_) = true := decide_eq_true h16
      rw [hb0, Bool.not_false, Bool.or_true]
      rcases q with ⟨d1, d2, e1, d3, d4⟩ | ⟨d1, d2, e1, d3, d4⟩ | ⟨c, d1, d2, e1, d3, d4⟩ | ⟨c, d1, d2, e1, d3, d4⟩
      all_goals
        simp only [wk, aBuiltin, AV.cells, AV.leaf, Nat.reduceEqDiff, Nat.reduceLT, Nat.reduceAdd, Nat.reduceLeDiff, reduceCtorEq, Nat.reduceMul, cfgP, u85, hlen, a0, a4, a3, hg', hL1, e1, d1, d2, d3, d4, d5, d6, hput2, none_beq]
        exact (kp.put (hLb _ _)).fin (l := [.int .i64 (numV l at_)]) (by simp [wk, aBuiltin, AV.cells, AV.leaf, Nat.reduceEqDiff, Nat.reduceLT, Nat.reduceAdd, Nat.reduceLeDiff, reduceCtorEq, Nat.reduceMul, cfgP, u85, hlen, a3, aResults, aResult]) (.still rfl)
    · have d5 : decide ((numL l at_ : Int) = 0) = false := decide_eq_false (by omega)
      have d6 : decide (16 < numV l at_) = false := decide_eq_false h16
      rw [hb0, Bool.not_true, Bool.or_false]
      rcases q with ⟨d1, d2, e1, d3, d4⟩ | ⟨d1, d2, e1, d3, d4⟩ | ⟨c, d1, d2, e1, d3, d4⟩ | ⟨c, d1, d2, e1, d3, d4⟩
      all_goals
        simp only [wk, aBuiltin, AV.cells, AV.leaf, Nat.reduceEqDiff, Nat.reduceLT, Nat.reduceAdd, Nat.reduceLeDiff, reduceCtorEq, Nat.reduceMul, cfgP, u85, hlen, a0, a4, a3, hg', hL1, e1, d1, d2, d3, d4, d5, d6, hput2, none_beq]
        exact kp.fin (l := [.int .i64 (numV l at_)]) (by simp [wk, aBuiltin, AV.cells, AV.leaf, Nat.reduceEqDiff, Nat.reduceLT, Nat.reduceAdd, Nat.reduceLeDiff, reduceCtorEq, Nat.reduceMul, cfgP, u85, hlen, a3, aResults, aResult]) (.still rfl)
end Go.Proofs.Ytoblikhnbddfmaa
