import Derived.Test.YtnipaiklandliaaGreatDoorM4MatchEither
import Derived.Test.YtnipaiklandliaaGreatDoorAbsTy
import Derived.Test.YtnipaiklandliaaGreatDoorAbsMore
/-! Part 5 of the proof of MatchEither. -/
set_option linter.unusedSimpArgs false
/- Matchers: made, of a list, fitting: walked. -/
set_option maxRecDepth 100000
namespace Go.Proofs.YtnipaiklandliaaGreatDoor
open Go Go.Abs AbsSeat Ty
open Nat (reduceEqDiff reduceLT reduceAdd reduceLeDiff reduceMul reduceMod)
theorem u54 : type_of% (And.intro (show tagT Tryz.prog 54 = 0 from by kernel_rfl) (And.intro (show tagT Tryz.prog 100 = 0 from by kernel_rfl) (And.intro (show tagT Tryz.prog 97 = 0 from by kernel_rfl) (And.intro (show tagT Tryz.prog 27 = 0 from by kernel_rfl) (And.intro (fun (xo yo : Operand) (b v o : Nat) => ptr_nil_eq (xo := xo) (yo := yo) Tryz.underlying45 b v o) (And.intro (fun (xo yo : Operand)  => nil_nil_eq (xo := xo) (yo := yo) Tryz.underlying45 ) (And.intro (show tagT Tryz.prog 74 = 297 from by kernel_rfl) (And.intro ag1 (And.intro sz1 (And.intro by1 (And.intro ze1 (And.intro Tryz.underlying1 (And.intro ag3 (And.intro sz3 (And.intro by3 (And.intro ze3 (And.intro Tryz.underlying3 (And.intro ag4 (And.intro sz4 (And.intro by4 (And.intro ze4 (And.intro Tryz.underlying4 (And.intro ag9 (And.intro sz9 (And.intro by9 (And.intro ze9 (And.intro Tryz.underlying9 (And.intro ag27 (And.intro sz27 (And.intro by27 (And.intro ze27 (And.intro bu27 (And.intro Tryz.underlying27 (And.intro ag28 (And.intro sz28 (And.intro by28 (And.intro ze28 (And.intro Tryz.underlying28 (And.intro ag42 (And.intro sz42 (And.intro by42 (And.intro se42 (And.intro ze42 (And.intro Tryz.underlying42 (And.intro ag45 (And.intro sz45 (And.intro by45 (And.intro ze45 (And.intro Tryz.underlying45 (And.intro ag54 (And.intro sz54 (And.intro by54 (And.intro ze54 (And.intro bu54 (And.intro Tryz.underlying54 (And.intro ag74 (And.intro sz74 (And.intro by74 (And.intro ze74 (And.intro bu74 (And.intro Tryz.underlying74 (And.intro ag95 (And.intro sz95 (And.intro by95 (And.intro se95 (And.intro ze95 (And.intro Tryz.underlying95 (And.intro ag97 (And.intro sz97 (And.intro by97 (And.intro ze97 (And.intro bu97 (And.intro Tryz.underlying97 (And.intro ag98 (And.intro sz98 (And.intro by98 (And.intro ze98 (And.intro Tryz.underlying98 (And.intro ag100 (And.intro sz100 (And.intro by100 (And.intro ze100 (And.intro bu100 (And.intro Tryz.underlying100 (And.intro ag106 (And.intro sz106 (And.intro by106 (And.intro se106 (And.intro ze106 (And.intro Tryz.underlying106 (And.intro fa54_0 (And.intro fd54_0 (And.intro fa54_1 (And.intro fd54_1 (And.intro fa54_2 (And.intro fd54_2 (And.intro fa97_0 (And.intro fd97_0 (And.intro fa100_0 (And.intro fd100_0 (And.intro fa100_1 fd100_1))))))))))))))))))))))))))))))))))))))))))))))))))))))))))))))))))))))))))))))))))))))))))))))))))))) := And.intro (show tagT Tryz.prog 54 = 0 from by kernel_rfl) (And.intro (show tagT Tryz.prog 100 = 0 from by kernel_rfl) (And.intro (show tagT Tryz.prog 97 = 0 from by kernel_rfl) (And.intro (show tagT Tryz.prog 27 = 0 from by kernel_rfl) (And.intro (fun (xo yo : Operand) (b v o : Nat) => ptr_nil_eq (xo := xo) (yo := yo) Tryz.underlying45 b v o) (And.intro (fun (xo yo : Operand)  => nil_nil_eq (xo := xo) (yo := yo) Tryz.underlying45 ) (And.intro (show tagT Tryz.prog 74 = 297 from by kernel_rfl) (And.intro ag1 (And.intro sz1 (And.intro by1 (And.intro ze1 (And.intro Tryz.underlying1 (And.intro ag3 (And.intro sz3 (And.intro by3 (And.intro ze3 (And.intro Tryz.underlying3 (And.intro ag4 (And.intro sz4 (And.intro by4 (And.intro ze4 (And.intro Tryz.underlying4 (And.intro ag9 (And.intro sz9 (And.intro by9 (And.intro ze9 (And.intro Tryz.underlying9 (And.intro ag27 (And.intro sz27 (And.intro by27 (And.intro ze27 (And.intro bu27 (And.intro Tryz.underlying27 (And.intro ag28 (And.intro sz28 (And.intro by28 (And.intro ze28 (And.intro Tryz.underlying28 (And.intro ag42 (And.intro sz42 (And.intro by42 (And.intro se42 (And.intro ze42 (And.intro Tryz.underlying42 (And.intro ag45 (And.intro sz45 (And.intro by45 (And.intro ze45 (And.intro Tryz.underlying45 (And.intro ag54 (And.intro sz54 (And.intro by54 (And.intro ze54 (And.intro bu54 (And.intro Tryz.underlying54 (And.intro ag74 (And.intro sz74 (And.intro by74 (And.intro ze74 (And.intro bu74 (And.intro Tryz.underlying74 (And.intro ag95 (And.intro sz95 (And.intro by95 (And.intro se95 (And.intro ze95 (And.intro Tryz.underlying95 (And.intro ag97 (And.intro sz97 (And.intro by97 (And.intro ze97 (And.intro bu97 (And.intro Tryz.underlying97 (And.intro ag98 (And.intro sz98 (And.intro by98 (And.intro ze98 (And.intro Tryz.underlying98 (And.intro ag100 (And.intro sz100 (And.intro by100 (And.intro ze100 (And.intro bu100 (And.intro Tryz.underlying100 (And.intro ag106 (And.intro sz106 (And.intro by106 (And.intro se106 (And.intro ze106 (And.intro Tryz.underlying106 (And.intro fa54_0 (And.intro fd54_0 (And.intro fa54_1 (And.intro fd54_1 (And.intro fa54_2 (And.intro fd54_2 (And.intro fa97_0 (And.intro fd97_0 (And.intro fa100_0 (And.intro fd100_0 (And.intro fa100_1 fd100_1))))))))))))))))))))))))))))))))))))))))))))))))))))))))))))))))))))))))))))))))))))))))))))))))))))
def g54 : Code :=
 .seq (.region 0 #[q 1 (.box 54 (.tmp 0)) 0, q 2 (.alloc 100) 0, q 3 (.assign (ik 0)) 28] false) (.seq (.region 1 #[q 7 (.load 54 (.tmp 1)) 54, q 8 (.build 100 #[(0, .tmp 7)]) 100, q 4 (.alloc 100) 0, qn (.store 100 (.tmp 4) (.tmp 8)) 0] false) (.seq (.seq (.region 2 #[q 9 (.fieldAddr 54 (.tmp 1) 0) 0, q 10 (.load 9 (.tmp 9)) 9, q 11 (cl 30 #[.tmp 10] #[9]) 4, q 12 (.unOp .not 4 (.tmp 11)) 4, q 13 (.move (.tmp 12)) 4, qg 14 (.fieldAddr 54 (.tmp 1) 2) 0 4 false, qg 15 (.load 9 (.tmp 14)) 9 4 false, qg 16 (cl 31 #[.tmp 15] #[9]) 4 4 false, qg 17 (.unOp .not 4 (.tmp 16)) 4 4 false, q 18 (.pick (.tmp 13) (.const (.bool true)) (.tmp 17)) 4] false) (.cond (.tmp 18) (.seq (.region 3 #[q 19 (.build 100 #[]) 100, qn (.store 100 (.tmp 2) (.tmp 19)) 0, q 3 (.assign (ik 3)) 28] false) .ret) .skip)) (.seq (.seq (.region 4 #[q 20 (.fieldAddr 54 (.tmp 1) 1) 0, q 21 (.load 3 (.tmp 20)) 3] false) (.block 0 (.seq (.block 2 (.seq (.block 1 (.seq (.seq (.seq (.seq (.region 5 #[q 23 (.binOp .eql 3 (.tmp 21) (ik 3) 3) 4, q 22 (.assign (.tmp 23)) 4] false) (.cond (.tmp 22) .skip (.region 6 #[q 24 (.binOp .eql 3 (.tmp 21) (ik 4) 3) 4, q 22 (.assign (.tmp 24)) 4] false))) (.cond (.tmp 22) (.exit 1) .skip)) (.seq (.seq (.region 7 #[q 26 (.binOp .eql 3 (.tmp 21) (ik 1) 3) 4, q 25 (.assign (.tmp 26)) 4] false) (.cond (.tmp 25) .skip (.region 8 #[q 27 (.binOp .eql 3 (.tmp 21) (ik 2) 3) 4, q 25 (.assign (.tmp 27)) 4] false))) (.cond (.tmp 25) (.exit 2) .skip))) (.exit 0))) (.seq (.region 9 #[q 29 (.fieldAddr 54 (.tmp 1) 2) 0, q 30 (.load 9 (.tmp 29)) 9, q 31 (cl 88 #[.tmp 30] #[9]) 143, q 28 (.move (.tmp 31)) 143, q 32 (.extract (.tmp 28) 0) 98, q 33 (.extract (.tmp 28) 1) 28, q 5 (.assign (.tmp 32)) 98, q 6 (.assign (.tmp 33)) 28] false) (.seq (.seq (.region 10 #[q 34 (.move (.tmp 6)) 28, q 35 (.binOp .neq 28 (.tmp 34) (ik 0) 28) 4] false) (.cond (.tmp 35) (.seq (.region 11 #[q 36 (.build 100 #[]) 100, q 37 (.move (.tmp 6)) 28, qn (.store 100 (.tmp 2) (.tmp 36)) 0, q 3 (.assign (.tmp 37)) 28] false) .ret) .skip)) (.region 12 #[q 38 (.move (.tmp 5)) 98, q 39 (.fieldAddr 100 (.tmp 4) 1) 0, qn (.store 98 (.tmp 39) (.tmp 38)) 0] false))))) (.seq (.seq (.region 13 #[q 40 (.load 100 (.tmp 4)) 100, qn (.store 100 (.tmp 2) (.tmp 40)) 0, q 3 (.assign (ik 0)) 28] false) .ret) (.exit 0))))) (.seq (.region 14 #[q 41 (.build 100 #[]) 100, qn (.store 100 (.tmp 2) (.tmp 41)) 0, q 3 (.assign (ik 3)) 28] false) .ret))))
theorem s54 : Tryz.f54.body.map (slim cfg) = some g54 := by kernel_rfl
def g20 : Code :=
 .seq (.region 0 #[q 2 (.assign (.const (.pointer none))) 45, q 3 (.assign (ik 0)) 28] false) (.seq (.region 1 #[q 9 (.build 97 #[]) 97, q 10 (.box 97 (.tmp 9)) 45, q 4 (.assign (.tmp 10)) 45] false) (.seq (.seq (.region 2 #[q 11 (.move (.tmp 0)) 42, q 12 (bi .len #[.tmp 11] #[42]) 3, q 13 (.binOp .gtr 3 (.tmp 12) (ik 32) 3) 4] false) (.cond (.tmp 13) (.seq (.region 3 #[q 2 (.assign (.const (.pointer none))) 45, q 3 (.assign (ik 7)) 28] false) .ret) .skip)) (.seq (.seq (.region 4 #[q 14 (.move (.tmp 0)) 42, q 15 (bi .len #[.tmp 14] #[42]) 3, q 16 (.move (ik 0)) 3] false) (.block 0 (.loop (.seq (.region 5 #[q 17 (.binOp .lss 3 (.tmp 16) (.tmp 15) 3) 0] false) (.seq (.cond (.tmp 17) .skip (.exit 0)) (.seq (.block 1 (.seq (.region 6 #[q 18 (.indexAddr 42 (.tmp 14) (.tmp 16)) 0, q 19 (.load 54 (.tmp 18)) 54, q 6 (.alloc 54) 0, qn (.store 54 (.tmp 6) (.tmp 19)) 0] false) (.seq (.region 7 #[q 21 (.load 54 (.tmp 6)) 54, q 22 (cl 54 #[.tmp 21] #[54]) 101, q 20 (.move (.tmp 22)) 101, q 23 (.extract (.tmp 20) 0) 100, q 24 (.extract (.tmp 20) 1) 28, q 7 (.alloc 100) 0, qn (.store 100 (.tmp 7) (.tmp 23)) 0, q 8 (.assign (.tmp 24)) 28] false) (.seq (.seq (.region 8 #[q 25 (.move (.tmp 8)) 28, q 26 (.binOp .neq 28 (.tmp 25) (ik 0) 28) 4] false) (.cond (.tmp 26) (.seq (.region 9 #[q 27 (.move (.tmp 8)) 28, q 2 (.assign (.const (.pointer none))) 45, q 3 (.assign (.tmp 27)) 28] false) .ret) .skip)) (.region 10 #[{ dst := some 28, op := .move (.tmp 4), type := 45, pos := "match.go:71", after := #[], guard := none }, { dst := some 29, op := .move (.tmp 4), type := 45, pos := "match.go:71", after := #[], guard := none }, { dst := some 30, op := .nilCheck (.tmp 29), type := 0, pos := "match.go:71", after := #[{ on := 1, ground := .data }], guard := none }, { dst := some 31, op := .fieldAddr 97 (.tmp 30) 0, type := 0, pos := "match.go:71", after := #[{ on := 2, ground := .data }], guard := none }, { dst := some 32, op := .load 95 (.tmp 31), type := 95, pos := "match.go:71", after := #[{ on := 3, ground := .data }], guard := none }, { dst := some 33, op := .load 100 (.tmp 7), type := 100, pos := "match.go:71", after := #[], guard := none }, { dst := some 34, op := .buildSlice 95 1 #[(0, .tmp 33)], type := 95, pos := "match.go:71", after := #[{ on := 5, ground := .data }], guard := none }, { dst := some 35, op := bi .append #[.tmp 32, .tmp 34] #[95, 95], type := 95, pos := "match.go:71", after := #[{ on := 4, ground := .data }, { on := 6, ground := .data }], guard := none }, { dst := some 36, op := .nilCheck (.tmp 28), type := 0, pos := "match.go:71", after := #[{ on := 0, ground := .data }, { on := 0, ground := .phase }, { on := 1, ground := .phase }, { on := 2, ground := .phase }, { on := 3, ground := .phase }, { on := 4, ground := .phase }, { on := 5, ground := .phase }, { on := 6, ground := .phase }, { on := 7, ground := .phase }], guard := none }, { dst := some 37, op := .fieldAddr 97 (.tmp 36) 0, type := 0, pos := "match.go:71", after := #[{ on := 8, ground := .data }, { on := 0, ground := .phase }, { on := 1, ground := .phase }, { on := 2, ground := .phase }, { on := 3, ground := .phase }, { on := 4, ground := .phase }, { on := 5, ground := .phase }, { on := 6, ground := .phase }, { on := 7, ground := .phase }], guard := none }, { dst := none, op := .store 95 (.tmp 37) (.tmp 35), type := 0, pos := "match.go:71", after := #[{ on := 9, ground := .data }, { on := 7, ground := .data }, { on := 7, ground := .chain }, { on := 0, ground := .phase }, { on := 1, ground := .phase }, { on := 2, ground := .phase }, { on := 3, ground := .phase }, { on := 4, ground := .phase }, { on := 5, ground := .phase }, { on := 6, ground := .phase }, { on := 7, ground := .phase }], guard := none }] true))))) (.region 11 #[q 38 (.binOp .add 3 (.tmp 16) (ik 1) 3) 3, q 16 (.move (.tmp 38)) 3] false))))))) (.seq (.region 12 #[q 39 (.move (.tmp 4)) 45, q 2 (.assign (.tmp 39)) 45, q 3 (.assign (ik 0)) 28] false) .ret))))
theorem s20 : Tryz.f20.body.map (slim cfg) = some g20 := by kernel_rfl
def g60 : Code :=
 .seq (.region 0 #[q 2 (.box 100 (.tmp 0)) 0, q 3 (.box 27 (.tmp 1)) 0, q 4 (.assign (.const (.bool false))) 4] false) (.seq (.region 1 #[q 7 (.load 27 (.tmp 3)) 27, q 8 (.fieldAddr 100 (.tmp 2) 0) 0, q 9 (.fieldAddr 54 (.tmp 8) 0) 0, q 10 (.load 9 (.tmp 9)) 9, q 11 (cl 91 #[.tmp 7, .tmp 10] #[27, 9]) 9, q 5 (.assign (.tmp 11)) 9] false) (.seq (.region 2 #[q 6 (.assign (.const (.bool false))) 4] false) (.seq (.seq (.region 3 #[q 12 (.fieldAddr 100 (.tmp 2) 0) 0, q 13 (.fieldAddr 54 (.tmp 12) 1) 0, q 14 (.load 3 (.tmp 13)) 3] false) (.block 0 (.seq (.seq (.region 5 #[q 20 (.binOp .eql 3 (.tmp 14) (ik 1) 3) 4, q 19 (.assign (.tmp 20)) 4] false) (.cond (.tmp 19) .skip (.region 6 #[q 21 (.binOp .eql 3 (.tmp 14) (ik 2) 3) 4, q 19 (.assign (.tmp 21)) 4] false))) (.cond (.tmp 19) (.region 7 #[q 22 (.move (.tmp 5)) 9, q 23 (.fieldAddr 100 (.tmp 2) 0) 0, q 24 (.fieldAddr 54 (.tmp 23) 2) 0, q 25 (.load 9 (.tmp 24)) 9, q 26 (.binOp .eql 9 (.tmp 22) (.tmp 25) 9) 4, q 6 (.assign (.tmp 26)) 4] false) (.region 4 #[q 15 (.fieldAddr 100 (.tmp 2) 1) 0, q 16 (.load 98 (.tmp 15)) 98, q 17 (.move (.tmp 5)) 9, q 18 (cl 92 #[.tmp 16, .tmp 17] #[98, 9]) 4, q 6 (.assign (.tmp 18)) 4] false))))) (.seq (.region 8 #[q 27 (.move (.tmp 6)) 4, q 28 (.fieldAddr 100 (.tmp 2) 0) 0, q 29 (.fieldAddr 54 (.tmp 28) 1) 0, q 30 (.load 3 (.tmp 29)) 3, q 31 (.binOp .eql 3 (.tmp 30) (ik 1) 3) 4, q 32 (.move (.tmp 31)) 4, qg 33 (.fieldAddr 100 (.tmp 2) 0) 0 5 false, qg 34 (.fieldAddr 54 (.tmp 33) 1) 0 5 false, qg 35 (.load 3 (.tmp 34)) 3 5 false, qg 36 (.binOp .eql 3 (.tmp 35) (ik 3) 3) 4 5 false, q 37 (.pick (.tmp 32) (.const (.bool true)) (.tmp 36)) 4, q 38 (.binOp .eql 4 (.tmp 27) (.tmp 37) 4) 4, q 4 (.assign (.tmp 38)) 4] false) .ret))))
theorem s60 : Tryz.f60.body.map (slim cfg) = some g60 := by kernel_rfl
def g27 : Code :=
 .seq (.region 0 #[q 3 (.box 27 (.tmp 1)) 0, q 4 (.assign (.const (.bool false))) 4] false) (.seq (.seq (.region 1 #[q 7 (.move (.tmp 0)) 45, q 8 (.binOp .eql 45 (.tmp 7) (.const (.pointer none)) 45) 4] false) (.cond (.tmp 8) (.seq (.region 2 #[q 4 (.assign (.const (.bool true))) 4] false) .ret) .skip)) (.seq (.seq (.region 3 #[q 9 (.move (.tmp 0)) 45, q 10 (.nilCheck (.tmp 9)) 0, q 11 (.fieldAddr 97 (.tmp 10) 0) 0, q 12 (.load 95 (.tmp 11)) 95, q 13 (bi .len #[.tmp 12] #[95]) 3, q 14 (.move (ik 0)) 3] false) (.block 0 (.loop (.seq (.region 4 #[q 15 (.binOp .lss 3 (.tmp 14) (.tmp 13) 3) 0] false) (.seq (.cond (.tmp 15) .skip (.exit 0)) (.seq (.block 1 (.seq (.region 5 #[q 16 (.indexAddr 95 (.tmp 12) (.tmp 14)) 0, q 17 (.load 100 (.tmp 16)) 100, q 6 (.alloc 100) 0, qn (.store 100 (.tmp 6) (.tmp 17)) 0] false) (.seq (.region 6 #[q 18 (.load 100 (.tmp 6)) 100, q 19 (.load 27 (.tmp 3)) 27, q 20 (cl 60 #[.tmp 18, .tmp 19] #[100, 27]) 4, q 21 (.unOp .not 4 (.tmp 20)) 4] false) (.cond (.tmp 21) (.seq (.region 7 #[q 4 (.assign (.const (.bool false))) 4] false) .ret) .skip)))) (.region 8 #[q 22 (.binOp .add 3 (.tmp 14) (ik 1) 3) 3, q 14 (.move (.tmp 22)) 3] false))))))) (.seq (.region 9 #[q 4 (.assign (.const (.bool true))) 4] false) .ret)))
theorem s27 : Tryz.f27.body.map (slim cfg) = some g27 := by kernel_rfl
def g21 : Code :=
 .seq (.region 0 #[q 2 (.assign (ik 0)) 3] false) (.seq (.seq (.region 1 #[q 3 (.move (.tmp 0)) 45, q 4 (.binOp .eql 45 (.tmp 3) (.const (.pointer none)) 45) 4] false) (.cond (.tmp 4) (.seq (.region 2 #[q 2 (.assign (ik 0)) 3] false) .ret) .skip)) (.seq (.region 3 #[q 5 (.move (.tmp 0)) 45, q 6 (.nilCheck (.tmp 5)) 0, q 7 (.fieldAddr 97 (.tmp 6) 0) 0, q 8 (.load 95 (.tmp 7)) 95, q 9 (bi .len #[.tmp 8] #[95]) 3, q 2 (.assign (.tmp 9)) 3] false) .ret))
theorem s21 : Tryz.f21.body.map (slim cfg) = some g21 := by kernel_rfl
def g24 : Code :=
 .seq (.region 0 #[q 2 (.assign (.const (.string { data := #[] }))) 9] false) (.seq (.region 1 #[q 3 (.assign (.const (.slice none 0 0))) 106] false) (.seq (.seq (.region 2 #[q 8 (.move (.tmp 0)) 45, q 9 (cl 26 #[.tmp 8] #[45]) 42, q 10 (bi .len #[.tmp 9] #[42]) 3, q 11 (.move (ik 0)) 3] false) (.block 0 (.loop (.seq (.region 3 #[q 12 (.binOp .lss 3 (.tmp 11) (.tmp 10) 3) 0] false) (.seq (.cond (.tmp 12) .skip (.exit 0)) (.seq (.block 1 (.seq (.region 4 #[q 13 (.indexAddr 42 (.tmp 9) (.tmp 11)) 0, q 14 (.load 54 (.tmp 13)) 54, q 5 (.alloc 54) 0, qn (.store 54 (.tmp 5) (.tmp 14)) 0] false) (.seq (.region 5 #[q 16 (.fieldAddr 54 (.tmp 5) 2) 0, q 17 (.load 9 (.tmp 16)) 9, q 18 (cl 41 #[.tmp 17] #[9]) 78, q 15 (.move (.tmp 18)) 78, q 19 (.extract (.tmp 15) 0) 9, q 20 (.extract (.tmp 15) 1) 28, q 6 (.assign (.tmp 19)) 9, q 7 (.assign (.tmp 20)) 28] false) (.region 6 #[{ dst := some 21, op := .move (.tmp 3), type := 106, pos := "match.go:129", after := #[], guard := none }, { dst := some 22, op := .fieldAddr 54 (.tmp 5) 0, type := 0, pos := "match.go:129", after := #[], guard := none }, { dst := some 23, op := .load 9 (.tmp 22), type := 9, pos := "match.go:129", after := #[{ on := 1, ground := .data }], guard := none }, { dst := some 24, op := .fieldAddr 54 (.tmp 5) 1, type := 0, pos := "match.go:129", after := #[], guard := none }, { dst := some 25, op := .load 3 (.tmp 24), type := 3, pos := "match.go:129", after := #[{ on := 3, ground := .data }], guard := none }, { dst := some 26, op := cl 58 #[.tmp 25] #[3], type := 9, pos := "match.go:129", after := #[{ on := 4, ground := .data }], guard := none }, { dst := some 27, op := .binOp .add 9 (.tmp 23) (.tmp 26) 9, type := 9, pos := "match.go:129", after := #[{ on := 2, ground := .data }, { on := 5, ground := .data }], guard := none }, { dst := some 28, op := .move (.tmp 6), type := 9, pos := "match.go:129", after := #[], guard := none }, { dst := some 29, op := .binOp .add 9 (.tmp 27) (.tmp 28) 9, type := 9, pos := "match.go:129", after := #[{ on := 6, ground := .data }, { on := 7, ground := .data }], guard := none }, { dst := some 30, op := .buildSlice 106 1 #[(0, .tmp 29)], type := 106, pos := "match.go:129", after := #[{ on := 8, ground := .data }], guard := none }, { dst := some 31, op := bi .append #[.tmp 21, .tmp 30] #[106, 106], type := 106, pos := "match.go:129", after := #[{ on := 0, ground := .data }, { on := 9, ground := .data }, { on := 5, ground := .chain }], guard := none }, { dst := some 3, op := .assign (.tmp 31), type := 106, pos := "match.go:129", after := #[{ on := 10, ground := .data }, { on := 10, ground := .chain }, { on := 0, ground := .phase }, { on := 1, ground := .phase }, { on := 2, ground := .phase }, { on := 3, ground := .phase }, { on := 4, ground := .phase }, { on := 5, ground := .phase }, { on := 6, ground := .phase }, { on := 7, ground := .phase }, { on := 8, ground := .phase }, { on := 9, ground := .phase }, { on := 10, ground := .phase }], guard := none }] true)))) (.region 7 #[q 32 (.binOp .add 3 (.tmp 11) (ik 1) 3) 3, q 11 (.move (.tmp 32)) 3] false))))))) (.seq (.region 8 #[q 33 (.move (.tmp 3)) 106, q 34 (cl 59 #[.tmp 33, .const (.string { data := #[44] })] #[106, 9]) 9, q 35 (.binOp .add 9 (.const (.string { data := #[123] })) (.tmp 34) 9) 9, q 36 (.binOp .add 9 (.tmp 35) (.const (.string { data := #[125] })) 9) 9, q 2 (.assign (.tmp 36)) 9] false) .ret)))
theorem s24 : Tryz.f24.body.map (slim cfg) = some g24 := by kernel_rfl
def g26 : Code :=
 .seq (.region 0 #[q 2 (.assign (.const (.slice none 0 0))) 42] false) (.seq (.region 1 #[q 3 (.assign (.const (.slice none 0 0))) 42] false) (.seq (.seq (.region 2 #[q 6 (.move (.tmp 0)) 45, q 7 (.binOp .eql 45 (.tmp 6) (.const (.pointer none)) 45) 4] false) (.cond (.tmp 7) (.seq (.region 3 #[q 2 (.assign (.const (.slice none 0 0))) 42] false) .ret) .skip)) (.seq (.seq (.region 4 #[q 8 (.move (.tmp 0)) 45, q 9 (.nilCheck (.tmp 8)) 0, q 10 (.fieldAddr 97 (.tmp 9) 0) 0, q 11 (.load 95 (.tmp 10)) 95, q 12 (bi .len #[.tmp 11] #[95]) 3, q 13 (.move (ik 0)) 3] false) (.block 0 (.loop (.seq (.region 5 #[q 14 (.binOp .lss 3 (.tmp 13) (.tmp 12) 3) 0] false) (.seq (.cond (.tmp 14) .skip (.exit 0)) (.seq (.block 1 (.seq (.region 6 #[q 15 (.indexAddr 95 (.tmp 11) (.tmp 13)) 0, q 16 (.load 100 (.tmp 15)) 100, q 5 (.alloc 100) 0, qn (.store 100 (.tmp 5) (.tmp 16)) 0] false) (.region 7 #[q 17 (.move (.tmp 3)) 42, q 18 (.fieldAddr 100 (.tmp 5) 0) 0, q 19 (.load 54 (.tmp 18)) 54, q 20 (.buildSlice 42 1 #[(0, .tmp 19)]) 42, q 21 (bi .append #[.tmp 17, .tmp 20] #[42, 42]) 42, q 3 (.assign (.tmp 21)) 42] false))) (.region 8 #[q 22 (.binOp .add 3 (.tmp 13) (ik 1) 3) 3, q 13 (.move (.tmp 22)) 3] false))))))) (.seq (.region 9 #[q 23 (.move (.tmp 3)) 42, q 2 (.assign (.tmp 23)) 42] false) .ret))))
theorem s26 : Tryz.f26.body.map (slim cfg) = some g26 := by kernel_rfl
def g59 : Code :=
 .seq (.region 0 #[q 4 (.assign (.const (.string { data := #[] }))) 9] false) (.seq (.seq (.region 1 #[q 11 (.move (.tmp 0)) 106, q 12 (bi .len #[.tmp 11] #[106]) 3] false) (.block 0 (.seq (.region 2 #[q 14 (.binOp .eql 3 (.tmp 12) (ik 0) 3) 4, q 13 (.assign (.tmp 14)) 4] false) (.cond (.tmp 13) (.seq (.region 3 #[q 4 (.assign (.const (.string { data := #[] }))) 9] false) .ret) (.seq (.region 4 #[q 16 (.binOp .eql 3 (.tmp 12) (ik 1) 3) 4, q 15 (.assign (.tmp 16)) 4] false) (.cond (.tmp 15) (.seq (.region 5 #[q 17 (.move (.tmp 0)) 106, q 18 (.indexAddr 106 (.tmp 17) (ik 0)) 0, q 19 (.load 9 (.tmp 18)) 9, q 4 (.assign (.tmp 19)) 9] false) .ret) .skip)))))) (.seq (.region 6 #[q 5 (.assign (ik 0)) 3] false) (.seq (.seq (.region 7 #[q 20 (.move (.tmp 1)) 9, q 21 (bi .len #[.tmp 20] #[9]) 3, q 22 (.binOp .gtr 3 (.tmp 21) (ik 0) 3) 4] false) (.cond (.tmp 22) (.seq (.seq (.region 8 #[q 23 (.move (.tmp 1)) 9, q 24 (bi .len #[.tmp 23] #[9]) 3, q 25 (.move (.tmp 0)) 106, q 26 (bi .len #[.tmp 25] #[106]) 3, q 27 (.binOp .sub 3 (.tmp 26) (ik 1) 3) 3, q 28 (.binOp .quo 3 (ik 9223372036854775807) (.tmp 27) 3) 3, q 29 (.binOp .geq 3 (.tmp 24) (.tmp 28) 3) 4] false) (.cond (.tmp 29) (.region 9 #[q 30 (.makeInterface 9 (.const (.string { data := #[115, 116, 114, 105, 110, 103, 115, 58, 32, 74, 111, 105, 110, 32, 111, 117, 116, 112, 117, 116, 32, 108, 101, 110, 103, 116, 104, 32, 111, 118, 101, 114, 102, 108, 111, 119] }))) 20, qn (.panic (.tmp 30)) 0] false) .skip)) (.region 10 #[q 31 (.move (.tmp 5)) 3, q 32 (.move (.tmp 1)) 9, q 33 (bi .len #[.tmp 32] #[9]) 3, q 34 (.move (.tmp 0)) 106, q 35 (bi .len #[.tmp 34] #[106]) 3, q 36 (.binOp .sub 3 (.tmp 35) (ik 1) 3) 3, q 37 (.binOp .mul 3 (.tmp 33) (.tmp 36) 3) 3, q 38 (.binOp .add 3 (.tmp 31) (.tmp 37) 3) 3, q 5 (.assign (.tmp 38)) 3] false)) .skip)) (.seq (.seq (.region 11 #[q 39 (.move (.tmp 0)) 106, q 40 (bi .len #[.tmp 39] #[106]) 3, q 41 (.move (ik 0)) 3] false) (.block 1 (.loop (.seq (.region 12 #[q 42 (.binOp .lss 3 (.tmp 41) (.tmp 40) 3) 0] false) (.seq (.cond (.tmp 42) .skip (.exit 1)) (.seq (.block 2 (.seq (.region 13 #[q 43 (.indexAddr 106 (.tmp 39) (.tmp 41)) 0, q 44 (.load 9 (.tmp 43)) 9, q 7 (.assign (.tmp 44)) 9] false) (.seq (.seq (.region 14 #[q 45 (.move (.tmp 7)) 9, q 46 (bi .len #[.tmp 45] #[9]) 3, q 47 (.move (.tmp 5)) 3, q 48 (.binOp .sub 3 (ik 9223372036854775807) (.tmp 47) 3) 3, q 49 (.binOp .gtr 3 (.tmp 46) (.tmp 48) 3) 4] false) (.cond (.tmp 49) (.region 15 #[q 50 (.makeInterface 9 (.const (.string { data := #[115, 116, 114, 105, 110, 103, 115, 58, 32, 74, 111, 105, 110, 32, 111, 117, 116, 112, 117, 116, 32, 108, 101, 110, 103, 116, 104, 32, 111, 118, 101, 114, 102, 108, 111, 119] }))) 20, qn (.panic (.tmp 50)) 0] false) .skip)) (.region 16 #[q 51 (.move (.tmp 5)) 3, q 52 (.move (.tmp 7)) 9, q 53 (bi .len #[.tmp 52] #[9]) 3, q 54 (.binOp .add 3 (.tmp 51) (.tmp 53) 3) 3, q 5 (.assign (.tmp 54)) 3] false)))) (.region 17 #[q 55 (.binOp .add 3 (.tmp 41) (ik 1) 3) 3, q 41 (.move (.tmp 55)) 3] false))))))) (.seq (.region 18 #[q 8 (.alloc 74) 0] false) (.seq (.region 19 #[q 56 (.move (.tmp 5)) 3, q 57 (cl 79 #[.tmp 8, .tmp 56] #[74, 3]) 0] false) (.seq (.region 20 #[q 58 (.move (.tmp 0)) 106, q 59 (.indexAddr 106 (.tmp 58) (ik 0)) 0, q 60 (.load 9 (.tmp 59)) 9, q 61 (cl 42 #[.tmp 8, .tmp 60] #[74, 9]) 80] false) (.seq (.seq (.region 21 #[q 62 (.move (.tmp 0)) 106, q 63 (.slice 106 (.tmp 62) (some (ik 1)) none none) 106, q 64 (bi .len #[.tmp 63] #[106]) 3, q 65 (.move (ik 0)) 3] false) (.block 3 (.loop (.seq (.region 22 #[q 66 (.binOp .lss 3 (.tmp 65) (.tmp 64) 3) 0] false) (.seq (.cond (.tmp 66) .skip (.exit 3)) (.seq (.block 4 (.seq (.region 23 #[q 67 (.indexAddr 106 (.tmp 63) (.tmp 65)) 0, q 68 (.load 9 (.tmp 67)) 9, q 10 (.assign (.tmp 68)) 9] false) (.seq (.region 24 #[q 69 (.move (.tmp 1)) 9, q 70 (cl 42 #[.tmp 8, .tmp 69] #[74, 9]) 80] false) (.region 25 #[q 71 (.move (.tmp 10)) 9, q 72 (cl 42 #[.tmp 8, .tmp 71] #[74, 9]) 80] false)))) (.region 26 #[q 73 (.binOp .add 3 (.tmp 65) (ik 1) 3) 3, q 65 (.move (.tmp 73)) 3] false))))))) (.seq (.region 27 #[q 74 (cl 43 #[.tmp 8] #[74]) 9, q 4 (.assign (.tmp 74)) 9] false) .ret)))))))))
theorem s59 : Tryz.f59.body.map (slim cfg) = some g59 := by kernel_rfl
theorem mlen_nil (prot : Nat) (H : Heap) (hp : prot ≤ H.length) : aLim cfg prot 21 [.nil] H = some (.int .i64 0, none) := by
 have hsnap : snap H [.nil] = some ([.nil], false) := rfl
 refine pure_slim rfl (by kernel_rfl) Tryz.func21 s21 hp hsnap (by simp [Tryz.f21]) fun fr hlen h => ?_
 simp only [Has, Nat.zero_add] at h
 obtain ⟨a0, -⟩ := h
 simp only [Tryz.f21] at hlen ⊢
 unfold g21
 simp only [w9, AV.cells, AV.leaf, reduceEqDiff, reduceLT, reduceAdd, reduceLeDiff, reduceCtorEq, reduceMul, reduceMod, u54, hlen, a0]
 exact Fin_pure (l := [.int .i64 0]) (by simp [w9, AV.cells, AV.leaf, reduceEqDiff, reduceLT, reduceAdd, reduceLeDiff, reduceCtorEq, reduceMul, reduceMod, u54, aResults, aResult, hlen]) (.still rfl) (by simp)
theorem mall_nil (prot : Nat) (H : Heap) (hp : prot ≤ H.length) : aLim cfg prot 26 [.nil] H = some (.nilS, none) := by
 have hsnap : snap H [.nil] = some ([.nil], false) := rfl
 refine pure_slim rfl (by kernel_rfl) Tryz.func26 s26 hp hsnap (by simp [Tryz.f26]) fun fr hlen h => ?_
 simp only [Has, Nat.zero_add] at h
 obtain ⟨a0, -⟩ := h
 simp only [Tryz.f26] at hlen ⊢
 unfold g26
 simp only [w9, AV.cells, AV.leaf, reduceEqDiff, reduceLT, reduceAdd, reduceLeDiff, reduceCtorEq, reduceMul, reduceMod, u54, hlen, a0]
 exact Fin_pure (l := [.nilS]) (by simp [w9, AV.cells, AV.leaf, reduceEqDiff, reduceLT, reduceAdd, reduceLeDiff, reduceCtorEq, reduceMul, reduceMod, u54, aResults, aResult, hlen]) (.still rfl) (by simp)
theorem join_nil (prot : Nat) (H : Heap) (hp : prot ≤ H.length) : aLim cfg prot 59 [.nilS, .str [44]] H = some (.str [], none) := by
 have hsnap : snap H [.nilS, .str [44]] = some ([.nilS, .str [44]], false) := rfl
 have hl : aLen Tryz.prog H 106 .nilS = some (.int .i64 0) := by simp [aLen, Tryz.underlying106]
 refine pure_slim rfl (by kernel_rfl) Tryz.func59 s59 hp hsnap (by simp [Tryz.f59]) fun fr hlen h => ?_
 simp only [Has, Nat.zero_add] at h
 obtain ⟨a0, a1, -⟩ := h
 simp only [Tryz.f59] at hlen ⊢
 unfold g59
 simp only [w9, AV.cells, AV.leaf, reduceEqDiff, reduceLT, reduceAdd, reduceLeDiff, reduceCtorEq, reduceMul, reduceMod, u54, hlen, a0, a1, hl]
 exact Fin_pure (l := [.str []]) (by simp [w9, AV.cells, AV.leaf, reduceEqDiff, reduceLT, reduceAdd, reduceLeDiff, reduceCtorEq, reduceMul, reduceMod, u54, aResults, aResult, hlen]) (.still rfl) (by simp)
theorem mstring_nil (prot : Nat) (H : Heap) (hp : prot ≤ H.length) : aLim cfg prot 24 [.nil] H = some (.str [123, 125], none) := by
 have hsnap : snap H [.nil] = some ([.nil], false) := rfl
 have hl : aLen Tryz.prog H 42 .nilS = some (.int .i64 0) := by simp [aLen, Tryz.underlying42]
 have n1 := mall_nil H.length H (Nat.le_refl _)
 have n2 := join_nil H.length H (Nat.le_refl _)
 have e1 : aStr .add [123] [] = some (.str [123]) := rfl
 have e2 : aStr .add [123] [125] = some (.str [123, 125]) := rfl
 refine pure_slim rfl (by kernel_rfl) Tryz.func24 s24 hp hsnap (by simp [Tryz.f24]) fun fr hlen h => ?_
 simp only [Has, Nat.zero_add] at h
 obtain ⟨a0, -⟩ := h
 simp only [Tryz.f24] at hlen ⊢
 unfold g24
 simp only [w9, AV.cells, AV.leaf, reduceEqDiff, reduceLT, reduceAdd, reduceLeDiff, reduceCtorEq, reduceMul, reduceMod, u54, hlen, a0, n1, hl]
 refine loop_rule (fun m fr H' => m = 0 ∧ fr.length = 37 ∧ fget fr 3 = .nilS ∧ fget fr 10 = .int .i64 0 ∧ fget fr 11 = .int .i64 0 ∧ H' = H) ?_ 0 _ _ ⟨rfl, by simp [w9, AV.cells, AV.leaf, reduceEqDiff, reduceLT, reduceAdd, reduceLeDiff, reduceCtorEq, reduceMul, reduceMod, u54, hlen, a0]⟩
 rintro m fr H' ⟨rfl, hlen, a3, a10, a11, rfl⟩ ih
 have d00 : decide ((0 : Int) < 0) = false := rfl
 simp only [w9, AV.cells, AV.leaf, reduceEqDiff, reduceLT, reduceAdd, reduceLeDiff, reduceCtorEq, reduceMul, reduceMod, u54, hlen, a3, a10, a11, d00, n2, e1, e2]
 exact Fin_pure (l := [.str [123, 125]]) (by simp [w9, AV.cells, AV.leaf, reduceEqDiff, reduceLT, reduceAdd, reduceLeDiff, reduceCtorEq, reduceMul, reduceMod, u54, aResults, aResult, hlen]) (.still rfl) (by simp)
def wV (name : List UInt8) (kind : Int) (value : List UInt8) (m : AV) : AV := .agg [.str name, .int .i64 kind, .str value, m]
theorem made_bad (name value : List UInt8) (kind : Int) (hn : name.length ≤ 9223372036854775807) (hv : value.length ≤ 1000) (hb : (nameL name && validU value) = false) (prot : Nat) (H : Heap) (hp : prot ≤ H.length) :
   aLim cfg prot 54 [.agg [.str name, .int .i64 kind, .str value]] H = some (.tup [wV [] 0 [] .nil, .int .i64 3], none) := by
 have hsnap : snap H [.agg [.str name, .int .i64 kind, .str value]] = some ([.agg [.str name, .int .i64 kind, .str value]], false) := rfl
 have hl1 : ∀ A : Blk, (H ++ [A]).length = H.length + 1 := fun A => by simp
 have hl2 : ∀ A B : Blk, (H ++ [A] ++ [B]).length = H.length + 2 := fun A B => by simp
 have hl3 : ∀ A B C : Blk, (H ++ [A] ++ [B] ++ [C]).length = H.length + 3 := fun A B C => by simp
 have g20 : ∀ Y (B : Blk), hget (H ++ [Blk.cells 0 Y] ++ [B]) H.length 0 = some Y := fun Y B => hget_mono (by rw [hget_new rfl, if_pos rfl]) _
 have g30 : ∀ Y (B C : Blk), hget (H ++ [Blk.cells 0 Y] ++ [B] ++ [C]) H.length 0 = some Y := fun Y B C => hget_mono (g20 Y B) _
 have g31 : ∀ (A : Blk) Y (C : Blk), hget (H ++ [A] ++ [Blk.cells 0 Y] ++ [C]) (H.length + 1) 0 = some Y := fun A Y C => hget_mono (by rw [hget_new (by simp), if_pos rfl]) _
 have g32 : ∀ (A B : Blk) Y, hget (H ++ [A] ++ [B] ++ [Blk.cells 0 Y]) (H.length + 2) 0 = some Y := fun A B Y => by rw [hget_new (by simp), if_pos rfl]
 have s1 : ∀ (A B : Blk), Go.Abs.hput H.length (H ++ [A] ++ [B] ++ [Blk.cells 0 [.str [], .int .i64 0, .str [], .nil]]) (H.length + 2) 0 0 [.str name, .int .i64 kind, .str value, .nil] = some (H ++ [A] ++ [B] ++ [Blk.cells 0 [.str name, .int .i64 kind, .str value, .nil]]) := fun A B => by
   rw [hput_new (by simp) (by simp) (by simp) (by simp [AV.leaf])]; rfl
 have s2 : ∀ (A C : Blk), Go.Abs.hput H.length (H ++ [A] ++ [Blk.cells 0 [.str [], .int .i64 0, .str [], .nil]] ++ [C]) (H.length + 1) 0 0 [.str [], .int .i64 0, .str [], .nil] = some (H ++ [A] ++ [Blk.cells 0 [.str [], .int .i64 0, .str [], .nil]] ++ [C]) := fun A C => by
   rw [hput_app (by simp) [C], hput_new (by simp) (by simp) (by simp) (by simp [AV.leaf])]; rfl
 have g31' : ∀ (A : Blk) Y (C : Blk), hget (H ++ [A, Blk.cells 0 Y, C]) (H.length + 1) 0 = some Y := fun A Y C => by have := g31 A Y C; simpa using this
 have hll3 : ∀ A B C : Blk, H.length ≤ (H ++ [A] ++ [B] ++ [C]).length := fun A B C => by simp
 have n1 := fun A B C => name_ok name hn H.length (H ++ [A] ++ [B] ++ [C]) (hll3 A B C)
 have n2 := fun A B C => valid_ok value (by omega) H.length (H ++ [A] ++ [B] ++ [C]) (hll3 A B C)
 cases h1 : nameL name with
 | false =>
   rw [h1] at n1
   refine pure_slim rfl (by kernel_rfl) Tryz.func54 s54 hp hsnap (by simp [Tryz.f54]) fun fr hlen h => ?_
   simp only [Has, Nat.zero_add] at h
   obtain ⟨a0, -⟩ := h
   simp only [Tryz.f54] at hlen ⊢
   unfold g54
   simp only [w9, AV.cells, AV.leaf, reduceEqDiff, reduceLT, reduceAdd, reduceLeDiff, reduceCtorEq, reduceMul, reduceMod, u54, hlen, a0, hl1, hl2, hl3, g20, g30, g31, g32, s1, s2, n1, none_beq]
   trace_state
   exact Fin_pure (l := [.agg [.str [], .int .i64 0, .str [], .nil], .int .i64 3]) (by simp [w9, AV.cells, AV.leaf, reduceEqDiff, reduceLT, reduceAdd, reduceLeDiff, reduceCtorEq, reduceMul, reduceMod, u54, hlen, aResults, aResult, g31']) (.tup (.cons (.agg (.cons (.still rfl) (.cons (.still rfl) (.cons (.still rfl) (.cons (.still rfl) .nil))))) (.cons (.still rfl) .nil))) (by simp)
 | true =>
   have h2 : validU value = false := by rw [h1] at hb; simpa using hb
   rw [h1] at n1
   rw [h2] at n2
   refine pure_slim rfl (by kernel_rfl) Tryz.func54 s54 hp hsnap (by simp [Tryz.f54]) fun fr hlen h => ?_
   simp only [Has, Nat.zero_add] at h
   obtain ⟨a0, -⟩ := h
   simp only [Tryz.f54] at hlen ⊢
   unfold g54
   simp only [w9, AV.cells, AV.leaf, reduceEqDiff, reduceLT, reduceAdd, reduceLeDiff, reduceCtorEq, reduceMul, reduceMod, u54, hlen, a0, hl1, hl2, hl3, g20, g30, g31, g32, s1, s2, n1, n2, none_beq]
   exact Fin_pure (l := [.agg [.str [], .int .i64 0, .str [], .nil], .int .i64 3]) (by simp [w9, AV.cells, AV.leaf, reduceEqDiff, reduceLT, reduceAdd, reduceLeDiff, reduceCtorEq, reduceMul, reduceMod, u54, hlen, aResults, aResult, g31']) (.tup (.cons (.agg (.cons (.still rfl) (.cons (.still rfl) (.cons (.still rfl) (.cons (.still rfl) .nil))))) (.cons (.still rfl) .nil))) (by simp)
end Go.Proofs.YtnipaiklandliaaGreatDoor
/- match.made of right matchers, walked. -/
set_option maxRecDepth 100000
namespace Go.Proofs.YtnipaiklandliaaGreatDoor
open Go Go.Abs AbsSeat Ty
open Nat (reduceEqDiff reduceLT reduceAdd reduceLeDiff reduceMul reduceMod)
theorem made1 (name value : List UInt8) (hn : name.length ≤ 9223372036854775807) (hv : value.length ≤ 1000) (h1 : nameL name = true) (h2 : validU value = true) (prot : Nat) (H : Heap) (hp : prot ≤ H.length) :
   aLim cfg prot 54 [.agg [.str name, .int .i64 1, .str value]] H = some (.tup [.agg [.str name, .int .i64 1, .str value, .nil], .int .i64 0], none) := by
 have hsnap : snap H [.agg [.str name, .int .i64 1, .str value]] = some ([.agg [.str name, .int .i64 1, .str value]], false) := rfl
 have hl1 : ∀ A : Blk, (H ++ [A]).length = H.length + 1 := fun A => by simp
 have hl2 : ∀ A B : Blk, (H ++ [A] ++ [B]).length = H.length + 2 := fun A B => by simp
 have hl3 : ∀ A B C : Blk, (H ++ [A] ++ [B] ++ [C]).length = H.length + 3 := fun A B C => by simp
 have g20 : ∀ Y (B : Blk), hget (H ++ [Blk.cells 0 Y] ++ [B]) H.length 0 = some Y := fun Y B => hget_mono (by rw [hget_new rfl, if_pos rfl]) _
 have g30 : ∀ Y (B C : Blk), hget (H ++ [Blk.cells 0 Y] ++ [B] ++ [C]) H.length 0 = some Y := fun Y B C => hget_mono (g20 Y B) _
 have g31 : ∀ (A : Blk) Y (C : Blk), hget (H ++ [A] ++ [Blk.cells 0 Y] ++ [C]) (H.length + 1) 0 = some Y := fun A Y C => hget_mono (by rw [hget_new (by simp), if_pos rfl]) _
 have g32 : ∀ (A B : Blk) Y, hget (H ++ [A] ++ [B] ++ [Blk.cells 0 Y]) (H.length + 2) 0 = some Y := fun A B Y => by rw [hget_new (by simp), if_pos rfl]
 have g31' : ∀ (A : Blk) Y (C : Blk), hget (H ++ [A, Blk.cells 0 Y, C]) (H.length + 1) 0 = some Y := fun A Y C => by have := g31 A Y C; simpa using this
 have s1 : ∀ (A B : Blk), Go.Abs.hput H.length (H ++ [A] ++ [B] ++ [Blk.cells 0 [.str [], .int .i64 0, .str [], .nil]]) (H.length + 2) 0 0 [.str name, .int .i64 1, .str value, .nil] = some (H ++ [A] ++ [B] ++ [Blk.cells 0 [.str name, .int .i64 1, .str value, .nil]]) := fun A B => by
   rw [hput_new (by simp) (by simp) (by simp) (by simp [AV.leaf])]; rfl
 have s3 : ∀ (A C : Blk), Go.Abs.hput H.length (H ++ [A] ++ [Blk.cells 0 [.str [], .int .i64 0, .str [], .nil]] ++ [C]) (H.length + 1) 0 0 [.str name, .int .i64 1, .str value, .nil] = some (H ++ [A] ++ [Blk.cells 0 [.str name, .int .i64 1, .str value, .nil]] ++ [C]) := fun A C => by
   rw [hput_app (by simp) [C], hput_new (by simp) (by simp) (by simp) (by simp [AV.leaf])]; rfl
 have hll3 : ∀ A B C : Blk, H.length ≤ (H ++ [A] ++ [B] ++ [C]).length := fun A B C => by simp
 have n1 := fun A B C => name_ok name hn H.length (H ++ [A] ++ [B] ++ [C]) (hll3 A B C)
 have n2 := fun A B C => valid_ok value (by omega) H.length (H ++ [A] ++ [B] ++ [C]) (hll3 A B C)
 rw [h1] at n1
 rw [h2] at n2
 have d1 : decide ((1 : Int) = 1) = true := rfl
 have d2 : decide ((1 : Int) = 2) = false := rfl
 have d3 : decide ((1 : Int) = 3) = false := rfl
 have d4 : decide ((1 : Int) = 4) = false := rfl
 refine pure_slim rfl (by kernel_rfl) Tryz.func54 s54 hp hsnap (by simp [Tryz.f54]) fun fr hlen h => ?_
 simp only [Has, Nat.zero_add] at h
 obtain ⟨a0, -⟩ := h
 simp only [Tryz.f54] at hlen ⊢
 unfold g54
 simp only [w9, AV.cells, AV.leaf, reduceEqDiff, reduceLT, reduceAdd, reduceLeDiff, reduceCtorEq, reduceMul, reduceMod, u54, hlen, a0, hl1, hl2, hl3, g20, g30, g31, g32, s1, s3, n1, n2, d1, d2, d3, d4, none_beq]
 exact Fin_pure (l := [.agg [.str name, .int .i64 1, .str value, .nil], .int .i64 0]) (by simp [w9, AV.cells, AV.leaf, reduceEqDiff, reduceLT, reduceAdd, reduceLeDiff, reduceCtorEq, reduceMul, reduceMod, u54, hlen, aResults, aResult, g31']) (.tup (.cons (.agg (.cons (.still rfl) (.cons (.still rfl) (.cons (.still rfl) (.cons (.still rfl) .nil))))) (.cons (.still rfl) .nil))) (by simp)
theorem made2 (name value : List UInt8) (hn : name.length ≤ 9223372036854775807) (hv : value.length ≤ 1000) (h1 : nameL name = true) (h2 : validU value = true) (prot : Nat) (H : Heap) (hp : prot ≤ H.length) :
   aLim cfg prot 54 [.agg [.str name, .int .i64 2, .str value]] H = some (.tup [.agg [.str name, .int .i64 2, .str value, .nil], .int .i64 0], none) := by
 have hsnap : snap H [.agg [.str name, .int .i64 2, .str value]] = some ([.agg [.str name, .int .i64 2, .str value]], false) := rfl
 have hl1 : ∀ A : Blk, (H ++ [A]).length = H.length + 1 := fun A => by simp
 have hl2 : ∀ A B : Blk, (H ++ [A] ++ [B]).length = H.length + 2 := fun A B => by simp
 have hl3 : ∀ A B C : Blk, (H ++ [A] ++ [B] ++ [C]).length = H.length + 3 := fun A B C => by simp
 have g20 : ∀ Y (B : Blk), hget (H ++ [Blk.cells 0 Y] ++ [B]) H.length 0 = some Y := fun Y B => hget_mono (by rw [hget_new rfl, if_pos rfl]) _
 have g30 : ∀ Y (B C : Blk), hget (H ++ [Blk.cells 0 Y] ++ [B] ++ [C]) H.length 0 = some Y := fun Y B C => hget_mono (g20 Y B) _
 have g31 : ∀ (A : Blk) Y (C : Blk), hget (H ++ [A] ++ [Blk.cells 0 Y] ++ [C]) (H.length + 1) 0 = some Y := fun A Y C => hget_mono (by rw [hget_new (by simp), if_pos rfl]) _
 have g32 : ∀ (A B : Blk) Y, hget (H ++ [A] ++ [B] ++ [Blk.cells 0 Y]) (H.length + 2) 0 = some Y := fun A B Y => by rw [hget_new (by simp), if_pos rfl]
 have g31' : ∀ (A : Blk) Y (C : Blk), hget (H ++ [A, Blk.cells 0 Y, C]) (H.length + 1) 0 = some Y := fun A Y C => by have := g31 A Y C; simpa using this
 have s1 : ∀ (A B : Blk), Go.Abs.hput H.length (H ++ [A] ++ [B] ++ [Blk.cells 0 [.str [], .int .i64 0, .str [], .nil]]) (H.length + 2) 0 0 [.str name, .int .i64 2, .str value, .nil] = some (H ++ [A] ++ [B] ++ [Blk.cells 0 [.str name, .int .i64 2, .str value, .nil]]) := fun A B => by
   rw [hput_new (by simp) (by simp) (by simp) (by simp [AV.leaf])]; rfl
 have s3 : ∀ (A C : Blk), Go.Abs.hput H.length (H ++ [A] ++ [Blk.cells 0 [.str [], .int .i64 0, .str [], .nil]] ++ [C]) (H.length + 1) 0 0 [.str name, .int .i64 2, .str value, .nil] = some (H ++ [A] ++ [Blk.cells 0 [.str name, .int .i64 2, .str value, .nil]] ++ [C]) := fun A C => by
   rw [hput_app (by simp) [C], hput_new (by simp) (by simp) (by simp) (by simp [AV.leaf])]; rfl
 have hll3 : ∀ A B C : Blk, H.length ≤ (H ++ [A] ++ [B] ++ [C]).length := fun A B C => by simp
 have n1 := fun A B C => name_ok name hn H.length (H ++ [A] ++ [B] ++ [C]) (hll3 A B C)
 have n2 := fun A B C => valid_ok value (by omega) H.length (H ++ [A] ++ [B] ++ [C]) (hll3 A B C)
 rw [h1] at n1
 rw [h2] at n2
 have d1 : decide ((2 : Int) = 1) = false := rfl
 have d2 : decide ((2 : Int) = 2) = true := rfl
 have d3 : decide ((2 : Int) = 3) = false := rfl
 have d4 : decide ((2 : Int) = 4) = false := rfl
 refine pure_slim rfl (by kernel_rfl) Tryz.func54 s54 hp hsnap (by simp [Tryz.f54]) fun fr hlen h => ?_
 simp only [Has, Nat.zero_add] at h
 obtain ⟨a0, -⟩ := h
 simp only [Tryz.f54] at hlen ⊢
 unfold g54
 simp only [w9, AV.cells, AV.leaf, reduceEqDiff, reduceLT, reduceAdd, reduceLeDiff, reduceCtorEq, reduceMul, reduceMod, u54, hlen, a0, hl1, hl2, hl3, g20, g30, g31, g32, s1, s3, n1, n2, d1, d2, d3, d4, none_beq]
 exact Fin_pure (l := [.agg [.str name, .int .i64 2, .str value, .nil], .int .i64 0]) (by simp [w9, AV.cells, AV.leaf, reduceEqDiff, reduceLT, reduceAdd, reduceLeDiff, reduceCtorEq, reduceMul, reduceMod, u54, hlen, aResults, aResult, g31']) (.tup (.cons (.agg (.cons (.still rfl) (.cons (.still rfl) (.cons (.still rfl) (.cons (.still rfl) .nil))))) (.cons (.still rfl) .nil))) (by simp)
theorem made3 (name value : List UInt8) (hn : name.length ≤ 9223372036854775807) (hv : value.length ≤ 1000) (h1 : nameL name = true) (h2 : validU value = true) (m : AV) (hm : AV.leaf m = true) (hst : still m = true) (hnf : ∀ (prot : Nat) (H : Heap), prot ≤ H.length → aLim cfg prot 88 [.str value] H = some (.tup [m, .int .i64 0], none)) (prot : Nat) (H : Heap) (hp : prot ≤ H.length) :
   aLim cfg prot 54 [.agg [.str name, .int .i64 3, .str value]] H = some (.tup [.agg [.str name, .int .i64 3, .str value, m], .int .i64 0], none) := by
 have hsnap : snap H [.agg [.str name, .int .i64 3, .str value]] = some ([.agg [.str name, .int .i64 3, .str value]], false) := rfl
 have hl1 : ∀ A : Blk, (H ++ [A]).length = H.length + 1 := fun A => by simp
 have hl2 : ∀ A B : Blk, (H ++ [A] ++ [B]).length = H.length + 2 := fun A B => by simp
 have hl3 : ∀ A B C : Blk, (H ++ [A] ++ [B] ++ [C]).length = H.length + 3 := fun A B C => by simp
 have g20 : ∀ Y (B : Blk), hget (H ++ [Blk.cells 0 Y] ++ [B]) H.length 0 = some Y := fun Y B => hget_mono (by rw [hget_new rfl, if_pos rfl]) _
 have g30 : ∀ Y (B C : Blk), hget (H ++ [Blk.cells 0 Y] ++ [B] ++ [C]) H.length 0 = some Y := fun Y B C => hget_mono (g20 Y B) _
 have g31 : ∀ (A : Blk) Y (C : Blk), hget (H ++ [A] ++ [Blk.cells 0 Y] ++ [C]) (H.length + 1) 0 = some Y := fun A Y C => hget_mono (by rw [hget_new (by simp), if_pos rfl]) _
 have g32 : ∀ (A B : Blk) Y, hget (H ++ [A] ++ [B] ++ [Blk.cells 0 Y]) (H.length + 2) 0 = some Y := fun A B Y => by rw [hget_new (by simp), if_pos rfl]
 have g31' : ∀ (A : Blk) Y (C : Blk), hget (H ++ [A, Blk.cells 0 Y, C]) (H.length + 1) 0 = some Y := fun A Y C => by have := g31 A Y C; simpa using this
 have s1 : ∀ (A B : Blk), Go.Abs.hput H.length (H ++ [A] ++ [B] ++ [Blk.cells 0 [.str [], .int .i64 0, .str [], .nil]]) (H.length + 2) 0 0 [.str name, .int .i64 3, .str value, .nil] = some (H ++ [A] ++ [B] ++ [Blk.cells 0 [.str name, .int .i64 3, .str value, .nil]]) := fun A B => by
   rw [hput_new (by simp) (by simp) (by simp) (by simp [AV.leaf])]; rfl
 have s3 : ∀ (A C : Blk), Go.Abs.hput H.length (H ++ [A] ++ [Blk.cells 0 [.str [], .int .i64 0, .str [], .nil]] ++ [C]) (H.length + 1) 0 0 [.str name, .int .i64 3, .str value, m] = some (H ++ [A] ++ [Blk.cells 0 [.str name, .int .i64 3, .str value, m]] ++ [C]) := fun A C => by
   rw [hput_app (by simp) [C], hput_new (by simp) (by simp) (by simp) (by simp [hm, show ∀ s, AV.leaf (.str s) = true from fun _ => rfl, show ∀ k n, AV.leaf (.int k n) = true from fun _ _ => rfl])]; rfl
 have s4 : ∀ (A B : Blk), Go.Abs.hput H.length (H ++ [A] ++ [B] ++ [Blk.cells 0 [.str name, .int .i64 3, .str value, .nil]]) (H.length + 2) 0 3 [m] = some (H ++ [A] ++ [B] ++ [Blk.cells 0 [.str name, .int .i64 3, .str value, m]]) := fun A B => by
   rw [hput_new (by simp) (by simp) (by simp) (by simp [hm])]; rfl
 have hll3 : ∀ A B C : Blk, H.length ≤ (H ++ [A] ++ [B] ++ [C]).length := fun A B C => by simp
 have n1 := fun A B C => name_ok name hn H.length (H ++ [A] ++ [B] ++ [C]) (hll3 A B C)
 have n2 := fun A B C => valid_ok value (by omega) H.length (H ++ [A] ++ [B] ++ [C]) (hll3 A B C)
 rw [h1] at n1
 rw [h2] at n2
 have n3 := fun A B C => hnf H.length (H ++ [A] ++ [B] ++ [C]) (hll3 A B C)
 have z0 : decide (¬ (0 : Int) = 0) = false := rfl
 have d1 : decide ((3 : Int) = 1) = false := rfl
 have d2 : decide ((3 : Int) = 2) = false := rfl
 have d3 : decide ((3 : Int) = 3) = true := rfl
 have d4 : decide ((3 : Int) = 4) = false := rfl
 have hmc : AV.cells m = [m] := by cases m <;> first | rfl | (cases hm)
 unfold AV.cells at hmc
 unfold AV.leaf at hm
 refine pure_slim rfl (by kernel_rfl) Tryz.func54 s54 hp hsnap (by simp [Tryz.f54]) fun fr hlen h => ?_
 simp only [Has, Nat.zero_add] at h
 obtain ⟨a0, -⟩ := h
 simp only [Tryz.f54] at hlen ⊢
 unfold g54
 simp only [w9, AV.cells, AV.leaf, reduceEqDiff, reduceLT, reduceAdd, reduceLeDiff, reduceCtorEq, reduceMul, reduceMod, u54, hlen, a0, hl1, hl2, hl3, g20, g30, g31, g32, s1, s3, s4, n1, n2, n3, hm, hmc, z0, d1, d2, d3, d4, none_beq]
 exact Fin_pure (l := [.agg [.str name, .int .i64 3, .str value, m], .int .i64 0]) (by simp [w9, AV.cells, AV.leaf, reduceEqDiff, reduceLT, reduceAdd, reduceLeDiff, reduceCtorEq, reduceMul, reduceMod, u54, hlen, aResults, aResult, g31']) (.tup (.cons (.agg (.cons (.still rfl) (.cons (.still rfl) (.cons (.still rfl) (.cons (.still hst) .nil))))) (.cons (.still rfl) .nil))) (by simp)
theorem madeBad3 (name value : List UInt8) (hn : name.length ≤ 9223372036854775807) (hv : value.length ≤ 1000) (h1 : nameL name = true) (h2 : validU value = true) (e : Int) (he : e ≠ 0) (hnf : ∀ (prot : Nat) (H : Heap), prot ≤ H.length → aLim cfg prot 88 [.str value] H = some (.tup [.nil, .int .i64 e], none)) (prot : Nat) (H : Heap) (hp : prot ≤ H.length) :
   aLim cfg prot 54 [.agg [.str name, .int .i64 3, .str value]] H = some (.tup [.agg [.str [], .int .i64 0, .str [], .nil], .int .i64 e], none) := by
 have hsnap : snap H [.agg [.str name, .int .i64 3, .str value]] = some ([.agg [.str name, .int .i64 3, .str value]], false) := rfl
 have hl1 : ∀ A : Blk, (H ++ [A]).length = H.length + 1 := fun A => by simp
 have hl2 : ∀ A B : Blk, (H ++ [A] ++ [B]).length = H.length + 2 := fun A B => by simp
 have hl3 : ∀ A B C : Blk, (H ++ [A] ++ [B] ++ [C]).length = H.length + 3 := fun A B C => by simp
 have g20 : ∀ Y (B : Blk), hget (H ++ [Blk.cells 0 Y] ++ [B]) H.length 0 = some Y := fun Y B => hget_mono (by rw [hget_new rfl, if_pos rfl]) _
 have g30 : ∀ Y (B C : Blk), hget (H ++ [Blk.cells 0 Y] ++ [B] ++ [C]) H.length 0 = some Y := fun Y B C => hget_mono (g20 Y B) _
 have g31 : ∀ (A : Blk) Y (C : Blk), hget (H ++ [A] ++ [Blk.cells 0 Y] ++ [C]) (H.length + 1) 0 = some Y := fun A Y C => hget_mono (by rw [hget_new (by simp), if_pos rfl]) _
 have g32 : ∀ (A B : Blk) Y, hget (H ++ [A] ++ [B] ++ [Blk.cells 0 Y]) (H.length + 2) 0 = some Y := fun A B Y => by rw [hget_new (by simp), if_pos rfl]
 have g31' : ∀ (A : Blk) Y (C : Blk), hget (H ++ [A, Blk.cells 0 Y, C]) (H.length + 1) 0 = some Y := fun A Y C => by have := g31 A Y C; simpa using this
 have s1 : ∀ (A B : Blk), Go.Abs.hput H.length (H ++ [A] ++ [B] ++ [Blk.cells 0 [.str [], .int .i64 0, .str [], .nil]]) (H.length + 2) 0 0 [.str name, .int .i64 3, .str value, .nil] = some (H ++ [A] ++ [B] ++ [Blk.cells 0 [.str name, .int .i64 3, .str value, .nil]]) := fun A B => by
   rw [hput_new (by simp) (by simp) (by simp) (by simp [AV.leaf])]; rfl
 have s2 : ∀ (A C : Blk), Go.Abs.hput H.length (H ++ [A] ++ [Blk.cells 0 [.str [], .int .i64 0, .str [], .nil]] ++ [C]) (H.length + 1) 0 0 [.str [], .int .i64 0, .str [], .nil] = some (H ++ [A] ++ [Blk.cells 0 [.str [], .int .i64 0, .str [], .nil]] ++ [C]) := fun A C => by
   rw [hput_app (by simp) [C], hput_new (by simp) (by simp) (by simp) (by simp [AV.leaf])]; rfl
 have hll3 : ∀ A B C : Blk, H.length ≤ (H ++ [A] ++ [B] ++ [C]).length := fun A B C => by simp
 have n1 := fun A B C => name_ok name hn H.length (H ++ [A] ++ [B] ++ [C]) (hll3 A B C)
 have n2 := fun A B C => valid_ok value (by omega) H.length (H ++ [A] ++ [B] ++ [C]) (hll3 A B C)
 rw [h1] at n1
 rw [h2] at n2
 have n3 := fun A B C => hnf H.length (H ++ [A] ++ [B] ++ [C]) (hll3 A B C)
 have z0 : decide (¬ e = 0) = true := decide_eq_true he
 have d1 : decide ((3 : Int) = 1) = false := rfl
 have d2 : decide ((3 : Int) = 2) = false := rfl
 have d3 : decide ((3 : Int) = 3) = true := rfl
 have d4 : decide ((3 : Int) = 4) = false := rfl
 refine pure_slim rfl (by kernel_rfl) Tryz.func54 s54 hp hsnap (by simp [Tryz.f54]) fun fr hlen h => ?_
 simp only [Has, Nat.zero_add] at h
 obtain ⟨a0, -⟩ := h
 simp only [Tryz.f54] at hlen ⊢
 unfold g54
 simp only [w9, AV.cells, AV.leaf, reduceEqDiff, reduceLT, reduceAdd, reduceLeDiff, reduceCtorEq, reduceMul, reduceMod, u54, hlen, a0, hl1, hl2, hl3, g20, g30, g31, g32, s1, s2, n1, n2, n3, z0, d1, d2, d3, d4, none_beq]
 exact Fin_pure (l := [.agg [.str [], .int .i64 0, .str [], .nil], .int .i64 e]) (by simp [w9, AV.cells, AV.leaf, reduceEqDiff, reduceLT, reduceAdd, reduceLeDiff, reduceCtorEq, reduceMul, reduceMod, u54, hlen, aResults, aResult, g31']) (.tup (.cons (.agg (.cons (.still rfl) (.cons (.still rfl) (.cons (.still rfl) (.cons (.still rfl) .nil))))) (.cons (.still rfl) .nil))) (by simp)
theorem made4 (name value : List UInt8) (hn : name.length ≤ 9223372036854775807) (hv : value.length ≤ 1000) (h1 : nameL name = true) (h2 : validU value = true) (m : AV) (hm : AV.leaf m = true) (hst : still m = true) (hnf : ∀ (prot : Nat) (H : Heap), prot ≤ H.length → aLim cfg prot 88 [.str value] H = some (.tup [m, .int .i64 0], none)) (prot : Nat) (H : Heap) (hp : prot ≤ H.length) :
   aLim cfg prot 54 [.agg [.str name, .int .i64 4, .str value]] H = some (.tup [.agg [.str name, .int .i64 4, .str value, m], .int .i64 0], none) := by
 have hsnap : snap H [.agg [.str name, .int .i64 4, .str value]] = some ([.agg [.str name, .int .i64 4, .str value]], false) := rfl
 have hl1 : ∀ A : Blk, (H ++ [A]).length = H.length + 1 := fun A => by simp
 have hl2 : ∀ A B : Blk, (H ++ [A] ++ [B]).length = H.length + 2 := fun A B => by simp
 have hl3 : ∀ A B C : Blk, (H ++ [A] ++ [B] ++ [C]).length = H.length + 3 := fun A B C => by simp
 have g20 : ∀ Y (B : Blk), hget (H ++ [Blk.cells 0 Y] ++ [B]) H.length 0 = some Y := fun Y B => hget_mono (by rw [hget_new rfl, if_pos rfl]) _
 have g30 : ∀ Y (B C : Blk), hget (H ++ [Blk.cells 0 Y] ++ [B] ++ [C]) H.length 0 = some Y := fun Y B C => hget_mono (g20 Y B) _
 have g31 : ∀ (A : Blk) Y (C : Blk), hget (H ++ [A] ++ [Blk.cells 0 Y] ++ [C]) (H.length + 1) 0 = some Y := fun A Y C => hget_mono (by rw [hget_new (by simp), if_pos rfl]) _
 have g32 : ∀ (A B : Blk) Y, hget (H ++ [A] ++ [B] ++ [Blk.cells 0 Y]) (H.length + 2) 0 = some Y := fun A B Y => by rw [hget_new (by simp), if_pos rfl]
 have g31' : ∀ (A : Blk) Y (C : Blk), hget (H ++ [A, Blk.cells 0 Y, C]) (H.length + 1) 0 = some Y := fun A Y C => by have := g31 A Y C; simpa using this
 have s1 : ∀ (A B : Blk), Go.Abs.hput H.length (H ++ [A] ++ [B] ++ [Blk.cells 0 [.str [], .int .i64 0, .str [], .nil]]) (H.length + 2) 0 0 [.str name, .int .i64 4, .str value, .nil] = some (H ++ [A] ++ [B] ++ [Blk.cells 0 [.str name, .int .i64 4, .str value, .nil]]) := fun A B => by
   rw [hput_new (by simp) (by simp) (by simp) (by simp [AV.leaf])]; rfl
 have s3 : ∀ (A C : Blk), Go.Abs.hput H.length (H ++ [A] ++ [Blk.cells 0 [.str [], .int .i64 0, .str [], .nil]] ++ [C]) (H.length + 1) 0 0 [.str name, .int .i64 4, .str value, m] = some (H ++ [A] ++ [Blk.cells 0 [.str name, .int .i64 4, .str value, m]] ++ [C]) := fun A C => by
   rw [hput_app (by simp) [C], hput_new (by simp) (by simp) (by simp) (by simp [hm, show ∀ s, AV.leaf (.str s) = true from fun _ => rfl, show ∀ k n, AV.leaf (.int k n) = true from fun _ _ => rfl])]; rfl
 have s4 : ∀ (A B : Blk), Go.Abs.hput H.length (H ++ [A] ++ [B] ++ [Blk.cells 0 [.str name, .int .i64 4, .str value, .nil]]) (H.length + 2) 0 3 [m] = some (H ++ [A] ++ [B] ++ [Blk.cells 0 [.str name, .int .i64 4, .str value, m]]) := fun A B => by
   rw [hput_new (by simp) (by simp) (by simp) (by simp [hm])]; rfl
 have hll3 : ∀ A B C : Blk, H.length ≤ (H ++ [A] ++ [B] ++ [C]).length := fun A B C => by simp
 have n1 := fun A B C => name_ok name hn H.length (H ++ [A] ++ [B] ++ [C]) (hll3 A B C)
 have n2 := fun A B C => valid_ok value (by omega) H.length (H ++ [A] ++ [B] ++ [C]) (hll3 A B C)
 rw [h1] at n1
 rw [h2] at n2
 have n3 := fun A B C => hnf H.length (H ++ [A] ++ [B] ++ [C]) (hll3 A B C)
 have z0 : decide (¬ (0 : Int) = 0) = false := rfl
 have d1 : decide ((4 : Int) = 1) = false := rfl
 have d2 : decide ((4 : Int) = 2) = false := rfl
 have d3 : decide ((4 : Int) = 3) = false := rfl
 have d4 : decide ((4 : Int) = 4) = true := rfl
 have hmc : AV.cells m = [m] := by cases m <;> first | rfl | (cases hm)
 unfold AV.cells at hmc
 unfold AV.leaf at hm
 refine pure_slim rfl (by kernel_rfl) Tryz.func54 s54 hp hsnap (by simp [Tryz.f54]) fun fr hlen h => ?_
 simp only [Has, Nat.zero_add] at h
 obtain ⟨a0, -⟩ := h
 simp only [Tryz.f54] at hlen ⊢
 unfold g54
 simp only [w9, AV.cells, AV.leaf, reduceEqDiff, reduceLT, reduceAdd, reduceLeDiff, reduceCtorEq, reduceMul, reduceMod, u54, hlen, a0, hl1, hl2, hl3, g20, g30, g31, g32, s1, s3, s4, n1, n2, n3, hm, hmc, z0, d1, d2, d3, d4, none_beq]
 exact Fin_pure (l := [.agg [.str name, .int .i64 4, .str value, m], .int .i64 0]) (by simp [w9, AV.cells, AV.leaf, reduceEqDiff, reduceLT, reduceAdd, reduceLeDiff, reduceCtorEq, reduceMul, reduceMod, u54, hlen, aResults, aResult, g31']) (.tup (.cons (.agg (.cons (.still rfl) (.cons (.still rfl) (.cons (.still rfl) (.cons (.still hst) .nil))))) (.cons (.still rfl) .nil))) (by simp)
theorem madeBad4 (name value : List UInt8) (hn : name.length ≤ 9223372036854775807) (hv : value.length ≤ 1000) (h1 : nameL name = true) (h2 : validU value = true) (e : Int) (he : e ≠ 0) (hnf : ∀ (prot : Nat) (H : Heap), prot ≤ H.length → aLim cfg prot 88 [.str value] H = some (.tup [.nil, .int .i64 e], none)) (prot : Nat) (H : Heap) (hp : prot ≤ H.length) :
   aLim cfg prot 54 [.agg [.str name, .int .i64 4, .str value]] H = some (.tup [.agg [.str [], .int .i64 0, .str [], .nil], .int .i64 e], none) := by
 have hsnap : snap H [.agg [.str name, .int .i64 4, .str value]] = some ([.agg [.str name, .int .i64 4, .str value]], false) := rfl
 have hl1 : ∀ A : Blk, (H ++ [A]).length = H.length + 1 := fun A => by simp
 have hl2 : ∀ A B : Blk, (H ++ [A] ++ [B]).length = H.length + 2 := fun A B => by simp
 have hl3 : ∀ A B C : Blk, (H ++ [A] ++ [B] ++ [C]).length = H.length + 3 := fun A B C => by simp
 have g20 : ∀ Y (B : Blk), hget (H ++ [Blk.cells 0 Y] ++ [B]) H.length 0 = some Y := fun Y B => hget_mono (by rw [hget_new rfl, if_pos rfl]) _
 have g30 : ∀ Y (B C : Blk), hget (H ++ [Blk.cells 0 Y] ++ [B] ++ [C]) H.length 0 = some Y := fun Y B C => hget_mono (g20 Y B) _
 have g31 : ∀ (A : Blk) Y (C : Blk), hget (H ++ [A] ++ [Blk.cells 0 Y] ++ [C]) (H.length + 1) 0 = some Y := fun A Y C => hget_mono (by rw [hget_new (by simp), if_pos rfl]) _
 have g32 : ∀ (A B : Blk) Y, hget (H ++ [A] ++ [B] ++ [Blk.cells 0 Y]) (H.length + 2) 0 = some Y := fun A B Y => by rw [hget_new (by simp), if_pos rfl]
 have g31' : ∀ (A : Blk) Y (C : Blk), hget (H ++ [A, Blk.cells 0 Y, C]) (H.length + 1) 0 = some Y := fun A Y C => by have := g31 A Y C; simpa using this
 have s1 : ∀ (A B : Blk), Go.Abs.hput H.length (H ++ [A] ++ [B] ++ [Blk.cells 0 [.str [], .int .i64 0, .str [], .nil]]) (H.length + 2) 0 0 [.str name, .int .i64 4, .str value, .nil] = some (H ++ [A] ++ [B] ++ [Blk.cells 0 [.str name, .int .i64 4, .str value, .nil]]) := fun A B => by
   rw [hput_new (by simp) (by simp) (by simp) (by simp [AV.leaf])]; rfl
 have s2 : ∀ (A C : Blk), Go.Abs.hput H.length (H ++ [A] ++ [Blk.cells 0 [.str [], .int .i64 0, .str [], .nil]] ++ [C]) (H.length + 1) 0 0 [.str [], .int .i64 0, .str [], .nil] = some (H ++ [A] ++ [Blk.cells 0 [.str [], .int .i64 0, .str [], .nil]] ++ [C]) := fun A C => by
   rw [hput_app (by simp) [C], hput_new (by simp) (by simp) (by simp) (by simp [AV.leaf])]; rfl
 have hll3 : ∀ A B C : Blk, H.length ≤ (H ++ [A] ++ [B] ++ [C]).length := fun A B C => by simp
 have n1 := fun A B C => name_ok name hn H.length (H ++ [A] ++ [B] ++ [C]) (hll3 A B C)
 have n2 := fun A B C => valid_ok value (by omega) H.length (H ++ [A] ++ [B] ++ [C]) (hll3 A B C)
 rw [h1] at n1
 rw [h2] at n2
 have n3 := fun A B C => hnf H.length (H ++ [A] ++ [B] ++ [C]) (hll3 A B C)
 have z0 : decide (¬ e = 0) = true := decide_eq_true he
 have d1 : decide ((4 : Int) = 1) = false := rfl
 have d2 : decide ((4 : Int) = 2) = false := rfl
 have d3 : decide ((4 : Int) = 3) = false := rfl
 have d4 : decide ((4 : Int) = 4) = true := rfl
 refine pure_slim rfl (by kernel_rfl) Tryz.func54 s54 hp hsnap (by simp [Tryz.f54]) fun fr hlen h => ?_
 simp only [Has, Nat.zero_add] at h
 obtain ⟨a0, -⟩ := h
 simp only [Tryz.f54] at hlen ⊢
 unfold g54
 simp only [w9, AV.cells, AV.leaf, reduceEqDiff, reduceLT, reduceAdd, reduceLeDiff, reduceCtorEq, reduceMul, reduceMod, u54, hlen, a0, hl1, hl2, hl3, g20, g30, g31, g32, s1, s2, n1, n2, n3, z0, d1, d2, d3, d4, none_beq]
 exact Fin_pure (l := [.agg [.str [], .int .i64 0, .str [], .nil], .int .i64 e]) (by simp [w9, AV.cells, AV.leaf, reduceEqDiff, reduceLT, reduceAdd, reduceLeDiff, reduceCtorEq, reduceMul, reduceMod, u54, hlen, aResults, aResult, g31']) (.tup (.cons (.agg (.cons (.still rfl) (.cons (.still rfl) (.cons (.still rfl) (.cons (.still rfl) .nil))))) (.cons (.still rfl) .nil))) (by simp)
end Go.Proofs.YtnipaiklandliaaGreatDoor
/- match.Of of one matcher, walked. -/
set_option maxRecDepth 100000
namespace Go.Proofs.YtnipaiklandliaaGreatDoor
open Go Go.Abs AbsSeat Ty
open Nat (reduceEqDiff reduceLT reduceAdd reduceLeDiff reduceMul reduceMod)
theorem lit1W (r0 r1 r2 r3 : AV) (h0 : AV.leaf r0 = true) (h1 : AV.leaf r1 = true) (h2 : AV.leaf r2 = true) (h3 : AV.leaf r3 = true) (K : Heap) : aBuildSlice Tryz.prog K 95 1 [(0, .agg [r0, r1, r2, r3])] = some (.bs ⟨K.length, 0, 0, 1, 1, 4, true, true⟩, some (K ++ [Blk.cells 0 [r0, r1, r2, r3]])) := by
 simp [aBuildSlice, se95, sz100, by100, ag100, ze100, AV.cells, fillA, zrep, splice, litOk, AV.scal, h0, h1, h2, h3]
 intro a ha
 rw [List.drop_eq_nil_of_le (by simp)] at ha
 cases ha
theorem app1W (r0 r1 r2 r3 : AV) (h0 : AV.leaf r0 = true) (h1 : AV.leaf r1 = true) (h2 : AV.leaf r2 = true) (h3 : AV.leaf r3 = true) (prot : Nat) (K : Heap) : aAppend Tryz.prog prot (K ++ [Blk.cells 0 [r0, r1, r2, r3]]) #[95, 95] .nilS (.bs ⟨K.length, 0, 0, 1, 1, 4, true, true⟩) = some (.bs ⟨K.length + 1, rowV 100, 0, 1, 0, 4, true, false⟩, some (K ++ [Blk.cells 0 [r0, r1, r2, r3]] ++ [Blk.cells (rowV 100) [r0, r1, r2, r3]])) := by
 have hg : hget (K ++ [Blk.cells 0 [r0, r1, r2, r3]]) K.length 0 = some [r0, r1, r2, r3] := by rw [hget_new rfl, if_pos rfl]
 have hw : win [r0, r1, r2, r3] 0 4 = some [r0, r1, r2, r3] := rfl
 simp [aAppend, elemCells, hg, hw, se95, sz100, by100, ag100, ze100, Tryz.underlying95, AV.cells, roomy, h0, h1, h2, h3]
theorem of1_bad (name value : List UInt8) (kind : Int) (r0 r1 r2 r3 : AV) (h0 : AV.leaf r0 = true) (h1 : AV.leaf r1 = true) (h2 : AV.leaf r2 = true) (h3 : AV.leaf r3 = true) (e : Int) (he : e ≠ 0) (hm : ∀ (prot : Nat) (H : Heap), prot ≤ H.length → aLim cfg prot 54 [.agg [.str name, .int .i64 kind, .str value]] H = some (.tup [.agg [r0, r1, r2, r3], .int .i64 e], none)) (prot : Nat) (H : Heap) (hp : prot ≤ H.length) :
   aLim cfg prot 20 [.vs [.agg [.str name, .int .i64 kind, .str value]] true] H = some (.tup [.nil, .int .i64 e], none) := by
 have hsnap : snap H [.vs [.agg [.str name, .int .i64 kind, .str value]] true] = some ([.vs [.agg [.str name, .int .i64 kind, .str value]] true], false) := rfl
 have hlen1 : ∀ K : Heap, aLen Tryz.prog K 42 (.vs [.agg [.str name, .int .i64 kind, .str value]] true) = some (.int .i64 1) := fun K => by simp [aLen, Tryz.underlying42]
 have e1 : aIndexAddr Tryz.prog 42 (.vs [.agg [.str name, .int .i64 kind, .str value]] true) (.int .i64 0) = some (.vptr [.str name, .int .i64 kind, .str value] 0) :=
   (Sl.vs (enc := fun _ : Unit => AV.agg [.str name, .int .i64 kind, .str value]) [()] true).at (k := .i64) (i := 0) Tryz.underlying42 sz54 (fun _ => rfl) (by simp)
 have d1 : decide ((32 : Int) < 1) = false := rfl
 have d2 : decide ((0 : Int) < 1) = true := rfl
 have z0 : decide (¬ e = 0) = true := decide_eq_true he
 have hm2 := fun A B : Blk => hm H.length (H ++ [A] ++ [B]) (by simp)
 have s1 : ∀ A B : Blk, Go.Abs.hput H.length (H ++ [A] ++ [B] ++ [Blk.cells 0 [.str [], .int .i64 0, .str [], .nil]]) (H ++ [A] ++ [B]).length 0 0 [r0, r1, r2, r3] = some (H ++ [A] ++ [B] ++ [Blk.cells 0 [r0, r1, r2, r3]]) := fun A B => by
   rw [hput_new rfl (by simp) (by simp) (by simp [h0, h1, h2, h3])]; rfl
 unfold AV.leaf at h0 h1 h2 h3
 refine pure_slim rfl (by kernel_rfl) Tryz.func20 s20 hp hsnap (by simp [Tryz.f20]) fun fr hlen h => ?_
 simp only [Has, Nat.zero_add] at h
 obtain ⟨a0, -⟩ := h
 simp only [Tryz.f20] at hlen ⊢
 unfold g20
 simp only [w9, AV.cells, AV.leaf, reduceEqDiff, reduceLT, reduceAdd, reduceLeDiff, reduceCtorEq, reduceMul, reduceMod, u54, hlen, a0, hlen1, d1]
 refine loop_rule (fun m fr H' => m = 0 ∧ fr.length = 40 ∧ fget fr 14 = .vs [.agg [.str name, .int .i64 kind, .str value]] true ∧ fget fr 15 = .int .i64 1 ∧ fget fr 16 = .int .i64 0 ∧ H' = H ++ [Blk.cells 0 [.nilS]]) ?_ 0 _ _ ⟨rfl, by simp [w9, AV.cells, AV.leaf, reduceEqDiff, reduceLT, reduceAdd, reduceLeDiff, reduceCtorEq, reduceMul, reduceMod, u54, hlen, a0]⟩
 rintro m fr H' ⟨rfl, hlen, a14, a15, a16, rfl⟩ ih
 simp only [w9, AV.cells, AV.leaf, reduceEqDiff, reduceLT, reduceAdd, reduceLeDiff, reduceCtorEq, reduceMul, reduceMod, u54, hlen, a14, a15, a16, d2, e1, hm2, h0, h1, h2, h3, s1, z0]
 exact Fin_pure (l := [.nil, .int .i64 e]) (by simp [w9, AV.cells, AV.leaf, reduceEqDiff, reduceLT, reduceAdd, reduceLeDiff, reduceCtorEq, reduceMul, reduceMod, u54, hlen, aResults, aResult]) (ff2 rfl rfl) (by simp)
theorem of1_good (name value : List UInt8) (kind : Int) (r0 r1 r2 r3 : AV) (h0 : AV.leaf r0 = true) (h1 : AV.leaf r1 = true) (h2 : AV.leaf r2 = true) (h3 : AV.leaf r3 = true) (k0 : still r0 = true) (k1 : still r1 = true) (k2 : still r2 = true) (k3 : still r3 = true) (hm : ∀ (prot : Nat) (H : Heap), prot ≤ H.length → aLim cfg prot 54 [.agg [.str name, .int .i64 kind, .str value]] H = some (.tup [.agg [r0, r1, r2, r3], .int .i64 0], none)) (prot : Nat) (H : Heap) (hp : prot ≤ H.length) :
   aLim cfg prot 20 [.vs [.agg [.str name, .int .i64 kind, .str value]] true] H = some (.tup [.vptr [.vs [.agg [r0, r1, r2, r3]] false] 0, .int .i64 0], none) := by
 have hsnap : snap H [.vs [.agg [.str name, .int .i64 kind, .str value]] true] = some ([.vs [.agg [.str name, .int .i64 kind, .str value]] true], false) := rfl
 have hlen1 : ∀ K : Heap, aLen Tryz.prog K 42 (.vs [.agg [.str name, .int .i64 kind, .str value]] true) = some (.int .i64 1) := fun K => by simp [aLen, Tryz.underlying42]
 have e1 : aIndexAddr Tryz.prog 42 (.vs [.agg [.str name, .int .i64 kind, .str value]] true) (.int .i64 0) = some (.vptr [.str name, .int .i64 kind, .str value] 0) :=
   (Sl.vs (enc := fun _ : Unit => AV.agg [.str name, .int .i64 kind, .str value]) [()] true).at (k := .i64) (i := 0) Tryz.underlying42 sz54 (fun _ => rfl) (by simp)
 have d1 : decide ((32 : Int) < 1) = false := rfl
 have d2 : decide ((0 : Int) < 1) = true := rfl
 have z0 : decide (¬ (0 : Int) = 0) = false := rfl
 have hm2 := fun A B : Blk => hm H.length (H ++ [A] ++ [B]) (by simp)
 have s1 : ∀ A B : Blk, Go.Abs.hput H.length (H ++ [A] ++ [B] ++ [Blk.cells 0 [.str [], .int .i64 0, .str [], .nil]]) (H ++ [A] ++ [B]).length 0 0 [r0, r1, r2, r3] = some (H ++ [A] ++ [B] ++ [Blk.cells 0 [r0, r1, r2, r3]]) := fun A B => by
   rw [hput_new rfl (by simp) (by simp) (by simp [h0, h1, h2, h3])]; rfl
 have g30 : ∀ Y (B C : Blk), hget (H ++ [Blk.cells 0 Y] ++ [B] ++ [C]) H.length 0 = some Y := fun Y B C => hget_mono (hget_mono (by rw [hget_new rfl, if_pos rfl]) _) _
 have g40 : ∀ Y (B C D : Blk), hget (H ++ [Blk.cells 0 Y] ++ [B] ++ [C] ++ [D]) H.length 0 = some Y := fun Y B C D => hget_mono (g30 Y B C) _
 have g50 : ∀ Y (B C D E : Blk), hget (H ++ [Blk.cells 0 Y] ++ [B] ++ [C] ++ [D] ++ [E]) H.length 0 = some Y := fun Y B C D E => hget_mono (g40 Y B C D) _
 have g32 : ∀ (A B : Blk) Y, hget (H ++ [A] ++ [B] ++ [Blk.cells 0 Y]) (H ++ [A] ++ [B]).length 0 = some Y := fun A B Y => by rw [hget_new rfl, if_pos rfl]
 have lit1 := fun K => lit1W r0 r1 r2 r3 h0 h1 h2 h3 K
 have app1 := fun K => app1W r0 r1 r2 r3 h0 h1 h2 h3 H.length K
 have s5 : ∀ (B C D E : Blk) (v : AV), AV.leaf v = true → Go.Abs.hput H.length (H ++ [Blk.cells 0 [.nilS]] ++ [B] ++ [C] ++ [D] ++ [E]) H.length 0 0 [v] = some (H ++ [Blk.cells 0 [v]] ++ [B] ++ [C] ++ [D] ++ [E]) := fun B C D E v hv => by
   rw [hput_app (by simp) [E], hput_app (by simp) [D], hput_app (by simp) [C], hput_app (by simp) [B], hput_new rfl (by simp) (by simp) (by simp [hv])]; rfl
 have s6 := fun B C D E b => s5 B C D E (.bs b) rfl
 unfold AV.leaf at h0 h1 h2 h3
 refine pure_slim rfl (by kernel_rfl) Tryz.func20 s20 hp hsnap (by simp [Tryz.f20]) fun fr hlen h => ?_
 simp only [Has, Nat.zero_add] at h
 obtain ⟨a0, -⟩ := h
 simp only [Tryz.f20] at hlen ⊢
 unfold g20
 simp only [w9, AV.cells, AV.leaf, reduceEqDiff, reduceLT, reduceAdd, reduceLeDiff, reduceCtorEq, reduceMul, reduceMod, u54, hlen, a0, hlen1, d1]
 refine loop_rule (fun m fr H' => fr.length = 40 ∧ fget fr 4 = .ptr H.length 0 0 ∧ fget fr 14 = .vs [.agg [.str name, .int .i64 kind, .str value]] true ∧ fget fr 15 = .int .i64 1 ∧ ((m = 1 ∧ fget fr 16 = .int .i64 0 ∧ H' = H ++ [Blk.cells 0 [.nilS]]) ∨ (m = 0 ∧ fget fr 16 = .int .i64 1 ∧ H.length ≤ H'.length ∧ ∃ b v, H.length ≤ b ∧ hget H' H.length 0 = some [.bs ⟨b, v, 0, 1, 0, 4, true, false⟩] ∧ hget H' b v = some [r0, r1, r2, r3]))) ?_ 1 _ _ (by simp [w9, AV.cells, AV.leaf, reduceEqDiff, reduceLT, reduceAdd, reduceLeDiff, reduceCtorEq, reduceMul, reduceMod, u54, hlen, a0])
 rintro m fr H' ⟨hlen, a4, a14, a15, ⟨rfl, a16, rfl⟩ | ⟨rfl, a16, hle, b, v, hb, hg1, hg2⟩⟩ ih
 case inr =>
   have d3 : decide ((1 : Int) < 1) = false := rfl
   have hfb : Frz H' H.length (.bs ⟨b, v, 0, 1, 0, 4, true, false⟩) (.vs [.agg [r0, r1, r2, r3]] false) :=
     Frz.bs (s := ⟨b, v, 0, 1, 0, 4, true, false⟩) (w := [r0, r1, r2, r3]) (x := [r0, r1, r2, r3]) hb (show 0 < 4 by decide) rfl hg2 rfl (.cons (.still k0) (.cons (.still k1) (.cons (.still k2) (.cons (.still k3) .nil))))
   simp only [w9, AV.cells, AV.leaf, reduceEqDiff, reduceLT, reduceAdd, reduceLeDiff, reduceCtorEq, reduceMul, reduceMod, u54, hlen, a4, a14, a15, a16, d3]
   exact Fin_pure (l := [.ptr H.length 0 0, .int .i64 0]) (by simp [w9, AV.cells, AV.leaf, reduceEqDiff, reduceLT, reduceAdd, reduceLeDiff, reduceCtorEq, reduceMul, reduceMod, u54, hlen, aResults, aResult]) (.tup (.cons (.ptr (Nat.le_refl _) hg1 (.cons hfb .nil)) (.cons (.still rfl) .nil))) (by simp)
 simp only [w9, AV.cells, AV.leaf, reduceEqDiff, reduceLT, reduceAdd, reduceLeDiff, reduceCtorEq, reduceMul, reduceMod, u54, hlen, a4, a14, a15, a16, d2, g30, g32, lit1, app1, s6, e1, hm2, h0, h1, h2, h3, s1, z0]
 refine ⟨Bool.or_eq_true_iff.2 (.inl ?_), ?_⟩
 · rw [show befs [] _ = [0, 0, 2, 6, 14, 0, 32, 126, 255, 511, 1023] from by kernel_rfl]
   simp [w9, AV.cells, AV.leaf, reduceEqDiff, reduceLT, reduceAdd, reduceLeDiff, reduceCtorEq, reduceMul, reduceMod, u54, hlen, drawOk, chained, mayAt, sameAt, bound, List.range_succ, Nat.testBit, a4, a14, a15, a16, -List.append_assoc, g30, g40, g32, lit1, app1, s6, avbeq_refl]
 · refine ih _ _ 0 (by omega) ⟨by simp [w9, AV.cells, AV.leaf, reduceEqDiff, reduceLT, reduceAdd, reduceLeDiff, reduceCtorEq, reduceMul, reduceMod, u54, hlen, a4], by simp [w9, AV.cells, AV.leaf, reduceEqDiff, reduceLT, reduceAdd, reduceLeDiff, reduceCtorEq, reduceMul, reduceMod, u54, hlen, a4], by simp [w9, AV.cells, AV.leaf, reduceEqDiff, reduceLT, reduceAdd, reduceLeDiff, reduceCtorEq, reduceMul, reduceMod, u54, hlen, a14], by simp [w9, AV.cells, AV.leaf, reduceEqDiff, reduceLT, reduceAdd, reduceLeDiff, reduceCtorEq, reduceMul, reduceMod, u54, hlen, a15], .inr ⟨rfl, ?_, ?_, ?_⟩⟩
   · simp [w9, AV.cells, AV.leaf, reduceEqDiff, reduceLT, reduceAdd, reduceLeDiff, reduceCtorEq, reduceMul, reduceMod, u54, hlen, a16]; rfl
   · simp
   · refine ⟨_, _, ?_, g50 _ _ _ _ _, ?_⟩
     · simp; omega
     · rw [hget_new (by simp), if_pos rfl]
end Go.Proofs.YtnipaiklandliaaGreatDoor
/- A matcher fits labels, walked. -/
set_option maxRecDepth 100000
namespace Go.Proofs.YtnipaiklandliaaGreatDoor
open Go Go.Abs AbsSeat Ty
open Nat (reduceEqDiff reduceLT reduceAdd reduceLeDiff reduceMul reduceMod)
theorem match_b (l : List St) (hr : RightM l) (hsp : ∀ s ∈ l, s.sp.length < 1000000000) (a : Nat) (ha : a < l.length) (hln : l.length ≤ 100000) (s : List UInt8) (hs : s.length ≤ 10000) :
   ∃ b : Bool, ∀ (prot : Nat) (H : Heap), prot ≤ H.length → aLim cfg prot 92 [encM l a, .str s] H = some (.bool b, none) := by
 obtain ⟨b, hb, -⟩ := match_acc l hr hsp a ha hln s hs 0 [] (Nat.le_refl _)
 refine ⟨b, fun prot H hp => ?_⟩
 obtain ⟨b', hb', h⟩ := match_acc l hr hsp a ha hln s hs prot H hp
 have : b' = b := Bool.eq_iff_iff.2 (hb'.trans hb.symm)
 rw [← this]; exact h
theorem mfits1 (name value : List UInt8) (m : AV) (hm : AV.leaf m = true) (l : List Pr) (v : AV) (hv : Sl encP v l) (hl : l.length < 1000000000) (prot : Nat) (H : Heap) (hp : prot ≤ H.length) :
   aLim cfg prot 60 [.agg [.str name, .int .i64 1, .str value, m], .agg [v]] H = some (.bool ((getU l name == value)), none) := by
 have hsnap : snap H [.agg [.str name, .int .i64 1, .str value, m], .agg [v]] = some ([.agg [.str name, .int .i64 1, .str value, m], .agg [v]], false) := rfl
 have hmc : AV.cells m = [m] := by cases m <;> first | rfl | (cases hm)
 have hvl := Sl.leaf hv
 have hvc := Sl.cells1 hv
 have hl1 : ∀ A : Blk, (H ++ [A]).length = H.length + 1 := fun A => by simp
 have g20 : ∀ Y (B : Blk), hget (H ++ [Blk.cells 0 Y] ++ [B]) H.length 0 = some Y := fun Y B => hget_mono (by rw [hget_new rfl, if_pos rfl]) _
 have g21 : ∀ (A : Blk) Y, hget (H ++ [A] ++ [Blk.cells 0 Y]) (H.length + 1) 0 = some Y := fun A Y => by rw [hget_new (by simp), if_pos rfl]
 have n1 := fun A B : Blk => get_ok l name v hv hl H.length (H ++ [A] ++ [B]) (by simp)
 have d1 : decide ((1 : Int) = 1) = true := rfl
 have d2 : decide ((1 : Int) = 2) = false := rfl
 have d3 : decide ((1 : Int) = 3) = false := rfl
 generalize getU l name = g at *
 generalize hq : (g == value) = q at *
 have hbb : ∀ xo yo, aBin Tryz.prog .eql 4 xo yo (.bool q) (.bool true) = some (.bool (q)) := fun xo yo => by rw [bin_eqb Tryz.underlying4]; cases q <;> rfl
 unfold AV.leaf at hm hvl
 unfold AV.cells at hmc hvc
 refine pure_slim rfl (by kernel_rfl) Tryz.func60 s60 hp hsnap (by simp [Tryz.f60]) fun fr hlen h => ?_
 simp only [Has, Nat.zero_add] at h
 obtain ⟨a0, a1, -⟩ := h
 simp only [Tryz.f60] at hlen ⊢
 unfold g60
 simp only [w9, AV.cells, AV.leaf, reduceEqDiff, reduceLT, reduceAdd, reduceLeDiff, reduceCtorEq, reduceMul, reduceMod, u54, hlen, a0, a1, hm, hmc, hvl, hvc, hl1, g20, g21, n1, d1, d2, d3, str_eql, hq, hbb, none_beq]
 exact Fin_pure (l := [.bool (q)]) (by simp [w9, AV.cells, AV.leaf, reduceEqDiff, reduceLT, reduceAdd, reduceLeDiff, reduceCtorEq, reduceMul, reduceMod, u54, aResults, aResult, hlen]) (.still rfl) (by simp)
theorem mfits2 (name value : List UInt8) (m : AV) (hm : AV.leaf m = true) (l : List Pr) (v : AV) (hv : Sl encP v l) (hl : l.length < 1000000000) (prot : Nat) (H : Heap) (hp : prot ≤ H.length) :
   aLim cfg prot 60 [.agg [.str name, .int .i64 2, .str value, m], .agg [v]] H = some (.bool (!(getU l name == value)), none) := by
 have hsnap : snap H [.agg [.str name, .int .i64 2, .str value, m], .agg [v]] = some ([.agg [.str name, .int .i64 2, .str value, m], .agg [v]], false) := rfl
 have hmc : AV.cells m = [m] := by cases m <;> first | rfl | (cases hm)
 have hvl := Sl.leaf hv
 have hvc := Sl.cells1 hv
 have hl1 : ∀ A : Blk, (H ++ [A]).length = H.length + 1 := fun A => by simp
 have g20 : ∀ Y (B : Blk), hget (H ++ [Blk.cells 0 Y] ++ [B]) H.length 0 = some Y := fun Y B => hget_mono (by rw [hget_new rfl, if_pos rfl]) _
 have g21 : ∀ (A : Blk) Y, hget (H ++ [A] ++ [Blk.cells 0 Y]) (H.length + 1) 0 = some Y := fun A Y => by rw [hget_new (by simp), if_pos rfl]
 have n1 := fun A B : Blk => get_ok l name v hv hl H.length (H ++ [A] ++ [B]) (by simp)
 have d1 : decide ((2 : Int) = 1) = false := rfl
 have d2 : decide ((2 : Int) = 2) = true := rfl
 have d3 : decide ((2 : Int) = 3) = false := rfl
 generalize getU l name = g at *
 generalize hq : (g == value) = q at *
 have hbb : ∀ xo yo, aBin Tryz.prog .eql 4 xo yo (.bool q) (.bool false) = some (.bool (!q)) := fun xo yo => by rw [bin_eqb Tryz.underlying4]; cases q <;> rfl
 unfold AV.leaf at hm hvl
 unfold AV.cells at hmc hvc
 refine pure_slim rfl (by kernel_rfl) Tryz.func60 s60 hp hsnap (by simp [Tryz.f60]) fun fr hlen h => ?_
 simp only [Has, Nat.zero_add] at h
 obtain ⟨a0, a1, -⟩ := h
 simp only [Tryz.f60] at hlen ⊢
 unfold g60
 simp only [w9, AV.cells, AV.leaf, reduceEqDiff, reduceLT, reduceAdd, reduceLeDiff, reduceCtorEq, reduceMul, reduceMod, u54, hlen, a0, a1, hm, hmc, hvl, hvc, hl1, g20, g21, n1, d1, d2, d3, str_eql, hq, hbb, none_beq]
 exact Fin_pure (l := [.bool (!q)]) (by simp [w9, AV.cells, AV.leaf, reduceEqDiff, reduceLT, reduceAdd, reduceLeDiff, reduceCtorEq, reduceMul, reduceMod, u54, aResults, aResult, hlen]) (.still rfl) (by simp)
theorem mfits3 (name value : List UInt8) (m : AV) (hm : AV.leaf m = true) (l : List Pr) (v : AV) (hv : Sl encP v l) (hl : l.length < 1000000000) (b : Bool) (hmb : ∀ (prot : Nat) (H : Heap), prot ≤ H.length → aLim cfg prot 92 [m, .str (getU l name)] H = some (.bool b, none)) (prot : Nat) (H : Heap) (hp : prot ≤ H.length) :
   aLim cfg prot 60 [.agg [.str name, .int .i64 3, .str value, m], .agg [v]] H = some (.bool (b), none) := by
 have hsnap : snap H [.agg [.str name, .int .i64 3, .str value, m], .agg [v]] = some ([.agg [.str name, .int .i64 3, .str value, m], .agg [v]], false) := rfl
 have hmc : AV.cells m = [m] := by cases m <;> first | rfl | (cases hm)
 have hvl := Sl.leaf hv
 have hvc := Sl.cells1 hv
 have hl1 : ∀ A : Blk, (H ++ [A]).length = H.length + 1 := fun A => by simp
 have g20 : ∀ Y (B : Blk), hget (H ++ [Blk.cells 0 Y] ++ [B]) H.length 0 = some Y := fun Y B => hget_mono (by rw [hget_new rfl, if_pos rfl]) _
 have g21 : ∀ (A : Blk) Y, hget (H ++ [A] ++ [Blk.cells 0 Y]) (H.length + 1) 0 = some Y := fun A Y => by rw [hget_new (by simp), if_pos rfl]
 have n1 := fun A B : Blk => get_ok l name v hv hl H.length (H ++ [A] ++ [B]) (by simp)
 have n2 := fun A B : Blk => hmb H.length (H ++ [A] ++ [B]) (by simp)
 have d1 : decide ((3 : Int) = 1) = false := rfl
 have d2 : decide ((3 : Int) = 2) = false := rfl
 have d3 : decide ((3 : Int) = 3) = true := rfl
 generalize getU l name = g at *
 have hbb : ∀ xo yo, aBin Tryz.prog .eql 4 xo yo (.bool b) (.bool true) = some (.bool (b)) := fun xo yo => by rw [bin_eqb Tryz.underlying4]; cases b <;> rfl
 unfold AV.leaf at hm hvl
 unfold AV.cells at hmc hvc
 refine pure_slim rfl (by kernel_rfl) Tryz.func60 s60 hp hsnap (by simp [Tryz.f60]) fun fr hlen h => ?_
 simp only [Has, Nat.zero_add] at h
 obtain ⟨a0, a1, -⟩ := h
 simp only [Tryz.f60] at hlen ⊢
 unfold g60
 simp only [w9, AV.cells, AV.leaf, reduceEqDiff, reduceLT, reduceAdd, reduceLeDiff, reduceCtorEq, reduceMul, reduceMod, u54, hlen, a0, a1, hm, hmc, hvl, hvc, hl1, g20, g21, n1, n2, d1, d2, d3, hbb, none_beq]
 exact Fin_pure (l := [.bool (b)]) (by simp [w9, AV.cells, AV.leaf, reduceEqDiff, reduceLT, reduceAdd, reduceLeDiff, reduceCtorEq, reduceMul, reduceMod, u54, aResults, aResult, hlen]) (.still rfl) (by simp)
theorem mfits4 (name value : List UInt8) (m : AV) (hm : AV.leaf m = true) (l : List Pr) (v : AV) (hv : Sl encP v l) (hl : l.length < 1000000000) (b : Bool) (hmb : ∀ (prot : Nat) (H : Heap), prot ≤ H.length → aLim cfg prot 92 [m, .str (getU l name)] H = some (.bool b, none)) (prot : Nat) (H : Heap) (hp : prot ≤ H.length) :
   aLim cfg prot 60 [.agg [.str name, .int .i64 4, .str value, m], .agg [v]] H = some (.bool (!b), none) := by
 have hsnap : snap H [.agg [.str name, .int .i64 4, .str value, m], .agg [v]] = some ([.agg [.str name, .int .i64 4, .str value, m], .agg [v]], false) := rfl
 have hmc : AV.cells m = [m] := by cases m <;> first | rfl | (cases hm)
 have hvl := Sl.leaf hv
 have hvc := Sl.cells1 hv
 have hl1 : ∀ A : Blk, (H ++ [A]).length = H.length + 1 := fun A => by simp
 have g20 : ∀ Y (B : Blk), hget (H ++ [Blk.cells 0 Y] ++ [B]) H.length 0 = some Y := fun Y B => hget_mono (by rw [hget_new rfl, if_pos rfl]) _
 have g21 : ∀ (A : Blk) Y, hget (H ++ [A] ++ [Blk.cells 0 Y]) (H.length + 1) 0 = some Y := fun A Y => by rw [hget_new (by simp), if_pos rfl]
 have n1 := fun A B : Blk => get_ok l name v hv hl H.length (H ++ [A] ++ [B]) (by simp)
 have n2 := fun A B : Blk => hmb H.length (H ++ [A] ++ [B]) (by simp)
 have d1 : decide ((4 : Int) = 1) = false := rfl
 have d2 : decide ((4 : Int) = 2) = false := rfl
 have d3 : decide ((4 : Int) = 3) = false := rfl
 generalize getU l name = g at *
 have hbb : ∀ xo yo, aBin Tryz.prog .eql 4 xo yo (.bool b) (.bool false) = some (.bool (!b)) := fun xo yo => by rw [bin_eqb Tryz.underlying4]; cases b <;> rfl
 unfold AV.leaf at hm hvl
 unfold AV.cells at hmc hvc
 refine pure_slim rfl (by kernel_rfl) Tryz.func60 s60 hp hsnap (by simp [Tryz.f60]) fun fr hlen h => ?_
 simp only [Has, Nat.zero_add] at h
 obtain ⟨a0, a1, -⟩ := h
 simp only [Tryz.f60] at hlen ⊢
 unfold g60
 simp only [w9, AV.cells, AV.leaf, reduceEqDiff, reduceLT, reduceAdd, reduceLeDiff, reduceCtorEq, reduceMul, reduceMod, u54, hlen, a0, a1, hm, hmc, hvl, hvc, hl1, g20, g21, n1, n2, d1, d2, d3, hbb, none_beq]
 exact Fin_pure (l := [.bool (!b)]) (by simp [w9, AV.cells, AV.leaf, reduceEqDiff, reduceLT, reduceAdd, reduceLeDiff, reduceCtorEq, reduceMul, reduceMod, u54, aResults, aResult, hlen]) (.still rfl) (by simp)
end Go.Proofs.YtnipaiklandliaaGreatDoor
/- A list of one matcher fits labels, walked. -/
set_option maxRecDepth 100000
namespace Go.Proofs.YtnipaiklandliaaGreatDoor
open Go Go.Abs AbsSeat Ty
open Nat (reduceEqDiff reduceLT reduceAdd reduceLeDiff reduceMul reduceMod)
theorem mhas_nil (v : AV) (hv : AV.leaf v = true) (hsnap : ∀ H, snap H [.nil, .agg [v]] = some ([.nil, .agg [v]], false)) (prot : Nat) (H : Heap) (hp : prot ≤ H.length) : aLim cfg prot 27 [.nil, .agg [v]] H = some (.bool true, none) := by
 have hvc : AV.cells v = [v] := by cases v <;> first | rfl | (cases hv)
 have hsnap := hsnap H
 unfold AV.leaf at hv
 unfold AV.cells at hvc
 refine pure_slim rfl (by kernel_rfl) Tryz.func27 s27 hp hsnap (by simp [Tryz.f27]) fun fr hlen h => ?_
 simp only [Has, Nat.zero_add] at h
 obtain ⟨a0, a1, -⟩ := h
 simp only [Tryz.f27] at hlen ⊢
 unfold g27
 simp only [w9, AV.cells, AV.leaf, reduceEqDiff, reduceLT, reduceAdd, reduceLeDiff, reduceCtorEq, reduceMul, reduceMod, u54, hlen, a0, a1, hv, hvc]
 exact Fin_pure (l := [.bool true]) (by simp [w9, AV.cells, AV.leaf, reduceEqDiff, reduceLT, reduceAdd, reduceLeDiff, reduceCtorEq, reduceMul, reduceMod, u54, aResults, aResult, hlen]) (.still rfl) (by simp)
theorem mhas1 (r0 r1 r2 r3 v : AV) (h0 : AV.leaf r0 = true) (h1 : AV.leaf r1 = true) (h2 : AV.leaf r2 = true) (h3 : AV.leaf r3 = true) (hv : AV.leaf v = true)
   (hsnap : ∀ H, snap H [.vptr [.vs [.agg [r0, r1, r2, r3]] false] 0, .agg [v]] = some ([.vptr [.vs [.agg [r0, r1, r2, r3]] false] 0, .agg [v]], false)) (q : Bool)
   (hf : ∀ (prot : Nat) (H : Heap), prot ≤ H.length → aLim cfg prot 60 [.agg [r0, r1, r2, r3], .agg [v]] H = some (.bool q, none)) (prot : Nat) (H : Heap) (hp : prot ≤ H.length) :
   aLim cfg prot 27 [.vptr [.vs [.agg [r0, r1, r2, r3]] false] 0, .agg [v]] H = some (.bool q, none) := by
 have hvc : AV.cells v = [v] := by cases v <;> first | rfl | (cases hv)
 have hsnap := hsnap H
 have hlen1 : ∀ K : Heap, aLen Tryz.prog K 95 (.vs [.agg [r0, r1, r2, r3]] false) = some (.int .i64 1) := fun K => by simp [aLen, Tryz.underlying95]
 have e1 : aIndexAddr Tryz.prog 95 (.vs [.agg [r0, r1, r2, r3]] false) (.int .i64 0) = some (.vptr [r0, r1, r2, r3] 0) :=
   (Sl.vs (enc := fun _ : Unit => AV.agg [r0, r1, r2, r3]) [()] false).at (k := .i64) (i := 0) Tryz.underlying95 sz100 (fun _ => rfl) (by simp)
 have pq : ∀ xo yo, aBin Tryz.prog .eql 45 xo yo (.vptr [.vs [.agg [r0, r1, r2, r3]] false] 0) .nil = some (.bool false) := fun xo yo => by simp [aBin, aNilNe, Tryz.underlying45]
 have d2 : decide ((0 : Int) < 1) = true := rfl
 have d3 : decide ((1 : Int) < 1) = false := rfl
 have hl1 : ∀ A : Blk, (H ++ [A]).length = H.length + 1 := fun A => by simp
 have s1 : ∀ A : Blk, Go.Abs.hput H.length (H ++ [A] ++ [Blk.cells 0 [.str [], .int .i64 0, .str [], .nil]]) (H.length + 1) 0 0 [r0, r1, r2, r3] = some (H ++ [A] ++ [Blk.cells 0 [r0, r1, r2, r3]]) := fun A => by
   rw [hput_new (by simp) (by simp) (by simp) (by simp [h0, h1, h2, h3])]; rfl
 have g20 : ∀ Y (B : Blk), hget (H ++ [Blk.cells 0 Y] ++ [B]) H.length 0 = some Y := fun Y B => hget_mono (by rw [hget_new rfl, if_pos rfl]) _
 have g21 : ∀ (A : Blk) Y, hget (H ++ [A] ++ [Blk.cells 0 Y]) (H.length + 1) 0 = some Y := fun A Y => by rw [hget_new (by simp), if_pos rfl]
 have n1 := fun A B : Blk => hf H.length (H ++ [A] ++ [B]) (by simp)
 unfold AV.leaf at h0 h1 h2 h3 hv
 unfold AV.cells at hvc
 refine pure_slim rfl (by kernel_rfl) Tryz.func27 s27 hp hsnap (by simp [Tryz.f27]) fun fr hlen h => ?_
 simp only [Has, Nat.zero_add] at h
 obtain ⟨a0, a1, -⟩ := h
 simp only [Tryz.f27] at hlen ⊢
 unfold g27
 simp only [w9, AV.cells, AV.leaf, reduceEqDiff, reduceLT, reduceAdd, reduceLeDiff, reduceCtorEq, reduceMul, reduceMod, u54, hlen, a0, a1, hv, hvc, pq, hlen1]
 refine loop_rule (fun m fr H' => fr.length = 23 ∧ fget fr 3 = .ptr H.length 0 0 ∧ fget fr 12 = .vs [.agg [r0, r1, r2, r3]] false ∧ fget fr 13 = .int .i64 1 ∧ ((m = 1 ∧ fget fr 14 = .int .i64 0 ∧ H' = H ++ [Blk.cells 0 [v]]) ∨ (m = 0 ∧ fget fr 14 = .int .i64 1 ∧ q = true))) ?_ 1 _ _ (by simp [w9, AV.cells, AV.leaf, reduceEqDiff, reduceLT, reduceAdd, reduceLeDiff, reduceCtorEq, reduceMul, reduceMod, u54, hlen, a0, a1])
 rintro m fr H' ⟨hlen, a3, a12, a13, ⟨rfl, a14, rfl⟩ | ⟨rfl, a14, rfl⟩⟩ ih
 · cases q with
   | false =>
     simp only [w9, AV.cells, AV.leaf, reduceEqDiff, reduceLT, reduceAdd, reduceLeDiff, reduceCtorEq, reduceMul, reduceMod, u54, hlen, a3, a12, a13, a14, d2, e1, hl1, h0, h1, h2, h3, s1, g20, g21, n1]
     exact Fin_pure (l := [.bool false]) (by simp [w9, AV.cells, AV.leaf, reduceEqDiff, reduceLT, reduceAdd, reduceLeDiff, reduceCtorEq, reduceMul, reduceMod, u54, aResults, aResult, hlen]) (.still rfl) (by simp)
   | true =>
     simp only [w9, AV.cells, AV.leaf, reduceEqDiff, reduceLT, reduceAdd, reduceLeDiff, reduceCtorEq, reduceMul, reduceMod, u54, hlen, a3, a12, a13, a14, d2, e1, hl1, h0, h1, h2, h3, s1, g20, g21, n1]
     refine ih _ _ 0 (by omega) ⟨by simp [w9, AV.cells, AV.leaf, reduceEqDiff, reduceLT, reduceAdd, reduceLeDiff, reduceCtorEq, reduceMul, reduceMod, u54, hlen, a3], by simp [w9, AV.cells, AV.leaf, reduceEqDiff, reduceLT, reduceAdd, reduceLeDiff, reduceCtorEq, reduceMul, reduceMod, u54, hlen, a3], by simp [w9, AV.cells, AV.leaf, reduceEqDiff, reduceLT, reduceAdd, reduceLeDiff, reduceCtorEq, reduceMul, reduceMod, u54, hlen, a12], by simp [w9, AV.cells, AV.leaf, reduceEqDiff, reduceLT, reduceAdd, reduceLeDiff, reduceCtorEq, reduceMul, reduceMod, u54, hlen, a13], .inr ⟨rfl, ?_, rfl⟩⟩
     simp [w9, AV.cells, AV.leaf, reduceEqDiff, reduceLT, reduceAdd, reduceLeDiff, reduceCtorEq, reduceMul, reduceMod, u54, hlen, a14]; rfl
 · simp only [w9, AV.cells, AV.leaf, reduceEqDiff, reduceLT, reduceAdd, reduceLeDiff, reduceCtorEq, reduceMul, reduceMod, u54, hlen, a3, a12, a13, a14, d3]
   exact Fin_pure (l := [.bool true]) (by simp [w9, AV.cells, AV.leaf, reduceEqDiff, reduceLT, reduceAdd, reduceLeDiff, reduceCtorEq, reduceMul, reduceMod, u54, aResults, aResult, hlen]) (.still rfl) (by simp)
end Go.Proofs.YtnipaiklandliaaGreatDoor
/- Chapter 17's example. -/
namespace Go.Proofs.YtnipaiklandliaaGreatDoor
open Go Go.Abs AbsSeat Ty
open Nat (reduceEqDiff reduceLT reduceAdd reduceLeDiff reduceMul reduceMod)
theorem awake17_run : aCall cfg 1000 0 22 [] [] = some (.bool true, none) := by kernel_rfl
theorem awake17_ok (prot : Nat) (H : Heap) : aLim cfg prot 22 [] H = some (.bool true, none) :=
 lim_shut (k := 1000) (by kernel_rfl) (by kernel_rfl) awake17_run prot H
end Go.Proofs.YtnipaiklandliaaGreatDoor
/- The law MatchEither, walked. -/
set_option maxRecDepth 100000
namespace Go.Proofs.YtnipaiklandliaaGreatDoor
open Go Go.Abs AbsSeat Ty
open Nat (reduceEqDiff reduceLT reduceAdd reduceLeDiff reduceMul reduceMod)
theorem u6 : type_of% (And.intro (show tagT Tryz.prog 27 = 0 from by kernel_rfl) (And.intro ag1 (And.intro sz1 (And.intro by1 (And.intro ze1 (And.intro Tryz.underlying1 (And.intro ag3 (And.intro sz3 (And.intro by3 (And.intro ze3 (And.intro Tryz.underlying3 (And.intro ag4 (And.intro sz4 (And.intro by4 (And.intro ze4 (And.intro Tryz.underlying4 (And.intro ag9 (And.intro sz9 (And.intro by9 (And.intro ze9 (And.intro Tryz.underlying9 (And.intro ag22 (And.intro sz22 (And.intro by22 (And.intro se22 (And.intro ze22 (And.intro Tryz.underlying22 (And.intro ag23 (And.intro sz23 (And.intro by23 (And.intro se23 (And.intro ze23 (And.intro Tryz.underlying23 (And.intro ag27 (And.intro sz27 (And.intro by27 (And.intro ze27 (And.intro bu27 (And.intro Tryz.underlying27 (And.intro ag28 (And.intro sz28 (And.intro by28 (And.intro ze28 (And.intro Tryz.underlying28 (And.intro ag42 (And.intro sz42 (And.intro by42 (And.intro se42 (And.intro ze42 (And.intro Tryz.underlying42 (And.intro ag45 (And.intro sz45 (And.intro by45 (And.intro ze45 (And.intro Tryz.underlying45 (And.intro ag54 (And.intro sz54 (And.intro by54 (And.intro ze54 (And.intro bu54 (And.intro Tryz.underlying54 (And.intro ag58 (And.intro sz58 (And.intro by58 (And.intro ze58 (And.intro bu58 (And.intro Tryz.underlying58 (And.intro ag59 (And.intro sz59 (And.intro by59 (And.intro ze59 (And.intro bu59 Tryz.underlying59)))))))))))))))))))))))))))))))))))))))))))))))))))))))))))))))))))))))) := And.intro (show tagT Tryz.prog 27 = 0 from by kernel_rfl) (And.intro ag1 (And.intro sz1 (And.intro by1 (And.intro ze1 (And.intro Tryz.underlying1 (And.intro ag3 (And.intro sz3 (And.intro by3 (And.intro ze3 (And.intro Tryz.underlying3 (And.intro ag4 (And.intro sz4 (And.intro by4 (And.intro ze4 (And.intro Tryz.underlying4 (And.intro ag9 (And.intro sz9 (And.intro by9 (And.intro ze9 (And.intro Tryz.underlying9 (And.intro ag22 (And.intro sz22 (And.intro by22 (And.intro se22 (And.intro ze22 (And.intro Tryz.underlying22 (And.intro ag23 (And.intro sz23 (And.intro by23 (And.intro se23 (And.intro ze23 (And.intro Tryz.underlying23 (And.intro ag27 (And.intro sz27 (And.intro by27 (And.intro ze27 (And.intro bu27 (And.intro Tryz.underlying27 (And.intro ag28 (And.intro sz28 (And.intro by28 (And.intro ze28 (And.intro Tryz.underlying28 (And.intro ag42 (And.intro sz42 (And.intro by42 (And.intro se42 (And.intro ze42 (And.intro Tryz.underlying42 (And.intro ag45 (And.intro sz45 (And.intro by45 (And.intro ze45 (And.intro Tryz.underlying45 (And.intro ag54 (And.intro sz54 (And.intro by54 (And.intro ze54 (And.intro bu54 (And.intro Tryz.underlying54 (And.intro ag58 (And.intro sz58 (And.intro by58 (And.intro ze58 (And.intro bu58 (And.intro Tryz.underlying58 (And.intro ag59 (And.intro sz59 (And.intro by59 (And.intro ze59 (And.intro bu59 Tryz.underlying59)))))))))))))))))))))))))))))))))))))))))))))))))))))))))))))))))))))))
def g6 : Code :=
 .seq (.region 0 #[q 8 (.assign (.const (.bool false))) 4] false) (.seq (.seq (.region 1 #[q 20 (.move (.tmp 1)) 9, q 21 (bi .len #[.tmp 20] #[9]) 3, q 22 (.binOp .gtr 3 (.tmp 21) (ik 30) 3) 4] false) (.cond (.tmp 22) (.region 2 #[q 23 (.move (.tmp 1)) 9, q 24 (.slice 9 (.tmp 23) none (some (ik 30)) none) 9, q 1 (.assign (.tmp 24)) 9] false) .skip)) (.seq (.region 3 #[q 26 (.move (.tmp 3)) 22, q 27 (cl 7 #[.tmp 26] #[22]) 24, q 25 (.move (.tmp 27)) 24, q 28 (.extract (.tmp 25) 0) 23, q 29 (.extract (.tmp 25) 1) 22, q 9 (.assign (.tmp 28)) 23, q 10 (.assign (.tmp 29)) 22] false) (.seq (.region 4 #[q 31 (.move (.tmp 9)) 23, q 32 (cl 8 #[.tmp 31] #[23]) 29, q 30 (.move (.tmp 32)) 29, q 33 (.extract (.tmp 30) 0) 27, q 34 (.extract (.tmp 30) 1) 28, q 11 (.alloc 27) 0, qn (.store 27 (.tmp 11) (.tmp 33)) 0, q 12 (.assign (.tmp 34)) 28] false) (.seq (.region 5 #[q 13 (.assign (ik 1)) 3, q 14 (.assign (ik 2)) 3] false) (.seq (.seq (.region 6 #[q 35 (.move (.tmp 2)) 4] false) (.cond (.tmp 35) (.region 7 #[q 13 (.assign (ik 3)) 3, q 14 (.assign (ik 4)) 3] false) .skip)) (.seq (.region 8 #[q 37 (.move (.tmp 0)) 9, q 38 (.move (.tmp 13)) 3, q 39 (.move (.tmp 1)) 9, q 40 (.build 54 #[(0, .tmp 37), (1, .tmp 38), (2, .tmp 39)]) 54, q 41 (.buildSlice 42 1 #[(0, .tmp 40)]) 42, q 42 (cl 20 #[.tmp 41] #[42]) 46, q 36 (.move (.tmp 42)) 46, q 43 (.extract (.tmp 36) 0) 45, q 44 (.extract (.tmp 36) 1) 28, q 15 (.assign (.tmp 43)) 45, q 16 (.assign (.tmp 44)) 28] false) (.seq (.region 9 #[q 46 (.move (.tmp 0)) 9, q 47 (.move (.tmp 14)) 3, q 48 (.move (.tmp 1)) 9, q 49 (.build 54 #[(0, .tmp 46), (1, .tmp 47), (2, .tmp 48)]) 54, q 50 (.buildSlice 42 1 #[(0, .tmp 49)]) 42, q 51 (cl 20 #[.tmp 50] #[42]) 46, q 45 (.move (.tmp 51)) 46, q 52 (.extract (.tmp 45) 0) 45, q 53 (.extract (.tmp 45) 1) 28, q 17 (.assign (.tmp 52)) 45, q 18 (.assign (.tmp 53)) 28] false) (.seq (.seq (.region 10 #[q 54 (.move (.tmp 16)) 28, q 55 (.binOp .neq 28 (.tmp 54) (ik 0) 28) 4, q 56 (.move (.tmp 55)) 4, qg 57 (.move (.tmp 18)) 28 2 false, qg 58 (.binOp .neq 28 (.tmp 57) (ik 0) 28) 4 2 false, q 59 (.pick (.tmp 56) (.const (.bool true)) (.tmp 58)) 4] false) (.cond (.tmp 59) (.seq (.region 11 #[q 60 (.move (.tmp 16)) 28, q 61 (.move (.tmp 18)) 28, q 62 (.binOp .eql 28 (.tmp 60) (.tmp 61) 28) 4, q 63 (.move (.tmp 62)) 4, qg 64 (cl 22 #[] #[]) 4 3 true, q 65 (.pick (.tmp 63) (.tmp 64) (.const (.bool false))) 4, q 8 (.assign (.tmp 65)) 4] false) .ret) .skip)) (.seq (.region 12 #[q 19 (.assign (.const (.pointer none))) 45] false) (.seq (.region 13 #[q 66 (.move (.tmp 15)) 45, q 67 (.load 27 (.tmp 11)) 27, q 68 (cl 27 #[.tmp 66, .tmp 67] #[45, 27]) 4, q 69 (.move (.tmp 17)) 45, q 70 (.load 27 (.tmp 11)) 27, q 71 (cl 27 #[.tmp 69, .tmp 70] #[45, 27]) 4, q 72 (.binOp .neq 4 (.tmp 68) (.tmp 71) 4) 4, q 73 (.move (.tmp 72)) 4, qg 74 (.move (.tmp 19)) 45 7 true, qg 75 (.load 27 (.tmp 11)) 27 7 true, qg 76 (cl 27 #[.tmp 74, .tmp 75] #[45, 27]) 4 7 true, q 77 (.pick (.tmp 73) (.tmp 76) (.const (.bool false))) 4, q 78 (.move (.tmp 77)) 4, qg 79 (.move (.tmp 19)) 45 12 true, qg 80 (cl 21 #[.tmp 79] #[45]) 3 12 true, qg 81 (.binOp .eql 3 (.tmp 80) (ik 0) 3) 4 12 true, q 82 (.pick (.tmp 78) (.tmp 81) (.const (.bool false))) 4, q 83 (.move (.tmp 82)) 4, qg 84 (.move (.tmp 19)) 45 17 true, qg 85 (cl 24 #[.tmp 84] #[45]) 9 17 true, qg 86 (.binOp .eql 9 (.tmp 85) (.const (.string { data := #[123, 125] })) 9) 4 17 true, q 87 (.pick (.tmp 83) (.tmp 86) (.const (.bool false))) 4, q 88 (.move (.tmp 87)) 4, qg 89 (cl 22 #[] #[]) 4 22 true, q 90 (.pick (.tmp 88) (.tmp 89) (.const (.bool false))) 4, q 8 (.assign (.tmp 90)) 4] false) .ret))))))))))
theorem s6 : Tryz.f6.body.map (slim cfg) = some g6 := by kernel_rfl
theorem either_of (name value : List UInt8) (hn : name.length ≤ 9223372036854775807) (hv : value.length ≤ 1000) (k : Bool) :
   (∃ e : Int, e ≠ 0 ∧ ∀ (b : Bool) (prot : Nat) (H : Heap), prot ≤ H.length → aLim cfg prot 20 [.vs [.agg [.str name, .int .i64 (if k then (if b then 3 else 4) else (if b then 1 else 2)), .str value]] true] H = some (.tup [.nil, .int .i64 e], none)) ∨
   (∃ m : AV, AV.leaf m = true ∧ still m = true ∧ (k = false → m = .nil) ∧ (k = true → ∃ l a, RightM l ∧ SpOk l ∧ l.length ≤ 401 ∧ a < l.length ∧ m = encM l a) ∧
     ∀ (b : Bool) (prot : Nat) (H : Heap), prot ≤ H.length → aLim cfg prot 20 [.vs [.agg [.str name, .int .i64 (if k then (if b then 3 else 4) else (if b then 1 else 2)), .str value]] true] H = some (.tup [.vptr [.vs [.agg [.str name, .int .i64 (if k then (if b then 3 else 4) else (if b then 1 else 2)), .str value, m]] false] 0, .int .i64 0], none)) := by
 by_cases hb : (nameL name && validU value) = true
 · simp only [Bool.and_eq_true] at hb
   obtain ⟨h1, h2⟩ := hb
   cases k with
   | false =>
     refine .inr ⟨.nil, rfl, rfl, fun _ => rfl, fun h => (by cases h), fun b prot H hp => ?_⟩
     cases b with
     | true => exact of1_good name value 1 _ _ _ _ rfl rfl rfl rfl rfl rfl rfl rfl (fun p K h => made1 name value hn hv h1 h2 p K h) prot H hp
     | false => exact of1_good name value 2 _ _ _ _ rfl rfl rfl rfl rfl rfl rfl rfl (fun p K h => made2 name value hn hv h1 h2 p K h) prot H hp
   | true =>
     rcases ofS_cases value hv with ⟨e, he, ho⟩ | ⟨l, a, g1, g2, g3, g4, ho⟩
     · have hnf : ∀ (prot : Nat) (H : Heap), prot ≤ H.length → aLim cfg prot 88 [.str value] H = some (.tup [.nil, .int .i64 e], none) := fun p K h => by rw [← ho]; exact nof_ok value hv p K h
       refine .inl ⟨e, he, fun b prot H hp => ?_⟩
       cases b with
       | true => exact of1_bad name value 3 _ _ _ _ rfl rfl rfl rfl e he (fun p K h => madeBad3 name value hn hv h1 h2 e he hnf p K h) prot H hp
       | false => exact of1_bad name value 4 _ _ _ _ rfl rfl rfl rfl e he (fun p K h => madeBad4 name value hn hv h1 h2 e he hnf p K h) prot H hp
     · have hnf : ∀ (prot : Nat) (H : Heap), prot ≤ H.length → aLim cfg prot 88 [.str value] H = some (.tup [encM l a, .int .i64 0], none) := fun p K h => by rw [← ho]; exact nof_ok value hv p K h
       refine .inr ⟨encM l a, rfl, rfl, fun h => (by cases h), fun _ => ⟨l, a, g1, g2, g3, g4, rfl⟩, fun b prot H hp => ?_⟩
       cases b with
       | true => exact of1_good name value 3 _ _ _ _ rfl rfl rfl rfl rfl rfl rfl rfl (fun p K h => made3 name value hn hv h1 h2 (encM l a) rfl rfl hnf p K h) prot H hp
       | false => exact of1_good name value 4 _ _ _ _ rfl rfl rfl rfl rfl rfl rfl rfl (fun p K h => made4 name value hn hv h1 h2 (encM l a) rfl rfl hnf p K h) prot H hp
 · have hb := Bool.eq_false_iff.2 hb
   refine .inl ⟨3, by decide, fun b prot H hp => ?_⟩
   exact of1_bad name value _ _ _ _ _ rfl rfl rfl rfl 3 (by decide) (fun p K h => made_bad name value _ hn hv hb p K h) prot H hp
theorem litM (name value : List UInt8) (k : Int) (K : Heap) : aBuildSlice Tryz.prog K 42 1 [(0, .agg [.str name, .int .i64 k, .str value])] = some (.vs [.agg [.str name, .int .i64 k, .str value]] true, none) := by
 have hr : List.range 3 = [0, 1, 2] := rfl
 simp [aBuildSlice, se42, sz54, by54, ag54, ze54, AV.cells, fillA, zrep, splice, litOk, AV.scal, AV.plL, AV.pl, chunk, AV.leaf, hr]
theorem matchEither_bad (name value : List UInt8) (like : Bool) (l : List Pr) (w : AV) (hw : Sl encP w l) (hl : l.length ≤ 9223372036854775807) (u : List UInt8) (hu : u = value.take 30) (e : Int) (he : e ≠ 0)
   (ho : ∀ (b : Bool) (prot : Nat) (H : Heap), prot ≤ H.length → aLim cfg prot 20 [.vs [.agg [.str name, .int .i64 (if like then (if b then 3 else 4) else (if b then 1 else 2)), .str u]] true] H = some (.tup [.nil, .int .i64 e], none)) (prot : Nat) (H : Heap) (hp : prot ≤ H.length) :
   aLim cfg prot 6 [.str name, .str value, .bool like, w] H = some (.bool true, none) := by
 have hsnap : snap H [.str name, .str value, .bool like, w] = some ([.str name, .str value, .bool like, w], false) := by cases hw <;> rfl
 have p1 := pairs_ok l w hw hl H.length H (Nat.le_refl _)
 have cl1 := cutL_len l
 have hl1 : ∀ A : Blk, (H ++ [A]).length = H.length + 1 := fun A => by simp
 obtain ⟨v, hv2, o1⟩ := of_ok (cutL l) _ (slv_sl encP (cutL l)) (by omega) (cutL_fit l) H.length H (Nat.le_refl _)
 have hvl := Sl.leaf hv2
 have hvc := Sl.cells1 hv2
 have q1 : Go.Abs.hput H.length (H ++ [Blk.cells 0 [.nilS]]) H.length 0 0 [v] = some (H ++ [Blk.cells 0 [v]]) := by
   rw [hput_new rfl (Nat.le_refl _) (by simp) (by simp [hvl])]; rfl
 have n1 := fun A : Blk => ho true H.length (H ++ [A]) (by simp)
 have n2 := fun A : Blk => ho false H.length (H ++ [A]) (by simp)
 have n9 := fun K => awake17_ok H.length K
 have z0 : decide (¬ e = 0) = true := decide_eq_true he
 have ee : decide (e = e) = true := by simp
 unfold AV.leaf at hvl
 unfold AV.cells at hvc
 generalize (ofP (cutL l)).2 = f at *
 by_cases hc : value.length ≤ 30
 · have hu : u = value := by rw [hu, List.take_of_length_le hc]
   subst hu
   have c0 : decide ((30 : Int) < (u.length : Nat)) = false := decide_eq_false (by omega)
   cases like with
   | true =>
     simp only [if_true, Bool.false_eq_true, if_false] at n1 n2
     refine pure_slim rfl (by kernel_rfl) Tryz.func6 s6 hp hsnap (by simp [Tryz.f6]) fun fr hlen h => ?_
     simp only [Has, Nat.zero_add] at h
     obtain ⟨a0, a1, a2, a3, -⟩ := h
     simp only [Tryz.f6] at hlen ⊢
     unfold g6
     simp only [w9, AV.cells, AV.leaf, reduceEqDiff, reduceLT, reduceAdd, reduceLeDiff, reduceCtorEq, reduceMul, reduceMod, u6, hlen, a0, a1, a2, a3, slen, c0, p1, o1, hvl, hvc, q1, hl1, litM, n1, n2, n9, z0, ee, none_beq]
     exact Fin_pure (l := [.bool true]) (by simp [w9, AV.cells, AV.leaf, reduceEqDiff, reduceLT, reduceAdd, reduceLeDiff, reduceCtorEq, reduceMul, reduceMod, u6, aResults, aResult, hlen]) (.still rfl) (by simp)
   | false =>
     simp only [if_true, Bool.false_eq_true, if_false] at n1 n2
     refine pure_slim rfl (by kernel_rfl) Tryz.func6 s6 hp hsnap (by simp [Tryz.f6]) fun fr hlen h => ?_
     simp only [Has, Nat.zero_add] at h
     obtain ⟨a0, a1, a2, a3, -⟩ := h
     simp only [Tryz.f6] at hlen ⊢
     unfold g6
     simp only [w9, AV.cells, AV.leaf, reduceEqDiff, reduceLT, reduceAdd, reduceLeDiff, reduceCtorEq, reduceMul, reduceMod, u6, hlen, a0, a1, a2, a3, slen, c0, p1, o1, hvl, hvc, q1, hl1, litM, n1, n2, n9, z0, ee, none_beq]
     exact Fin_pure (l := [.bool true]) (by simp [w9, AV.cells, AV.leaf, reduceEqDiff, reduceLT, reduceAdd, reduceLeDiff, reduceCtorEq, reduceMul, reduceMod, u6, aResults, aResult, hlen]) (.still rfl) (by simp)
 · have e1 : aSlice Tryz.prog 9 (.str value) none (some (.int .i64 30)) none = some (.str u) := by rw [hu]; exact str_upto (k := .i64) Tryz.underlying9 value (b := 30) (by omega)
   have c0 : decide ((30 : Int) < (value.length : Nat)) = true := decide_eq_true (by omega)
   cases like with
   | true =>
     simp only [if_true, Bool.false_eq_true, if_false] at n1 n2
     refine pure_slim rfl (by kernel_rfl) Tryz.func6 s6 hp hsnap (by simp [Tryz.f6]) fun fr hlen h => ?_
     simp only [Has, Nat.zero_add] at h
     obtain ⟨a0, a1, a2, a3, -⟩ := h
     simp only [Tryz.f6] at hlen ⊢
     unfold g6
     simp only [w9, AV.cells, AV.leaf, reduceEqDiff, reduceLT, reduceAdd, reduceLeDiff, reduceCtorEq, reduceMul, reduceMod, u6, hlen, a0, a1, a2, a3, slen, c0, e1, p1, o1, hvl, hvc, q1, hl1, litM, n1, n2, n9, z0, ee, none_beq]
     exact Fin_pure (l := [.bool true]) (by simp [w9, AV.cells, AV.leaf, reduceEqDiff, reduceLT, reduceAdd, reduceLeDiff, reduceCtorEq, reduceMul, reduceMod, u6, aResults, aResult, hlen]) (.still rfl) (by simp)
   | false =>
     simp only [if_true, Bool.false_eq_true, if_false] at n1 n2
     refine pure_slim rfl (by kernel_rfl) Tryz.func6 s6 hp hsnap (by simp [Tryz.f6]) fun fr hlen h => ?_
     simp only [Has, Nat.zero_add] at h
     obtain ⟨a0, a1, a2, a3, -⟩ := h
     simp only [Tryz.f6] at hlen ⊢
     unfold g6
     simp only [w9, AV.cells, AV.leaf, reduceEqDiff, reduceLT, reduceAdd, reduceLeDiff, reduceCtorEq, reduceMul, reduceMod, u6, hlen, a0, a1, a2, a3, slen, c0, e1, p1, o1, hvl, hvc, q1, hl1, litM, n1, n2, n9, z0, ee, none_beq]
     exact Fin_pure (l := [.bool true]) (by simp [w9, AV.cells, AV.leaf, reduceEqDiff, reduceLT, reduceAdd, reduceLeDiff, reduceCtorEq, reduceMul, reduceMod, u6, aResults, aResult, hlen]) (.still rfl) (by simp)
end Go.Proofs.YtnipaiklandliaaGreatDoor
/- The law MatchEither, walked, where both lists are made. -/
set_option maxRecDepth 100000
namespace Go.Proofs.YtnipaiklandliaaGreatDoor
open Go Go.Abs AbsSeat Ty
open Nat (reduceEqDiff reduceLT reduceAdd reduceLeDiff reduceMul reduceMod)
theorem matchEither_good (name value : List UInt8) (like : Bool) (l : List Pr) (w : AV) (hw : Sl encP w l) (hl : l.length ≤ 9223372036854775807) (u : List UInt8) (hu : u = value.take 30) (m : AV) (q : Bool)
   (ho : ∀ (b : Bool) (prot : Nat) (H : Heap), prot ≤ H.length → aLim cfg prot 20 [.vs [.agg [.str name, .int .i64 (if like then (if b then 3 else 4) else (if b then 1 else 2)), .str u]] true] H = some (.tup [.vptr [.vs [.agg [.str name, .int .i64 (if like then (if b then 3 else 4) else (if b then 1 else 2)), .str u, m]] false] 0, .int .i64 0], none))
   (hq : ∀ (b : Bool) (v : AV), Sl encP v (ofP (cutL l)).1 → ∀ (prot : Nat) (H : Heap), prot ≤ H.length → aLim cfg prot 27 [.vptr [.vs [.agg [.str name, .int .i64 (if like then (if b then 3 else 4) else (if b then 1 else 2)), .str u, m]] false] 0, .agg [v]] H = some (.bool (if b then q else !q), none)) (prot : Nat) (H : Heap) (hp : prot ≤ H.length) :
   aLim cfg prot 6 [.str name, .str value, .bool like, w] H = some (.bool true, none) := by
 have hsnap : snap H [.str name, .str value, .bool like, w] = some ([.str name, .str value, .bool like, w], false) := by cases hw <;> rfl
 have p1 := pairs_ok l w hw hl H.length H (Nat.le_refl _)
 have cl1 := cutL_len l
 have hl1 : ∀ A : Blk, (H ++ [A]).length = H.length + 1 := fun A => by simp
 obtain ⟨v, hv2, o1⟩ := of_ok (cutL l) _ (slv_sl encP (cutL l)) (by omega) (cutL_fit l) H.length H (Nat.le_refl _)
 have hvl := Sl.leaf hv2
 have hvc := Sl.cells1 hv2
 have q1 : Go.Abs.hput H.length (H ++ [Blk.cells 0 [.nilS]]) H.length 0 0 [v] = some (H ++ [Blk.cells 0 [v]]) := by
   rw [hput_new rfl (Nat.le_refl _) (by simp) (by simp [hvl])]; rfl
 have n1 := fun A : Blk => ho true H.length (H ++ [A]) (by simp)
 have n2 := fun A : Blk => ho false H.length (H ++ [A]) (by simp)
 have n9 := fun K => awake17_ok H.length K
 have z0 : decide (¬ (0 : Int) = 0) = false := rfl
 have z1 : decide ((0 : Int) = 0) = true := rfl
 have n3 := fun A : Blk => hq true v hv2 H.length (H ++ [A]) (by simp)
 have n4 := fun A : Blk => hq false v hv2 H.length (H ++ [A]) (by simp)
 have n5 := fun A : Blk => mhas_nil v hvl (fun K => by generalize (ofP (cutL l)).1 = s at hv2; cases hv2 <;> rfl) H.length (H ++ [A]) (by simp)
 have n6 := fun A : Blk => mlen_nil H.length (H ++ [A]) (by simp)
 have n7 := fun A : Blk => mstring_nil H.length (H ++ [A]) (by simp)
 have g10 : ∀ Y, hget (H ++ [Blk.cells 0 Y]) H.length 0 = some Y := fun Y => by rw [hget_new rfl, if_pos rfl]
 have hbb : ∀ xo yo, aBin Tryz.prog .neq 4 xo yo (.bool q) (.bool !q) = some (.bool true) := fun xo yo => by rw [bin_neb Tryz.underlying4]; cases q <;> rfl
 unfold AV.leaf at hvl
 unfold AV.cells at hvc
 generalize (ofP (cutL l)).2 = f at *
 by_cases hc : value.length ≤ 30
 · have hu : u = value := by rw [hu, List.take_of_length_le hc]
   subst hu
   have c0 : decide ((30 : Int) < (u.length : Nat)) = false := decide_eq_false (by omega)
   cases like with
   | true =>
     simp only [if_true, Bool.false_eq_true, if_false] at n1 n2 n3 n4
     refine pure_slim rfl (by kernel_rfl) Tryz.func6 s6 hp hsnap (by simp [Tryz.f6]) fun fr hlen h => ?_
     simp only [Has, Nat.zero_add] at h
     obtain ⟨a0, a1, a2, a3, -⟩ := h
     simp only [Tryz.f6] at hlen ⊢
     unfold g6
     simp only [w9, AV.cells, AV.leaf, reduceEqDiff, reduceLT, reduceAdd, reduceLeDiff, reduceCtorEq, reduceMul, reduceMod, u6, hlen, a0, a1, a2, a3, slen, c0, p1, o1, hvl, hvc, q1, hl1, litM, n1, n2, n3, n4, n5, n6, n7, n9, g10, hbb, z0, z1, str_eql, none_beq]
     exact Fin_pure (l := [.bool true]) (by simp [w9, AV.cells, AV.leaf, reduceEqDiff, reduceLT, reduceAdd, reduceLeDiff, reduceCtorEq, reduceMul, reduceMod, u6, aResults, aResult, hlen]) (.still rfl) (by simp)
   | false =>
     simp only [if_true, Bool.false_eq_true, if_false] at n1 n2 n3 n4
     refine pure_slim rfl (by kernel_rfl) Tryz.func6 s6 hp hsnap (by simp [Tryz.f6]) fun fr hlen h => ?_
     simp only [Has, Nat.zero_add] at h
     obtain ⟨a0, a1, a2, a3, -⟩ := h
     simp only [Tryz.f6] at hlen ⊢
     unfold g6
     simp only [w9, AV.cells, AV.leaf, reduceEqDiff, reduceLT, reduceAdd, reduceLeDiff, reduceCtorEq, reduceMul, reduceMod, u6, hlen, a0, a1, a2, a3, slen, c0, p1, o1, hvl, hvc, q1, hl1, litM, n1, n2, n3, n4, n5, n6, n7, n9, g10, hbb, z0, z1, str_eql, none_beq]
     exact Fin_pure (l := [.bool true]) (by simp [w9, AV.cells, AV.leaf, reduceEqDiff, reduceLT, reduceAdd, reduceLeDiff, reduceCtorEq, reduceMul, reduceMod, u6, aResults, aResult, hlen]) (.still rfl) (by simp)
 · have e1 : aSlice Tryz.prog 9 (.str value) none (some (.int .i64 30)) none = some (.str u) := by rw [hu]; exact str_upto (k := .i64) Tryz.underlying9 value (b := 30) (by omega)
   have c0 : decide ((30 : Int) < (value.length : Nat)) = true := decide_eq_true (by omega)
   cases like with
   | true =>
     simp only [if_true, Bool.false_eq_true, if_false] at n1 n2 n3 n4
     refine pure_slim rfl (by kernel_rfl) Tryz.func6 s6 hp hsnap (by simp [Tryz.f6]) fun fr hlen h => ?_
     simp only [Has, Nat.zero_add] at h
     obtain ⟨a0, a1, a2, a3, -⟩ := h
     simp only [Tryz.f6] at hlen ⊢
     unfold g6
     simp only [w9, AV.cells, AV.leaf, reduceEqDiff, reduceLT, reduceAdd, reduceLeDiff, reduceCtorEq, reduceMul, reduceMod, u6, hlen, a0, a1, a2, a3, slen, c0, e1, p1, o1, hvl, hvc, q1, hl1, litM, n1, n2, n3, n4, n5, n6, n7, n9, g10, hbb, z0, z1, str_eql, none_beq]
     exact Fin_pure (l := [.bool true]) (by simp [w9, AV.cells, AV.leaf, reduceEqDiff, reduceLT, reduceAdd, reduceLeDiff, reduceCtorEq, reduceMul, reduceMod, u6, aResults, aResult, hlen]) (.still rfl) (by simp)
   | false =>
     simp only [if_true, Bool.false_eq_true, if_false] at n1 n2 n3 n4
     refine pure_slim rfl (by kernel_rfl) Tryz.func6 s6 hp hsnap (by simp [Tryz.f6]) fun fr hlen h => ?_
     simp only [Has, Nat.zero_add] at h
     obtain ⟨a0, a1, a2, a3, -⟩ := h
     simp only [Tryz.f6] at hlen ⊢
     unfold g6
     simp only [w9, AV.cells, AV.leaf, reduceEqDiff, reduceLT, reduceAdd, reduceLeDiff, reduceCtorEq, reduceMul, reduceMod, u6, hlen, a0, a1, a2, a3, slen, c0, e1, p1, o1, hvl, hvc, q1, hl1, litM, n1, n2, n3, n4, n5, n6, n7, n9, g10, hbb, z0, z1, str_eql, none_beq]
     exact Fin_pure (l := [.bool true]) (by simp [w9, AV.cells, AV.leaf, reduceEqDiff, reduceLT, reduceAdd, reduceLeDiff, reduceCtorEq, reduceMul, reduceMod, u6, aResults, aResult, hlen]) (.still rfl) (by simp)
end Go.Proofs.YtnipaiklandliaaGreatDoor
/- In whatever order pairs come, the set is the same, or none: no program in sight. -/
namespace Go.Proofs.YtnipaiklandliaaGreatDoor
open Go Go.Abs
open Nat (reduceEqDiff reduceLT reduceAdd reduceLeDiff reduceMul reduceMod)
def insR (x : Pr) : List Pr → List Pr
 | [] => [x]
 | y :: r => if lessP x y then y :: insR x r else x :: y :: r
theorem insR_len (x : Pr) : ∀ A, (insR x A).length = A.length + 1
 | [] => rfl
 | y :: r => by
   unfold insR
   split
   · simp [insR_len x r]
   · rfl
theorem insR_perm (x : Pr) : ∀ A, (insR x A).Perm (x :: A)
 | [] => .refl _
 | y :: r => by
   unfold insR
   split
   · exact ((insR_perm x r).cons y).trans (.swap x y r)
   · exact .refl _
theorem swap_at (P B : List Pr) (x y : Pr) : swapP (P ++ y :: x :: B) (P.length + 1) = P ++ x :: y :: B := by
 have h1 : (P ++ y :: x :: B).getD P.length default = y := by simp [List.getD]
 have h2 : (P ++ y :: x :: B).getD (P.length + 1) default = x := by simp [List.getD]
 unfold swapP
 rw [Nat.add_sub_cancel, h1, h2, List.set_append_right _ _ (by omega), Nat.add_sub_cancel_left]
 simp
theorem insGo_insR (x : Pr) (B : List Pr) : ∀ A : List Pr, insGo (A.reverse ++ x :: B) A.length = (insR x A).reverse ++ B
 | [] => rfl
 | y :: r => by
   have h1 : ((y :: r).reverse ++ x :: B) = r.reverse ++ y :: x :: B := by simp
   have h2 : (r.reverse ++ y :: x :: B).getD (r.length + 1) default = x := by
     simp [List.getD, List.getElem?_append_right]
   have h3 : (r.reverse ++ y :: x :: B).getD r.length default = y := by simp [List.getD, List.getElem?_append_right]
   have h4 := swap_at r.reverse B x y
   rw [List.length_reverse] at h4
   rw [h1, List.length_cons, insGo, h2, h3, insR]
   cases hl : lessP x y with
   | true =>
     simp only [if_true]
     rw [h4, insGo_insR x (y :: B) r]
     simp
   | false => simp
theorem outGo_insR : ∀ (B A : List Pr), outGo B.length (A.reverse ++ B) A.length = (B.foldl (fun A x => insR x A) A).reverse
 | [], A => by simp [outGo]
 | x :: B, A => by
   have := outGo_insR B (insR x A)
   rw [insR_len] at this
   rw [List.length_cons, outGo, insGo_insR, this]
   rfl
theorem isortP_eq (l : List Pr) : isortP l = (l.foldl (fun A x => insR x A) []).reverse := by
 cases l with
 | nil => rfl
 | cons x B => exact outGo_insR B [x]
theorem fold_perm : ∀ (l A : List Pr), (l.foldl (fun A x => insR x A) A).Perm (l ++ A)
 | [], _ => .refl _
 | x :: l, A => (fold_perm l _).trans (((insR_perm x A).append_left l).trans List.perm_middle)
theorem isortP_perm (l : List Pr) : (isortP l).Perm l := by
 rw [isortP_eq]
 exact (List.reverse_perm _).trans (by simpa using fold_perm l [])
end Go.Proofs.YtnipaiklandliaaGreatDoor
/- The law MatchEither. -/
set_option maxRecDepth 100000
namespace Go.Proofs.YtnipaiklandliaaGreatDoor
open Go Go.Abs AbsSeat Ty
open Nat (reduceEqDiff reduceLT reduceAdd reduceLeDiff reduceMul reduceMod)
theorem ofP_short (l : List Pr) : ∀ x ∈ (ofP (cutL l)).1, x.val.length ≤ 30 := by
 have key : ∀ x ∈ cutL l, x.val.length ≤ 30 := by
   intro x hx
   simp only [cutL, List.mem_map] at hx
   obtain ⟨y, -, rfl⟩ := hx
   simp only [cutPr, List.length_take]; omega
 intro x hx
 unfold ofP at hx
 split at hx
 · simp at hx
 · split at hx
   · simp at hx
   · exact key x ((isortP_perm _).mem_iff.1 hx)
theorem getU_short (name : List UInt8) : ∀ l : List Pr, (∀ x ∈ l, x.val.length ≤ 30) → (getU l name).length ≤ 30
 | [], _ => by simp [getU]
 | x :: r, h => by
   unfold getU
   split
   · exact h x (by simp)
   · exact getU_short name r fun y hy => h y (by simp [hy])
theorem matchEither_ok (name value : List UInt8) (like : Bool) (l : List Pr) (w : AV) (hw : Sl encP w l) (hl : l.length ≤ 9223372036854775807) (hn : name.length ≤ 9223372036854775807) (prot : Nat) (H : Heap) (hp : prot ≤ H.length) :
   aLim cfg prot 6 [.str name, .str value, .bool like, w] H = some (.bool true, none) := by
 have hol : (ofP (cutL l)).1.length < 1000000000 := by have := setL_len l; unfold setL at this; omega
 have hgs := getU_short name _ (ofP_short l)
 rcases either_of name (value.take 30) hn (by simp; omega) like with ⟨e, he, ho⟩ | ⟨m, m1, m2, m3, m4, ho⟩
 · exact matchEither_bad name value like l w hw hl _ rfl e he ho prot H hp
 · cases like with
   | false =>
     obtain rfl := m3 rfl
     refine matchEither_good name value false l w hw hl _ rfl .nil (getU (ofP (cutL l)).1 name == value.take 30) ho ?_ prot H hp
     intro b v hv prot H hp
     have hvl := Sl.leaf hv
     cases b with
     | true => exact mhas1 (.str name) (.int .i64 1) (.str (value.take 30)) .nil v rfl rfl rfl rfl hvl (fun K => by clear hgs hol; generalize (ofP (cutL l)).1 = s at hv; cases hv <;> rfl) _ (fun p K h => mfits1 name _ .nil rfl _ v hv hol p K h) prot H hp
     | false => exact mhas1 (.str name) (.int .i64 2) (.str (value.take 30)) .nil v rfl rfl rfl rfl hvl (fun K => by clear hgs hol; generalize (ofP (cutL l)).1 = s at hv; cases hv <;> rfl) _ (fun p K h => mfits2 name _ .nil rfl _ v hv hol p K h) prot H hp
   | true =>
     obtain ⟨lm, a, g1, g2, g3, g4, rfl⟩ := m4 rfl
     obtain ⟨q, hq⟩ := match_b lm g1 (fun s hs => by have := g2 s hs; omega) a g4 (by omega) (getU (ofP (cutL l)).1 name) (by omega)
     refine matchEither_good name value true l w hw hl _ rfl (encM lm a) q ho ?_ prot H hp
     intro b v hv prot H hp
     have hvl := Sl.leaf hv
     cases b with
     | true => exact mhas1 (.str name) (.int .i64 3) (.str (value.take 30)) (encM lm a) v rfl rfl rfl rfl hvl (fun K => by clear hgs hol hq; generalize (ofP (cutL l)).1 = s at hv; cases hv <;> rfl) _ (fun p K h => mfits3 name _ (encM lm a) rfl _ v hv hol q hq p K h) prot H hp
     | false => exact mhas1 (.str name) (.int .i64 4) (.str (value.take 30)) (encM lm a) v rfl rfl rfl rfl hvl (fun K => by clear hgs hol hq; generalize (ofP (cutL l)).1 = s at hv; cases hv <;> rfl) _ (fun p K h => mfits4 name _ (encM lm a) rfl _ v hv hol q hq p K h) prot H hp
end Go.Proofs.YtnipaiklandliaaGreatDoor
/- The law MatchEither on what came in. -/
set_option maxRecDepth 100000
namespace Go.Proofs.YtnipaiklandliaaGreatDoor.matchEither
open Go Go.Abs AbsSeat
open Nat (reduceEqDiff reduceLT reduceAdd reduceLeDiff reduceMul reduceMod)
theorem pair_of (y : AV) (h : HasTV Tryz.prog 58 y) : ∃ a : Pr, y = encP a ∧ True := by
 obtain ⟨ps, rfl, hf⟩ := h.struct Tryz.underlying58
 obtain ⟨p0, r0, rfl, h0, hf⟩ := hf.inv
 obtain ⟨p1, r1, rfl, h1, hf⟩ := hf.inv
 obtain rfl := hf.done
 obtain ⟨a, rfl, -⟩ := h0.str1 Tryz.underlying9
 obtain ⟨b, rfl, -⟩ := h1.str1 Tryz.underlying9
 exact ⟨⟨a, b⟩, rfl, trivial⟩
theorem abs (xs : List AV) (h : HasTs Tryz.prog Tryz.f6.params.toList xs) : ∃ k H', aCall cfg k 1 6 xs H0 = some (.bool true, H') := by
 rw [Tryz.params6] at h
 obtain ⟨x0, r0, rfl, h0, h⟩ := h.inv
 obtain ⟨x1, r1, rfl, h1, h⟩ := h.inv
 obtain ⟨x2, r2, rfl, h2, h⟩ := h.inv
 obtain ⟨x3, r3, rfl, h3, h⟩ := h.inv
 obtain rfl := h.done
 obtain ⟨name, rfl, k0⟩ := h0.str Tryz.underlying9
 obtain ⟨value, rfl, -⟩ := h1.str Tryz.underlying9
 obtain ⟨like, rfl⟩ := h2.bool Tryz.underlying4
 obtain ⟨l, k1, k2, -⟩ := h3.rows Tryz.underlying22 pair_of
 exact lim_call (matchEither_ok name value like l x3 k1 k2 k0 1 H0 (by decide))
end Go.Proofs.YtnipaiklandliaaGreatDoor.matchEither
