import Derived.Test.YtoblikhnbddfmaaSize
import Derived.Test.YtoblikhnbddfmaaIdx
/-! Chapter 15: the program's reader of expressions: its small parts, walked. -/
set_option linter.unusedSimpArgs false
namespace Go.Abs
open Go
theorem Row.low {α : Type} {enc : α → AV} {sz : Nat} {ag : Bool} {base base' : Nat} {H : Heap} {v : AV} {l : List α} (h : Row enc sz ag base H v l) (hb : base' ≤ base) : Row enc sz ag base' H v l := by
  rcases h with h | ⟨b, ver, h1, h2, h3, h4⟩
  · exact .inl h
  · exact .inr ⟨b, ver, h1, by omega, h3, h4⟩
theorem Row.setne {α : Type} {enc : α → AV} {sz : Nat} {ag : Bool} {base b' : Nat} {H : Heap} {v : AV} {l : List α} (h : Row enc sz ag base H v l) (hb : b' < base) (k : Blk) : Row enc sz ag base (H.set b' k) v l := by
  rcases h with h | ⟨b, ver, h1, h2, h3, h4⟩
  · exact .inl h
  · exact .inr ⟨b, ver, h1, h2, by rw [hget_set_ne (by omega)]; exact h3, h4⟩
end Go.Abs
namespace Go.Proofs.Ytoblikhnbddfmaa
open Go Go.Abs AbsSeat Ty

theorem u101 : type_of% (And.intro (fun (K : Heap) (n : Int) => conv_int Try.underlying21 Try.underlying5 K n) (And.intro (show tagT Try.prog 41 = 0 from by kernel_rfl) (And.intro ag1 (And.intro sz1 (And.intro by1 (And.intro ze1 (And.intro Try.underlying1 (And.intro ag3 (And.intro sz3 (And.intro by3 (And.intro ze3 (And.intro Try.underlying3 (And.intro ag4 (And.intro sz4 (And.intro by4 (And.intro ze4 (And.intro Try.underlying4 (And.intro ag5 (And.intro sz5 (And.intro by5 (And.intro ze5 (And.intro Try.underlying5 (And.intro ag9 (And.intro sz9 (And.intro by9 (And.intro ze9 (And.intro Try.underlying9 (And.intro ag21 (And.intro sz21 (And.intro by21 (And.intro ze21 (And.intro Try.underlying21 (And.intro ag29 (And.intro sz29 (And.intro by29 (And.intro ze29 (And.intro Try.underlying29 (And.intro ag38 (And.intro sz38 (And.intro by38 (And.intro se38 (And.intro ze38 (And.intro Try.underlying38 (And.intro ag41 (And.intro sz41 (And.intro by41 (And.intro ze41 (And.intro bu41 (And.intro Try.underlying41 (And.intro ag80 (And.intro sz80 (And.intro by80 (And.intro se80 (And.intro ze80 (And.intro Try.underlying80 (And.intro ag103 (And.intro sz103 (And.intro by103 (And.intro ze103 (And.intro Try.underlying103 (And.intro ag106 (And.intro sz106 (And.intro by106 (And.intro ze106 (And.intro bu106 (And.intro Try.underlying106 (And.intro ag129 (And.intro sz129 (And.intro by129 (And.intro ze129 (And.intro bu129 (And.intro Try.underlying129 (And.intro fa106_0 (And.intro fd106_0 (And.intro fa106_1 fd106_1))))))))))))))))))))))))))))))))))))))))))))))))))))))))))))))))))))))))))) := And.intro (fun (K : Heap) (n : Int) => conv_int Try.underlying21 Try.underlying5 K n) (And.intro (show tagT Try.prog 41 = 0 from by kernel_rfl) (And.intro ag1 (And.intro sz1 (And.intro by1 (And.intro ze1 (And.intro Try.underlying1 (And.intro ag3 (And.intro sz3 (And.intro by3 (And.intro ze3 (And.intro Try.underlying3 (And.intro ag4 (And.intro sz4 (And.intro by4 (And.intro ze4 (And.intro Try.underlying4 (And.intro ag5 (And.intro sz5 (And.intro by5 (And.intro ze5 (And.intro Try.underlying5 (And.intro ag9 (And.intro sz9 (And.intro by9 (And.intro ze9 (And.intro Try.underlying9 (And.intro ag21 (And.intro sz21 (And.intro by21 (And.intro ze21 (And.intro Try.underlying21 (And.intro ag29 (And.intro sz29 (And.intro by29 (And.intro ze29 (And.intro Try.underlying29 (And.intro ag38 (And.intro sz38 (And.intro by38 (And.intro se38 (And.intro ze38 (And.intro Try.underlying38 (And.intro ag41 (And.intro sz41 (And.intro by41 (And.intro ze41 (And.intro bu41 (And.intro Try.underlying41 (And.intro ag80 (And.intro sz80 (And.intro by80 (And.intro se80 (And.intro ze80 (And.intro Try.underlying80 (And.intro ag103 (And.intro sz103 (And.intro by103 (And.intro ze103 (And.intro Try.underlying103 (And.intro ag106 (And.intro sz106 (And.intro by106 (And.intro ze106 (And.intro bu106 (And.intro Try.underlying106 (And.intro ag129 (And.intro sz129 (And.intro by129 (And.intro ze129 (And.intro bu129 (And.intro Try.underlying129 (And.intro fa106_0 (And.intro fd106_0 (And.intro fa106_1 fd106_1))))))))))))))))))))))))))))))))))))))))))))))))))))))))))))))))))))))))))
def g101 : Code :=
  .seq (.region 0 #[q 2 (.assign (.const (.int .i32 0))) 21] false) (.seq (.seq (.region 1 #[q 3 (.move (.tmp 0)) 103, q 4 (.nilCheck (.tmp 3)) 0, q 5 (.fieldAddr 106 (.tmp 4) 1) 0, q 6 (.load 3 (.tmp 5)) 3, q 7 (.move (.tmp 0)) 103, q 8 (.nilCheck (.tmp 7)) 0, q 9 (.fieldAddr 106 (.tmp 8) 0) 0, q 10 (.load 80 (.tmp 9)) 80, q 11 (bi .len #[.tmp 10] #[80]) 3, q 12 (.binOp .geq 3 (.tmp 6) (.tmp 11) 3) 4] false) (.cond (.tmp 12) (.seq (.region 2 #[q 2 (.assign (.const (.int .i32 (-1)))) 21] false) .ret) .skip)) (.seq (.region 3 #[q 13 (.move (.tmp 0)) 103, q 14 (.nilCheck (.tmp 13)) 0, q 15 (.fieldAddr 106 (.tmp 14) 0) 0, q 16 (.load 80 (.tmp 15)) 80, q 17 (.move (.tmp 0)) 103, q 18 (.nilCheck (.tmp 17)) 0, q 19 (.fieldAddr 106 (.tmp 18) 1) 0, q 20 (.load 3 (.tmp 19)) 3, q 21 (.indexAddr 80 (.tmp 16) (.tmp 20)) 0, q 22 (.load 21 (.tmp 21)) 21, q 2 (.assign (.tmp 22)) 21] false) .ret))
theorem s101 : Try.f101.body.map (slim cfg) = some g101 := by kernel_rfl
def g83 : Code :=
  .seq (.region 0 #[q 4 (.assign (.const (.bool false))) 4] false) (.seq (.seq (.region 1 #[q 5 (.move (.tmp 0)) 103, q 6 (cl 101 #[.tmp 5] #[103]) 21, q 7 (.move (.tmp 1)) 21, q 8 (.binOp .neq 21 (.tmp 6) (.tmp 7) 21) 4] false) (.cond (.tmp 8) (.seq (.region 2 #[q 4 (.assign (.const (.bool false))) 4] false) .ret) .skip)) (.seq (.region 3 #[q 9 (.move (.tmp 0)) 103, q 10 (.nilCheck (.tmp 9)) 0, q 11 (.fieldAddr 106 (.tmp 10) 1) 0, q 12 (.load 3 (.tmp 11)) 3, q 13 (.binOp .add 3 (.tmp 12) (ik 1) 3) 3, q 14 (.nilCheck (.tmp 9)) 0, q 15 (.fieldAddr 106 (.tmp 14) 1) 0, qn (.store 3 (.tmp 15) (.tmp 13)) 0] false) (.seq (.region 4 #[q 4 (.assign (.const (.bool true))) 4] false) .ret)))
theorem s83 : Try.f83.body.map (slim cfg) = some g83 := by kernel_rfl
def g128 : Code :=
  .seq (.region 0 #[q 4 (.assign (.const (.bool false))) 4] false) (.seq (.region 1 #[q 5 (.move (.tmp 1)) 21, q 6 (.binOp .geq 21 (.tmp 5) (.const (.int .i32 0)) 21) 4, q 7 (.move (.tmp 6)) 4, qg 8 (.move (.tmp 1)) 21 2 true, qg 9 (.binOp .lss 21 (.tmp 8) (.const (.int .i32 128)) 21) 4 2 true, q 10 (.pick (.tmp 7) (.tmp 9) (.const (.bool false))) 4, q 11 (.move (.tmp 10)) 4, qg 12 (.move (.tmp 0)) 9 6 true, qg 13 (.move (.tmp 1)) 21 6 true, qg 14 (.convert 21 5 (.tmp 13)) 5 6 true, qg 15 (cl 136 #[.tmp 12, .tmp 14] #[9, 5]) 3 6 true, qg 16 (.binOp .geq 3 (.tmp 15) (ik 0) 3) 4 6 true, q 17 (.pick (.tmp 11) (.tmp 16) (.const (.bool false))) 4, q 4 (.assign (.tmp 17)) 4] false) .ret)
theorem s128 : Try.f128.body.map (slim cfg) = some g128 := by kernel_rfl
def g135 : Code :=
  .seq (.region 0 #[q 2 (.assign (.const (.bool false))) 4] false) (.seq (.region 1 #[q 3 (.move (.tmp 0)) 21, q 4 (.binOp .geq 21 (.tmp 3) (.const (.int .i32 48)) 21) 4, q 5 (.move (.tmp 4)) 4, qg 6 (.move (.tmp 0)) 21 2 true, qg 7 (.binOp .leq 21 (.tmp 6) (.const (.int .i32 57)) 21) 4 2 true, q 8 (.pick (.tmp 5) (.tmp 7) (.const (.bool false))) 4, q 9 (.move (.tmp 8)) 4, qg 10 (.move (.tmp 0)) 21 6 false, qg 11 (.binOp .geq 21 (.tmp 10) (.const (.int .i32 97)) 21) 4 6 false, qg 12 (.move (.tmp 11)) 4 6 false, qg 13 (.move (.tmp 0)) 21 9 true, qg 14 (.binOp .leq 21 (.tmp 13) (.const (.int .i32 122)) 21) 4 9 true, qg 15 (.pick (.tmp 12) (.tmp 14) (.const (.bool false))) 4 6 false, q 16 (.pick (.tmp 9) (.const (.bool true)) (.tmp 15)) 4, q 17 (.move (.tmp 16)) 4, qg 18 (.move (.tmp 0)) 21 14 false, qg 19 (.binOp .geq 21 (.tmp 18) (.const (.int .i32 65)) 21) 4 14 false, qg 20 (.move (.tmp 19)) 4 14 false, qg 21 (.move (.tmp 0)) 21 17 true, qg 22 (.binOp .leq 21 (.tmp 21) (.const (.int .i32 90)) 21) 4 17 true, qg 23 (.pick (.tmp 20) (.tmp 22) (.const (.bool false))) 4 14 false, q 24 (.pick (.tmp 17) (.const (.bool true)) (.tmp 23)) 4, q 2 (.assign (.tmp 24)) 4] false) .ret)
theorem s135 : Try.f135.body.map (slim cfg) = some g135 := by kernel_rfl
def g127 : Code :=
  .seq (.region 0 #[q 2 (.alloc 41) 0] false) (.seq (.region 1 #[q 3 (.move (.tmp 0)) 38, q 4 (.build 41 #[(0, ik 1), (2, .tmp 3)]) 41, qn (.store 41 (.tmp 2) (.tmp 4)) 0] false) .ret)
theorem s127 : Try.f127.body.map (slim cfg) = some g127 := by kernel_rfl
def g126 : Code :=
  .seq (.region 0 #[q 2 (.assign (.const (.slice none 0 0))) 38, q 3 (.assign (.const (.bool false))) 4] false) (.seq (.region 1 #[q 5 (.move (.tmp 0)) 103, q 6 (cl 101 #[.tmp 5] #[103]) 21, q 4 (.assign (.tmp 6)) 21] false) (.seq (.region 2 #[q 7 (.move (.tmp 0)) 103, q 8 (.nilCheck (.tmp 7)) 0, q 9 (.fieldAddr 106 (.tmp 8) 1) 0, q 10 (.load 3 (.tmp 9)) 3, q 11 (.binOp .add 3 (.tmp 10) (ik 1) 3) 3, q 12 (.nilCheck (.tmp 7)) 0, q 13 (.fieldAddr 106 (.tmp 12) 1) 0, qn (.store 3 (.tmp 13) (.tmp 11)) 0] false) (.seq (.seq (.region 3 #[q 14 (.move (.tmp 4)) 21] false) (.block 0 (.seq (.region 4 #[q 16 (.binOp .eql 21 (.tmp 14) (.const (.int .i32 100)) 21) 4, q 15 (.assign (.tmp 16)) 4] false) (.cond (.tmp 15) (.seq (.region 5 #[q 17 (.build 129 #[(0, .const (.int .i32 48)), (1, .const (.int .i32 57))]) 129, q 18 (.buildSlice 38 1 #[(0, .tmp 17)]) 38, q 2 (.assign (.tmp 18)) 38, q 3 (.assign (.const (.bool true))) 4] false) .ret) (.seq (.region 6 #[q 20 (.binOp .eql 21 (.tmp 14) (.const (.int .i32 119)) 21) 4, q 19 (.assign (.tmp 20)) 4] false) (.cond (.tmp 19) (.seq (.region 7 #[q 21 (.build 129 #[(0, .const (.int .i32 97)), (1, .const (.int .i32 122))]) 129, q 22 (.build 129 #[(0, .const (.int .i32 65)), (1, .const (.int .i32 90))]) 129, q 23 (.build 129 #[(0, .const (.int .i32 48)), (1, .const (.int .i32 57))]) 129, q 24 (.build 129 #[(0, .const (.int .i32 95)), (1, .const (.int .i32 95))]) 129, q 25 (.buildSlice 38 4 #[(0, .tmp 21), (1, .tmp 22), (2, .tmp 23), (3, .tmp 24)]) 38, q 2 (.assign (.tmp 25)) 38, q 3 (.assign (.const (.bool true))) 4] false) .ret) (.seq (.region 8 #[q 27 (.binOp .eql 21 (.tmp 14) (.const (.int .i32 115)) 21) 4, q 26 (.assign (.tmp 27)) 4] false) (.cond (.tmp 26) (.seq (.region 9 #[q 28 (.build 129 #[(0, .const (.int .i32 9)), (1, .const (.int .i32 9))]) 129, q 29 (.build 129 #[(0, .const (.int .i32 10)), (1, .const (.int .i32 10))]) 129, q 30 (.build 129 #[(0, .const (.int .i32 13)), (1, .const (.int .i32 13))]) 129, q 31 (.build 129 #[(0, .const (.int .i32 32)), (1, .const (.int .i32 32))]) 129, q 32 (.buildSlice 38 4 #[(0, .tmp 28), (1, .tmp 29), (2, .tmp 30), (3, .tmp 31)]) 38, q 2 (.assign (.tmp 32)) 38, q 3 (.assign (.const (.bool true))) 4] false) .ret) .skip)))))))) (.seq (.region 10 #[q 33 (.move (.tmp 4)) 21, q 34 (.move (.tmp 4)) 21, q 35 (.build 129 #[(0, .tmp 33), (1, .tmp 34)]) 129, q 36 (.buildSlice 38 1 #[(0, .tmp 35)]) 38, q 37 (.move (.tmp 4)) 21, q 38 (.binOp .gtr 21 (.tmp 37) (.const (.int .i32 32)) 21) 4, q 39 (.move (.tmp 38)) 4, qg 40 (.move (.tmp 4)) 21 6 true, qg 41 (.binOp .lss 21 (.tmp 40) (.const (.int .i32 127)) 21) 4 6 true, q 42 (.pick (.tmp 39) (.tmp 41) (.const (.bool false))) 4, q 43 (.move (.tmp 42)) 4, qg 44 (.move (.tmp 4)) 21 10 true, qg 45 (cl 135 #[.tmp 44] #[21]) 4 10 true, qg 46 (.unOp .not 4 (.tmp 45)) 4 10 true, q 47 (.pick (.tmp 43) (.tmp 46) (.const (.bool false))) 4, q 2 (.assign (.tmp 36)) 38, q 3 (.assign (.tmp 47)) 4] false) .ret))))
theorem s126 : Try.f126.body.map (slim cfg) = some g126 := by kernel_rfl
def g129 : Code :=
  .seq (.region 0 #[q 2 (.assign (ik 0)) 3, q 3 (.assign (.const (.bool false))) 4] false) (.seq (.region 1 #[q 7 (.move (.tmp 0)) 103, q 8 (.nilCheck (.tmp 7)) 0, q 9 (.fieldAddr 106 (.tmp 8) 1) 0, q 10 (.load 3 (.tmp 9)) 3, q 4 (.assign (.tmp 10)) 3] false) (.seq (.block 0 (.loop (.seq (.seq (.region 2 #[q 11 (.move (.tmp 0)) 103, q 12 (.nilCheck (.tmp 11)) 0, q 13 (.fieldAddr 106 (.tmp 12) 1) 0, q 14 (.load 3 (.tmp 13)) 3, q 15 (.move (.tmp 0)) 103, q 16 (.nilCheck (.tmp 15)) 0, q 17 (.fieldAddr 106 (.tmp 16) 0) 0, q 18 (.load 80 (.tmp 17)) 80, q 19 (bi .len #[.tmp 18] #[80]) 3, q 20 (.binOp .lss 3 (.tmp 14) (.tmp 19) 3) 4, q 21 (.move (.tmp 20)) 4, qg 22 (.move (.tmp 0)) 103 10 true, qg 23 (.nilCheck (.tmp 22)) 0 10 true, qg 24 (.fieldAddr 106 (.tmp 23) 1) 0 10 true, qg 25 (.load 3 (.tmp 24)) 3 10 true, qg 26 (.move (.tmp 4)) 3 10 true, qg 27 (.binOp .sub 3 (.tmp 25) (.tmp 26) 3) 3 10 true, qg 28 (.binOp .lss 3 (.tmp 27) (ik 2) 3) 4 10 true, q 29 (.pick (.tmp 21) (.tmp 28) (.const (.bool false))) 4, q 30 (.move (.tmp 29)) 4, qg 31 (.move (.tmp 0)) 103 19 true, qg 32 (.nilCheck (.tmp 31)) 0 19 true, qg 33 (.fieldAddr 106 (.tmp 32) 0) 0 19 true, qg 34 (.load 80 (.tmp 33)) 80 19 true, qg 35 (.move (.tmp 0)) 103 19 true, qg 36 (.nilCheck (.tmp 35)) 0 19 true, qg 37 (.fieldAddr 106 (.tmp 36) 1) 0 19 true, qg 38 (.load 3 (.tmp 37)) 3 19 true, qg 39 (.indexAddr 80 (.tmp 34) (.tmp 38)) 0 19 true, qg 40 (.load 21 (.tmp 39)) 21 19 true, qg 41 (.binOp .geq 21 (.tmp 40) (.const (.int .i32 48)) 21) 4 19 true, q 42 (.pick (.tmp 30) (.tmp 41) (.const (.bool false))) 4, q 43 (.move (.tmp 42)) 4, qg 44 (.move (.tmp 0)) 103 32 true, qg 45 (.nilCheck (.tmp 44)) 0 32 true, qg 46 (.fieldAddr 106 (.tmp 45) 0) 0 32 true, qg 47 (.load 80 (.tmp 46)) 80 32 true, qg 48 (.move (.tmp 0)) 103 32 true, qg 49 (.nilCheck (.tmp 48)) 0 32 true, qg 50 (.fieldAddr 106 (.tmp 49) 1) 0 32 true, qg 51 (.load 3 (.tmp 50)) 3 32 true, qg 52 (.indexAddr 80 (.tmp 47) (.tmp 51)) 0 32 true, qg 53 (.load 21 (.tmp 52)) 21 32 true, qg 54 (.binOp .leq 21 (.tmp 53) (.const (.int .i32 57)) 21) 4 32 true, q 55 (.pick (.tmp 43) (.tmp 54) (.const (.bool false))) 4] false) (.cond (.tmp 55) .skip (.exit 0))) (.block 1 (.region 3 #[q 56 (.move (.tmp 0)) 103, q 57 (.nilCheck (.tmp 56)) 0, q 58 (.fieldAddr 106 (.tmp 57) 1) 0, q 59 (.load 3 (.tmp 58)) 3, q 60 (.binOp .add 3 (.tmp 59) (ik 1) 3) 3, q 61 (.nilCheck (.tmp 56)) 0, q 62 (.fieldAddr 106 (.tmp 61) 1) 0, qn (.store 3 (.tmp 62) (.tmp 60)) 0] false))))) (.seq (.region 4 #[q 64 (.move (.tmp 0)) 103, q 65 (.nilCheck (.tmp 64)) 0, q 66 (.fieldAddr 106 (.tmp 65) 0) 0, q 67 (.load 80 (.tmp 66)) 80, q 68 (.move (.tmp 4)) 3, q 69 (.move (.tmp 0)) 103, q 70 (.nilCheck (.tmp 69)) 0, q 71 (.fieldAddr 106 (.tmp 70) 1) 0, q 72 (.load 3 (.tmp 71)) 3, q 73 (.slice 80 (.tmp 67) (some (.tmp 68)) (some (.tmp 72)) none) 80, q 74 (.convert 80 9 (.tmp 73)) 9, q 75 (cl 137 #[.tmp 74] #[9]) 201, q 63 (.move (.tmp 75)) 201, q 76 (.extract (.tmp 63) 0) 3, q 77 (.extract (.tmp 63) 1) 29, q 5 (.assign (.tmp 76)) 3, q 6 (.assign (.tmp 77)) 29] false) (.seq (.region 5 #[q 78 (.move (.tmp 5)) 3, q 79 (.move (.tmp 6)) 29, q 80 (.binOp .eql 29 (.tmp 79) (ik 0) 29) 4, q 81 (.move (.tmp 80)) 4, qg 82 (.move (.tmp 5)) 3 3 true, qg 83 (.binOp .leq 3 (.tmp 82) (ik 16) 3) 4 3 true, q 84 (.pick (.tmp 81) (.tmp 83) (.const (.bool false))) 4, q 2 (.assign (.tmp 78)) 3, q 3 (.assign (.tmp 84)) 4] false) .ret))))
theorem s129 : Try.f129.body.map (slim cfg) = some g129 := by kernel_rfl
def g116 : Code :=
  .seq (.region 0 #[q 2 (.assign (ik 0)) 3, q 3 (.assign (ik 0)) 3, q 4 (.assign (.const (.bool false))) 4] false) (.seq (.region 1 #[q 9 (.move (.tmp 0)) 103, q 10 (cl 129 #[.tmp 9] #[103]) 95, q 8 (.move (.tmp 10)) 95, q 11 (.extract (.tmp 8) 0) 3, q 12 (.extract (.tmp 8) 1) 4, q 5 (.assign (.tmp 11)) 3, q 6 (.assign (.tmp 12)) 4] false) (.seq (.seq (.region 2 #[q 13 (.move (.tmp 6)) 4, q 14 (.unOp .not 4 (.tmp 13)) 4] false) (.cond (.tmp 14) (.seq (.region 3 #[q 2 (.assign (ik 0)) 3, q 3 (.assign (ik 0)) 3, q 4 (.assign (.const (.bool false))) 4] false) .ret) .skip)) (.seq (.region 4 #[q 15 (.move (.tmp 5)) 3, q 7 (.assign (.tmp 15)) 3] false) (.seq (.seq (.region 5 #[q 16 (.move (.tmp 0)) 103, q 17 (cl 83 #[.tmp 16, .const (.int .i32 44)] #[103, 21]) 4] false) (.cond (.tmp 17) (.seq (.region 6 #[q 7 (.assign (ik (-1))) 3] false) (.seq (.region 7 #[q 18 (.move (.tmp 0)) 103, q 19 (cl 101 #[.tmp 18] #[103]) 21, q 20 (.binOp .neq 21 (.tmp 19) (.const (.int .i32 125)) 21) 4] false) (.cond (.tmp 20) (.seq (.region 8 #[q 22 (.move (.tmp 0)) 103, q 23 (cl 129 #[.tmp 22] #[103]) 95, q 21 (.move (.tmp 23)) 95, q 24 (.extract (.tmp 21) 0) 3, q 25 (.extract (.tmp 21) 1) 4, q 7 (.assign (.tmp 24)) 3, q 6 (.assign (.tmp 25)) 4] false) (.seq (.region 9 #[q 26 (.move (.tmp 6)) 4, q 27 (.unOp .not 4 (.tmp 26)) 4, q 28 (.move (.tmp 27)) 4, qg 29 (.move (.tmp 7)) 3 2 false, qg 30 (.move (.tmp 5)) 3 2 false, qg 31 (.binOp .lss 3 (.tmp 29) (.tmp 30) 3) 4 2 false, q 32 (.pick (.tmp 28) (.const (.bool true)) (.tmp 31)) 4] false) (.cond (.tmp 32) (.seq (.region 10 #[q 2 (.assign (ik 0)) 3, q 3 (.assign (ik 0)) 3, q 4 (.assign (.const (.bool false))) 4] false) .ret) .skip))) .skip))) .skip)) (.seq (.region 11 #[q 33 (.move (.tmp 5)) 3, q 34 (.move (.tmp 7)) 3, q 35 (.move (.tmp 0)) 103, q 36 (cl 83 #[.tmp 35, .const (.int .i32 125)] #[103, 21]) 4, q 2 (.assign (.tmp 33)) 3, q 3 (.assign (.tmp 34)) 3, q 4 (.assign (.tmp 36)) 4] false) .ret)))))
theorem s116 : Try.f116.body.map (slim cfg) = some g116 := by kernel_rfl

/-- spans of runes. -/
structure Sg where
  lo : Int
  hi : Int
def encG (x : Sg) : AV := .agg [.int .i32 x.lo, .int .i32 x.hi]
theorem encG_len (x : Sg) : (encG x).cells.length = 2 := rfl
theorem encG_T : EncT encG 2 true where
  len _ := rfl
  leaf x c hc := by simp [encG, AV.cells] at hc; rcases hc with rfl | rfl <;> rfl
  still x c hc := by simp [encG, AV.cells] at hc; rcases hc with rfl | rfl <;> rfl
  shape _ := rfl
theorem rowG : RowT Try.prog 38 129 2 8 true where
  un := Try.underlying38
  size := sz129
  bytes := by129
  agg := ag129
  zero := ⟨_, ze129, rfl⟩
  pos := by decide
  tree := rfl
theorem litG1 (a b : Int) (H : Heap) : aBuildSlice Try.prog H 38 1 [(0, .agg [.int .i32 a, .int .i32 b])] = some (.vs ([⟨a, b⟩].map encG) true, none) :=
  lit1 rowG encG_T ze129 rfl (by decide) (⟨a, b⟩ : Sg) rfl
theorem litG4 (a b c d e f g h : Int) (H : Heap) : aBuildSlice Try.prog H 38 4 [(0, .agg [.int .i32 a, .int .i32 b]), (1, .agg [.int .i32 c, .int .i32 d]), (2, .agg [.int .i32 e, .int .i32 f]), (3, .agg [.int .i32 g, .int .i32 h])] =
    some (.vs (([⟨a, b⟩, ⟨c, d⟩, ⟨e, f⟩, ⟨g, h⟩] : List Sg).map encG) true, none) := by
  simp [aBuildSlice, se38, sz129, by129, ag129, ze129, AV.cells, fillA, zrep, List.range_succ, splice, litOk, AV.scal, AV.plL, AV.pl, chunk, AV.leaf, encG]

/-- runes. -/
def encI (n : Int) : AV := .int .i32 n
theorem encI_len (n : Int) : (encI n).cells.length = 1 := rfl
theorem encI_T : EncT encI 1 false where
  len _ := rfl
  leaf x c hc := by simp [encI, AV.cells] at hc; subst hc; rfl
  still x c hc := by simp [encI, AV.cells] at hc; subst hc; rfl
  shape _ := rfl
theorem encI_plL (l : List Int) : AV.plL (l.map encI) = true := by
  induction l with
  | nil => rfl
  | cons x r ih => simp only [List.map_cons, encI, AV.plL, AV.pl, Bool.true_and] at ih ⊢; exact ih
theorem slI_plain {l : List Int} {L : AV} (h : Sl encI L l) (x : Int) : AV.plL [L, .int .i64 x] = true := by
  cases h with
  | nil => rfl
  | vs l f => simp only [AV.plL, AV.pl, encI_plL, Bool.and_true]
/-- the rune at a place; -1: there is none. -/
def pk (l : List Int) (i : Nat) : Int := l.getD i (-1)
theorem pk_lt {l : List Int} {i : Nat} (h : i < l.length) : pk l i = l[i] := by simp [pk, List.getD, h]
theorem pk_ge {l : List Int} {i : Nat} (h : l.length ≤ i) : pk l i = -1 := by simp [pk, List.getD, h]
/-- runes that may be. -/
def Runes (l : List Int) : Prop := l.length < 1000000 ∧ ∀ r ∈ l, 0 ≤ r ∧ r < 2147483648
theorem pk_in {l : List Int} {i : Nat} (h : pk l i ≠ -1) : i < l.length := Classical.byContradiction fun hn => h (pk_ge (by omega))
theorem pk_nn {l : List Int} (hl : Runes l) (i : Nat) : -1 ≤ pk l i ∧ pk l i < 2147483648 := by
  by_cases h : i < l.length
  · rw [pk_lt h]
    have := hl.2 _ (List.getElem_mem h)
    omega
  · rw [pk_ge (by omega)]; omega


theorem peek_ok (l : List Int) (L : AV) (hL : Sl encI L l) (_hl : Runes l) (at_ b : Nat) (prot : Nat) (H : Heap) (hp : prot ≤ H.length) (hg : hget H b 0 = some [L, .int .i64 at_]) : aLim cfg prot 101 [.ptr b 0 0] H = some (.int .i32 (pk l at_), none) := by
  have hsnap : snap H [.ptr b 0 0] = some ([.ptr b 0 0], false) := rfl
  refine pure_slim rfl (by kernel_rfl) Try.func101 s101 hp hsnap (by simp [Try.f101]) fun fr hlen h => ?_
  simp only [Has, Nat.zero_add] at h
  obtain ⟨a0, -⟩ := h
  simp only [Try.f101] at hlen ⊢
  unfold g101
  by_cases h : at_ < l.length
  · have c1 : decide ((l.length : Int) ≤ (at_ : Nat)) = false := decide_eq_false (by omega)
    have e1 := hL.at (k := .i64) (i := at_) Try.underlying80 sz21 encI_len h
    rw [pk_lt h]
    generalize l[at_] = c at *
    simp only [wk, aBuiltin, AV.cells, AV.leaf, Nat.reduceEqDiff, Nat.reduceLT, Nat.reduceAdd, Nat.reduceLeDiff, reduceCtorEq, Nat.reduceMul, cfgP, u101, hlen, a0, hg, hL.len Try.underlying80, c1, e1, encI]
    exact Fin_pure (l := [.int .i32 c]) (by simp [wk, aBuiltin, AV.cells, AV.leaf, Nat.reduceEqDiff, Nat.reduceLT, Nat.reduceAdd, Nat.reduceLeDiff, reduceCtorEq, Nat.reduceMul, cfgP, u101, aResults, aResult, hlen]) (.still rfl) (by simp)
  · have c1 : decide ((l.length : Int) ≤ (at_ : Nat)) = true := decide_eq_true (by omega)
    rw [pk_ge (by omega)]
    simp only [wk, aBuiltin, AV.cells, AV.leaf, Nat.reduceEqDiff, Nat.reduceLT, Nat.reduceAdd, Nat.reduceLeDiff, reduceCtorEq, Nat.reduceMul, cfgP, u101, hlen, a0, hg, hL.len Try.underlying80, c1]
    exact Fin_pure (l := [.int .i32 (-1)]) (by simp [wk, aBuiltin, AV.cells, AV.leaf, Nat.reduceEqDiff, Nat.reduceLT, Nat.reduceAdd, Nat.reduceLeDiff, reduceCtorEq, Nat.reduceMul, cfgP, u101, aResults, aResult, hlen]) (.still rfl) (by simp)

theorem take_ok (l : List Int) (L : AV) (hL : Sl encI L l) (hl : Runes l) (at_ b : Nat) (c : Int) (hat : at_ ≤ 2000000) (prot : Nat) (H : Heap) (hp : prot ≤ b) (hg : hget H b 0 = some [L, .int .i64 at_]) :
    aLim cfg prot 83 [.ptr b 0 0, .int .i32 c] H = some (.bool (decide (pk l at_ = c)), some (H.set b (.cells 0 [L, .int .i64 ((if pk l at_ = c then at_ + 1 else at_ : Nat))]))) := by
  have hb := hget_lt hg
  have n1 := peek_ok l L hL hl at_ b prot H (by omega) hg
  have hww : IntKind.i64.wrap ((at_ : Int) + 1) = ((at_ + 1 : Nat) : Int) := by rw [wrap64 (by omega) (by omega)]; simp
  have hput1 : hput prot H b 0 1 [.int .i64 ((at_ + 1 : Nat))] = some (H.set b (.cells 0 [L, .int .i64 ((at_ + 1 : Nat))])) := by
    rw [hput_eq hg hp (by simp) (by simp [AV.leaf])]; rfl
  have hLb : AV.blwL H.length [L, .int .i64 ((at_ + 1 : Nat))] = true := plL_blwL _ _ (slI_plain hL _)
  have kp0 := Kp.start hg
  refine trim_slim rfl (by kernel_rfl) (by kernel_rfl) (by kernel_rfl) Try.func83 s83 (by simp [Try.f83]) fun fr hlen h => ?_
  simp only [Has, Nat.zero_add] at h
  obtain ⟨a0, a1, -⟩ := h
  simp only [Try.f83] at hlen ⊢
  unfold g83
  by_cases h : pk l at_ = c
  · have c1 : decide (¬ pk l at_ = c) = false := by simp [h]
    rw [if_pos h, decide_eq_true h]
    simp only [wk, aBuiltin, AV.cells, AV.leaf, Nat.reduceEqDiff, Nat.reduceLT, Nat.reduceAdd, Nat.reduceLeDiff, reduceCtorEq, Nat.reduceMul, cfgP, u101, hlen, a0, a1, n1, hg, c1, hww, hput1]
    exact (kp0.put hLb).fin (l := [.bool true]) (by simp [wk, aBuiltin, AV.cells, AV.leaf, Nat.reduceEqDiff, Nat.reduceLT, Nat.reduceAdd, Nat.reduceLeDiff, reduceCtorEq, Nat.reduceMul, cfgP, u101, hlen, aResults, aResult]) (.still rfl)
  · have c1 : decide (¬ pk l at_ = c) = true := by simp [h]
    rw [if_neg h, decide_eq_false h]
    simp only [wk, aBuiltin, AV.cells, AV.leaf, Nat.reduceEqDiff, Nat.reduceLT, Nat.reduceAdd, Nat.reduceLeDiff, reduceCtorEq, Nat.reduceMul, cfgP, u101, hlen, a0, a1, n1, hg, c1, hww, hput1]
    exact kp0.fin (l := [.bool false]) (by simp [wk, aBuiltin, AV.cells, AV.leaf, Nat.reduceEqDiff, Nat.reduceLT, Nat.reduceAdd, Nat.reduceLeDiff, reduceCtorEq, Nat.reduceMul, cfgP, u101, hlen, aResults, aResult]) (.still rfl)

/-- is a rune one of a text's bytes? -/
def hasS (s : List UInt8) (c : Int) : Bool := s.any fun b => decide ((b.toNat : Int) = c)
theorem idxByte_mem (s : List UInt8) (c : UInt8) : 0 ≤ idxByte s c ↔ c ∈ s := by
  unfold idxByte
  cases h : (List.range s.length).find? fun i => s.getD i 0 == c with
  | none =>
    simp only [Int.reduceNeg, Int.reduceLE, false_iff]
    intro hm
    obtain ⟨i, hi, rfl⟩ := List.getElem_of_mem hm
    have := List.find?_eq_none.1 h i (by simpa using hi)
    simp [List.getD, hi] at this
  | some i =>
    have h1 := List.find?_some h
    have h2 := List.mem_of_find?_eq_some h
    simp only [List.mem_range] at h2
    simp only [List.getD, h2, List.getElem?_eq_getElem, Option.getD_some, beq_iff_eq] at h1
    simp only [Int.natCast_nonneg, true_iff]
    rw [← h1]; exact List.getElem_mem h2

theorem has_ok (s : List UInt8) (c : Int) (hs : s.all (fun b => decide (b.toNat < 128)) = true) (prot : Nat) (H : Heap) (hp : prot ≤ H.length) : aLim cfg prot 128 [.str s, .int .i32 c] H = some (.bool (hasS s c), none) := by
  have hsnap : snap H [.str s, .int .i32 c] = some ([.str s, .int .i32 c], false) := rfl
  have hs := List.all_eq_true.1 hs
  refine pure_slim rfl (by kernel_rfl) Try.func128 s128 hp hsnap (by simp [Try.f128]) fun fr hlen h => ?_
  simp only [Has, Nat.zero_add] at h
  obtain ⟨a0, a1, -⟩ := h
  simp only [Try.f128] at hlen ⊢
  unfold g128
  by_cases h : 0 ≤ c ∧ c < 128
  · obtain ⟨h1, h2⟩ := h
    obtain ⟨n, rfl⟩ : ∃ n : Nat, c = n := ⟨c.toNat, by omega⟩
    have en : (UInt8.ofNat n).toNat = n := by simp; omega
    have w1 : IntKind.u8.wrap (n : Int) = (n : Int) := by simp [IntKind.wrap, IntKind.bits, IntKind.signed]; omega
    have n1 := idxS_ok s (UInt8.ofNat n) H.length H (Nat.le_refl _)
    rw [en] at n1
    have e : decide ((0 : Int) ≤ idxByte s (UInt8.ofNat n)) = hasS s n := by
      rw [Bool.eq_iff_iff, decide_eq_true_iff, idxByte_mem]
      unfold hasS
      rw [List.any_eq_true]
      constructor
      · intro hm; exact ⟨_, hm, by rw [en]; simp⟩
      · rintro ⟨b, hb, he⟩
        have : b = UInt8.ofNat n := by
          have he' : (b.toNat : Int) = n := of_decide_eq_true he
          rw [← UInt8.toNat_inj, en]; omega
        rw [← this]; exact hb
    simp only [wk, aBuiltin, AV.cells, AV.leaf, Nat.reduceEqDiff, Nat.reduceLT, Nat.reduceAdd, Nat.reduceLeDiff, reduceCtorEq, Nat.reduceMul, cfgP, u101, hlen, a0, a1, h1, h2, w1, n1, e]
    exact Fin_pure (l := [.bool (hasS s n)]) (by simp [wk, aBuiltin, AV.cells, AV.leaf, Nat.reduceEqDiff, Nat.reduceLT, Nat.reduceAdd, Nat.reduceLeDiff, reduceCtorEq, Nat.reduceMul, cfgP, u101, aResults, aResult, hlen]) (.still rfl) (by simp)
  · have hf : hasS s c = false := by
      unfold hasS
      rw [List.any_eq_false]
      intro b hb he
      have := hs b hb
      simp at this he
      omega
    rw [hf]
    by_cases h1 : 0 ≤ c
    · have h2 : ¬ c < 128 := fun h2 => h ⟨h1, h2⟩
      simp only [wk, aBuiltin, AV.cells, AV.leaf, Nat.reduceEqDiff, Nat.reduceLT, Nat.reduceAdd, Nat.reduceLeDiff, reduceCtorEq, Nat.reduceMul, cfgP, u101, hlen, a0, a1, h1, h2, none_beq]
      exact Fin_pure (l := [.bool false]) (by simp [wk, aBuiltin, AV.cells, AV.leaf, Nat.reduceEqDiff, Nat.reduceLT, Nat.reduceAdd, Nat.reduceLeDiff, reduceCtorEq, Nat.reduceMul, cfgP, u101, aResults, aResult, hlen]) (.still rfl) (by simp)
    · simp only [wk, aBuiltin, AV.cells, AV.leaf, Nat.reduceEqDiff, Nat.reduceLT, Nat.reduceAdd, Nat.reduceLeDiff, reduceCtorEq, Nat.reduceMul, cfgP, u101, hlen, a0, a1, h1, none_beq]
      exact Fin_pure (l := [.bool false]) (by simp [wk, aBuiltin, AV.cells, AV.leaf, Nat.reduceEqDiff, Nat.reduceLT, Nat.reduceAdd, Nat.reduceLeDiff, reduceCtorEq, Nat.reduceMul, cfgP, u101, aResults, aResult, hlen]) (.still rfl) (by simp)
def wordyC (c : Int) : Bool := decide (48 ≤ c ∧ c ≤ 57) || (decide (97 ≤ c ∧ c ≤ 122) || decide (65 ≤ c ∧ c ≤ 90))

theorem wordy_ok (c : Int) (prot : Nat) (H : Heap) (hp : prot ≤ H.length) : aLim cfg prot 135 [.int .i32 c] H = some (.bool (wordyC c), none) := by
  have hsnap : snap H [.int .i32 c] = some ([.int .i32 c], false) := rfl
  have hc : (48 ≤ c ∧ c ≤ 57) ∨ (97 ≤ c ∧ c ≤ 122) ∨ (65 ≤ c ∧ c ≤ 90) ∨ (c < 48) ∨ (57 < c ∧ c < 65) ∨ (90 < c ∧ c < 97) ∨ 122 < c := by omega
  have hw : wordyC c = decide ((48 ≤ c ∧ c ≤ 57) ∨ (97 ≤ c ∧ c ≤ 122) ∨ (65 ≤ c ∧ c ≤ 90)) := by simp [wordyC]
  rw [hw]
  have d : ∀ (k : Int), decide (k ≤ c) = decide (k ≤ c) := fun _ => rfl
  refine pure_slim rfl (by kernel_rfl) Try.func135 s135 hp hsnap (by simp [Try.f135]) fun fr hlen h => ?_
  simp only [Has, Nat.zero_add] at h
  obtain ⟨a0, -⟩ := h
  simp only [Try.f135] at hlen ⊢
  unfold g135
  rcases hc with h | h | h | h | h | h | h
  · rw [decide_eq_true (by omega)]
    have d1 : decide (48 ≤ c) = true := decide_eq_true (by omega)
    have d2 : decide (c ≤ 57) = true := decide_eq_true (by omega)
    simp only [wk, aBuiltin, AV.cells, AV.leaf, Nat.reduceEqDiff, Nat.reduceLT, Nat.reduceAdd, Nat.reduceLeDiff, reduceCtorEq, Nat.reduceMul, cfgP, u101, hlen, a0, d1, d2, none_beq]
    exact Fin_pure (l := [.bool true]) (by simp [wk, aBuiltin, AV.cells, AV.leaf, Nat.reduceEqDiff, Nat.reduceLT, Nat.reduceAdd, Nat.reduceLeDiff, reduceCtorEq, Nat.reduceMul, cfgP, u101, aResults, aResult, hlen]) (.still rfl) (by simp)
  · rw [decide_eq_true (by omega)]
    have d1 : decide (48 ≤ c) = true := decide_eq_true (by omega)
    have d2 : decide (c ≤ 57) = false := decide_eq_false (by omega)
    have d3 : decide (97 ≤ c) = true := decide_eq_true (by omega)
    have d4 : decide (c ≤ 122) = true := decide_eq_true (by omega)
    simp only [wk, aBuiltin, AV.cells, AV.leaf, Nat.reduceEqDiff, Nat.reduceLT, Nat.reduceAdd, Nat.reduceLeDiff, reduceCtorEq, Nat.reduceMul, cfgP, u101, hlen, a0, d1, d2, d3, d4, none_beq]
    exact Fin_pure (l := [.bool true]) (by simp [wk, aBuiltin, AV.cells, AV.leaf, Nat.reduceEqDiff, Nat.reduceLT, Nat.reduceAdd, Nat.reduceLeDiff, reduceCtorEq, Nat.reduceMul, cfgP, u101, aResults, aResult, hlen]) (.still rfl) (by simp)
  · rw [decide_eq_true (by omega)]
    have d1 : decide (48 ≤ c) = true := decide_eq_true (by omega)
    have d2 : decide (c ≤ 57) = false := decide_eq_false (by omega)
    have d3 : decide (97 ≤ c) = false := decide_eq_false (by omega)
    have d5 : decide (65 ≤ c) = true := decide_eq_true (by omega)
    have d6 : decide (c ≤ 90) = true := decide_eq_true (by omega)
    simp only [wk, aBuiltin, AV.cells, AV.leaf, Nat.reduceEqDiff, Nat.reduceLT, Nat.reduceAdd, Nat.reduceLeDiff, reduceCtorEq, Nat.reduceMul, cfgP, u101, hlen, a0, d1, d2, d3, d5, d6, none_beq]
    exact Fin_pure (l := [.bool true]) (by simp [wk, aBuiltin, AV.cells, AV.leaf, Nat.reduceEqDiff, Nat.reduceLT, Nat.reduceAdd, Nat.reduceLeDiff, reduceCtorEq, Nat.reduceMul, cfgP, u101, aResults, aResult, hlen]) (.still rfl) (by simp)
  · rw [decide_eq_false (by omega)]
    have d1 : decide (48 ≤ c) = false := decide_eq_false (by omega)
    have d3 : decide (97 ≤ c) = false := decide_eq_false (by omega)
    have d5 : decide (65 ≤ c) = false := decide_eq_false (by omega)
    simp only [wk, aBuiltin, AV.cells, AV.leaf, Nat.reduceEqDiff, Nat.reduceLT, Nat.reduceAdd, Nat.reduceLeDiff, reduceCtorEq, Nat.reduceMul, cfgP, u101, hlen, a0, d1, d3, d5, none_beq]
    exact Fin_pure (l := [.bool false]) (by simp [wk, aBuiltin, AV.cells, AV.leaf, Nat.reduceEqDiff, Nat.reduceLT, Nat.reduceAdd, Nat.reduceLeDiff, reduceCtorEq, Nat.reduceMul, cfgP, u101, aResults, aResult, hlen]) (.still rfl) (by simp)
  · rw [decide_eq_false (by omega)]
    have d1 : decide (48 ≤ c) = true := decide_eq_true (by omega)
    have d2 : decide (c ≤ 57) = false := decide_eq_false (by omega)
    have d3 : decide (97 ≤ c) = false := decide_eq_false (by omega)
    have d5 : decide (65 ≤ c) = false := decide_eq_false (by omega)
    simp only [wk, aBuiltin, AV.cells, AV.leaf, Nat.reduceEqDiff, Nat.reduceLT, Nat.reduceAdd, Nat.reduceLeDiff, reduceCtorEq, Nat.reduceMul, cfgP, u101, hlen, a0, d1, d2, d3, d5, none_beq]
    exact Fin_pure (l := [.bool false]) (by simp [wk, aBuiltin, AV.cells, AV.leaf, Nat.reduceEqDiff, Nat.reduceLT, Nat.reduceAdd, Nat.reduceLeDiff, reduceCtorEq, Nat.reduceMul, cfgP, u101, aResults, aResult, hlen]) (.still rfl) (by simp)
  · rw [decide_eq_false (by omega)]
    have d1 : decide (48 ≤ c) = true := decide_eq_true (by omega)
    have d2 : decide (c ≤ 57) = false := decide_eq_false (by omega)
    have d3 : decide (97 ≤ c) = false := decide_eq_false (by omega)
    have d5 : decide (65 ≤ c) = true := decide_eq_true (by omega)
    have d6 : decide (c ≤ 90) = false := decide_eq_false (by omega)
    simp only [wk, aBuiltin, AV.cells, AV.leaf, Nat.reduceEqDiff, Nat.reduceLT, Nat.reduceAdd, Nat.reduceLeDiff, reduceCtorEq, Nat.reduceMul, cfgP, u101, hlen, a0, d1, d2, d3, d5, d6, none_beq]
    exact Fin_pure (l := [.bool false]) (by simp [wk, aBuiltin, AV.cells, AV.leaf, Nat.reduceEqDiff, Nat.reduceLT, Nat.reduceAdd, Nat.reduceLeDiff, reduceCtorEq, Nat.reduceMul, cfgP, u101, aResults, aResult, hlen]) (.still rfl) (by simp)
  · rw [decide_eq_false (by omega)]
    have d1 : decide (48 ≤ c) = true := decide_eq_true (by omega)
    have d2 : decide (c ≤ 57) = false := decide_eq_false (by omega)
    have d3 : decide (97 ≤ c) = true := decide_eq_true (by omega)
    have d4 : decide (c ≤ 122) = false := decide_eq_false (by omega)
    have d5 : decide (65 ≤ c) = true := decide_eq_true (by omega)
    have d6 : decide (c ≤ 90) = false := decide_eq_false (by omega)
    simp only [wk, aBuiltin, AV.cells, AV.leaf, Nat.reduceEqDiff, Nat.reduceLT, Nat.reduceAdd, Nat.reduceLeDiff, reduceCtorEq, Nat.reduceMul, cfgP, u101, hlen, a0, d1, d2, d3, d4, d5, d6, none_beq]
    exact Fin_pure (l := [.bool false]) (by simp [wk, aBuiltin, AV.cells, AV.leaf, Nat.reduceEqDiff, Nat.reduceLT, Nat.reduceAdd, Nat.reduceLeDiff, reduceCtorEq, Nat.reduceMul, cfgP, u101, aResults, aResult, hlen]) (.still rfl) (by simp)

theorem one_ok (s : AV) (hs : s.leaf = true) (hc : s.cells = [s]) (hf : ∀ K n, Frz K n s s) (prot : Nat) (H : Heap) (hp : prot ≤ H.length) (hsnap : snap H [s] = some ([s], false)) : aLim cfg prot 127 [s] H = some (.agg [.int .i64 1, .bool false, s, .int .i64 0, .int .i64 0, .nilS], none) := by
  unfold AV.leaf at hs
  unfold AV.cells at hc
  refine pure_slim rfl (by kernel_rfl) Try.func127 s127 hp hsnap (by simp [Try.f127]) fun fr hlen h => ?_
  simp only [Has, Nat.zero_add] at h
  obtain ⟨a0, -⟩ := h
  simp only [Try.f127] at hlen ⊢
  unfold g127
  simp only [wk, aBuiltin, AV.cells, AV.leaf, Nat.reduceEqDiff, Nat.reduceLT, Nat.reduceAdd, Nat.reduceLeDiff, reduceCtorEq, Nat.reduceMul, cfgP, u101, hlen, a0, hs, hc]
  exact Fin_pure (l := [.agg [.int .i64 1, .bool false, s, .int .i64 0, .int .i64 0, .nilS]]) (by simp [wk, aBuiltin, AV.cells, AV.leaf, Nat.reduceEqDiff, Nat.reduceLT, Nat.reduceAdd, Nat.reduceLeDiff, reduceCtorEq, Nat.reduceMul, cfgP, u101, hlen, aResults, aResult, hget]) (.agg (.cons (.still rfl) (.cons (.still rfl) (.cons (hf _ _) (.cons (.still rfl) (.cons (.still rfl) (.cons (.still rfl) .nil))))))) (by simp)
end Go.Proofs.Ytoblikhnbddfmaa
/-! Chapter 15: escapes, numbers, how often: walked. -/
namespace Go.Proofs.Ytoblikhnbddfmaa
open Go Go.Abs AbsSeat Ty

/-- what stands behind a \. -/
def escS (c : Int) : List Sg × Bool := if c = 100 then ([⟨48, 57⟩], true) else if c = 119 then ([⟨97, 122⟩, ⟨65, 90⟩, ⟨48, 57⟩, ⟨95, 95⟩], true) else if c = 115 then ([⟨9, 9⟩, ⟨10, 10⟩, ⟨13, 13⟩, ⟨32, 32⟩], true)
  else ([⟨c, c⟩], decide (32 < c) && decide (c < 127) && !wordyC c)

theorem esc_ok (l : List Int) (L : AV) (hL : Sl encI L l) (hl : Runes l) (at_ b : Nat) (hat : at_ ≤ 2000000) (prot : Nat) (H : Heap) (hp : prot ≤ b) (hg : hget H b 0 = some [L, .int .i64 at_]) :
    aLim cfg prot 126 [.ptr b 0 0] H = some (.tup [.vs ((escS (pk l at_)).1.map encG) true, .bool (escS (pk l at_)).2], some (H.set b (.cells 0 [L, .int .i64 ((at_ + 1 : Nat))]))) := by
  have hb := hget_lt hg
  have n1 := peek_ok l L hL hl at_ b prot H (by omega) hg
  have hww : IntKind.i64.wrap ((at_ : Int) + 1) = ((at_ + 1 : Nat) : Int) := by rw [wrap64 (by omega) (by omega)]; simp
  have hput1 : hput prot H b 0 1 [.int .i64 ((at_ + 1 : Nat))] = some (H.set b (.cells 0 [L, .int .i64 ((at_ + 1 : Nat))])) := by
    rw [hput_eq hg hp (by simp) (by simp [AV.leaf])]; rfl
  have hLb : AV.blwL H.length [L, .int .i64 ((at_ + 1 : Nat))] = true := plL_blwL _ _ (slI_plain hL _)
  have kp := (Kp.start hg).put hLb
  have n2 := wordy_ok (pk l at_) prot (H.set b (.cells 0 [L, .int .i64 ((at_ + 1 : Nat))])) (by simp; omega)
  have hfz : ∀ (K : Heap) (m : List Sg) (y : Bool), Frz K H.length (packR [.vs (m.map encG) true, .bool y]) (.tup [.vs (m.map encG) true, .bool y]) := fun K m y => .tup (.cons (.still rfl) (.cons (.still rfl) .nil))
  generalize pk l at_ = c at *
  refine trim_slim rfl (by kernel_rfl) (by kernel_rfl) (by kernel_rfl) Try.func126 s126 (by simp [Try.f126]) fun fr hlen h => ?_
  simp only [Has, Nat.zero_add] at h
  obtain ⟨a0, -⟩ := h
  simp only [Try.f126] at hlen ⊢
  unfold g126
  by_cases h1 : c = 100
  · subst h1
    have e : escS 100 = ([⟨48, 57⟩], true) := rfl
    rw [e]
    simp only [wk, aBuiltin, AV.cells, AV.leaf, Nat.reduceEqDiff, Nat.reduceLT, Nat.reduceAdd, Nat.reduceLeDiff, reduceCtorEq, Nat.reduceMul, cfgP, u101, hlen, a0, n1, hg, hww, hput1, litG1, none_beq]
    exact kp.fin (l := [.vs (([⟨48, 57⟩] : List Sg).map encG) true, .bool true]) (by simp [wk, aBuiltin, AV.cells, AV.leaf, Nat.reduceEqDiff, Nat.reduceLT, Nat.reduceAdd, Nat.reduceLeDiff, reduceCtorEq, Nat.reduceMul, cfgP, u101, hlen, aResults, aResult]) (hfz _ _ _)
  by_cases h2 : c = 119
  · subst h2
    have d1 : decide ((119 : Int) = 100) = false := by decide
    have e : escS 119 = ([⟨97, 122⟩, ⟨65, 90⟩, ⟨48, 57⟩, ⟨95, 95⟩], true) := rfl
    rw [e]
    simp only [wk, aBuiltin, AV.cells, AV.leaf, Nat.reduceEqDiff, Nat.reduceLT, Nat.reduceAdd, Nat.reduceLeDiff, reduceCtorEq, Nat.reduceMul, cfgP, u101, hlen, a0, n1, hg, hww, hput1, litG4, d1, none_beq]
    exact kp.fin (l := [.vs (([⟨97, 122⟩, ⟨65, 90⟩, ⟨48, 57⟩, ⟨95, 95⟩] : List Sg).map encG) true, .bool true]) (by simp [wk, aBuiltin, AV.cells, AV.leaf, Nat.reduceEqDiff, Nat.reduceLT, Nat.reduceAdd, Nat.reduceLeDiff, reduceCtorEq, Nat.reduceMul, cfgP, u101, hlen, aResults, aResult]) (hfz _ _ _)
  by_cases h3 : c = 115
  · subst h3
    have d1 : decide ((115 : Int) = 100) = false := by decide
    have d2 : decide ((115 : Int) = 119) = false := by decide
    have e : escS 115 = ([⟨9, 9⟩, ⟨10, 10⟩, ⟨13, 13⟩, ⟨32, 32⟩], true) := rfl
    rw [e]
    simp only [wk, aBuiltin, AV.cells, AV.leaf, Nat.reduceEqDiff, Nat.reduceLT, Nat.reduceAdd, Nat.reduceLeDiff, reduceCtorEq, Nat.reduceMul, cfgP, u101, hlen, a0, n1, hg, hww, hput1, litG4, d1, d2, none_beq]
    exact kp.fin (l := [.vs (([⟨9, 9⟩, ⟨10, 10⟩, ⟨13, 13⟩, ⟨32, 32⟩] : List Sg).map encG) true, .bool true]) (by simp [wk, aBuiltin, AV.cells, AV.leaf, Nat.reduceEqDiff, Nat.reduceLT, Nat.reduceAdd, Nat.reduceLeDiff, reduceCtorEq, Nat.reduceMul, cfgP, u101, hlen, aResults, aResult]) (hfz _ _ _)
  have e : escS c = ([⟨c, c⟩], decide (32 < c) && decide (c < 127) && !wordyC c) := by simp [escS, h1, h2, h3]
  rw [e]
  have d1 : decide (c = 100) = false := by simp [h1]
  have d2 : decide (c = 119) = false := by simp [h2]
  have d3 : decide (c = 115) = false := by simp [h3]
  by_cases h4 : 32 < c
  · by_cases h5 : c < 127
    · simp only [wk, aBuiltin, AV.cells, AV.leaf, Nat.reduceEqDiff, Nat.reduceLT, Nat.reduceAdd, Nat.reduceLeDiff, reduceCtorEq, Nat.reduceMul, cfgP, u101, hlen, a0, n1, n2, hg, hww, hput1, litG1, d1, d2, d3, h4, h5, none_beq]
      exact kp.fin (l := [.vs (([⟨c, c⟩] : List Sg).map encG) true, .bool (!wordyC c)]) (by simp [wk, aBuiltin, AV.cells, AV.leaf, Nat.reduceEqDiff, Nat.reduceLT, Nat.reduceAdd, Nat.reduceLeDiff, reduceCtorEq, Nat.reduceMul, cfgP, u101, hlen, aResults, aResult]) (hfz _ _ _)
    · simp only [wk, aBuiltin, AV.cells, AV.leaf, Nat.reduceEqDiff, Nat.reduceLT, Nat.reduceAdd, Nat.reduceLeDiff, reduceCtorEq, Nat.reduceMul, cfgP, u101, hlen, a0, n1, n2, hg, hww, hput1, litG1, d1, d2, d3, h4, h5, none_beq]
      exact kp.fin (l := [.vs (([⟨c, c⟩] : List Sg).map encG) true, .bool false]) (by simp [wk, aBuiltin, AV.cells, AV.leaf, Nat.reduceEqDiff, Nat.reduceLT, Nat.reduceAdd, Nat.reduceLeDiff, reduceCtorEq, Nat.reduceMul, cfgP, u101, hlen, aResults, aResult]) (hfz _ _ _)
  · simp only [wk, aBuiltin, AV.cells, AV.leaf, Nat.reduceEqDiff, Nat.reduceLT, Nat.reduceAdd, Nat.reduceLeDiff, reduceCtorEq, Nat.reduceMul, cfgP, u101, hlen, a0, n1, n2, hg, hww, hput1, litG1, d1, d2, d3, h4, none_beq]
    exact kp.fin (l := [.vs (([⟨c, c⟩] : List Sg).map encG) true, .bool false]) (by simp [wk, aBuiltin, AV.cells, AV.leaf, Nat.reduceEqDiff, Nat.reduceLT, Nat.reduceAdd, Nat.reduceLeDiff, reduceCtorEq, Nat.reduceMul, cfgP, u101, hlen, aResults, aResult]) (hfz _ _ _)

/-- a digit. -/
def dgC (c : Int) : Bool := decide (48 ≤ c ∧ c ≤ 57)
theorem dgC_iff {c : Int} : dgC c = true ↔ 48 ≤ c ∧ c ≤ 57 := by simp [dgC]
/-- how many digits stand there, two at most. -/
def numL (l : List Int) (i : Nat) : Nat := if dgC (pk l i) then if dgC (pk l (i + 1)) then 2 else 1 else 0
def numV (l : List Int) (i : Nat) : Int := if dgC (pk l i) then if dgC (pk l (i + 1)) then 10 * (pk l i - 48) + (pk l (i + 1) - 48) else pk l i - 48 else 0
def numB (l : List Int) (i : Nat) : Bool := decide (0 < numL l i) && decide (numV l i ≤ 16)
theorem numL_in {l : List Int} {i : Nat} (h : i ≤ l.length) : i + numL l i ≤ l.length := by
  unfold numL
  split
  · rename_i h1
    have h1 := dgC_iff.1 h1
    have := pk_in (l := l) (i := i) (by omega)
    split
    · rename_i h2
      have h2 := dgC_iff.1 h2
      have := pk_in (l := l) (i := i + 1) (by omega)
      omega
    · omega
  · omega
theorem numL_lt {l : List Int} {i k : Nat} (hk : k ≤ numL l i) : k < numL l i ↔ k < 2 ∧ dgC (pk l (i + k)) = true := by
  unfold numL at hk ⊢
  by_cases h1 : dgC (pk l i) = true
  · by_cases h2 : dgC (pk l (i + 1)) = true
    · simp only [h1, h2, if_true] at hk ⊢
      have : k = 0 ∨ k = 1 ∨ k = 2 := by omega
      rcases this with rfl | rfl | rfl <;> simp [h1, h2]
    · simp only [h1, h2, if_true, Bool.false_eq_true, if_false] at hk ⊢
      have : k = 0 ∨ k = 1 := by omega
      rcases this with rfl | rfl <;> simp [h1, h2]
  · simp only [h1, Bool.false_eq_true, if_false] at hk ⊢
    have : k = 0 := by omega
    subst this; simp [h1]
theorem encR_dg {c : Int} (h : 48 ≤ c ∧ c ≤ 57) : encR c = [UInt8.ofNat c.toNat] := by
  have : c = 48 ∨ c = 49 ∨ c = 50 ∨ c = 51 ∨ c = 52 ∨ c = 53 ∨ c = 54 ∨ c = 55 ∨ c = 56 ∨ c = 57 := by omega
  rcases this with rfl | rfl | rfl | rfl | rfl | rfl | rfl | rfl | rfl | rfl <;> decide
theorem num_size (l : List Int) (i : Nat) : sizeU (((l.drop i).take (numL l i)).flatMap encR) = (numV l i, if numL l i = 0 then 3 else 0) := by
  unfold numL numV
  by_cases h1 : dgC (pk l i) = true
  · have h1' := dgC_iff.1 h1
    have hi1 := pk_in (l := l) (i := i) (by omega)
    have hd1 : l.drop i = l[i] :: l.drop (i + 1) := by simp
    rw [pk_lt hi1] at h1 h1' ⊢
    by_cases h2 : dgC (pk l (i + 1)) = true
    · have h2' := dgC_iff.1 h2
      have hi2 := pk_in (l := l) (i := i + 1) (by omega)
      have hd2 : l.drop (i + 1) = l[i + 1] :: l.drop (i + 2) := by simp
      rw [pk_lt hi2] at h2 h2' ⊢
      rw [hd1, hd2]
      generalize l[i] = c at *
      generalize l[i + 1] = d at *
      simp only [h1, h2, if_true, List.take_succ_cons, List.take_zero, List.flatMap_cons, List.flatMap_nil, encR_dg h1', encR_dg h2', List.append_nil, List.cons_append, List.nil_append]
      obtain ⟨x, rfl⟩ : ∃ x : Nat, c = x := ⟨c.toNat, by omega⟩
      obtain ⟨y, rfl⟩ : ∃ y : Nat, d = y := ⟨d.toNat, by omega⟩
      have ex : (UInt8.ofNat x).toNat = x := by simp; omega
      have ey : (UInt8.ofNat y).toNat = y := by simp; omega
      have cx : digitC x = true := by simp [digitC]; omega
      have cy : digitC y = true := by simp [digitC]; omega
      simp only [Int.toNat_natCast, sizeU, List.all_cons, List.all_nil, ex, ey, cx, cy, digGo]
      rw [if_neg (by simp), if_neg (by omega), if_neg (by omega)]
      simp
      omega
    · rw [hd1]
      generalize l[i] = c at *
      simp only [h1, h2, if_true, Bool.false_eq_true, if_false, List.take_succ_cons, List.take_zero, List.flatMap_cons, List.flatMap_nil, encR_dg h1', List.append_nil]
      obtain ⟨x, rfl⟩ : ∃ x : Nat, c = x := ⟨c.toNat, by omega⟩
      have ex : (UInt8.ofNat x).toNat = x := by simp; omega
      have cx : digitC x = true := by simp [digitC]; omega
      simp only [Int.toNat_natCast, sizeU, List.all_cons, List.all_nil, ex, cx, digGo]
      rw [if_neg (by simp), if_neg (by omega)]
      simp
      omega
  · simp [h1, sizeU]

theorem encR_le (n : Int) : (encR n).length ≤ 4 := by
  unfold encR Utf8.encode
  split <;> simp
  all_goals
    split
    · exact Nat.le_of_ble_eq_true rfl
    · split
      · exact Nat.le_of_ble_eq_true rfl
      · split <;> exact Nat.le_of_ble_eq_true rfl
theorem runes_cells (l : List Int) : runesOf (cellsOf encI l) = some l := by
  induction l with
  | nil => rfl
  | cons x r ih =>
    have : cellsOf encI (x :: r) = .int .i32 x :: cellsOf encI r := rfl
    rw [this, runesOf, ih]; rfl
theorem runes_str {v : AV} {l : List Int} (hv : Sl encI v l) (H : Heap) : aConvert Try.prog H 80 9 v = some (.str (l.flatMap encR), none) := by
  have he := hv.elems encI_T H
  cases hv <;> simp only [aConvert, Try.underlying80, Try.underlying21, Try.underlying9, he, Option.bind_some, runes_cells, Option.map_some]

theorem number_ok (l : List Int) (L : AV) (hL : Sl encI L l) (hl : Runes l) (at_ b : Nat) (hat : at_ ≤ l.length) (prot : Nat) (H : Heap) (hp : prot ≤ b) (hg : hget H b 0 = some [L, .int .i64 at_]) :
    aLim cfg prot 129 [.ptr b 0 0] H = some (.tup [.int .i64 (numV l at_), .bool (numB l at_)], some (H.set b (.cells 0 [L, .int .i64 ((at_ + numL l at_ : Nat))]))) := by
  have hb := hget_lt hg
  have hll := hl.1
  have hin := numL_in hat
  have kp0 := Kp.start hg
  have hfz : ∀ (K : Heap) (x : Int) (y : Bool), Frz K H.length (packR [.int .i64 x, .bool y]) (.tup [.int .i64 x, .bool y]) := fun K x y => .tup (.cons (.still rfl) (.cons (.still rfl) .nil))
  refine trim_slim rfl (by kernel_rfl) (by kernel_rfl) (by kernel_rfl) Try.func129 s129 (by simp [Try.f129]) fun fr hlen h => ?_
  simp only [Has, Nat.zero_add] at h
  obtain ⟨a0, -⟩ := h
  simp only [Try.f129] at hlen ⊢
  unfold g129
  simp only [wk, aBuiltin, AV.cells, AV.leaf, Nat.reduceEqDiff, Nat.reduceLT, Nat.reduceAdd, Nat.reduceLeDiff, reduceCtorEq, Nat.reduceMul, cfgP, u101, hlen, a0, hg]
  refine loop_rule (fun m fr H' => ∃ (k : Nat), m = numL l at_ - k ∧ k ≤ numL l at_ ∧ fr.length = 85 ∧ fget fr 0 = .ptr b 0 0 ∧ fget fr 4 = .int .i64 at_ ∧ Kp H b [L, .int .i64 ((at_ + k : Nat))] H') ?_ (numL l at_) _ _ ⟨0, by
      refine ⟨by omega, by omega, ?_⟩
      simp [wk, aBuiltin, AV.cells, AV.leaf, Nat.reduceEqDiff, Nat.reduceLT, Nat.reduceAdd, Nat.reduceLeDiff, reduceCtorEq, Nat.reduceMul, cfgP, u101, hlen, a0]
      exact kp0⟩
  rintro m fr H' ⟨k, rfl, hk, hlen, a0, a4, kp⟩ ih
  have hlt := numL_lt hk
  have hg' := kp.get
  have w1 : IntKind.i64.wrap (((at_ + k : Nat) : Int) - (at_ : Nat)) = (k : Nat) := by rw [wrap64 (by omega) (by omega)]; omega
  have hL1 := hL.len Try.underlying80 (H := H')
  have hww : IntKind.i64.wrap (((at_ + k : Nat) : Int) + 1) = ((at_ + k + 1 : Nat) : Int) := by rw [wrap64 (by omega) (by omega)]; simp
  by_cases hc : k < numL l at_
  · obtain ⟨hk2, hd⟩ := hlt.1 hc
    have hd := dgC_iff.1 hd
    have hi := pk_in (l := l) (i := at_ + k) (by omega)
    have e1 := hL.at (k := .i64) (i := at_ + k) Try.underlying80 sz21 encI_len hi
    rw [pk_lt hi] at hd
    generalize l[at_ + k] = c at *
    have d1 : decide (((at_ + k : Nat) : Int) < (l.length : Nat)) = true := decide_eq_true (by omega)
    have d2 : decide ((k : Int) < 2) = true := decide_eq_true (by omega)
    have d3 : decide (48 ≤ c) = true := decide_eq_true (by omega)
    have d4 : decide (c ≤ 57) = true := decide_eq_true (by omega)
    have hput1 : hput prot H' b 0 1 [.int .i64 ((at_ + k + 1 : Nat))] = some (H'.set b (.cells 0 [L, .int .i64 ((at_ + k + 1 : Nat))])) := by
      rw [hput_eq hg' hp (by simp) (by simp [AV.leaf])]; rfl
    have hLb : AV.blwL H.length [L, .int .i64 ((at_ + k + 1 : Nat))] = true := plL_blwL _ _ (slI_plain hL _)
    simp only [wk, aBuiltin, AV.cells, AV.leaf, Nat.reduceEqDiff, Nat.reduceLT, Nat.reduceAdd, Nat.reduceLeDiff, reduceCtorEq, Nat.reduceMul, cfgP, u101, hlen, a0, a4, hg', hL1, w1, e1, encI, d1, d2, d3, d4, hww, hput1, none_beq]
    refine ih _ _ (numL l at_ - (k + 1)) (by omega) ⟨k + 1, rfl, by omega, ?_⟩
    have := kp.put hLb
    simp [wk, aBuiltin, AV.cells, AV.leaf, Nat.reduceEqDiff, Nat.reduceLT, Nat.reduceAdd, Nat.reduceLeDiff, reduceCtorEq, Nat.reduceMul, cfgP, u101, hlen, a0, a4]
    exact this
  · obtain rfl : k = numL l at_ := by omega
    have hnb : numB l at_ = (decide (0 < numL l at_) && decide (numV l at_ ≤ 16)) := rfl
    have hsz := num_size l at_
    obtain ⟨v2, e2, hv2⟩ := Sl_mid hL (lo := at_) (hi := at_ + numL l at_) Try.underlying80 sz21 encI_len (by omega) hin
    rw [show at_ + numL l at_ - at_ = numL l at_ by omega] at hv2
    have e3 := runes_str hv2 H'
    have n1 := size_ok (((l.drop at_).take (numL l at_)).flatMap encR) (by
      have : ∀ m : List Int, (m.flatMap encR).length ≤ 4 * m.length := fun m => by
        induction m with
        | nil => simp
        | cons x r ih =>
          have : (encR x).length ≤ 4 := encR_le x
          simp only [List.flatMap_cons, List.length_append, List.length_cons]
          omega
      have := this ((l.drop at_).take (numL l at_))
      rw [List.length_take, List.length_drop] at this
      omega) prot H' (by have := kp.len; omega)
    rw [hsz] at n1
    have hdis : l.length ≤ at_ + numL l at_ ∨ (at_ + numL l at_ < l.length ∧ 2 ≤ numL l at_) ∨ (∃ h : at_ + numL l at_ < l.length, numL l at_ < 2 ∧ l[at_ + numL l at_] < 48) ∨ (∃ h : at_ + numL l at_ < l.length, numL l at_ < 2 ∧ ¬ l[at_ + numL l at_] < 48 ∧ 57 < l[at_ + numL l at_]) := by
      by_cases h1 : l.length ≤ at_ + numL l at_
      · exact .inl h1
      · have hi : at_ + numL l at_ < l.length := by omega
        by_cases h2 : 2 ≤ numL l at_
        · exact .inr (.inl ⟨hi, h2⟩)
        · have h3 : ¬ dgC (pk l (at_ + numL l at_)) = true := fun h => hc (hlt.2 ⟨by omega, h⟩)
          rw [pk_lt hi, dgC_iff] at h3
          by_cases h4 : l[at_ + numL l at_] < 48
          · exact .inr (.inr (.inl ⟨hi, by omega, h4⟩))
          · exact .inr (.inr (.inr ⟨hi, by omega, h4, by omega⟩))
    generalize numB l at_ = nb at *
    generalize numV l at_ = nv at *
    have hfin : ∀ fr' H'', H'' = H' → aResults cfg.P fr' H' [ResultVar.tmp 2, ResultVar.tmp 3] = some [.int .i64 nv, .bool nb] → Fin ⟨cfg, prot, [ResultVar.tmp 2, ResultVar.tmp 3], .trim H⟩ fr' H'' (.tup [.int .i64 nv, .bool nb], some (H.set b (.cells 0 [L, .int .i64 ((at_ + numL l at_ : Nat))]))) := fun fr' H'' e h => by
      subst e
      exact kp.fin h (hfz _ _ _)
    have hb3 : (if numL l at_ = 0 then (3 : Int) else 0) = 0 ↔ 0 < numL l at_ := by split <;> omega
    generalize (if numL l at_ = 0 then (3 : Int) else 0) = u at *
    have hend : u = 0 ∧ nb = decide (nv ≤ 16) ∨ u ≠ 0 ∧ nb = false := by
      by_cases h0 : u = 0
      · exact .inl ⟨h0, by rw [hnb, decide_eq_true (hb3.1 h0), Bool.true_and]⟩
      · exact .inr ⟨h0, by rw [hnb, decide_eq_false (fun h => h0 (hb3.2 h)), Bool.false_and]⟩
    clear hnb hb3 hsz
    rcases hdis with h1 | ⟨h1, h2⟩ | ⟨h1, h2, h3⟩ | ⟨h1, h2, h3, h4⟩
    · have d1 : decide (((at_ + numL l at_ : Nat) : Int) < (l.length : Nat)) = false := decide_eq_false (by omega)
      rcases hend with ⟨rfl, rfl⟩ | ⟨hu, rfl⟩
      · simp only [wk, aBuiltin, AV.cells, AV.leaf, Nat.reduceEqDiff, Nat.reduceLT, Nat.reduceAdd, Nat.reduceLeDiff, reduceCtorEq, Nat.reduceMul, cfgP, u101, hlen, a0, a4, hg', hL1, w1, d1, e2, e3, n1, none_beq]
        exact hfin _ _ rfl (by simp [wk, aBuiltin, AV.cells, AV.leaf, Nat.reduceEqDiff, Nat.reduceLT, Nat.reduceAdd, Nat.reduceLeDiff, reduceCtorEq, Nat.reduceMul, cfgP, u101, hlen, aResults, aResult])
      · have d5 : decide (u = 0) = false := decide_eq_false hu
        simp only [wk, aBuiltin, AV.cells, AV.leaf, Nat.reduceEqDiff, Nat.reduceLT, Nat.reduceAdd, Nat.reduceLeDiff, reduceCtorEq, Nat.reduceMul, cfgP, u101, hlen, a0, a4, hg', hL1, w1, d1, e2, e3, n1, d5, none_beq]
        exact hfin _ _ rfl (by simp [wk, aBuiltin, AV.cells, AV.leaf, Nat.reduceEqDiff, Nat.reduceLT, Nat.reduceAdd, Nat.reduceLeDiff, reduceCtorEq, Nat.reduceMul, cfgP, u101, hlen, aResults, aResult])
    · have d1 : decide (((at_ + numL l at_ : Nat) : Int) < (l.length : Nat)) = true := decide_eq_true (by omega)
      have d2 : decide ((numL l at_ : Int) < 2) = false := decide_eq_false (by omega)
      rcases hend with ⟨rfl, rfl⟩ | ⟨hu, rfl⟩
      · simp only [wk, aBuiltin, AV.cells, AV.leaf, Nat.reduceEqDiff, Nat.reduceLT, Nat.reduceAdd, Nat.reduceLeDiff, reduceCtorEq, Nat.reduceMul, cfgP, u101, hlen, a0, a4, hg', hL1, w1, d1, d2, e2, e3, n1, none_beq]
        exact hfin _ _ rfl (by simp [wk, aBuiltin, AV.cells, AV.leaf, Nat.reduceEqDiff, Nat.reduceLT, Nat.reduceAdd, Nat.reduceLeDiff, reduceCtorEq, Nat.reduceMul, cfgP, u101, hlen, aResults, aResult])
      · have d5 : decide (u = 0) = false := decide_eq_false hu
        simp only [wk, aBuiltin, AV.cells, AV.leaf, Nat.reduceEqDiff, Nat.reduceLT, Nat.reduceAdd, Nat.reduceLeDiff, reduceCtorEq, Nat.reduceMul, cfgP, u101, hlen, a0, a4, hg', hL1, w1, d1, d2, e2, e3, n1, d5, none_beq]
        exact hfin _ _ rfl (by simp [wk, aBuiltin, AV.cells, AV.leaf, Nat.reduceEqDiff, Nat.reduceLT, Nat.reduceAdd, Nat.reduceLeDiff, reduceCtorEq, Nat.reduceMul, cfgP, u101, hlen, aResults, aResult])
    · have d1 : decide (((at_ + numL l at_ : Nat) : Int) < (l.length : Nat)) = true := decide_eq_true (by omega)
      have d2 : decide ((numL l at_ : Int) < 2) = true := decide_eq_true (by omega)
      have e1 := hL.at (k := .i64) (i := at_ + numL l at_) Try.underlying80 sz21 encI_len h1
      have d3 : decide (48 ≤ l[at_ + numL l at_]) = false := decide_eq_false (by omega)
      rcases hend with ⟨rfl, rfl⟩ | ⟨hu, rfl⟩
      · simp only [wk, aBuiltin, AV.cells, AV.leaf, Nat.reduceEqDiff, Nat.reduceLT, Nat.reduceAdd, Nat.reduceLeDiff, reduceCtorEq, Nat.reduceMul, cfgP, u101, hlen, a0, a4, hg', hL1, w1, d1, d2, e1, encI, d3, e2, e3, n1, none_beq]
        exact hfin _ _ rfl (by simp [wk, aBuiltin, AV.cells, AV.leaf, Nat.reduceEqDiff, Nat.reduceLT, Nat.reduceAdd, Nat.reduceLeDiff, reduceCtorEq, Nat.reduceMul, cfgP, u101, hlen, aResults, aResult])
      · have d5 : decide (u = 0) = false := decide_eq_false hu
        simp only [wk, aBuiltin, AV.cells, AV.leaf, Nat.reduceEqDiff, Nat.reduceLT, Nat.reduceAdd, Nat.reduceLeDiff, reduceCtorEq, Nat.reduceMul, cfgP, u101, hlen, a0, a4, hg', hL1, w1, d1, d2, e1, encI, d3, e2, e3, n1, d5, none_beq]
        exact hfin _ _ rfl (by simp [wk, aBuiltin, AV.cells, AV.leaf, Nat.reduceEqDiff, Nat.reduceLT, Nat.reduceAdd, Nat.reduceLeDiff, reduceCtorEq, Nat.reduceMul, cfgP, u101, hlen, aResults, aResult])
    · have d1 : decide (((at_ + numL l at_ : Nat) : Int) < (l.length : Nat)) = true := decide_eq_true (by omega)
      have d2 : decide ((numL l at_ : Int) < 2) = true := decide_eq_true (by omega)
      have e1 := hL.at (k := .i64) (i := at_ + numL l at_) Try.underlying80 sz21 encI_len h1
      have d3 : decide (48 ≤ l[at_ + numL l at_]) = true := decide_eq_true (by omega)
      have d4 : decide (l[at_ + numL l at_] ≤ 57) = false := decide_eq_false (by omega)
      rcases hend with ⟨rfl, rfl⟩ | ⟨hu, rfl⟩
      · simp only [wk, aBuiltin, AV.cells, AV.leaf, Nat.reduceEqDiff, Nat.reduceLT, Nat.reduceAdd, Nat.reduceLeDiff, reduceCtorEq, Nat.reduceMul, cfgP, u101, hlen, a0, a4, hg', hL1, w1, d1, d2, e1, encI, d3, d4, e2, e3, n1, none_beq]
        exact hfin _ _ rfl (by simp [wk, aBuiltin, AV.cells, AV.leaf, Nat.reduceEqDiff, Nat.reduceLT, Nat.reduceAdd, Nat.reduceLeDiff, reduceCtorEq, Nat.reduceMul, cfgP, u101, hlen, aResults, aResult])
      · have d5 : decide (u = 0) = false := decide_eq_false hu
        simp only [wk, aBuiltin, AV.cells, AV.leaf, Nat.reduceEqDiff, Nat.reduceLT, Nat.reduceAdd, Nat.reduceLeDiff, reduceCtorEq, Nat.reduceMul, cfgP, u101, hlen, a0, a4, hg', hL1, w1, d1, d2, e1, encI, d3, d4, e2, e3, n1, d5, none_beq]
        exact hfin _ _ rfl (by simp [wk, aBuiltin, AV.cells, AV.leaf, Nat.reduceEqDiff, Nat.reduceLT, Nat.reduceAdd, Nat.reduceLeDiff, reduceCtorEq, Nat.reduceMul, cfgP, u101, hlen, aResults, aResult])

/-- how often, behind a {. -/
structure Tm where
  lo : Int
  hi : Int
  ok : Bool
  at_ : Nat
def timesS (l : List Int) (i : Nat) : Tm :=
  let j := i + numL l i
  if numB l i then
    if pk l j = 44 then
      if pk l (j + 1) = 125 then ⟨numV l i, -1, true, j + 2⟩
      else if numB l (j + 1) && decide (numV l i ≤ numV l (j + 1)) then
        if pk l (j + 1 + numL l (j + 1)) = 125 then ⟨numV l i, numV l (j + 1), true, j + 1 + numL l (j + 1) + 1⟩ else ⟨numV l i, numV l (j + 1), false, j + 1 + numL l (j + 1)⟩
      else ⟨0, 0, false, j + 1 + numL l (j + 1)⟩
    else if pk l j = 125 then ⟨numV l i, numV l i, true, j + 1⟩ else ⟨numV l i, numV l i, false, j⟩
  else ⟨0, 0, false, j⟩

theorem times_ok (l : List Int) (L : AV) (hL : Sl encI L l) (hl : Runes l) (at_ b : Nat) (hat : at_ ≤ l.length) (prot : Nat) (H : Heap) (hp : prot ≤ b) (hg : hget H b 0 = some [L, .int .i64 at_]) :
    aLim cfg prot 116 [.ptr b 0 0] H = some (.tup [.int .i64 (timesS l at_).lo, .int .i64 (timesS l at_).hi, .bool (timesS l at_).ok], some (H.set b (.cells 0 [L, .int .i64 ((timesS l at_).at_ : Nat)]))) := by
  have hb := hget_lt hg
  have hll := hl.1
  have hin := numL_in hat
  have hset : ∀ (c d : List AV), (H.set b (.cells 0 c)).set b (.cells 0 d) = H.set b (.cells 0 d) := fun c d => List.set_set ..
  have hLb : ∀ x : Int, AV.blwL H.length [L, .int .i64 x] = true := fun x => plL_blwL _ _ (slI_plain hL _)
  have kp := fun x => (Kp.start hg).put (hLb x)
  have hfz : ∀ (K : Heap) (x y : Int) (z : Bool), Frz K H.length (packR [.int .i64 x, .int .i64 y, .bool z]) (.tup [.int .i64 x, .int .i64 y, .bool z]) := fun K x y z => .tup (.cons (.still rfl) (.cons (.still rfl) (.cons (.still rfl) .nil)))
  have hgs : ∀ c, hget (H.set b (.cells 0 c)) b 0 = some c := fun c => hget_set_at hb
  have n1 := number_ok l L hL hl at_ b hat prot H hp hg
  have n2 := take_ok l L hL hl (at_ + numL l at_) b 44 (by omega) prot _ hp (hgs [L, .int .i64 ((at_ + numL l at_ : Nat))])
  have n3 := take_ok l L hL hl (at_ + numL l at_) b 125 (by omega) prot _ hp (hgs [L, .int .i64 ((at_ + numL l at_ : Nat))])
  rw [hset] at n2 n3
  unfold timesS
  generalize hj : at_ + numL l at_ = j at *
  refine trim_slim rfl (by kernel_rfl) (by kernel_rfl) (by kernel_rfl) Try.func116 s116 (by simp [Try.f116]) fun fr hlen h => ?_
  simp only [Has, Nat.zero_add] at h
  obtain ⟨a0, -⟩ := h
  simp only [Try.f116] at hlen ⊢
  unfold g116
  cases hn : numB l at_ with
  | false =>
    simp only [Bool.false_eq_true, if_false]
    simp only [wk, aBuiltin, AV.cells, AV.leaf, Nat.reduceEqDiff, Nat.reduceLT, Nat.reduceAdd, Nat.reduceLeDiff, reduceCtorEq, Nat.reduceMul, cfgP, u101, hlen, a0, n1, hn, none_beq]
    exact (kp _).fin (l := [.int .i64 0, .int .i64 0, .bool false]) (by simp [wk, aBuiltin, AV.cells, AV.leaf, Nat.reduceEqDiff, Nat.reduceLT, Nat.reduceAdd, Nat.reduceLeDiff, reduceCtorEq, Nat.reduceMul, cfgP, u101, hlen, aResults, aResult]) (hfz _ _ _ _)
  | true =>
    simp only [if_true]
    by_cases h1 : pk l j = 44
    · have h1' : ¬ pk l j = 125 := by rw [h1]; decide
      have hj1 := pk_in (l := l) (i := j) (by rw [h1]; decide)
      simp only [h1, if_true, decide_true] at n2 ⊢
      have n4 := peek_ok l L hL hl (j + 1) b prot _ (by simp; omega) (hgs [L, .int .i64 ((j + 1 : Nat))])
      have n5 := take_ok l L hL hl (j + 1) b 125 (by omega) prot _ hp (hgs [L, .int .i64 ((j + 1 : Nat))])
      have n6 := number_ok l L hL hl (j + 1) b (by omega) prot _ hp (hgs [L, .int .i64 ((j + 1 : Nat))])
      have hin2 := numL_in (l := l) (i := j + 1) (by omega)
      rw [hset] at n5 n6
      by_cases h2 : pk l (j + 1) = 125
      · have d2 : decide (¬ pk l (j + 1) = 125) = false := by simp [h2]
        simp only [h2, if_true, decide_true] at n5 ⊢
        simp only [wk, aBuiltin, AV.cells, AV.leaf, Nat.reduceEqDiff, Nat.reduceLT, Nat.reduceAdd, Nat.reduceLeDiff, reduceCtorEq, Nat.reduceMul, cfgP, u101, hlen, a0, n1, hn, n2, n4, d2, n5, h2, none_beq]
        exact (kp _).fin (l := [.int .i64 (numV l at_), .int .i64 (-1), .bool true]) (by simp [wk, aBuiltin, AV.cells, AV.leaf, Nat.reduceEqDiff, Nat.reduceLT, Nat.reduceAdd, Nat.reduceLeDiff, reduceCtorEq, Nat.reduceMul, cfgP, u101, hlen, aResults, aResult]) (hfz _ _ _ _)
      · have d2 : decide (¬ pk l (j + 1) = 125) = true := by simp [h2]
        simp only [h2, if_false]
        have n7 := take_ok l L hL hl (j + 1 + numL l (j + 1)) b 125 (by omega) prot _ hp (hgs [L, .int .i64 ((j + 1 + numL l (j + 1) : Nat))])
        rw [hset] at n7
        cases hn2 : numB l (j + 1) with
        | false =>
          simp only [Bool.false_and, Bool.false_eq_true, if_false]
          simp only [wk, aBuiltin, AV.cells, AV.leaf, Nat.reduceEqDiff, Nat.reduceLT, Nat.reduceAdd, Nat.reduceLeDiff, reduceCtorEq, Nat.reduceMul, cfgP, u101, hlen, a0, n1, hn, n2, n4, d2, n6, hn2, none_beq]
          exact (kp _).fin (l := [.int .i64 0, .int .i64 0, .bool false]) (by simp [wk, aBuiltin, AV.cells, AV.leaf, Nat.reduceEqDiff, Nat.reduceLT, Nat.reduceAdd, Nat.reduceLeDiff, reduceCtorEq, Nat.reduceMul, cfgP, u101, hlen, aResults, aResult]) (hfz _ _ _ _)
        | true =>
          by_cases h3 : numV l at_ ≤ numV l (j + 1)
          · have d3 : decide (numV l (j + 1) < numV l at_) = false := decide_eq_false (by omega)
            simp only [h3, Bool.true_and, decide_true, if_true]
            by_cases h4 : pk l (j + 1 + numL l (j + 1)) = 125
            · simp only [h4, if_true, decide_true] at n7 ⊢
              simp only [wk, aBuiltin, AV.cells, AV.leaf, Nat.reduceEqDiff, Nat.reduceLT, Nat.reduceAdd, Nat.reduceLeDiff, reduceCtorEq, Nat.reduceMul, cfgP, u101, hlen, a0, n1, hn, n2, n4, d2, n6, hn2, d3, n7, none_beq]
              exact (kp _).fin (l := [.int .i64 (numV l at_), .int .i64 (numV l (j + 1)), .bool true]) (by simp [wk, aBuiltin, AV.cells, AV.leaf, Nat.reduceEqDiff, Nat.reduceLT, Nat.reduceAdd, Nat.reduceLeDiff, reduceCtorEq, Nat.reduceMul, cfgP, u101, hlen, aResults, aResult]) (hfz _ _ _ _)
            · simp only [h4, if_false, decide_false] at n7 ⊢
              simp only [wk, aBuiltin, AV.cells, AV.leaf, Nat.reduceEqDiff, Nat.reduceLT, Nat.reduceAdd, Nat.reduceLeDiff, reduceCtorEq, Nat.reduceMul, cfgP, u101, hlen, a0, n1, hn, n2, n4, d2, n6, hn2, d3, n7, none_beq]
              exact (kp _).fin (l := [.int .i64 (numV l at_), .int .i64 (numV l (j + 1)), .bool false]) (by simp [wk, aBuiltin, AV.cells, AV.leaf, Nat.reduceEqDiff, Nat.reduceLT, Nat.reduceAdd, Nat.reduceLeDiff, reduceCtorEq, Nat.reduceMul, cfgP, u101, hlen, aResults, aResult]) (hfz _ _ _ _)
          · have d3 : decide (numV l (j + 1) < numV l at_) = true := decide_eq_true (by omega)
            simp only [h3, Bool.true_and, decide_false, Bool.false_eq_true, if_false]
            simp only [wk, aBuiltin, AV.cells, AV.leaf, Nat.reduceEqDiff, Nat.reduceLT, Nat.reduceAdd, Nat.reduceLeDiff, reduceCtorEq, Nat.reduceMul, cfgP, u101, hlen, a0, n1, hn, n2, n4, d2, n6, hn2, d3, none_beq]
            exact (kp _).fin (l := [.int .i64 0, .int .i64 0, .bool false]) (by simp [wk, aBuiltin, AV.cells, AV.leaf, Nat.reduceEqDiff, Nat.reduceLT, Nat.reduceAdd, Nat.reduceLeDiff, reduceCtorEq, Nat.reduceMul, cfgP, u101, hlen, aResults, aResult]) (hfz _ _ _ _)
    · simp only [h1, if_false, decide_false] at n2 ⊢
      by_cases h2 : pk l j = 125
      · simp only [h2, if_true, decide_true] at n3 ⊢
        simp only [wk, aBuiltin, AV.cells, AV.leaf, Nat.reduceEqDiff, Nat.reduceLT, Nat.reduceAdd, Nat.reduceLeDiff, reduceCtorEq, Nat.reduceMul, cfgP, u101, hlen, a0, n1, hn, n2, n3, none_beq]
        exact (kp _).fin (l := [.int .i64 (numV l at_), .int .i64 (numV l at_), .bool true]) (by simp [wk, aBuiltin, AV.cells, AV.leaf, Nat.reduceEqDiff, Nat.reduceLT, Nat.reduceAdd, Nat.reduceLeDiff, reduceCtorEq, Nat.reduceMul, cfgP, u101, hlen, aResults, aResult]) (hfz _ _ _ _)
      · simp only [h2, if_false, decide_false] at n3 ⊢
        simp only [wk, aBuiltin, AV.cells, AV.leaf, Nat.reduceEqDiff, Nat.reduceLT, Nat.reduceAdd, Nat.reduceLeDiff, reduceCtorEq, Nat.reduceMul, cfgP, u101, hlen, a0, n1, hn, n2, n3, none_beq]
        exact (kp _).fin (l := [.int .i64 (numV l at_), .int .i64 (numV l at_), .bool false]) (by simp [wk, aBuiltin, AV.cells, AV.leaf, Nat.reduceEqDiff, Nat.reduceLT, Nat.reduceAdd, Nat.reduceLeDiff, reduceCtorEq, Nat.reduceMul, cfgP, u101, hlen, aResults, aResult]) (hfz _ _ _ _)
end Go.Proofs.Ytoblikhnbddfmaa
