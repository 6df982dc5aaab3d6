import Derived.Test.YtnipaiklandliaaGreatDoorM3LabelText
/-! Part 4 of the proof of LabelText: the texts Lt2 Lord Lt3 Lt4 RunLabelText. -/
set_option linter.unusedSimpArgs false
/- label.Parse on a set's text, walked. -/
set_option maxRecDepth 100000
namespace Go.Proofs.YtnipaiklandliaaGreatDoor
open Go Go.Abs AbsSeat Ty

theorem u37 : type_of% (And.intro (show tagT Tryz.prog 120 = 0 from by kernel_rfl) (And.intro (show tagT Tryz.prog 27 = 0 from by kernel_rfl) (And.intro ag1 (And.intro sz1 (And.intro by1 (And.intro ze1 (And.intro Tryz.underlying1 (And.intro ag3 (And.intro sz3 (And.intro by3 (And.intro ze3 (And.intro Tryz.underlying3 (And.intro ag5 (And.intro sz5 (And.intro by5 (And.intro ze5 (And.intro Tryz.underlying5 (And.intro ag9 (And.intro sz9 (And.intro by9 (And.intro ze9 (And.intro Tryz.underlying9 (And.intro ag23 (And.intro sz23 (And.intro by23 (And.intro se23 (And.intro ze23 (And.intro Tryz.underlying23 (And.intro ag27 (And.intro sz27 (And.intro by27 (And.intro ze27 (And.intro bu27 (And.intro Tryz.underlying27 (And.intro ag28 (And.intro sz28 (And.intro by28 (And.intro ze28 (And.intro Tryz.underlying28 (And.intro ag59 (And.intro sz59 (And.intro by59 (And.intro ze59 (And.intro bu59 (And.intro Tryz.underlying59 (And.intro ag116 (And.intro sz116 (And.intro by116 (And.intro ze116 (And.intro Tryz.underlying116 (And.intro ag120 (And.intro sz120 (And.intro by120 (And.intro ze120 (And.intro bu120 (And.intro Tryz.underlying120 (And.intro fa120_0 (And.intro fd120_0 (And.intro fa120_1 (And.intro fd120_1 (And.intro fa120_2 (And.intro fd120_2 (And.intro fa120_3 fd120_3))))))))))))))))))))))))))))))))))))))))))))))))))))))))))))))) := And.intro (show tagT Tryz.prog 120 = 0 from by kernel_rfl) (And.intro (show tagT Tryz.prog 27 = 0 from by kernel_rfl) (And.intro ag1 (And.intro sz1 (And.intro by1 (And.intro ze1 (And.intro Tryz.underlying1 (And.intro ag3 (And.intro sz3 (And.intro by3 (And.intro ze3 (And.intro Tryz.underlying3 (And.intro ag5 (And.intro sz5 (And.intro by5 (And.intro ze5 (And.intro Tryz.underlying5 (And.intro ag9 (And.intro sz9 (And.intro by9 (And.intro ze9 (And.intro Tryz.underlying9 (And.intro ag23 (And.intro sz23 (And.intro by23 (And.intro se23 (And.intro ze23 (And.intro Tryz.underlying23 (And.intro ag27 (And.intro sz27 (And.intro by27 (And.intro ze27 (And.intro bu27 (And.intro Tryz.underlying27 (And.intro ag28 (And.intro sz28 (And.intro by28 (And.intro ze28 (And.intro Tryz.underlying28 (And.intro ag59 (And.intro sz59 (And.intro by59 (And.intro ze59 (And.intro bu59 (And.intro Tryz.underlying59 (And.intro ag116 (And.intro sz116 (And.intro by116 (And.intro ze116 (And.intro Tryz.underlying116 (And.intro ag120 (And.intro sz120 (And.intro by120 (And.intro ze120 (And.intro bu120 (And.intro Tryz.underlying120 (And.intro fa120_0 (And.intro fd120_0 (And.intro fa120_1 (And.intro fd120_1 (And.intro fa120_2 (And.intro fd120_2 (And.intro fa120_3 fd120_3))))))))))))))))))))))))))))))))))))))))))))))))))))))))))))))
def g37 : Code :=
  .seq (.region 0 #[q 4 (.assign (.const (.string { data := #[] }))) 9, q 5 (.assign (.const (.bool false))) 4] false) (.seq (.region 1 #[q 6 (.move (.tmp 0)) 9, q 7 (.move (.tmp 1)) 9, q 8 (cl 69 #[.tmp 6, .tmp 7] #[9, 9]) 67, q 9 (.extract (.tmp 8) 0) 9, q 10 (.extract (.tmp 8) 1) 4, q 4 (.assign (.tmp 9)) 9, q 5 (.assign (.tmp 10)) 4] false) .ret)
theorem s37 : Tryz.f37.body.map (slim cfg) = some g37 := by kernel_rfl
def g69 : Code :=
  .seq (.region 0 #[q 4 (.assign (.const (.string { data := #[] }))) 9, q 5 (.assign (.const (.bool false))) 4] false) (.seq (.seq (.region 1 #[q 6 (.move (.tmp 0)) 9, q 7 (.move (.tmp 1)) 9, q 8 (cl 105 #[.tmp 6, .tmp 7] #[9, 9]) 4, q 9 (.unOp .not 4 (.tmp 8)) 4] false) (.cond (.tmp 9) (.seq (.region 2 #[q 10 (.move (.tmp 0)) 9, q 4 (.assign (.tmp 10)) 9, q 5 (.assign (.const (.bool false))) 4] false) .ret) .skip)) (.seq (.region 3 #[q 11 (.move (.tmp 0)) 9, q 12 (.move (.tmp 1)) 9, q 13 (bi .len #[.tmp 12] #[9]) 3, q 14 (.slice 9 (.tmp 11) (some (.tmp 13)) none none) 9, q 4 (.assign (.tmp 14)) 9, q 5 (.assign (.const (.bool true))) 4] false) .ret))
theorem s69 : Tryz.f69.body.map (slim cfg) = some g69 := by kernel_rfl
def g38 : Code :=
  .seq (.region 0 #[q 4 (.assign (.const (.string { data := #[] }))) 9, q 5 (.assign (.const (.bool false))) 4] false) (.seq (.region 1 #[q 6 (.move (.tmp 0)) 9, q 7 (.move (.tmp 1)) 9, q 8 (cl 70 #[.tmp 6, .tmp 7] #[9, 9]) 67, q 9 (.extract (.tmp 8) 0) 9, q 10 (.extract (.tmp 8) 1) 4, q 4 (.assign (.tmp 9)) 9, q 5 (.assign (.tmp 10)) 4] false) .ret)
theorem s38 : Tryz.f38.body.map (slim cfg) = some g38 := by kernel_rfl
def g70 : Code :=
  .seq (.region 0 #[q 4 (.assign (.const (.string { data := #[] }))) 9, q 5 (.assign (.const (.bool false))) 4] false) (.seq (.seq (.region 1 #[q 6 (.move (.tmp 0)) 9, q 7 (.move (.tmp 1)) 9, q 8 (cl 106 #[.tmp 6, .tmp 7] #[9, 9]) 4, q 9 (.unOp .not 4 (.tmp 8)) 4] false) (.cond (.tmp 9) (.seq (.region 2 #[q 10 (.move (.tmp 0)) 9, q 4 (.assign (.tmp 10)) 9, q 5 (.assign (.const (.bool false))) 4] false) .ret) .skip)) (.seq (.region 3 #[q 11 (.move (.tmp 0)) 9, q 12 (.move (.tmp 0)) 9, q 13 (bi .len #[.tmp 12] #[9]) 3, q 14 (.move (.tmp 1)) 9, q 15 (bi .len #[.tmp 14] #[9]) 3, q 16 (.binOp .sub 3 (.tmp 13) (.tmp 15) 3) 3, q 17 (.slice 9 (.tmp 11) none (some (.tmp 16)) none) 9, q 4 (.assign (.tmp 17)) 9, q 5 (.assign (.const (.bool true))) 4] false) .ret))
theorem s70 : Tryz.f70.body.map (slim cfg) = some g70 := by kernel_rfl
def g106 : Code :=
  .seq (.region 0 #[q 4 (.assign (.const (.bool false))) 4] false) (.seq (.region 1 #[q 5 (.move (.tmp 0)) 9, q 6 (bi .len #[.tmp 5] #[9]) 3, q 7 (.move (.tmp 1)) 9, q 8 (bi .len #[.tmp 7] #[9]) 3, q 9 (.binOp .geq 3 (.tmp 6) (.tmp 8) 3) 4, q 10 (.move (.tmp 9)) 4, qg 11 (.move (.tmp 0)) 9 5 true, qg 12 (.move (.tmp 0)) 9 5 true, qg 13 (bi .len #[.tmp 12] #[9]) 3 5 true, qg 14 (.move (.tmp 1)) 9 5 true, qg 15 (bi .len #[.tmp 14] #[9]) 3 5 true, qg 16 (.binOp .sub 3 (.tmp 13) (.tmp 15) 3) 3 5 true, qg 17 (.slice 9 (.tmp 11) (some (.tmp 16)) none none) 9 5 true, qg 18 (.move (.tmp 1)) 9 5 true, qg 19 (.binOp .eql 9 (.tmp 17) (.tmp 18) 9) 4 5 true, q 20 (.pick (.tmp 10) (.tmp 19) (.const (.bool false))) 4, q 4 (.assign (.tmp 20)) 4] false) .ret)
theorem s106 : Tryz.f106.body.map (slim cfg) = some g106 := by kernel_rfl
def g71 : Code :=
  .seq (.region 0 #[q 4 (.assign (.const (.string { data := #[] }))) 9, q 5 (.assign (.const (.string { data := #[] }))) 9, q 6 (.assign (.const (.bool false))) 4] false) (.seq (.region 1 #[q 7 (.move (.tmp 0)) 9, q 8 (.move (.tmp 1)) 9, q 9 (cl 107 #[.tmp 7, .tmp 8] #[9, 9]) 117, q 10 (.extract (.tmp 9) 0) 9, q 11 (.extract (.tmp 9) 1) 9, q 12 (.extract (.tmp 9) 2) 4, q 4 (.assign (.tmp 10)) 9, q 5 (.assign (.tmp 11)) 9, q 6 (.assign (.tmp 12)) 4] false) .ret)
theorem s71 : Tryz.f71.body.map (slim cfg) = some g71 := by kernel_rfl
def g107 : Code :=
  .seq (.region 0 #[q 4 (.assign (.const (.string { data := #[] }))) 9, q 5 (.assign (.const (.string { data := #[] }))) 9, q 6 (.assign (.const (.bool false))) 4] false) (.seq (.seq (.region 1 #[q 8 (.move (.tmp 0)) 9, q 9 (.move (.tmp 1)) 9, q 10 (cl 141 #[.tmp 8, .tmp 9] #[9, 9]) 3, q 7 (.assign (.tmp 10)) 3] false) (.seq (.region 2 #[q 11 (.move (.tmp 7)) 3, q 12 (.binOp .geq 3 (.tmp 11) (ik 0) 3) 4] false) (.cond (.tmp 12) (.seq (.region 3 #[q 13 (.move (.tmp 0)) 9, q 14 (.move (.tmp 7)) 3, q 15 (.slice 9 (.tmp 13) none (some (.tmp 14)) none) 9, q 16 (.move (.tmp 0)) 9, q 17 (.move (.tmp 7)) 3, q 18 (.move (.tmp 1)) 9, q 19 (bi .len #[.tmp 18] #[9]) 3, q 20 (.binOp .add 3 (.tmp 17) (.tmp 19) 3) 3, q 21 (.slice 9 (.tmp 16) (some (.tmp 20)) none none) 9, q 4 (.assign (.tmp 15)) 9, q 5 (.assign (.tmp 21)) 9, q 6 (.assign (.const (.bool true))) 4] false) .ret) .skip))) (.seq (.region 4 #[q 22 (.move (.tmp 0)) 9, q 4 (.assign (.tmp 22)) 9, q 5 (.assign (.const (.string { data := #[] }))) 9, q 6 (.assign (.const (.bool false))) 4] false) .ret))
theorem s107 : Tryz.f107.body.map (slim cfg) = some g107 := by kernel_rfl
def g141 : Code :=
  .seq (.region 0 #[q 4 (.assign (ik 0)) 3] false) (.seq (.region 1 #[q 14 (.move (.tmp 1)) 9, q 15 (bi .len #[.tmp 14] #[9]) 3, q 5 (.assign (.tmp 15)) 3] false) (.seq (.block 0 (.seq (.region 2 #[q 17 (.move (.tmp 5)) 3, q 18 (.binOp .eql 3 (.tmp 17) (ik 0) 3) 4, q 19 (.move (.tmp 18)) 4, qg 20 (.move (.tmp 1)) 9 2 false, qg 21 (.move (.tmp 0)) 9 2 false, qg 22 (.binOp .eql 9 (.tmp 20) (.tmp 21) 9) 4 2 false, q 23 (.pick (.tmp 19) (.const (.bool true)) (.tmp 22)) 4, q 16 (.assign (.tmp 23)) 4] false) (.cond (.tmp 16) (.seq (.region 3 #[q 4 (.assign (ik 0)) 3] false) .ret) (.seq (.region 4 #[q 25 (.move (.tmp 5)) 3, q 26 (.binOp .eql 3 (.tmp 25) (ik 1) 3) 4, q 24 (.assign (.tmp 26)) 4] false) (.cond (.tmp 24) (.seq (.region 5 #[q 27 (.move (.tmp 0)) 9, q 28 (.move (.tmp 1)) 9, q 29 (.index 9 (.tmp 28) (ik 0)) 5, q 30 (cl 113 #[.tmp 27, .tmp 29] #[9, 5]) 3, q 4 (.assign (.tmp 30)) 3] false) .ret) (.seq (.region 6 #[q 32 (.move (.tmp 5)) 3, q 33 (.move (.tmp 0)) 9, q 34 (bi .len #[.tmp 33] #[9]) 3, q 35 (.binOp .geq 3 (.tmp 32) (.tmp 34) 3) 4, q 31 (.assign (.tmp 35)) 4] false) (.cond (.tmp 31) (.seq (.region 7 #[q 4 (.assign (ik (-1))) 3] false) .ret) (.seq (.region 8 #[q 37 (.move (.tmp 5)) 3, q 38 (.load 3 (.global 0)) 3, q 39 (.binOp .leq 3 (.tmp 37) (.tmp 38) 3) 4, q 40 (.move (.tmp 39)) 4, qg 41 (.move (.tmp 0)) 9 3 true, qg 42 (bi .len #[.tmp 41] #[9]) 3 3 true, qg 43 (.binOp .leq 3 (.tmp 42) (ik 64) 3) 4 3 true, q 44 (.pick (.tmp 40) (.tmp 43) (.const (.bool false))) 4, q 36 (.assign (.tmp 44)) 4] false) (.cond (.tmp 36) (.seq (.region 9 #[q 45 (.move (.tmp 0)) 9, q 46 (.move (.tmp 1)) 9, q 47 (cl 162 #[.tmp 45, .tmp 46] #[9, 9]) 3, q 4 (.assign (.tmp 47)) 3] false) .ret) .skip))))))))) (.seq (.region 10 #[q 48 (.move (.tmp 1)) 9, q 49 (.index 9 (.tmp 48) (ik 0)) 5, q 6 (.assign (.tmp 49)) 5] false) (.seq (.region 11 #[q 50 (.move (.tmp 1)) 9, q 51 (.index 9 (.tmp 50) (ik 1)) 5, q 7 (.assign (.tmp 51)) 5] false) (.seq (.region 12 #[q 8 (.assign (ik 0)) 3] false) (.seq (.region 13 #[q 52 (.move (.tmp 0)) 9, q 53 (bi .len #[.tmp 52] #[9]) 3, q 54 (.move (.tmp 5)) 3, q 55 (.binOp .sub 3 (.tmp 53) (.tmp 54) 3) 3, q 56 (.binOp .add 3 (.tmp 55) (ik 1) 3) 3, q 9 (.assign (.tmp 56)) 3] false) (.seq (.region 14 #[q 10 (.assign (ik 0)) 3] false) (.seq (.block 1 (.loop (.seq (.seq (.region 15 #[q 57 (.move (.tmp 8)) 3, q 58 (.move (.tmp 9)) 3, q 59 (.binOp .lss 3 (.tmp 57) (.tmp 58) 3) 4] false) (.cond (.tmp 59) .skip (.exit 1))) (.block 2 (.seq (.seq (.region 16 #[q 60 (.move (.tmp 0)) 9, q 61 (.move (.tmp 8)) 3, q 62 (.index 9 (.tmp 60) (.tmp 61)) 5, q 63 (.move (.tmp 6)) 5, q 64 (.binOp .neq 5 (.tmp 62) (.tmp 63) 5) 4] false) (.cond (.tmp 64) (.seq (.region 17 #[q 65 (.move (.tmp 0)) 9, q 66 (.move (.tmp 8)) 3, q 67 (.binOp .add 3 (.tmp 66) (ik 1) 3) 3, q 68 (.move (.tmp 9)) 3, q 69 (.slice 9 (.tmp 65) (some (.tmp 67)) (some (.tmp 68)) none) 9, q 70 (.move (.tmp 6)) 5, q 71 (cl 113 #[.tmp 69, .tmp 70] #[9, 5]) 3, q 11 (.assign (.tmp 71)) 3] false) (.seq (.seq (.region 18 #[q 72 (.move (.tmp 11)) 3, q 73 (.binOp .lss 3 (.tmp 72) (ik 0) 3) 4] false) (.cond (.tmp 73) (.seq (.region 19 #[q 4 (.assign (ik (-1))) 3] false) .ret) .skip)) (.region 20 #[q 74 (.move (.tmp 8)) 3, q 75 (.move (.tmp 11)) 3, q 76 (.binOp .add 3 (.tmp 75) (ik 1) 3) 3, q 77 (.binOp .add 3 (.tmp 74) (.tmp 76) 3) 3, q 8 (.assign (.tmp 77)) 3] false))) .skip)) (.seq (.seq (.region 21 #[q 78 (.move (.tmp 0)) 9, q 79 (.move (.tmp 8)) 3, q 80 (.binOp .add 3 (.tmp 79) (ik 1) 3) 3, q 81 (.index 9 (.tmp 78) (.tmp 80)) 5, q 82 (.move (.tmp 7)) 5, q 83 (.binOp .eql 5 (.tmp 81) (.tmp 82) 5) 4, q 84 (.move (.tmp 83)) 4, qg 85 (.move (.tmp 0)) 9 6 true, qg 86 (.move (.tmp 8)) 3 6 true, qg 87 (.move (.tmp 8)) 3 6 true, qg 88 (.move (.tmp 5)) 3 6 true, qg 89 (.binOp .add 3 (.tmp 87) (.tmp 88) 3) 3 6 true, qg 90 (.slice 9 (.tmp 85) (some (.tmp 86)) (some (.tmp 89)) none) 9 6 true, qg 91 (.move (.tmp 1)) 9 6 true, qg 92 (.binOp .eql 9 (.tmp 90) (.tmp 91) 9) 4 6 true, q 93 (.pick (.tmp 84) (.tmp 92) (.const (.bool false))) 4] false) (.cond (.tmp 93) (.seq (.region 22 #[q 94 (.move (.tmp 8)) 3, q 4 (.assign (.tmp 94)) 3] false) .ret) .skip)) (.seq (.region 23 #[q 95 (.move (.tmp 8)) 3, q 96 (.binOp .add 3 (.tmp 95) (ik 1) 3) 3, q 8 (.assign (.tmp 96)) 3] false) (.seq (.region 24 #[q 97 (.move (.tmp 10)) 3, q 98 (.binOp .add 3 (.tmp 97) (ik 1) 3) 3, q 10 (.assign (.tmp 98)) 3] false) (.seq (.region 25 #[q 99 (.move (.tmp 5)) 3, q 100 (.load 3 (.global 0)) 3, q 101 (.binOp .leq 3 (.tmp 99) (.tmp 100) 3) 4, q 102 (.move (.tmp 101)) 4, qg 103 (.move (.tmp 10)) 3 3 true, qg 104 (.move (.tmp 8)) 3 3 true, qg 105 (cl 161 #[.tmp 104] #[3]) 3 3 true, qg 106 (.binOp .gtr 3 (.tmp 103) (.tmp 105) 3) 4 3 true, q 107 (.pick (.tmp 102) (.tmp 106) (.const (.bool false))) 4] false) (.cond (.tmp 107) (.seq (.region 26 #[q 108 (.move (.tmp 0)) 9, q 109 (.move (.tmp 8)) 3, q 110 (.slice 9 (.tmp 108) (some (.tmp 109)) none none) 9, q 111 (.move (.tmp 1)) 9, q 112 (cl 162 #[.tmp 110, .tmp 111] #[9, 9]) 3, q 12 (.assign (.tmp 112)) 3] false) (.seq (.seq (.region 27 #[q 113 (.move (.tmp 12)) 3, q 114 (.binOp .geq 3 (.tmp 113) (ik 0) 3) 4] false) (.cond (.tmp 114) (.seq (.region 28 #[q 115 (.move (.tmp 12)) 3, q 116 (.move (.tmp 8)) 3, q 117 (.binOp .add 3 (.tmp 115) (.tmp 116) 3) 3, q 4 (.assign (.tmp 117)) 3] false) .ret) .skip)) (.seq (.region 29 #[q 4 (.assign (ik (-1))) 3] false) .ret))) (.seq (.region 30 #[q 118 (.move (.tmp 5)) 3, q 119 (.load 3 (.global 0)) 3, q 120 (.binOp .gtr 3 (.tmp 118) (.tmp 119) 3) 4, q 121 (.move (.tmp 120)) 4, qg 122 (.move (.tmp 10)) 3 3 true, qg 123 (.move (.tmp 8)) 3 3 true, qg 124 (.binOp .shr 3 (.tmp 123) (.const (.int .u64 4)) 116) 3 3 true, qg 125 (.binOp .add 3 (ik 4) (.tmp 124) 3) 3 3 true, qg 126 (.binOp .geq 3 (.tmp 122) (.tmp 125) 3) 4 3 true, q 127 (.pick (.tmp 121) (.tmp 126) (.const (.bool false))) 4, q 128 (.move (.tmp 127)) 4, qg 129 (.move (.tmp 8)) 3 10 true, qg 130 (.move (.tmp 9)) 3 10 true, qg 131 (.binOp .lss 3 (.tmp 129) (.tmp 130) 3) 4 10 true, q 132 (.pick (.tmp 128) (.tmp 131) (.const (.bool false))) 4] false) (.cond (.tmp 132) (.seq (.region 31 #[q 133 (.move (.tmp 0)) 9, q 134 (.move (.tmp 8)) 3, q 135 (.slice 9 (.tmp 133) (some (.tmp 134)) none none) 9, q 136 (.move (.tmp 1)) 9, q 137 (cl 166 #[.tmp 135, .tmp 136] #[9, 9]) 3, q 13 (.assign (.tmp 137)) 3] false) (.seq (.seq (.region 32 #[q 138 (.move (.tmp 13)) 3, q 139 (.binOp .lss 3 (.tmp 138) (ik 0) 3) 4] false) (.cond (.tmp 139) (.seq (.region 33 #[q 4 (.assign (ik (-1))) 3] false) .ret) .skip)) (.seq (.region 34 #[q 140 (.move (.tmp 8)) 3, q 141 (.move (.tmp 13)) 3, q 142 (.binOp .add 3 (.tmp 140) (.tmp 141) 3) 3, q 4 (.assign (.tmp 142)) 3] false) .ret))) .skip)))))))))))) (.seq (.region 35 #[q 4 (.assign (ik (-1))) 3] false) .ret)))))))))
theorem s141 : Tryz.f141.body.map (slim cfg) = some g141 := by kernel_rfl
def g39 : Code :=
  .seq (.region 0 #[q 2 (.assign (.const (.slice none 0 0))) 23, q 3 (.assign (.const (.bool false))) 4] false) (.seq (.region 1 #[q 4 (.assign (.const (.slice none 0 0))) 23] false) (.seq (.seq (.region 2 #[q 11 (.move (.tmp 0)) 9, q 12 (.binOp .neq 9 (.tmp 11) (.const (.string { data := #[] })) 9) 4, q 5 (.assign (.tmp 12)) 4] false) (.block 0 (.loop (.seq (.seq (.region 3 #[q 13 (.move (.tmp 5)) 4] false) (.cond (.tmp 13) .skip (.exit 0))) (.block 1 (.seq (.region 4 #[q 15 (.move (.tmp 0)) 9, q 16 (cl 71 #[.tmp 15, .const (.string { data := #[61] })] #[9, 9]) 117, q 14 (.move (.tmp 16)) 117, q 17 (.extract (.tmp 14) 0) 9, q 18 (.extract (.tmp 14) 1) 9, q 19 (.extract (.tmp 14) 2) 4, q 6 (.assign (.tmp 17)) 9, q 7 (.assign (.tmp 18)) 9, q 8 (.assign (.tmp 19)) 4] false) (.seq (.region 5 #[q 21 (.move (.tmp 7)) 9, q 22 (cl 72 #[.tmp 21, ik 0] #[9, 3]) 121, q 20 (.move (.tmp 22)) 121, q 23 (.extract (.tmp 20) 0) 120, q 24 (.extract (.tmp 20) 1) 28, q 9 (.alloc 120) 0, qn (.store 120 (.tmp 9) (.tmp 23)) 0, q 10 (.assign (.tmp 24)) 28] false) (.seq (.seq (.region 6 #[q 25 (.move (.tmp 8)) 4, q 26 (.unOp .not 4 (.tmp 25)) 4, q 27 (.move (.tmp 26)) 4, qg 28 (.move (.tmp 10)) 28 2 false, qg 29 (.binOp .neq 28 (.tmp 28) (ik 0) 28) 4 2 false, q 30 (.pick (.tmp 27) (.const (.bool true)) (.tmp 29)) 4, q 31 (.move (.tmp 30)) 4, qg 32 (.fieldAddr 120 (.tmp 9) 0) 0 6 false, qg 33 (.load 3 (.tmp 32)) 3 6 false, qg 34 (.binOp .neq 3 (.tmp 33) (ik 7) 3) 4 6 false, q 35 (.pick (.tmp 31) (.const (.bool true)) (.tmp 34)) 4, q 36 (.move (.tmp 35)) 4, qg 37 (.fieldAddr 120 (.tmp 9) 1) 0 11 false, qg 38 (.load 3 (.tmp 37)) 3 11 false, qg 39 (.binOp .neq 3 (.tmp 38) (ik 0) 3) 4 11 false, q 40 (.pick (.tmp 36) (.const (.bool true)) (.tmp 39)) 4] false) (.cond (.tmp 40) (.seq (.region 7 #[q 2 (.assign (.const (.slice none 0 0))) 23, q 3 (.assign (.const (.bool false))) 4] false) .ret) .skip)) (.seq (.region 8 #[q 41 (.move (.tmp 4)) 23, q 42 (.move (.tmp 6)) 9, q 43 (.fieldAddr 120 (.tmp 9) 3) 0, q 44 (.load 9 (.tmp 43)) 9, q 45 (.build 59 #[(0, .tmp 42), (1, .tmp 44)]) 59, q 46 (.buildSlice 23 1 #[(0, .tmp 45)]) 23, q 47 (bi .append #[.tmp 41, .tmp 46] #[23, 23]) 23, q 4 (.assign (.tmp 47)) 23] false) (.region 9 #[q 49 (.move (.tmp 7)) 9, q 50 (.fieldAddr 120 (.tmp 9) 2) 0, q 51 (.load 3 (.tmp 50)) 3, q 52 (.slice 9 (.tmp 49) (some (.tmp 51)) none none) 9, q 53 (cl 37 #[.tmp 52, .const (.string { data := #[44] })] #[9, 9]) 67, q 48 (.move (.tmp 53)) 67, q 54 (.extract (.tmp 48) 0) 9, q 55 (.extract (.tmp 48) 1) 4, q 0 (.assign (.tmp 54)) 9, q 5 (.assign (.tmp 55)) 4] false)))))))))) (.seq (.region 10 #[q 56 (.move (.tmp 4)) 23, q 57 (.move (.tmp 0)) 9, q 58 (.binOp .eql 9 (.tmp 57) (.const (.string { data := #[] })) 9) 4, q 2 (.assign (.tmp 56)) 23, q 3 (.assign (.tmp 58)) 4] false) .ret)))
theorem s39 : Tryz.f39.body.map (slim cfg) = some g39 := by kernel_rfl
def g10 : Code :=
  .seq (.region 0 #[q 2 (.alloc 27) 0, q 3 (.assign (ik 0)) 28] false) (.seq (.region 1 #[q 12 (.move (.tmp 0)) 9, q 13 (cl 37 #[.tmp 12, .const (.string { data := #[123] })] #[9, 9]) 67, q 11 (.move (.tmp 13)) 67, q 14 (.extract (.tmp 11) 0) 9, q 15 (.extract (.tmp 11) 1) 4, q 4 (.assign (.tmp 14)) 9, q 5 (.assign (.tmp 15)) 4] false) (.seq (.region 2 #[q 17 (.move (.tmp 4)) 9, q 18 (cl 38 #[.tmp 17, .const (.string { data := #[125] })] #[9, 9]) 67, q 16 (.move (.tmp 18)) 67, q 19 (.extract (.tmp 16) 0) 9, q 20 (.extract (.tmp 16) 1) 4, q 4 (.assign (.tmp 19)) 9, q 6 (.assign (.tmp 20)) 4] false) (.seq (.region 3 #[q 22 (.move (.tmp 4)) 9, q 23 (cl 39 #[.tmp 22] #[9]) 69, q 21 (.move (.tmp 23)) 69, q 24 (.extract (.tmp 21) 0) 23, q 25 (.extract (.tmp 21) 1) 4, q 7 (.assign (.tmp 24)) 23, q 8 (.assign (.tmp 25)) 4] false) (.seq (.seq (.region 4 #[q 26 (.move (.tmp 5)) 4, q 27 (.unOp .not 4 (.tmp 26)) 4, q 28 (.move (.tmp 27)) 4, qg 29 (.move (.tmp 6)) 4 2 false, qg 30 (.unOp .not 4 (.tmp 29)) 4 2 false, q 31 (.pick (.tmp 28) (.const (.bool true)) (.tmp 30)) 4, q 32 (.move (.tmp 31)) 4, qg 33 (.move (.tmp 8)) 4 6 false, qg 34 (.unOp .not 4 (.tmp 33)) 4 6 false, q 35 (.pick (.tmp 32) (.const (.bool true)) (.tmp 34)) 4] false) (.cond (.tmp 35) (.seq (.region 5 #[q 36 (.build 27 #[]) 27, qn (.store 27 (.tmp 2) (.tmp 36)) 0, q 3 (.assign (ik 3)) 28] false) .ret) .skip)) (.seq (.region 6 #[q 38 (.move (.tmp 7)) 23, q 39 (cl 8 #[.tmp 38] #[23]) 29, q 37 (.move (.tmp 39)) 29, q 40 (.extract (.tmp 37) 0) 27, q 41 (.extract (.tmp 37) 1) 28, q 9 (.alloc 27) 0, qn (.store 27 (.tmp 9) (.tmp 40)) 0, q 10 (.assign (.tmp 41)) 28] false) (.seq (.seq (.region 7 #[q 42 (.move (.tmp 10)) 28, q 43 (.binOp .neq 28 (.tmp 42) (ik 0) 28) 4, q 44 (.move (.tmp 43)) 4, qg 45 (.load 27 (.tmp 9)) 27 2 false, qg 46 (cl 11 #[.tmp 45] #[27]) 9 2 false, qg 47 (.move (.tmp 0)) 9 2 false, qg 48 (.binOp .neq 9 (.tmp 46) (.tmp 47) 9) 4 2 false, q 49 (.pick (.tmp 44) (.const (.bool true)) (.tmp 48)) 4] false) (.cond (.tmp 49) (.seq (.region 8 #[q 50 (.build 27 #[]) 27, qn (.store 27 (.tmp 2) (.tmp 50)) 0, q 3 (.assign (ik 3)) 28] false) .ret) .skip)) (.seq (.region 9 #[q 51 (.load 27 (.tmp 9)) 27, qn (.store 27 (.tmp 2) (.tmp 51)) 0, q 3 (.assign (ik 0)) 28] false) .ret)))))))
theorem s10 : Tryz.f10.body.map (slim cfg) = some g10 := by kernel_rfl
theorem slen (s : List UInt8) (K : Heap) : aLen Tryz.prog K 9 (.str s) = some (.int .i64 s.length) := str_len Tryz.underlying9 s K
theorem ff3 {K : Heap} {n : Nat} {x y z : AV} (h1 : still x = true) (h2 : still y = true) (h3 : still z = true) : Frz K n (packR [x, y, z]) (.tup [x, y, z]) := .tup (.cons (.still h1) (.cons (.still h2) (.cons (.still h3) .nil)))
theorem ff2 {K : Heap} {n : Nat} {x y : AV} (h1 : still x = true) (h2 : still y = true) : Frz K n (packR [x, y]) (.tup [x, y]) := .tup (.cons (.still h1) (.cons (.still h2) .nil))

theorem cutPreL_ok (s p : List UInt8) (prot : Nat) (H : Heap) (hp : prot ≤ H.length) :
    aLim cfg prot 69 [.str s, .str p] H = some (if hasPre s p then .tup [.str (s.drop p.length), .bool true] else .tup [.str s, .bool false], none) := by
  have hsnap : snap H [.str s, .str p] = some ([.str s, .str p], false) := rfl
  have n1 := hasPreL_ok s p H.length H (Nat.le_refl _)
  cases h : hasPre s p with
  | true =>
    rw [h] at n1
    have hl : p.length ≤ s.length := by
      simp only [hasPre, Bool.and_eq_true, decide_eq_true_eq] at h; exact h.1
    have e1 := str_from (k := .i64) Tryz.underlying9 s hl
    refine pure_slim rfl (by kernel_rfl) Tryz.func69 s69 hp hsnap (by simp [Tryz.f69]) fun fr hlen h => ?_
    simp only [Has, Nat.zero_add] at h
    obtain ⟨a0, a1, -⟩ := h
    simp only [Tryz.f69] at hlen ⊢
    unfold g69
    simp only [wk, aBuiltin, AV.cells, AV.leaf, Nat.reduceEqDiff, Nat.reduceLT, Nat.reduceAdd, Nat.reduceLeDiff, reduceCtorEq, Nat.reduceMul, Nat.reduceMod, cfgP, u37, hlen, a0, a1, n1, slen, e1]
    exact Fin_pure (l := [.str (s.drop p.length), .bool true]) (by simp [wk, aBuiltin, AV.cells, AV.leaf, Nat.reduceEqDiff, Nat.reduceLT, Nat.reduceAdd, Nat.reduceLeDiff, reduceCtorEq, Nat.reduceMul, Nat.reduceMod, cfgP, u37, hlen, aResults, aResult]) (ff2 rfl rfl) (by simp)
  | false =>
    rw [h] at n1
    refine pure_slim rfl (by kernel_rfl) Tryz.func69 s69 hp hsnap (by simp [Tryz.f69]) fun fr hlen h => ?_
    simp only [Has, Nat.zero_add] at h
    obtain ⟨a0, a1, -⟩ := h
    simp only [Tryz.f69] at hlen ⊢
    unfold g69
    simp only [wk, aBuiltin, AV.cells, AV.leaf, Nat.reduceEqDiff, Nat.reduceLT, Nat.reduceAdd, Nat.reduceLeDiff, reduceCtorEq, Nat.reduceMul, Nat.reduceMod, cfgP, u37, hlen, a0, a1, n1]
    exact Fin_pure (l := [.str s, .bool false]) (by simp [wk, aBuiltin, AV.cells, AV.leaf, Nat.reduceEqDiff, Nat.reduceLT, Nat.reduceAdd, Nat.reduceLeDiff, reduceCtorEq, Nat.reduceMul, Nat.reduceMod, cfgP, u37, hlen, aResults, aResult]) (ff2 rfl rfl) (by simp)

theorem cutPre_ok (s p : List UInt8) (prot : Nat) (H : Heap) (hp : prot ≤ H.length) :
    aLim cfg prot 37 [.str s, .str p] H = some (if hasPre s p then .tup [.str (s.drop p.length), .bool true] else .tup [.str s, .bool false], none) := by
  have hsnap : snap H [.str s, .str p] = some ([.str s, .str p], false) := rfl
  have n1 := cutPreL_ok s p H.length H (Nat.le_refl _)
  cases h : hasPre s p with
  | true =>
    rw [h] at n1
    simp only [if_true] at n1 ⊢
    refine pure_slim rfl (by kernel_rfl) Tryz.func37 s37 hp hsnap (by simp [Tryz.f37]) fun fr hlen h => ?_
    simp only [Has, Nat.zero_add] at h
    obtain ⟨a0, a1, -⟩ := h
    simp only [Tryz.f37] at hlen ⊢
    unfold g37
    simp only [wk, aBuiltin, AV.cells, AV.leaf, Nat.reduceEqDiff, Nat.reduceLT, Nat.reduceAdd, Nat.reduceLeDiff, reduceCtorEq, Nat.reduceMul, Nat.reduceMod, cfgP, u37, hlen, a0, a1, n1]
    exact Fin_pure (l := [.str (s.drop p.length), .bool true]) (by simp [wk, aBuiltin, AV.cells, AV.leaf, Nat.reduceEqDiff, Nat.reduceLT, Nat.reduceAdd, Nat.reduceLeDiff, reduceCtorEq, Nat.reduceMul, Nat.reduceMod, cfgP, u37, hlen, aResults, aResult]) (ff2 rfl rfl) (by simp)
  | false =>
    rw [h] at n1
    simp only [Bool.false_eq_true, if_false] at n1 ⊢
    refine pure_slim rfl (by kernel_rfl) Tryz.func37 s37 hp hsnap (by simp [Tryz.f37]) fun fr hlen h => ?_
    simp only [Has, Nat.zero_add] at h
    obtain ⟨a0, a1, -⟩ := h
    simp only [Tryz.f37] at hlen ⊢
    unfold g37
    simp only [wk, aBuiltin, AV.cells, AV.leaf, Nat.reduceEqDiff, Nat.reduceLT, Nat.reduceAdd, Nat.reduceLeDiff, reduceCtorEq, Nat.reduceMul, Nat.reduceMod, cfgP, u37, hlen, a0, a1, n1]
    exact Fin_pure (l := [.str s, .bool false]) (by simp [wk, aBuiltin, AV.cells, AV.leaf, Nat.reduceEqDiff, Nat.reduceLT, Nat.reduceAdd, Nat.reduceLeDiff, reduceCtorEq, Nat.reduceMul, Nat.reduceMod, cfgP, u37, hlen, aResults, aResult]) (ff2 rfl rfl) (by simp)

theorem hasSuf_ok (x p : List UInt8) (hl : (x ++ p).length ≤ 9223372036854775807) (prot : Nat) (H : Heap) (hp : prot ≤ H.length) : aLim cfg prot 106 [.str (x ++ p), .str p] H = some (.bool true, none) := by
  have hsnap : snap H [.str (x ++ p), .str p] = some ([.str (x ++ p), .str p], false) := rfl
  simp only [List.length_append] at hl
  have d1 : decide (((x ++ p).length : Int) ≥ (p.length : Int)) = true := decide_eq_true (by simp; omega)
  have w1 : IntKind.i64.wrap (((x ++ p).length : Int) - (p.length : Int)) = (x.length : Nat) := by rw [wrap64 (by simp only [List.length_append]; omega) (by simp only [List.length_append]; omega)]; simp
  have e1 := str_from (k := .i64) Tryz.underlying9 (x ++ p) (a := x.length) (by simp)
  rw [List.drop_left] at e1
  have e2 : aStr .eql p p = some (.bool true) := by simp [aStr]
  refine pure_slim rfl (by kernel_rfl) Tryz.func106 s106 hp hsnap (by simp [Tryz.f106]) fun fr hlen h => ?_
  simp only [Has, Nat.zero_add] at h
  obtain ⟨a0, a1, -⟩ := h
  simp only [Tryz.f106] at hlen ⊢
  unfold g106
  simp only [wk, aBuiltin, AV.cells, AV.leaf, Nat.reduceEqDiff, Nat.reduceLT, Nat.reduceAdd, Nat.reduceLeDiff, reduceCtorEq, Nat.reduceMul, Nat.reduceMod, cfgP, u37, hlen, a0, a1, slen, d1, w1, e1, e2]
  exact Fin_pure (l := [.bool true]) (by simp [wk, aBuiltin, AV.cells, AV.leaf, Nat.reduceEqDiff, Nat.reduceLT, Nat.reduceAdd, Nat.reduceLeDiff, reduceCtorEq, Nat.reduceMul, Nat.reduceMod, cfgP, u37, aResults, aResult, hlen]) (.still rfl) (by simp)

theorem cutSufL_ok (x p : List UInt8) (hl : (x ++ p).length ≤ 9223372036854775807) (prot : Nat) (H : Heap) (hp : prot ≤ H.length) : aLim cfg prot 70 [.str (x ++ p), .str p] H = some (.tup [.str x, .bool true], none) := by
  have hsnap : snap H [.str (x ++ p), .str p] = some ([.str (x ++ p), .str p], false) := rfl
  have n1 := hasSuf_ok x p hl H.length H (Nat.le_refl _)
  simp only [List.length_append] at hl
  have w1 : IntKind.i64.wrap (((x ++ p).length : Int) - (p.length : Int)) = (x.length : Nat) := by rw [wrap64 (by simp only [List.length_append]; omega) (by simp only [List.length_append]; omega)]; simp
  have e1 := str_upto (k := .i64) Tryz.underlying9 (x ++ p) (b := x.length) (by simp)
  rw [List.take_left] at e1
  refine pure_slim rfl (by kernel_rfl) Tryz.func70 s70 hp hsnap (by simp [Tryz.f70]) fun fr hlen h => ?_
  simp only [Has, Nat.zero_add] at h
  obtain ⟨a0, a1, -⟩ := h
  simp only [Tryz.f70] at hlen ⊢
  unfold g70
  simp only [wk, aBuiltin, AV.cells, AV.leaf, Nat.reduceEqDiff, Nat.reduceLT, Nat.reduceAdd, Nat.reduceLeDiff, reduceCtorEq, Nat.reduceMul, Nat.reduceMod, cfgP, u37, hlen, a0, a1, n1, slen, w1, e1]
  exact Fin_pure (l := [.str x, .bool true]) (by simp [wk, aBuiltin, AV.cells, AV.leaf, Nat.reduceEqDiff, Nat.reduceLT, Nat.reduceAdd, Nat.reduceLeDiff, reduceCtorEq, Nat.reduceMul, Nat.reduceMod, cfgP, u37, hlen, aResults, aResult]) (ff2 rfl rfl) (by simp)

theorem cutSuf_ok (x p : List UInt8) (hl : (x ++ p).length ≤ 9223372036854775807) (prot : Nat) (H : Heap) (hp : prot ≤ H.length) : aLim cfg prot 38 [.str (x ++ p), .str p] H = some (.tup [.str x, .bool true], none) := by
  have hsnap : snap H [.str (x ++ p), .str p] = some ([.str (x ++ p), .str p], false) := rfl
  have n1 := cutSufL_ok x p hl H.length H (Nat.le_refl _)
  refine pure_slim rfl (by kernel_rfl) Tryz.func38 s38 hp hsnap (by simp [Tryz.f38]) fun fr hlen h => ?_
  simp only [Has, Nat.zero_add] at h
  obtain ⟨a0, a1, -⟩ := h
  simp only [Tryz.f38] at hlen ⊢
  unfold g38
  simp only [wk, aBuiltin, AV.cells, AV.leaf, Nat.reduceEqDiff, Nat.reduceLT, Nat.reduceAdd, Nat.reduceLeDiff, reduceCtorEq, Nat.reduceMul, Nat.reduceMod, cfgP, u37, hlen, a0, a1, n1]
  exact Fin_pure (l := [.str x, .bool true]) (by simp [wk, aBuiltin, AV.cells, AV.leaf, Nat.reduceEqDiff, Nat.reduceLT, Nat.reduceAdd, Nat.reduceLeDiff, reduceCtorEq, Nat.reduceMul, Nat.reduceMod, cfgP, u37, hlen, aResults, aResult]) (ff2 rfl rfl) (by simp)

theorem index1_ok (a : List UInt8) (c : UInt8) (b : List UInt8) (hc : c ∉ a) (prot : Nat) (H : Heap) (hp : prot ≤ H.length) : aLim cfg prot 141 [.str (a ++ c :: b), .str [c]] H = some (.int .i64 (a.length : Nat), none) := by
  have hsnap : snap H [.str (a ++ c :: b), .str [c]] = some ([.str (a ++ c :: b), .str [c]], false) := rfl
  have n1 := idxL_ok (a ++ c :: b) c H.length H (Nat.le_refl _)
  rw [idxByte_app c b hc] at n1
  have e1 : aStr .eql [c] (a ++ c :: b) = some (.bool ([c] == a ++ c :: b)) := rfl
  have e2 := str_at (P := Tryz.prog) Tryz.underlying9 [c] (k := .i64) (i := 0) (by simp)
  have l1 : ∀ K, aLen Tryz.prog K 9 (.str [c]) = some (.int .i64 1) := fun K => slen [c] K
  have d1 : decide ((1 : Int) = 0) = false := by decide
  have d2 : decide ((1 : Int) = 1) = true := by decide
  simp only [List.getElem_cons_zero] at e2
  have e2 : aIndex Tryz.prog 9 (.str [c]) (.int .i64 0) = some (.int .u8 (c.toNat : Int)) := e2
  refine pure_slim rfl (by kernel_rfl) Tryz.func141 s141 hp hsnap (by simp [Tryz.f141]) fun fr hlen h => ?_
  simp only [Has, Nat.zero_add] at h
  obtain ⟨a0, a1, -⟩ := h
  simp only [Tryz.f141] at hlen ⊢
  unfold g141
  cases hq : ([c] == a ++ c :: b) with
  | true =>
    rw [hq] at e1
    have ha : a = [] := by
      have := beq_iff_eq.1 hq
      cases a with
      | nil => rfl
      | cons y r => simp at this
    subst ha
    have e1 : aStr .eql [c] (c :: b) = some (.bool true) := e1
    simp only [wk, aBuiltin, AV.cells, AV.leaf, Nat.reduceEqDiff, Nat.reduceLT, Nat.reduceAdd, Nat.reduceLeDiff, reduceCtorEq, Nat.reduceMul, Nat.reduceMod, cfgP, u37, hlen, a0, a1, l1, d1, e1, none_beq]
    exact Fin_pure (l := [.int .i64 0]) (by simp [wk, aBuiltin, AV.cells, AV.leaf, Nat.reduceEqDiff, Nat.reduceLT, Nat.reduceAdd, Nat.reduceLeDiff, reduceCtorEq, Nat.reduceMul, Nat.reduceMod, cfgP, u37, aResults, aResult, hlen]) (.still rfl) (by simp)
  | false =>
    rw [hq] at e1
    simp only [wk, aBuiltin, AV.cells, AV.leaf, Nat.reduceEqDiff, Nat.reduceLT, Nat.reduceAdd, Nat.reduceLeDiff, reduceCtorEq, Nat.reduceMul, Nat.reduceMod, cfgP, u37, hlen, a0, a1, l1, d1, d2, e1, none_beq, e2, n1]
    exact Fin_pure (l := [.int .i64 (a.length : Nat)]) (by simp [wk, aBuiltin, AV.cells, AV.leaf, Nat.reduceEqDiff, Nat.reduceLT, Nat.reduceAdd, Nat.reduceLeDiff, reduceCtorEq, Nat.reduceMul, Nat.reduceMod, cfgP, u37, aResults, aResult, hlen]) (.still rfl) (by simp)

theorem cutL_ok1 (a : List UInt8) (c : UInt8) (b : List UInt8) (hc : c ∉ a) (hl : a.length < 9223372036854775807) (prot : Nat) (H : Heap) (hp : prot ≤ H.length) : aLim cfg prot 107 [.str (a ++ c :: b), .str [c]] H = some (.tup [.str a, .str b, .bool true], none) := by
  have hsnap : snap H [.str (a ++ c :: b), .str [c]] = some ([.str (a ++ c :: b), .str [c]], false) := rfl
  have n1 := index1_ok a c b hc H.length H (Nat.le_refl _)
  have l1 : ∀ K, aLen Tryz.prog K 9 (.str [c]) = some (.int .i64 1) := fun K => slen [c] K
  have d1 : decide ((a.length : Int) ≥ 0) = true := decide_eq_true (by omega)
  have w1 : IntKind.i64.wrap ((a.length : Int) + 1) = ((a.length + 1 : Nat) : Int) := by rw [wrap64 (by omega) (by omega)]; simp
  have e1 := str_upto (k := .i64) Tryz.underlying9 (a ++ c :: b) (b := a.length) (by simp)
  have e2 := str_from (k := .i64) Tryz.underlying9 (a ++ c :: b) (a := a.length + 1) (by simp)
  rw [List.take_left] at e1
  rw [show (a ++ c :: b).drop (a.length + 1) = b by simp] at e2
  refine pure_slim rfl (by kernel_rfl) Tryz.func107 s107 hp hsnap (by simp [Tryz.f107]) fun fr hlen h => ?_
  simp only [Has, Nat.zero_add] at h
  obtain ⟨a0, a1, -⟩ := h
  simp only [Tryz.f107] at hlen ⊢
  unfold g107
  simp only [wk, aBuiltin, AV.cells, AV.leaf, Nat.reduceEqDiff, Nat.reduceLT, Nat.reduceAdd, Nat.reduceLeDiff, reduceCtorEq, Nat.reduceMul, Nat.reduceMod, cfgP, u37, hlen, a0, a1, n1, l1, d1, w1, e1, e2]
  exact Fin_pure (l := [.str a, .str b, .bool true]) (by simp [wk, aBuiltin, AV.cells, AV.leaf, Nat.reduceEqDiff, Nat.reduceLT, Nat.reduceAdd, Nat.reduceLeDiff, reduceCtorEq, Nat.reduceMul, Nat.reduceMod, cfgP, u37, hlen, aResults, aResult]) (ff3 rfl rfl rfl) (by simp)

theorem cut_ok1 (a : List UInt8) (c : UInt8) (b : List UInt8) (hc : c ∉ a) (hl : a.length < 9223372036854775807) (prot : Nat) (H : Heap) (hp : prot ≤ H.length) : aLim cfg prot 71 [.str (a ++ c :: b), .str [c]] H = some (.tup [.str a, .str b, .bool true], none) := by
  have hsnap : snap H [.str (a ++ c :: b), .str [c]] = some ([.str (a ++ c :: b), .str [c]], false) := rfl
  have n1 := cutL_ok1 a c b hc hl H.length H (Nat.le_refl _)
  refine pure_slim rfl (by kernel_rfl) Tryz.func71 s71 hp hsnap (by simp [Tryz.f71]) fun fr hlen h => ?_
  simp only [Has, Nat.zero_add] at h
  obtain ⟨a0, a1, -⟩ := h
  simp only [Tryz.f71] at hlen ⊢
  unfold g71
  simp only [wk, aBuiltin, AV.cells, AV.leaf, Nat.reduceEqDiff, Nat.reduceLT, Nat.reduceAdd, Nat.reduceLeDiff, reduceCtorEq, Nat.reduceMul, Nat.reduceMod, cfgP, u37, hlen, a0, a1, n1]
  exact Fin_pure (l := [.str a, .str b, .bool true]) (by simp [wk, aBuiltin, AV.cells, AV.leaf, Nat.reduceEqDiff, Nat.reduceLT, Nat.reduceAdd, Nat.reduceLeDiff, reduceCtorEq, Nat.reduceMul, Nat.reduceMod, cfgP, u37, hlen, aResults, aResult]) (ff3 rfl rfl rfl) (by simp)
def GoodP (x : Pr) : Prop := nameL x.name = true ∧ validU x.val = true ∧ Small x
theorem tailP_len {l : List Pr} (h : ∀ x ∈ l, GoodP x) : (tailP l).length ≤ l.length * 8000001 + 1 := by
  cases l with
  | nil => simp [tailP]
  | cons x r =>
    have := bodyP_len (l := x :: r) fun y hy => (h y hy).2.2
    simp only [tailP, List.length_cons] at this ⊢; omega
theorem tailP_cut (r : List Pr) : hasPre (tailP r) [44] = !decide (r = []) ∧ (r ≠ [] → (tailP r).drop 1 = bodyP r) := by
  cases r with
  | nil => exact ⟨by decide, fun h => absurd rfl h⟩
  | cons x r => exact ⟨by simp [tailP, hasPre], fun _ => rfl⟩
/-- the token at the beginning of a pair's value. -/
theorem next_val (x : Pr) (hx : GoodP x) (t : List UInt8) (ht : t.length < 1000000000) (prot : Nat) (K : Heap) (hg0 : hget K 0 (gver 1) = some [ET]) (hp : prot ≤ K.length) :
    aLim cfg prot 72 [.str (qv x ++ t), .int .i64 0] K = some (.tup [.agg [.int .i64 7, .int .i64 0, .int .i64 ((qv x).length : Nat), .str x.val, .int .i64 0], .int .i64 0], none) := by
  have hq := qv_of hx.2.1
  have hql := quote_len x.val
  have hxs := hx.2.2.2
  have := next_tok (qv x ++ t) (by rw [hq]; simp only [List.length_append]; omega) 0 (Nat.zero_le _) prot K hg0 hp
  rw [List.drop_zero] at this
  have h0 : runS blankC (qv x ++ t) = 0 := by rw [hq]; rfl
  unfold nextV at this
  rw [h0, List.drop_zero, hq, tokS_quote hx.2.1 t] at this
  rw [hq]
  simpa [tkAt, tkC] using this
end Go.Proofs.YtnipaiklandliaaGreatDoor
/- In whatever order pairs come, the set is the same, or none: no program in sight. -/
namespace Go.Proofs.YtnipaiklandliaaGreatDoor
open Go Go.Abs

-- texts by their bytes
theorem bl_irr : ∀ a : List UInt8, Op.bytesLess a a = false
  | [] => rfl
  | x :: a => by
    have := bl_irr a
    simp [Op.bytesLess, this]
theorem bl_trans : ∀ {a b c : List UInt8}, Op.bytesLess a b = true → Op.bytesLess b c = true → Op.bytesLess a c = true
  | _, [], _, h, _ => by simp [Op.bytesLess] at h
  | _, _ :: _, [], _, h => by simp [Op.bytesLess] at h
  | [], _ :: _, _ :: _, _, _ => rfl
  | x :: a, y :: b, z :: c, h1, h2 => by
    simp only [Op.bytesLess, Bool.or_eq_true, decide_eq_true_eq, Bool.and_eq_true, beq_iff_eq] at h1 h2 ⊢
    rcases h1 with h1 | ⟨rfl, h1⟩ <;> rcases h2 with h2 | ⟨rfl, h2⟩
    · exact .inl (UInt8.lt_trans h1 h2)
    · exact .inl h1
    · exact .inl h2
    · exact .inr ⟨rfl, bl_trans h1 h2⟩
theorem bl_tri : ∀ {a b : List UInt8}, Op.bytesLess a b = false → Op.bytesLess b a = false → a = b
  | [], [], _, _ => rfl
  | [], _ :: _, h, _ => by simp [Op.bytesLess] at h
  | _ :: _, [], _, h => by simp [Op.bytesLess] at h
  | x :: a, y :: b, h1, h2 => by
    simp only [Op.bytesLess, Bool.or_eq_false_iff, decide_eq_false_iff_not, Bool.and_eq_false_iff, beq_eq_false_iff_ne] at h1 h2
    have hxy : x = y := UInt8.le_antisymm (UInt8.not_lt.1 h2.1) (UInt8.not_lt.1 h1.1)
    subst hxy
    rw [bl_tri (h1.2.resolve_left fun h => h rfl) (h2.2.resolve_left fun h => h rfl)]
theorem bl_asym {a b : List UInt8} (h : Op.bytesLess a b = true) : Op.bytesLess b a = false := by
  cases h2 : Op.bytesLess b a with
  | false => rfl
  | true => rw [← bl_irr a, bl_trans h h2]
theorem lessP_bl (x y : Pr) : lessP x y = Op.bytesLess x.name y.name := by
  unfold lessP cmpS
  cases h : Op.bytesLess x.name y.name <;> simp
  split <;> simp

/-- an element put in its place among sorted ones, that stand from the last one on. -/
def insR (x : Pr) : List Pr → List Pr
  | [] => [x]
  | y :: r => if lessP x y then y :: insR x r else x :: y :: r
theorem insR_len (x : Pr) : ∀ A, (insR x A).length = A.length + 1
  | [] => rfl
  | y :: r => by
    unfold insR
    split
    · simp [insR_len x r]
    · rfl
theorem insR_perm (x : Pr) : ∀ A, (insR x A).Perm (x :: A)
  | [] => .refl _
  | y :: r => by
    unfold insR
    split
    · exact ((insR_perm x r).cons y).trans (.swap x y r)
    · exact .refl _
theorem swap_at (P B : List Pr) (x y : Pr) : swapP (P ++ y :: x :: B) (P.length + 1) = P ++ x :: y :: B := by
  have h1 : (P ++ y :: x :: B).getD P.length default = y := by simp [List.getD]
  have h2 : (P ++ y :: x :: B).getD (P.length + 1) default = x := by simp [List.getD]
  unfold swapP
  rw [Nat.add_sub_cancel, h1, h2, List.set_append_right _ _ (by omega), Nat.add_sub_cancel_left]
  simp
theorem insGo_insR (x : Pr) (B : List Pr) : ∀ A : List Pr, insGo (A.reverse ++ x :: B) A.length = (insR x A).reverse ++ B
  | [] => rfl
  | y :: r => by
    have h1 : ((y :: r).reverse ++ x :: B) = r.reverse ++ y :: x :: B := by simp
    have h2 : (r.reverse ++ y :: x :: B).getD (r.length + 1) default = x := by
      simp [List.getD, List.getElem?_append_right]
    have h3 : (r.reverse ++ y :: x :: B).getD r.length default = y := by simp [List.getD, List.getElem?_append_right]
    have h4 := swap_at r.reverse B x y
    rw [List.length_reverse] at h4
    rw [h1, List.length_cons, insGo, h2, h3, insR]
    cases hl : lessP x y with
    | true =>
      simp only [if_true]
      rw [h4, insGo_insR x (y :: B) r]
      simp
    | false => simp
theorem outGo_insR : ∀ (B A : List Pr), outGo B.length (A.reverse ++ B) A.length = (B.foldl (fun A x => insR x A) A).reverse
  | [], A => by simp [outGo]
  | x :: B, A => by
    have := outGo_insR B (insR x A)
    rw [insR_len] at this
    rw [List.length_cons, outGo, insGo_insR, this]
    rfl
theorem isortP_eq (l : List Pr) : isortP l = (l.foldl (fun A x => insR x A) []).reverse := by
  cases l with
  | nil => rfl
  | cons x B => exact outGo_insR B [x]
def Desc (A : List Pr) : Prop := A.Pairwise fun y z => lessP y z = false
theorem insR_desc (x : Pr) : ∀ {A : List Pr}, Desc A → Desc (insR x A)
  | [], _ => List.pairwise_singleton _ _
  | y :: r, h => by
    have hyr := List.pairwise_cons.1 h
    unfold insR
    cases hl : lessP x y with
    | true =>
      refine List.pairwise_cons.2 ⟨fun z hz => ?_, insR_desc x hyr.2⟩
      rcases List.mem_cons.1 ((insR_perm x r).mem_iff.1 hz) with rfl | hz
      · rw [lessP_bl] at hl ⊢; exact bl_asym hl
      · exact hyr.1 z hz
    | false =>
      refine List.pairwise_cons.2 ⟨fun z hz => ?_, h⟩
      rcases List.mem_cons.1 hz with rfl | hz
      · exact hl
      · cases hxz : lessP x z with
        | false => rfl
        | true =>
          have h1 := hyr.1 z hz
          rw [lessP_bl] at h1 hl hxz
          -- z is not above y, y is not above x
          rcases Bool.eq_false_or_eq_true (Op.bytesLess z.name y.name) with h2 | h2
          · rw [bl_trans hxz h2] at hl; cases hl
          · rw [bl_tri h1 h2] at hl; rw [hxz] at hl; cases hl
theorem fold_desc : ∀ (l A : List Pr), Desc A → Desc (l.foldl (fun A x => insR x A) A)
  | [], _, h => h
  | x :: l, _, h => fold_desc l _ (insR_desc x h)
theorem fold_perm : ∀ (l A : List Pr), (l.foldl (fun A x => insR x A) A).Perm (l ++ A)
  | [], _ => .refl _
  | x :: l, A => (fold_perm l _).trans (((insR_perm x A).append_left l).trans List.perm_middle)
theorem isortP_perm (l : List Pr) : (isortP l).Perm l := by
  rw [isortP_eq]
  exact (List.reverse_perm _).trans (by simpa using fold_perm l [])
def Asc (l : List Pr) : Prop := l.Pairwise fun y z => lessP z y = false
theorem isortP_asc (l : List Pr) : Asc (isortP l) := by
  rw [isortP_eq]
  exact List.pairwise_reverse.2 (fold_desc l [] .nil)
theorem dup_iff : ∀ {l : List Pr}, Asc l → (dupP l = false ↔ l.Pairwise fun y z => Op.bytesLess y.name z.name = true)
  | [], _ => by simp [dupP]
  | [x], _ => by simp [dupP]
  | x :: y :: r, h => by
    have hx := List.pairwise_cons.1 h
    have ih := dup_iff hx.2
    have hxy := hx.1 y (by simp)
    rw [lessP_bl] at hxy
    constructor
    · intro hd
      simp only [dupP, Bool.or_eq_false_iff, beq_eq_false_iff_ne] at hd
      have hr := ih.1 hd.2
      have h1 : Op.bytesLess x.name y.name = true := by
        cases h2 : Op.bytesLess x.name y.name with
        | true => rfl
        | false => exact absurd (bl_tri hxy h2) hd.1
      refine List.pairwise_cons.2 ⟨fun z hz => ?_, hr⟩
      rcases List.mem_cons.1 hz with rfl | hz
      · exact h1
      · exact bl_trans h1 ((List.pairwise_cons.1 hr).1 z hz)
    · intro hp
      have hp2 := List.pairwise_cons.1 hp
      have h1 := hp2.1 y (by simp)
      simp only [dupP, Bool.or_eq_false_iff, beq_eq_false_iff_ne]
      refine ⟨fun e => ?_, ih.2 hp2.2⟩
      rw [e, bl_irr] at h1; cases h1
theorem strict_unique : ∀ {l m : List Pr}, l.Perm m → l.Pairwise (fun y z => Op.bytesLess y.name z.name = true) → m.Pairwise (fun y z => Op.bytesLess y.name z.name = true) → l = m
  | [], m, h, _, _ => by rw [List.nil_perm.1 h]
  | x :: l, [], h, _, _ => by have := h.length_eq; simp at this
  | x :: l, y :: m, h, hl, hm => by
    have hl2 := List.pairwise_cons.1 hl
    have hm2 := List.pairwise_cons.1 hm
    have hxy : x = y := by
      rcases List.mem_cons.1 (h.mem_iff.1 (List.mem_cons_self (a := x) (l := l))) with h1 | h1
      · exact h1
      · rcases List.mem_cons.1 (h.mem_iff.2 (List.mem_cons_self (a := y) (l := m))) with h2 | h2
        · exact h2.symm
        · have h3 := hm2.1 x h1
          have h4 := hl2.1 y h2
          rw [bl_asym h3] at h4; cases h4
    subst hxy
    rw [strict_unique ((List.perm_cons x).1 h) hl2.2 hm2.2]
theorem ofP_perm {l m : List Pr} (h : l.Perm m) : ofP l = ofP m := by
  have hs : (isortP l).Perm (isortP m) := (isortP_perm l).trans (h.trans (isortP_perm m).symm)
  have hb : l.any badP = m.any badP := by
    rw [Bool.eq_iff_iff, List.any_eq_true, List.any_eq_true]
    exact ⟨fun ⟨x, h1, h2⟩ => ⟨x, h.mem_iff.1 h1, h2⟩, fun ⟨x, h1, h2⟩ => ⟨x, h.mem_iff.2 h1, h2⟩⟩
  have hd : ∀ {l m : List Pr}, l.Perm m → Asc l → Asc m → dupP l = false → dupP m = false := fun {l m} hp hl hm h => by
    -- names are all different
    have h1 := (dup_iff hl).1 h
    have h2 : l.Pairwise fun y z => y.name ≠ z.name := h1.imp fun h e => by rw [e, bl_irr] at h; cases h
    have h3 : m.Pairwise fun y z => y.name ≠ z.name := (hp.pairwise_iff fun h => Ne.symm h).1 h2
    refine (dup_iff hm).2 ?_
    refine (h3.and hm).imp fun {y z} h => ?_
    have h4 := h.2
    rw [lessP_bl] at h4
    cases h5 : Op.bytesLess y.name z.name with
    | true => rfl
    | false => exact absurd (bl_tri h5 h4) h.1
  have hd2 : dupP (isortP l) = dupP (isortP m) := by
    have a1 := hd hs (isortP_asc l) (isortP_asc m)
    have a2 := hd hs.symm (isortP_asc m) (isortP_asc l)
    cases h1 : dupP (isortP l) <;> cases h2 : dupP (isortP m)
    · rfl
    · rw [a1 h1] at h2; cases h2
    · rw [a2 h2] at h1; cases h1
    · rfl
  unfold ofP
  rw [hb, hd2]
  split
  · rfl
  split
  · rfl
  · rename_i hn
    have h1 : dupP (isortP m) = false := by simpa using hn
    rw [strict_unique hs ((dup_iff (isortP_asc l)).1 (by rw [hd2]; exact h1)) ((dup_iff (isortP_asc m)).1 h1)]
end Go.Proofs.YtnipaiklandliaaGreatDoor
/- label.Parse on a set's text, walked: pairs, the whole. -/
set_option maxRecDepth 100000
namespace Go.Proofs.YtnipaiklandliaaGreatDoor
open Go Go.Abs AbsSeat Ty

theorem bodyP_nil {l : List Pr} : (bodyP l == []) = decide (l = []) := by
  cases l with
  | nil => rfl
  | cons x r => rw [bodyP_cons]; cases x.name <;> rfl
theorem cut_tail (r : List Pr) (prot : Nat) (K : Heap) (hp : prot ≤ K.length) : aLim cfg prot 37 [.str (tailP r), .str [44]] K = some (.tup [.str (bodyP r), .bool (!decide (r = []))], none) := by
  rw [cutPre_ok (tailP r) [44] prot K hp, (tailP_cut r).1]
  cases r with
  | nil => rfl
  | cons x r => rfl

theorem lpairs_ok (l : List Pr) (hg : ∀ x ∈ l, GoodP x) (hl : l.length ≤ 20) (prot : Nat) (H : Heap) (hg0 : hget H 0 (gver 1) = some [ET]) (hp : prot ≤ H.length) :
    aLim cfg prot 39 [.str (bodyP l)] H = some (.tup [slv encP l, .bool true], none) := by
  have hsnap : snap H [.str (bodyP l)] = some ([.str (bodyP l)], false) := rfl
  have hH0 := hget_lt hg0
  have e0 : ∀ m : List Pr, aStr .neq (bodyP m) [] = some (.bool (!decide (m = []))) := fun m => by rw [← bodyP_nil]; rfl
  have e1 : aStr .eql [] [] = some (.bool true) := rfl
  refine pure_slim rfl (by kernel_rfl) Tryz.func39 s39 hp hsnap (by simp [Tryz.f39]) fun fr hlen h => ?_
  simp only [Has, Nat.zero_add] at h
  obtain ⟨a0, -⟩ := h
  simp only [Tryz.f39] at hlen ⊢
  unfold g39
  simp only [wk, aBuiltin, AV.cells, AV.leaf, Nat.reduceEqDiff, Nat.reduceLT, Nat.reduceAdd, Nat.reduceLeDiff, reduceCtorEq, Nat.reduceMul, Nat.reduceMod, cfgP, u37, hlen, a0, e0]
  refine loop_rule (fun m fr H' => ∃ (i : Nat) (o : AV), m = l.length - i ∧ i ≤ l.length ∧ fr.length = 59 ∧ fget fr 0 = .str (bodyP (l.drop i)) ∧ fget fr 5 = .bool (!decide (l.drop i = [])) ∧ fget fr 4 = o ∧ H.length ≤ H'.length ∧ hget H' 0 (gver 1) = some [ET] ∧ Row encP 2 true H.length H' o (l.take i) ∧ (o = .nilS ∨ l.take i ≠ [])) ?_ l.length _ _
    ⟨0, .nilS, by
      refine ⟨by omega, by omega, ?_⟩
      simp [wk, aBuiltin, AV.cells, AV.leaf, Nat.reduceEqDiff, Nat.reduceLT, Nat.reduceAdd, Nat.reduceLeDiff, reduceCtorEq, Nat.reduceMul, Nat.reduceMod, cfgP, u37, hlen, a0, Row.nil, hg0]⟩
  rintro m fr H' ⟨i, o, rfl, hi, hlen, a0, a5, a4, hH, hgl, hrow, hne⟩ ih
  simp only [wk, aBuiltin, AV.cells, AV.leaf, Nat.reduceEqDiff, Nat.reduceLT, Nat.reduceAdd, Nat.reduceLeDiff, reduceCtorEq, Nat.reduceMul, Nat.reduceMod, cfgP, u37, hlen, a0, a4, a5]
  cases hd : l.drop i with
  | nil =>
    rw [hd] at a0 a5
    have hil : i = l.length := by have := List.drop_eq_nil_iff.1 hd; omega
    rw [List.take_of_length_le (by omega)] at hrow hne
    have d1 : decide (([] : List Pr) = []) = true := rfl
    have hb0 : bodyP [] = [] := rfl
    rw [hb0] at a0
    have hf := hrow.frozen encP_T (by decide) rfl hne
    simp only [wk, aBuiltin, AV.cells, AV.leaf, Nat.reduceEqDiff, Nat.reduceLT, Nat.reduceAdd, Nat.reduceLeDiff, reduceCtorEq, Nat.reduceMul, Nat.reduceMod, cfgP, u37, hlen, a0, a4, a5, d1, e1]
    exact Fin_pure (l := [o, .bool true]) (by simp [wk, aBuiltin, AV.cells, AV.leaf, Nat.reduceEqDiff, Nat.reduceLT, Nat.reduceAdd, Nat.reduceLeDiff, reduceCtorEq, Nat.reduceMul, Nat.reduceMod, cfgP, u37, hlen, aResults, aResult]) (.tup (.cons hf (.cons (.still rfl) .nil))) (by simp)
  | cons x r =>
    rw [hd] at a0 a5
    have hlt : i < l.length := by
      refine Nat.lt_of_not_le fun h => ?_
      rw [List.drop_of_length_le h] at hd; cases hd
    have hxe : l[i] = x ∧ l.drop (i + 1) = r := by
      rw [List.drop_eq_getElem_cons hlt] at hd
      injection hd with h1 h2
      exact ⟨h1, h2⟩
    obtain ⟨hx0, hr0⟩ := hxe
    have hxm : x ∈ l := hx0 ▸ List.getElem_mem hlt
    have hx := hg x hxm
    have htk : l.take (i + 1) = l.take i ++ [x] := by rw [List.take_succ_eq_append_getElem hlt, hx0]
    have hrg : ∀ y ∈ r, GoodP y := fun y hy => hg y (by rw [← hr0] at hy; exact List.mem_of_mem_drop hy)
    have hrl : r.length ≤ 20 := by rw [← hr0]; simp; omega
    have htl := tailP_len hrg
    have hq := qv_of hx.2.1
    have hql := quote_len x.val
    obtain ⟨hxn, hxv⟩ := hx.2.2
    have hqb : (qv x).length ≤ 6 * x.val.length + 2 := by rw [hq]; exact hql
    rw [bodyP_cons] at a0
    have d1 : decide (x :: r = []) = false := rfl
    have n1 := fun (K : Heap) (hK : H.length ≤ K.length) => cut_ok1 x.name 61 (qv x ++ tailP r) (name_no61 hx.1).1 (by omega) H.length K hK
    have n2 := next_val x hx (tailP r) (by omega) H.length H' hgl hH
    have e2 := str_from (k := .i64) Tryz.underlying9 (qv x ++ tailP r) (a := (qv x).length) (by simp)
    rw [List.drop_left] at e2
    have n3 := fun (K : Heap) (hK : H.length ≤ K.length) => cut_tail r H.length K hK
    generalize hL : (qv x).length = L at *
    generalize qv x ++ tailP r = R0 at *
    have hlz : (l.take i).length = i := by rw [List.length_take]; omega
    have hp9 : Go.Abs.hput H.length (H' ++ [Blk.cells 0 [.int .i64 0, .int .i64 0, .int .i64 0, .str [], .int .i64 0]]) H'.length 0 0 [.int .i64 7, .int .i64 0, .int .i64 (L : Nat), .str x.val, .int .i64 0] = some (H' ++ [Blk.cells 0 [.int .i64 7, .int .i64 0, .int .i64 (L : Nat), .str x.val, .int .i64 0]]) := by
      rw [hput_new rfl hH (by simp) rfl]; rfl
    have g9 : hget (H' ++ [Blk.cells 0 [.int .i64 7, .int .i64 0, .int .i64 (L : Nat), .str x.val, .int .i64 0]]) H'.length 0 = some [.int .i64 7, .int .i64 0, .int .i64 (L : Nat), .str x.val, .int .i64 0] := by rw [hget_new rfl, if_pos rfl]
    have hrow2 := hrow.more [Blk.cells 0 [.int .i64 7, .int .i64 0, .int .i64 (L : Nat), .str x.val, .int .i64 0]]
    have hgl2 := hget_mono hgl [Blk.cells 0 [.int .i64 7, .int .i64 0, .int .i64 (L : Nat), .str x.val, .int .i64 0]]
    obtain ⟨o', H2, happ, hrow3, hle, hno, hold⟩ := hrow2.app (prot := H.length) (xt := 23) encP_T rowPr hxtPr (elem_vs encP_T [x] true) (by simp) (by simp [roomy]; omega) (by omega) (by simp; omega)
    have hgl3 := hold _ _ _ hgl2 fun s hs => by
      rcases hrow with ⟨q, _⟩ | ⟨b, ver, q, hb, _⟩
      · rw [q] at hs; cases hs
      · rw [q] at hs; cases hs; show b ≠ 0; omega
    simp only [List.length_append, List.length_cons, List.length_nil] at hle
    have n3' := n3 H2 (by omega)
    have g9' : hget H2 H'.length 0 = some [.int .i64 7, .int .i64 0, .int .i64 (L : Nat), .str x.val, .int .i64 0] := hold _ _ _ g9 fun s hs => by
      rcases hrow with ⟨q, _⟩ | ⟨b, ver, q, hb, hg', _⟩
      · rw [q] at hs; cases hs
      · rw [q] at hs; cases hs
        have := hget_lt hg'
        show b ≠ H'.length
        omega
    have hlit := litPp x
    have z7 : decide (¬ (7 : Int) = 7) = false := by decide
    have z0 : decide (¬ (0 : Int) = 0) = false := by decide
    simp only [wk, aBuiltin, AV.cells, AV.leaf, Nat.reduceEqDiff, Nat.reduceLT, Nat.reduceAdd, Nat.reduceLeDiff, reduceCtorEq, Nat.reduceMul, Nat.reduceMod, cfgP, u37, hlen, a0, a4, a5, d1, n1, hH, n2, hp9, g9, z7, z0, hlit, happ, g9', e2, n3']
    refine ih _ _ (l.length - (i + 1)) (by omega) ⟨i + 1, o', rfl, hlt, ?_⟩
    rw [htk, hr0]
    simp [wk, aBuiltin, AV.cells, AV.leaf, Nat.reduceEqDiff, Nat.reduceLT, Nat.reduceAdd, Nat.reduceLeDiff, reduceCtorEq, Nat.reduceMul, Nat.reduceMod, cfgP, u37, hlen, hrow3, hgl3]
    omega

theorem lparse_ok (l : List Pr) (hg : ∀ x ∈ l, GoodP x) (hl : l.length ≤ 12) (ho : ofP l = (l, 0)) (prot : Nat) (H : Heap) (hg0 : hget H 0 (gver 1) = some [ET]) (hp : prot ≤ H.length) :
    ∃ v, Sl encP v l ∧ aLim cfg prot 10 [.str (textP l)] H = some (.tup [.agg [v], .int .i64 0], none) := by
  have hsnap : snap H [.str (textP l)] = some ([.str (textP l)], false) := rfl
  have hs : ∀ x ∈ l, Small x := fun x hx => (hg x hx).2.2
  have hbl := bodyP_len hs
  have hl1 : ∀ A : Blk, H.length ≤ (H ++ [A]).length := fun A => by simp
  have n1 := fun A : Blk => cutPre_ok (textP l) [123] H.length (H ++ [A]) (hl1 A)
  have hpre : hasPre (textP l) [123] = true := by simp [hasPre, textP]
  have hdr : (textP l).drop ([123] : List UInt8).length = bodyP l ++ [125] := rfl
  rw [hpre, hdr] at n1
  simp only [if_true] at n1
  have n2 := fun A : Blk => cutSuf_ok (bodyP l) [125] (by simp; omega) H.length (H ++ [A]) (hl1 A)
  have n3 := fun A : Blk => lpairs_ok l hg (by omega) H.length (H ++ [A]) (hget_mono hg0 _) (hl1 A)
  obtain ⟨v, hv, n4⟩ := of_ok l (slv encP l) (slv_sl encP l) hl (fun x hx => ⟨by have := (hs x hx).1; omega, by have := (hs x hx).2; omega⟩) H.length (H ++ [Blk.cells 0 [.nilS]]) (hl1 _)
  rw [ho] at hv n4
  dsimp only at hv n4
  have hvl := Sl.leaf hv
  have hvc := Sl.cells1 hv
  have hvlf := hvl
  unfold AV.leaf at hvl
  unfold AV.cells at hvc
  have n5 := fun (K : Heap) (hK : H.length ≤ K.length) => setText_ok l v hv hs (by omega) H.length K hK
  have n5 := fun A B : Blk => n5 (H ++ [A] ++ [B]) (by simp)
  have e1 : aStr .neq (textP l) (textP l) = some (.bool false) := by simp [aStr]
  have z0 : decide (¬ (0 : Int) = 0) = false := by decide
  have hl2 : ∀ A : Blk, (H ++ [A]).length = H.length + 1 := fun A => by simp
  have p9 : ∀ A : Blk, Go.Abs.hput H.length (H ++ [A] ++ [Blk.cells 0 [.nilS]]) (H.length + 1) 0 0 [v] = some (H ++ [A] ++ [Blk.cells 0 [v]]) := fun A => by
    rw [hput_new (by simp) (by simp) (by simp) (by simp [hvlf])]; rfl
  have g9 : ∀ A : Blk, hget (H ++ [A] ++ [Blk.cells 0 [v]]) (H.length + 1) 0 = some [v] := fun A => by rw [hget_new (by simp), if_pos rfl]
  have p2 : Go.Abs.hput H.length (H ++ [Blk.cells 0 [.nilS]] ++ [Blk.cells 0 [v]]) H.length 0 0 [v] = some ((H ++ [Blk.cells 0 [.nilS]] ++ [Blk.cells 0 [v]]).set H.length (.cells 0 [v])) := by
    rw [hput_eq (hget_mono (by rw [hget_new rfl, if_pos rfl]) _) (Nat.le_refl _) (by simp) (by simp [hvlf])]; rfl
  have g2 : hget ((H ++ [Blk.cells 0 [.nilS]] ++ [Blk.cells 0 [v]]).set H.length (.cells 0 [v])) H.length 0 = some [v] := hget_set_at (by simp)
  refine ⟨v, hv, ?_⟩
  refine pure_slim rfl (by kernel_rfl) Tryz.func10 s10 hp hsnap (by simp [Tryz.f10]) fun fr hlen h => ?_
  simp only [Has, Nat.zero_add] at h
  obtain ⟨a0, -⟩ := h
  simp only [Tryz.f10] at hlen ⊢
  unfold g10
  simp only [wk, aBuiltin, AV.cells, AV.leaf, Nat.reduceEqDiff, Nat.reduceLT, Nat.reduceAdd, Nat.reduceLeDiff, reduceCtorEq, Nat.reduceMul, Nat.reduceMod, cfgP, u37, hlen, a0, n1, n2, n3, n4, hvl, hvc, z0, hl2, p9, g9, n5, e1, p2, none_beq]
  exact Fin_pure (l := [.agg [v], .int .i64 0]) (by simp [wk, aBuiltin, AV.cells, AV.leaf, Nat.reduceEqDiff, Nat.reduceLT, Nat.reduceAdd, Nat.reduceLeDiff, reduceCtorEq, Nat.reduceMul, Nat.reduceMod, cfgP, u37, hlen, aResults, aResult, g2, hvl, hvc]) (.tup (.cons (.agg (.cons (Sl.frz hv _ _) .nil)) (.cons (.still rfl) .nil))) (by simp)
theorem ofP_idem {l : List Pr} (h : (ofP l).2 = 0) : ofP (ofP l).1 = ((ofP l).1, 0) := by
  have e : (ofP l).1 = isortP l := by
    unfold ofP at h ⊢
    split
    · rename_i h1; rw [if_pos h1] at h; cases h
    · rename_i h1
      rw [if_neg h1] at h
      split
      · rename_i h2; rw [if_pos h2] at h; cases h
      · rfl
  have h1 : ofP (ofP l).1 = ofP l := by rw [e]; exact ofP_perm (isortP_perm l)
  rw [h1]
  exact Prod.ext rfl h
theorem ofP_good {l : List Pr} (h : (ofP l).2 = 0) (hs : ∀ x ∈ l, Small x) : ∀ x ∈ (ofP l).1, GoodP x := by
  have key : l.any badP = false ∧ (ofP l).1 = isortP l := by
    unfold ofP at h ⊢
    split
    · rename_i h1; rw [if_pos h1] at h; cases h
    · rename_i h1
      rw [if_neg h1] at h
      refine ⟨by simpa using h1, ?_⟩
      split
      · rename_i h2; rw [if_pos h2] at h; cases h
      · rfl
  intro x hx
  rw [key.2] at hx
  have hm := (isortP_perm l).mem_iff.1 hx
  have hb : badP x = false := by
    have := List.any_eq_false.1 key.1 x hm
    simpa using this
  unfold badP at hb
  simp only [Bool.or_eq_false_iff, Bool.not_eq_eq_eq_not, Bool.not_false] at hb
  exact ⟨hb.1, hb.2.2, hs x hm⟩
theorem encP_inj : ∀ {l m : List Pr}, l.map encP = m.map encP → l = m
  | [], [], _ => rfl
  | [], _ :: _, h => by cases h
  | _ :: _, [], h => by cases h
  | x :: l, y :: m, h => by
    simp only [List.map_cons, List.cons.injEq] at h
    obtain ⟨h1, h2⟩ := h
    have : x = y := by
      obtain ⟨n, v⟩ := x
      obtain ⟨n', v'⟩ := y
      simp only [encP, AV.agg.injEq, List.cons.injEq, AV.str.injEq, and_true] at h1
      obtain ⟨rfl, rfl⟩ := h1
      rfl
    rw [this, encP_inj h2]
theorem Sl_inj {v : AV} {l m : List Pr} (h1 : Sl encP v l) (h2 : Sl encP v m) : l = m := by
  cases h1 with
  | nil => cases h2; rfl
  | vs l f =>
    generalize hw : AV.vs (l.map encP) f = w at h2
    cases h2 with
    | nil => cases hw
    | vs m f' => injection hw with hw _; exact encP_inj hw
/-- two sets with the same text are the same. -/
theorem text_inj {l m : List Pr} (hg : ∀ x ∈ l, GoodP x) (hl : l.length ≤ 12) (ho : ofP l = (l, 0)) (hg' : ∀ x ∈ m, GoodP x) (hm : m.length ≤ 12) (ho' : ofP m = (m, 0)) (h : textP l = textP m) : l = m := by
  obtain ⟨v, hv, h1⟩ := lparse_ok l hg hl ho 1 H0 rfl (by decide)
  obtain ⟨w, hw, h2⟩ := lparse_ok m hg' hm ho' 1 H0 rfl (by decide)
  rw [h, h2] at h1
  simp only [Option.some.injEq, Prod.mk.injEq, AV.tup.injEq, List.cons.injEq, AV.agg.injEq, and_true, true_and] at h1
  subst h1
  exact Sl_inj hv hw
end Go.Proofs.YtnipaiklandliaaGreatDoor
/- The law LabelText, walked. -/
set_option maxRecDepth 100000
namespace Go.Proofs.YtnipaiklandliaaGreatDoor
open Go Go.Abs AbsSeat Ty

theorem u3 : type_of% (And.intro (show tagT Tryz.prog 27 = 0 from by kernel_rfl) (And.intro ag4 (And.intro sz4 (And.intro by4 (And.intro ze4 (And.intro Tryz.underlying4 (And.intro ag9 (And.intro sz9 (And.intro by9 (And.intro ze9 (And.intro Tryz.underlying9 (And.intro ag22 (And.intro sz22 (And.intro by22 (And.intro se22 (And.intro ze22 (And.intro Tryz.underlying22 (And.intro ag23 (And.intro sz23 (And.intro by23 (And.intro se23 (And.intro ze23 (And.intro Tryz.underlying23 (And.intro ag27 (And.intro sz27 (And.intro by27 (And.intro ze27 (And.intro bu27 (And.intro Tryz.underlying27 (And.intro ag28 (And.intro sz28 (And.intro by28 (And.intro ze28 (And.intro Tryz.underlying28 (And.intro ag58 (And.intro sz58 (And.intro by58 (And.intro ze58 (And.intro bu58 (And.intro Tryz.underlying58 (And.intro ag59 (And.intro sz59 (And.intro by59 (And.intro ze59 (And.intro bu59 Tryz.underlying59))))))))))))))))))))))))))))))))))))))))))))) := And.intro (show tagT Tryz.prog 27 = 0 from by kernel_rfl) (And.intro ag4 (And.intro sz4 (And.intro by4 (And.intro ze4 (And.intro Tryz.underlying4 (And.intro ag9 (And.intro sz9 (And.intro by9 (And.intro ze9 (And.intro Tryz.underlying9 (And.intro ag22 (And.intro sz22 (And.intro by22 (And.intro se22 (And.intro ze22 (And.intro Tryz.underlying22 (And.intro ag23 (And.intro sz23 (And.intro by23 (And.intro se23 (And.intro ze23 (And.intro Tryz.underlying23 (And.intro ag27 (And.intro sz27 (And.intro by27 (And.intro ze27 (And.intro bu27 (And.intro Tryz.underlying27 (And.intro ag28 (And.intro sz28 (And.intro by28 (And.intro ze28 (And.intro Tryz.underlying28 (And.intro ag58 (And.intro sz58 (And.intro by58 (And.intro ze58 (And.intro bu58 (And.intro Tryz.underlying58 (And.intro ag59 (And.intro sz59 (And.intro by59 (And.intro ze59 (And.intro bu59 Tryz.underlying59))))))))))))))))))))))))))))))))))))))))))))
def g3 : Code :=
  .seq (.region 0 #[q 4 (.assign (.const (.bool false))) 4] false) (.seq (.region 1 #[q 16 (.move (.tmp 0)) 22, q 17 (cl 7 #[.tmp 16] #[22]) 24, q 15 (.move (.tmp 17)) 24, q 18 (.extract (.tmp 15) 0) 23, q 19 (.extract (.tmp 15) 1) 22, q 5 (.assign (.tmp 18)) 23, q 6 (.assign (.tmp 19)) 22] false) (.seq (.region 2 #[q 21 (.move (.tmp 1)) 22, q 22 (cl 7 #[.tmp 21] #[22]) 24, q 20 (.move (.tmp 22)) 24, q 23 (.extract (.tmp 20) 0) 23, q 24 (.extract (.tmp 20) 1) 22, q 7 (.assign (.tmp 23)) 23, q 8 (.assign (.tmp 24)) 22] false) (.seq (.region 3 #[q 26 (.move (.tmp 5)) 23, q 27 (cl 8 #[.tmp 26] #[23]) 29, q 25 (.move (.tmp 27)) 29, q 28 (.extract (.tmp 25) 0) 27, q 29 (.extract (.tmp 25) 1) 28, q 9 (.alloc 27) 0, qn (.store 27 (.tmp 9) (.tmp 28)) 0, q 10 (.assign (.tmp 29)) 28] false) (.seq (.region 4 #[q 31 (.move (.tmp 7)) 23, q 32 (cl 8 #[.tmp 31] #[23]) 29, q 30 (.move (.tmp 32)) 29, q 33 (.extract (.tmp 30) 0) 27, q 34 (.extract (.tmp 30) 1) 28, q 11 (.alloc 27) 0, qn (.store 27 (.tmp 11) (.tmp 33)) 0, q 12 (.assign (.tmp 34)) 28] false) (.seq (.seq (.region 5 #[q 35 (.move (.tmp 10)) 28, q 36 (.binOp .neq 28 (.tmp 35) (ik 0) 28) 4, q 37 (.move (.tmp 36)) 4, qg 38 (.move (.tmp 12)) 28 2 false, qg 39 (.binOp .neq 28 (.tmp 38) (ik 0) 28) 4 2 false, q 40 (.pick (.tmp 37) (.const (.bool true)) (.tmp 39)) 4] false) (.cond (.tmp 40) (.seq (.region 6 #[q 41 (cl 9 #[] #[]) 4, q 4 (.assign (.tmp 41)) 4] false) .ret) .skip)) (.seq (.region 7 #[q 43 (.load 27 (.tmp 9)) 27, q 44 (cl 11 #[.tmp 43] #[27]) 9, q 45 (cl 10 #[.tmp 44] #[9]) 29, q 42 (.move (.tmp 45)) 29, q 46 (.extract (.tmp 42) 0) 27, q 47 (.extract (.tmp 42) 1) 28, q 13 (.alloc 27) 0, qn (.store 27 (.tmp 13) (.tmp 46)) 0, q 14 (.assign (.tmp 47)) 28] false) (.seq (.region 8 #[q 48 (.move (.tmp 14)) 28, q 49 (.binOp .eql 28 (.tmp 48) (ik 0) 28) 4, q 50 (.move (.tmp 49)) 4, qg 51 (.load 27 (.tmp 13)) 27 2 true, qg 52 (.load 27 (.tmp 9)) 27 2 true, qg 53 (cl 12 #[.tmp 51, .tmp 52] #[27, 27]) 4 2 true, q 54 (.pick (.tmp 50) (.tmp 53) (.const (.bool false))) 4, q 55 (.move (.tmp 54)) 4, qg 56 (.load 27 (.tmp 9)) 27 7 true, qg 57 (.load 27 (.tmp 11)) 27 7 true, qg 58 (cl 12 #[.tmp 56, .tmp 57] #[27, 27]) 4 7 true, qg 59 (.load 27 (.tmp 9)) 27 7 true, qg 60 (cl 11 #[.tmp 59] #[27]) 9 7 true, qg 61 (.load 27 (.tmp 11)) 27 7 true, qg 62 (cl 11 #[.tmp 61] #[27]) 9 7 true, qg 63 (.binOp .eql 9 (.tmp 60) (.tmp 62) 9) 4 7 true, qg 64 (.binOp .eql 4 (.tmp 58) (.tmp 63) 4) 4 7 true, q 65 (.pick (.tmp 55) (.tmp 64) (.const (.bool false))) 4, q 66 (.move (.tmp 65)) 4, qg 67 (.load 27 (.tmp 9)) 27 18 true, qg 68 (.load 27 (.tmp 11)) 27 18 true, qg 69 (cl 12 #[.tmp 67, .tmp 68] #[27, 27]) 4 18 true, qg 70 (.load 27 (.tmp 9)) 27 18 true, qg 71 (cl 14 #[.tmp 70] #[27]) 22 18 true, qg 72 (.load 27 (.tmp 11)) 27 18 true, qg 73 (cl 14 #[.tmp 72] #[27]) 22 18 true, qg 74 (cl 13 #[.tmp 71, .tmp 73] #[22, 22]) 4 18 true, qg 75 (.binOp .eql 4 (.tmp 69) (.tmp 74) 4) 4 18 true, q 76 (.pick (.tmp 66) (.tmp 75) (.const (.bool false))) 4, q 77 (.move (.tmp 76)) 4, qg 78 (cl 9 #[] #[]) 4 29 true, q 79 (.pick (.tmp 77) (.tmp 78) (.const (.bool false))) 4, q 4 (.assign (.tmp 79)) 4] false) .ret)))))))
theorem s3 : Tryz.f3.body.map (slim cfg) = some g3 := by kernel_rfl
theorem cutL_small (l : List Pr) : ∀ x ∈ cutL l, Small x := by
  intro x hx
  simp only [cutL, List.mem_map] at hx
  obtain ⟨y, -, rfl⟩ := hx
  simp only [Small, cutPr, List.length_take]; omega

theorem labelText_ok (l m : List Pr) (w z : AV) (hw : Sl encP w l) (hz : Sl encP z m) (hl : l.length ≤ 9223372036854775807) (hm : m.length ≤ 9223372036854775807) (prot : Nat) (H : Heap) (hg0 : hget H 0 (gver 1) = some [ET]) (hp : prot ≤ H.length) :
    aLim cfg prot 3 [w, z] H = some (.bool true, none) := by
  have hsnap : snap H [w, z] = some ([w, z], false) := by cases hw <;> cases hz <;> rfl
  have p1 := pairs_ok l w hw hl H.length H (Nat.le_refl _)
  have p2 := pairs_ok m z hz hm H.length H (Nat.le_refl _)
  have cl1 := cutL_len l
  have cl2 := cutL_len m
  have hl1 : ∀ A : Blk, (H ++ [A]).length = H.length + 1 := fun A => by simp
  have hll1 : ∀ A : Blk, H.length ≤ (H ++ [A]).length := fun A => by simp
  obtain ⟨v, hv, o1⟩ := of_ok (cutL l) _ (slv_sl encP (cutL l)) (by omega) (cutL_fit l) H.length H (Nat.le_refl _)
  have hvl := Sl.leaf hv
  have hvc := Sl.cells1 hv
  have hvlf := hvl
  unfold AV.leaf at hvl
  unfold AV.cells at hvc
  obtain ⟨u, hu, o2⟩ := of_ok (cutL m) _ (slv_sl encP (cutL m)) (by omega) (cutL_fit m) H.length (H ++ [Blk.cells 0 [v]]) (hll1 _)
  have hul := Sl.leaf hu
  have huc := Sl.cells1 hu
  have hulf := hul
  unfold AV.leaf at hul
  unfold AV.cells at huc
  have sl1 : (ofP (cutL l)).1.length ≤ 6 := setL_len l
  have sl2 : (ofP (cutL m)).1.length ≤ 6 := setL_len m
  have q1 : Go.Abs.hput H.length (H ++ [Blk.cells 0 [.nilS]]) H.length 0 0 [v] = some (H ++ [Blk.cells 0 [v]]) := by
    rw [hput_new rfl (Nat.le_refl _) (by simp) (by simp [hvlf])]; rfl
  have q2 : Go.Abs.hput H.length (H ++ [Blk.cells 0 [v]] ++ [Blk.cells 0 [.nilS]]) (H.length + 1) 0 0 [u] = some (H ++ [Blk.cells 0 [v]] ++ [Blk.cells 0 [u]]) := by
    rw [hput_new (by simp) (by simp) (by simp) (by simp [hulf])]; rfl
  by_cases hf1 : (ofP (cutL l)).2 = 0
  · by_cases hf2 : (ofP (cutL m)).2 = 0
    · have ho1 := ofP_idem hf1
      have ho2 := ofP_idem hf2
      have g1 := ofP_good hf1 (cutL_small l)
      have g2 := ofP_good hf2 (cutL_small m)
      rw [hf1] at o1
      rw [hf2] at o2
      generalize (ofP (cutL l)).1 = s at *
      generalize (ofP (cutL m)).1 = t at *
      have hs : ∀ x ∈ s, Small x := fun x hx => (g1 x hx).2.2
      have ht : ∀ x ∈ t, Small x := fun x hx => (g2 x hx).2.2
      have z0 : decide (¬ (0 : Int) = 0) = false := by decide
      have z1 : decide ((0 : Int) = 0) = true := by decide
      have hll2 : ∀ A B : Blk, H.length ≤ (H ++ [A] ++ [B]).length := fun A B => by simp
      have hll3 : ∀ A B C : Blk, H.length ≤ (H ++ [A] ++ [B] ++ [C]).length := fun A B C => by simp
      have hl2 : ∀ A B : Blk, (H ++ [A] ++ [B]).length = H.length + 2 := fun A B => by simp
      have gv : ∀ B : Blk, hget (H ++ [Blk.cells 0 [v]] ++ [B]) H.length 0 = some [v] := fun B => hget_mono (by rw [hget_new rfl, if_pos rfl]) _
      have gv3 : ∀ B C : Blk, hget (H ++ [Blk.cells 0 [v]] ++ [B] ++ [C]) H.length 0 = some [v] := fun B C => hget_mono (gv B) _
      have gu3 : ∀ A C : Blk, hget (H ++ [A] ++ [Blk.cells 0 [u]] ++ [C]) (H.length + 1) 0 = some [u] := fun A C => hget_mono (by rw [hget_new (by simp), if_pos rfl]) _
      have n1 := fun A B : Blk => setText_ok s v hv hs (by omega) H.length (H ++ [A] ++ [B]) (hll2 A B)
      have n1' := fun A B C : Blk => setText_ok s v hv hs (by omega) H.length (H ++ [A] ++ [B] ++ [C]) (hll3 A B C)
      have n2' := fun A B C : Blk => setText_ok t u hu ht (by omega) H.length (H ++ [A] ++ [B] ++ [C]) (hll3 A B C)
      obtain ⟨y, hy, n3⟩ := lparse_ok s g1 (by omega) ho1 H.length (H ++ [Blk.cells 0 [v]] ++ [Blk.cells 0 [u]]) (hget_mono (hget_mono hg0 _) _) (hll2 _ _)
      have hyl := Sl.leaf hy
      have hyc := Sl.cells1 hy
      have hylf := hyl
      unfold AV.leaf at hyl
      unfold AV.cells at hyc
      have q3 : Go.Abs.hput H.length (H ++ [Blk.cells 0 [v]] ++ [Blk.cells 0 [u]] ++ [Blk.cells 0 [.nilS]]) (H.length + 2) 0 0 [y] = some (H ++ [Blk.cells 0 [v]] ++ [Blk.cells 0 [u]] ++ [Blk.cells 0 [y]]) := by
        rw [hput_new (by simp) (by simp) (by simp) (by simp [hylf])]; rfl
      have gy3 : ∀ A B : Blk, hget (H ++ [A] ++ [B] ++ [Blk.cells 0 [y]]) (H.length + 2) 0 = some [y] := fun A B => by rw [hget_new (by simp), if_pos rfl]
      have n4 := fun A B C : Blk => setSameG_ok s s y v hy hv (by omega) H.length (H ++ [A] ++ [B] ++ [C]) (hll3 A B C)
      rw [(sameL_eq s s).2 rfl] at n4
      have n5 := fun A B C : Blk => setSameG_ok s t v u hv hu (by omega) H.length (H ++ [A] ++ [B] ++ [C]) (hll3 A B C)
      have n6 := fun A B C : Blk => plain14_ok s v hv (by omega) H.length (H ++ [A] ++ [B] ++ [C]) (hll3 A B C)
      have n7 := fun A B C : Blk => plain14_ok t u hu (by omega) H.length (H ++ [A] ++ [B] ++ [C]) (hll3 A B C)
      have hsn : ∀ K : Heap, snap K [slv encP s, slv encP t] = some ([slv encP s, slv encP t], false) := fun K => by cases s <;> cases t <;> rfl
      have n8 := fun A B C : Blk => lsameG_live s t (slv encP s) (slv encP t) (slv encP s) (slv encP t) false H.length (H ++ [A] ++ [B] ++ [C]) (hsn _) (slv_sl encP s) (slv_sl encP t) (by omega) (hll3 A B C)
      have n9 := fun K => lawake_ok H.length K
      have hte : aStr .eql (textP s) (textP t) = some (.bool (sameL s t)) := by
        have : (textP s == textP t) = sameL s t := by
          cases hb : sameL s t with
          | true => rw [(sameL_eq s t).1 hb]; simp
          | false =>
            rw [beq_eq_false_iff_ne]
            intro h
            rw [(sameL_eq s t).2 (text_inj g1 (by omega) ho1 g2 (by omega) ho2 h)] at hb
            cases hb
        show some (AV.bool (textP s == textP t)) = _
        rw [this]
      generalize sameL s t = q at *
      have hbb : ∀ xo yo, aBin Tryz.prog .eql 4 xo yo (.bool q) (.bool q) = some (.bool true) := fun xo yo => by rw [bin_eqb Tryz.underlying4]; simp
      generalize slv encP s = S1 at *
      generalize slv encP t = S2 at *
      refine pure_slim rfl (by kernel_rfl) Tryz.func3 s3 hp hsnap (by simp [Tryz.f3]) fun fr hlen h => ?_
      simp only [Has, Nat.zero_add] at h
      obtain ⟨a0, a1, -⟩ := h
      simp only [Tryz.f3] at hlen ⊢
      unfold g3
      simp only [wk, aBuiltin, AV.cells, AV.leaf, Nat.reduceEqDiff, Nat.reduceLT, Nat.reduceAdd, Nat.reduceLeDiff, reduceCtorEq, Nat.reduceMul, Nat.reduceMod, cfgP, u3, hlen, a0, a1, p1, p2, o1, o2, hvl, hvc, hul, huc, hyl, hyc, q1, q2, hl1, hl2, z0, z1, none_beq, gv, n1, n3, q3, gy3, gv3, gu3, n4, n5, n1', n2', hte, hbb, n6, n7, n8, n9]
      exact Fin_pure (l := [.bool true]) (by simp [wk, aBuiltin, AV.cells, AV.leaf, Nat.reduceEqDiff, Nat.reduceLT, Nat.reduceAdd, Nat.reduceLeDiff, reduceCtorEq, Nat.reduceMul, Nat.reduceMod, cfgP, u3, aResults, aResult, hlen]) (.still rfl) (by simp)
    · rw [hf1] at o1
      generalize (ofP (cutL m)).2 = e2 at *
      have z0 : decide (¬ (0 : Int) = 0) = false := by decide
      have d2 : decide (¬ e2 = 0) = true := decide_eq_true hf2
      have n9 := fun K => lawake_ok H.length K
      refine pure_slim rfl (by kernel_rfl) Tryz.func3 s3 hp hsnap (by simp [Tryz.f3]) fun fr hlen h => ?_
      simp only [Has, Nat.zero_add] at h
      obtain ⟨a0, a1, -⟩ := h
      simp only [Tryz.f3] at hlen ⊢
      unfold g3
      simp only [wk, aBuiltin, AV.cells, AV.leaf, Nat.reduceEqDiff, Nat.reduceLT, Nat.reduceAdd, Nat.reduceLeDiff, reduceCtorEq, Nat.reduceMul, Nat.reduceMod, cfgP, u3, hlen, a0, a1, p1, p2, o1, o2, hvl, hvc, hul, huc, q1, q2, hl1, z0, d2, none_beq, n9]
      exact Fin_pure (l := [.bool true]) (by simp [wk, aBuiltin, AV.cells, AV.leaf, Nat.reduceEqDiff, Nat.reduceLT, Nat.reduceAdd, Nat.reduceLeDiff, reduceCtorEq, Nat.reduceMul, Nat.reduceMod, cfgP, u3, aResults, aResult, hlen]) (.still rfl) (by simp)
  · generalize (ofP (cutL l)).2 = e1 at *
    generalize (ofP (cutL m)).2 = e2 at *
    have d1 : decide (¬ e1 = 0) = true := decide_eq_true hf1
    have n9 := fun K => lawake_ok H.length K
    refine pure_slim rfl (by kernel_rfl) Tryz.func3 s3 hp hsnap (by simp [Tryz.f3]) fun fr hlen h => ?_
    simp only [Has, Nat.zero_add] at h
    obtain ⟨a0, a1, -⟩ := h
    simp only [Tryz.f3] at hlen ⊢
    unfold g3
    simp only [wk, aBuiltin, AV.cells, AV.leaf, Nat.reduceEqDiff, Nat.reduceLT, Nat.reduceAdd, Nat.reduceLeDiff, reduceCtorEq, Nat.reduceMul, Nat.reduceMod, cfgP, u3, hlen, a0, a1, p1, p2, o1, o2, hvl, hvc, hul, huc, q1, q2, hl1, d1, none_beq, n9]
    exact Fin_pure (l := [.bool true]) (by simp [wk, aBuiltin, AV.cells, AV.leaf, Nat.reduceEqDiff, Nat.reduceLT, Nat.reduceAdd, Nat.reduceLeDiff, reduceCtorEq, Nat.reduceMul, Nat.reduceMod, cfgP, u3, aResults, aResult, hlen]) (.still rfl) (by simp)
end Go.Proofs.YtnipaiklandliaaGreatDoor
/- The law LabelText on what came in. -/
set_option maxRecDepth 100000
namespace Go.Proofs.YtnipaiklandliaaGreatDoor.labelText
open Go Go.Abs AbsSeat
theorem pair_of (y : AV) (h : HasTV Tryz.prog 58 y) : ∃ a : Pr, y = encP a ∧ True := by
  obtain ⟨ps, rfl, hf⟩ := h.struct Tryz.underlying58
  obtain ⟨p0, r0, rfl, h0, hf⟩ := hf.inv
  obtain ⟨p1, r1, rfl, h1, hf⟩ := hf.inv
  obtain rfl := hf.done
  obtain ⟨a, rfl, -⟩ := h0.str1 Tryz.underlying9
  obtain ⟨b, rfl, -⟩ := h1.str1 Tryz.underlying9
  exact ⟨⟨a, b⟩, rfl, trivial⟩
theorem abs (xs : List AV) (h : HasTs Tryz.prog Tryz.f3.params.toList xs) : ∃ k H', aCall cfg k 1 3 xs H0 = some (.bool true, H') := by
  rw [Tryz.params3] at h
  obtain ⟨x0, r0, rfl, h0, h⟩ := h.inv
  obtain ⟨x1, r1, rfl, h1, h⟩ := h.inv
  obtain rfl := h.done
  obtain ⟨l, k1, k2, -⟩ := h0.rows Tryz.underlying22 pair_of
  obtain ⟨m, k3, k4, -⟩ := h1.rows Tryz.underlying22 pair_of
  exact lim_call (labelText_ok l m x0 x1 k1 k3 k2 k4 1 H0 rfl (by decide))
end Go.Proofs.YtnipaiklandliaaGreatDoor.labelText
