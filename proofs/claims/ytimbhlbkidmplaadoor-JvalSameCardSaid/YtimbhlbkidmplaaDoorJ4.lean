import Derived.Test.YtimbhlbkidmplaaDoorJ3
import Derived.Test.YtimbhlbkidmplaaDoorAw6
/-! Chapter 6: are two the same, walked. -/
set_option linter.unusedSimpArgs false
namespace Go.Proofs.YtimbhlbkidmplaaDoor
open Go Go.Abs AbsSeat Ty

mutual
def sameJ : JV → JV → Bool
  | .mk k i n t _ l _ ks, y => if k ≠ y.kind then false else if k = 1 then i == y.is else if k = 2 then decide (n = y.n) else if k = 3 then t == y.text else if k = 5 then ks == y.keys && sameJs l y.items else if k = 4 then sameJs l y.items else true
def sameJs : List JV → List JV → Bool
  | [], [] => true
  | x :: r, y :: s => sameJ x y && sameJs r s
  | _, _ => false
end
theorem sameJ_eq (x y : JV) : sameJ x y = if x.kind ≠ y.kind then false else if x.kind = 1 then x.is == y.is else if x.kind = 2 then decide (x.n = y.n) else if x.kind = 3 then x.text == y.text else if x.kind = 5 then x.keys == y.keys && sameJs x.items y.items else if x.kind = 4 then sameJs x.items y.items else true := by
  cases x; rw [sameJ]; rfl
theorem sameJs_len : ∀ (l m : List JV), l.length ≠ m.length → sameJs l m = false
  | [], [], h => absurd rfl h
  | [], _ :: _, _ => by simp [sameJs]
  | _ :: _, [], _ => by simp [sameJs]
  | x :: l, y :: m, h => by simp only [sameJs, sameJs_len l m (by simpa using h), Bool.and_false]

theorem u14 : type_of% (And.intro (show tagT Tryd.prog 25 = 0 from by kernel_rfl) (And.intro (show tagT Tryd.prog 41 = 0 from by kernel_rfl) (And.intro ag2 (And.intro sz2 (And.intro by2 (And.intro ze2 (And.intro Tryd.underlying2 (And.intro ag3 (And.intro sz3 (And.intro by3 (And.intro ze3 (And.intro Tryd.underlying3 (And.intro ag4 (And.intro sz4 (And.intro by4 (And.intro ze4 (And.intro Tryd.underlying4 (And.intro ag9 (And.intro sz9 (And.intro by9 (And.intro ze9 (And.intro Tryd.underlying9 (And.intro ag22 (And.intro sz22 (And.intro by22 (And.intro se22 (And.intro ze22 (And.intro Tryd.underlying22 (And.intro ag23 (And.intro sz23 (And.intro by23 (And.intro se23 (And.intro ze23 (And.intro Tryd.underlying23 (And.intro ag25 (And.intro sz25 (And.intro by25 (And.intro ze25 (And.intro bu25 (And.intro Tryd.underlying25 (And.intro ag36 (And.intro sz36 (And.intro by36 (And.intro ze36 (And.intro Tryd.underlying36 (And.intro ag39 (And.intro sz39 (And.intro by39 (And.intro se39 (And.intro ze39 (And.intro Tryd.underlying39 (And.intro ag41 (And.intro sz41 (And.intro by41 (And.intro ze41 (And.intro bu41 (And.intro Tryd.underlying41 (And.intro fa25_0 (And.intro fd25_0 (And.intro fa25_1 (And.intro fd25_1 (And.intro fa25_2 (And.intro fd25_2 (And.intro fa25_3 (And.intro fd25_3 (And.intro fa25_4 (And.intro fd25_4 (And.intro fa25_5 (And.intro fd25_5 (And.intro fa41_0 (And.intro fd41_0 (And.intro fa41_1 (And.intro fd41_1 (And.intro fa41_2 (And.intro fd41_2 (And.intro fa41_3 (And.intro fd41_3 (And.intro fa41_4 (And.intro fd41_4 (And.intro fa41_5 fd41_5)))))))))))))))))))))))))))))))))))))))))))))))))))))))))))))))))))))))))))))))) := And.intro (show tagT Tryd.prog 25 = 0 from by kernel_rfl) (And.intro (show tagT Tryd.prog 41 = 0 from by kernel_rfl) (And.intro ag2 (And.intro sz2 (And.intro by2 (And.intro ze2 (And.intro Tryd.underlying2 (And.intro ag3 (And.intro sz3 (And.intro by3 (And.intro ze3 (And.intro Tryd.underlying3 (And.intro ag4 (And.intro sz4 (And.intro by4 (And.intro ze4 (And.intro Tryd.underlying4 (And.intro ag9 (And.intro sz9 (And.intro by9 (And.intro ze9 (And.intro Tryd.underlying9 (And.intro ag22 (And.intro sz22 (And.intro by22 (And.intro se22 (And.intro ze22 (And.intro Tryd.underlying22 (And.intro ag23 (And.intro sz23 (And.intro by23 (And.intro se23 (And.intro ze23 (And.intro Tryd.underlying23 (And.intro ag25 (And.intro sz25 (And.intro by25 (And.intro ze25 (And.intro bu25 (And.intro Tryd.underlying25 (And.intro ag36 (And.intro sz36 (And.intro by36 (And.intro ze36 (And.intro Tryd.underlying36 (And.intro ag39 (And.intro sz39 (And.intro by39 (And.intro se39 (And.intro ze39 (And.intro Tryd.underlying39 (And.intro ag41 (And.intro sz41 (And.intro by41 (And.intro ze41 (And.intro bu41 (And.intro Tryd.underlying41 (And.intro fa25_0 (And.intro fd25_0 (And.intro fa25_1 (And.intro fd25_1 (And.intro fa25_2 (And.intro fd25_2 (And.intro fa25_3 (And.intro fd25_3 (And.intro fa25_4 (And.intro fd25_4 (And.intro fa25_5 (And.intro fd25_5 (And.intro fa41_0 (And.intro fd41_0 (And.intro fa41_1 (And.intro fd41_1 (And.intro fa41_2 (And.intro fd41_2 (And.intro fa41_3 (And.intro fd41_3 (And.intro fa41_4 (And.intro fd41_4 (And.intro fa41_5 fd41_5)))))))))))))))))))))))))))))))))))))))))))))))))))))))))))))))))))))))))))))))
def g14 : Code :=
  .seq (.region 0 #[q 2 (.box 25 (.tmp 0)) 0, q 3 (.box 25 (.tmp 1)) 0, q 4 (.assign (.const (.bool false))) 4] false) (.seq (.seq (.region 1 #[q 5 (.fieldAddr 25 (.tmp 2) 0) 0, q 6 (.load 3 (.tmp 5)) 3, q 7 (.fieldAddr 25 (.tmp 3) 0) 0, q 8 (.load 3 (.tmp 7)) 3, q 9 (.binOp .neq 3 (.tmp 6) (.tmp 8) 3) 4] false) (.cond (.tmp 9) (.seq (.region 2 #[q 4 (.assign (.const (.bool false))) 4] false) .ret) .skip)) (.seq (.seq (.region 3 #[q 10 (.fieldAddr 25 (.tmp 2) 0) 0, q 11 (.load 3 (.tmp 10)) 3] false) (.block 0 (.seq (.block 5 (.seq (.block 4 (.seq (.block 3 (.seq (.block 2 (.seq (.block 1 (.seq (.seq (.seq (.region 4 #[q 13 (.binOp .eql 3 (.tmp 11) (ik 1) 3) 4, q 12 (.assign (.tmp 13)) 4] false) (.cond (.tmp 12) (.exit 1) .skip)) (.seq (.seq (.region 5 #[q 15 (.binOp .eql 3 (.tmp 11) (ik 2) 3) 4, q 14 (.assign (.tmp 15)) 4] false) (.cond (.tmp 14) (.exit 2) .skip)) (.seq (.seq (.region 6 #[q 17 (.binOp .eql 3 (.tmp 11) (ik 3) 3) 4, q 16 (.assign (.tmp 17)) 4] false) (.cond (.tmp 16) (.exit 3) .skip)) (.seq (.seq (.region 7 #[q 19 (.binOp .eql 3 (.tmp 11) (ik 5) 3) 4, q 18 (.assign (.tmp 19)) 4] false) (.cond (.tmp 18) (.exit 4) .skip)) (.seq (.region 8 #[q 21 (.binOp .eql 3 (.tmp 11) (ik 4) 3) 4, q 20 (.assign (.tmp 21)) 4] false) (.cond (.tmp 20) (.exit 5) .skip)))))) (.exit 0))) (.seq (.seq (.region 9 #[q 22 (.fieldAddr 25 (.tmp 2) 1) 0, q 23 (.load 4 (.tmp 22)) 4, q 24 (.fieldAddr 25 (.tmp 3) 1) 0, q 25 (.load 4 (.tmp 24)) 4, q 26 (.binOp .eql 4 (.tmp 23) (.tmp 25) 4) 4, q 4 (.assign (.tmp 26)) 4] false) .ret) (.exit 0)))) (.seq (.seq (.region 10 #[q 27 (.fieldAddr 25 (.tmp 2) 2) 0, q 28 (.load 2 (.tmp 27)) 2, q 29 (.fieldAddr 25 (.tmp 3) 2) 0, q 30 (.load 2 (.tmp 29)) 2, q 31 (.binOp .eql 2 (.tmp 28) (.tmp 30) 2) 4, q 4 (.assign (.tmp 31)) 4] false) .ret) (.exit 0)))) (.seq (.seq (.region 11 #[q 32 (.fieldAddr 25 (.tmp 2) 3) 0, q 33 (.load 9 (.tmp 32)) 9, q 34 (.fieldAddr 25 (.tmp 3) 3) 0, q 35 (.load 9 (.tmp 34)) 9, q 36 (.binOp .eql 9 (.tmp 33) (.tmp 35) 9) 4, q 4 (.assign (.tmp 36)) 4] false) .ret) (.exit 0)))) (.seq (.region 12 #[q 37 (.fieldAddr 25 (.tmp 2) 5) 0, q 38 (.load 23 (.tmp 37)) 23, q 39 (.fieldAddr 25 (.tmp 3) 5) 0, q 40 (.load 23 (.tmp 39)) 23, q 41 (cl 25 #[.tmp 38, .tmp 40] #[23, 23]) 4, q 42 (.unOp .not 4 (.tmp 41)) 4] false) (.cond (.tmp 42) (.seq (.region 13 #[q 4 (.assign (.const (.bool false))) 4] false) .ret) .skip)))) (.seq (.seq (.region 14 #[q 43 (.fieldAddr 25 (.tmp 2) 4) 0, q 44 (.load 22 (.tmp 43)) 22, q 45 (.fieldAddr 25 (.tmp 3) 4) 0, q 46 (.load 22 (.tmp 45)) 22, q 47 (cl 26 #[.tmp 44, .tmp 46, .func 14] #[22, 22, 36]) 4, q 4 (.assign (.tmp 47)) 4] false) .ret) (.exit 0))))) (.seq (.region 15 #[q 4 (.assign (.const (.bool true))) 4] false) .ret)))
theorem s14 : Tryd.f14.body.map (slim cfg) = some g14 := by kernel_rfl
def g18 : Code :=
  .seq (.region 0 #[q 2 (.box 41 (.tmp 0)) 0, q 3 (.box 41 (.tmp 1)) 0, q 4 (.assign (.const (.bool false))) 4] false) (.seq (.seq (.region 1 #[q 7 (.fieldAddr 41 (.tmp 2) 0) 0, q 8 (.load 3 (.tmp 7)) 3, q 9 (.fieldAddr 41 (.tmp 3) 0) 0, q 10 (.load 3 (.tmp 9)) 3, q 11 (.binOp .neq 3 (.tmp 8) (.tmp 10) 3) 4, q 12 (.move (.tmp 11)) 4, qg 13 (.fieldAddr 41 (.tmp 2) 0) 0 5 false, qg 14 (.load 3 (.tmp 13)) 3 5 false, qg 15 (.binOp .eql 3 (.tmp 14) (ik 1) 3) 4 5 false, qg 16 (.move (.tmp 15)) 4 5 false, qg 17 (.fieldAddr 41 (.tmp 2) 1) 0 9 true, qg 18 (.load 4 (.tmp 17)) 4 9 true, qg 19 (.fieldAddr 41 (.tmp 3) 1) 0 9 true, qg 20 (.load 4 (.tmp 19)) 4 9 true, qg 21 (.binOp .neq 4 (.tmp 18) (.tmp 20) 4) 4 9 true, qg 22 (.pick (.tmp 16) (.tmp 21) (.const (.bool false))) 4 5 false, q 23 (.pick (.tmp 12) (.const (.bool true)) (.tmp 22)) 4, q 24 (.move (.tmp 23)) 4, qg 25 (.fieldAddr 41 (.tmp 2) 0) 0 17 false, qg 26 (.load 3 (.tmp 25)) 3 17 false, qg 27 (.binOp .eql 3 (.tmp 26) (ik 2) 3) 4 17 false, qg 28 (.move (.tmp 27)) 4 17 false, qg 29 (.fieldAddr 41 (.tmp 2) 2) 0 21 true, qg 30 (.load 2 (.tmp 29)) 2 21 true, qg 31 (.fieldAddr 41 (.tmp 3) 2) 0 21 true, qg 32 (.load 2 (.tmp 31)) 2 21 true, qg 33 (.binOp .neq 2 (.tmp 30) (.tmp 32) 2) 4 21 true, qg 34 (.pick (.tmp 28) (.tmp 33) (.const (.bool false))) 4 17 false, q 35 (.pick (.tmp 24) (.const (.bool true)) (.tmp 34)) 4, q 36 (.move (.tmp 35)) 4, qg 37 (.fieldAddr 41 (.tmp 2) 0) 0 29 false, qg 38 (.load 3 (.tmp 37)) 3 29 false, qg 39 (.binOp .eql 3 (.tmp 38) (ik 3) 3) 4 29 false, qg 40 (.move (.tmp 39)) 4 29 false, qg 41 (.fieldAddr 41 (.tmp 2) 3) 0 33 true, qg 42 (.load 9 (.tmp 41)) 9 33 true, qg 43 (.fieldAddr 41 (.tmp 3) 3) 0 33 true, qg 44 (.load 9 (.tmp 43)) 9 33 true, qg 45 (.binOp .neq 9 (.tmp 42) (.tmp 44) 9) 4 33 true, qg 46 (.pick (.tmp 40) (.tmp 45) (.const (.bool false))) 4 29 false, q 47 (.pick (.tmp 36) (.const (.bool true)) (.tmp 46)) 4] false) (.cond (.tmp 47) (.seq (.region 2 #[q 4 (.assign (.const (.bool false))) 4] false) .ret) .skip)) (.seq (.seq (.region 3 #[q 48 (.fieldAddr 41 (.tmp 2) 0) 0, q 49 (.load 3 (.tmp 48)) 3, q 50 (.binOp .neq 3 (.tmp 49) (ik 4) 3) 4, q 51 (.move (.tmp 50)) 4, qg 52 (.fieldAddr 41 (.tmp 2) 0) 0 3 true, qg 53 (.load 3 (.tmp 52)) 3 3 true, qg 54 (.binOp .neq 3 (.tmp 53) (ik 5) 3) 4 3 true, q 55 (.pick (.tmp 51) (.tmp 54) (.const (.bool false))) 4] false) (.cond (.tmp 55) (.seq (.region 4 #[q 4 (.assign (.const (.bool true))) 4] false) .ret) .skip)) (.seq (.seq (.region 5 #[q 56 (.fieldAddr 41 (.tmp 2) 4) 0, q 57 (.load 39 (.tmp 56)) 39, q 58 (bi .len #[.tmp 57] #[39]) 3, q 59 (.fieldAddr 41 (.tmp 3) 4) 0, q 60 (.load 39 (.tmp 59)) 39, q 61 (bi .len #[.tmp 60] #[39]) 3, q 62 (.binOp .neq 3 (.tmp 58) (.tmp 61) 3) 4, q 63 (.move (.tmp 62)) 4, qg 64 (.fieldAddr 41 (.tmp 2) 0) 0 7 false, qg 65 (.load 3 (.tmp 64)) 3 7 false, qg 66 (.binOp .eql 3 (.tmp 65) (ik 5) 3) 4 7 false, qg 67 (.move (.tmp 66)) 4 7 false, qg 68 (.fieldAddr 41 (.tmp 2) 5) 0 11 true, qg 69 (.load 23 (.tmp 68)) 23 11 true, qg 70 (bi .len #[.tmp 69] #[23]) 3 11 true, qg 71 (.fieldAddr 41 (.tmp 3) 5) 0 11 true, qg 72 (.load 23 (.tmp 71)) 23 11 true, qg 73 (bi .len #[.tmp 72] #[23]) 3 11 true, qg 74 (.binOp .neq 3 (.tmp 70) (.tmp 73) 3) 4 11 true, qg 75 (.pick (.tmp 67) (.tmp 74) (.const (.bool false))) 4 7 false, q 76 (.pick (.tmp 63) (.const (.bool true)) (.tmp 75)) 4] false) (.cond (.tmp 76) (.seq (.region 6 #[q 4 (.assign (.const (.bool false))) 4] false) .ret) .skip)) (.seq (.seq (.region 7 #[q 77 (.fieldAddr 41 (.tmp 2) 4) 0, q 78 (.load 39 (.tmp 77)) 39, q 79 (bi .len #[.tmp 78] #[39]) 3, q 80 (.move (ik 0)) 3] false) (.block 0 (.loop (.seq (.region 8 #[q 81 (.binOp .lss 3 (.tmp 80) (.tmp 79) 3) 0] false) (.seq (.cond (.tmp 81) .skip (.exit 0)) (.seq (.block 1 (.seq (.region 9 #[q 82 (.move (.tmp 80)) 3, q 5 (.assign (.tmp 82)) 3] false) (.seq (.region 10 #[q 83 (.fieldAddr 41 (.tmp 2) 4) 0, q 84 (.load 39 (.tmp 83)) 39, q 85 (.move (.tmp 5)) 3, q 86 (.indexAddr 39 (.tmp 84) (.tmp 85)) 0, q 87 (.load 41 (.tmp 86)) 41, q 88 (.fieldAddr 41 (.tmp 3) 4) 0, q 89 (.load 39 (.tmp 88)) 39, q 90 (.move (.tmp 5)) 3, q 91 (.indexAddr 39 (.tmp 89) (.tmp 90)) 0, q 92 (.load 41 (.tmp 91)) 41, q 93 (cl 18 #[.tmp 87, .tmp 92] #[41, 41]) 4, q 94 (.unOp .not 4 (.tmp 93)) 4] false) (.cond (.tmp 94) (.seq (.region 11 #[q 4 (.assign (.const (.bool false))) 4] false) .ret) .skip)))) (.region 12 #[q 95 (.binOp .add 3 (.tmp 80) (ik 1) 3) 3, q 80 (.move (.tmp 95)) 3] false))))))) (.seq (.seq (.region 13 #[q 96 (.fieldAddr 41 (.tmp 2) 5) 0, q 97 (.load 23 (.tmp 96)) 23, q 98 (bi .len #[.tmp 97] #[23]) 3, q 99 (.move (ik 0)) 3] false) (.block 2 (.loop (.seq (.region 14 #[q 100 (.binOp .lss 3 (.tmp 99) (.tmp 98) 3) 0] false) (.seq (.cond (.tmp 100) .skip (.exit 2)) (.seq (.block 3 (.seq (.region 15 #[q 101 (.move (.tmp 99)) 3, q 6 (.assign (.tmp 101)) 3] false) (.seq (.region 16 #[q 102 (.fieldAddr 41 (.tmp 2) 0) 0, q 103 (.load 3 (.tmp 102)) 3, q 104 (.binOp .eql 3 (.tmp 103) (ik 5) 3) 4, q 105 (.move (.tmp 104)) 4, qg 106 (.fieldAddr 41 (.tmp 2) 5) 0 3 true, qg 107 (.load 23 (.tmp 106)) 23 3 true, qg 108 (.move (.tmp 6)) 3 3 true, qg 109 (.indexAddr 23 (.tmp 107) (.tmp 108)) 0 3 true, qg 110 (.load 9 (.tmp 109)) 9 3 true, qg 111 (.fieldAddr 41 (.tmp 3) 5) 0 3 true, qg 112 (.load 23 (.tmp 111)) 23 3 true, qg 113 (.move (.tmp 6)) 3 3 true, qg 114 (.indexAddr 23 (.tmp 112) (.tmp 113)) 0 3 true, qg 115 (.load 9 (.tmp 114)) 9 3 true, qg 116 (.binOp .neq 9 (.tmp 110) (.tmp 115) 9) 4 3 true, q 117 (.pick (.tmp 105) (.tmp 116) (.const (.bool false))) 4] false) (.cond (.tmp 117) (.seq (.region 17 #[q 4 (.assign (.const (.bool false))) 4] false) .ret) .skip)))) (.region 18 #[q 118 (.binOp .add 3 (.tmp 99) (ik 1) 3) 3, q 99 (.move (.tmp 118)) 3] false))))))) (.seq (.region 19 #[q 4 (.assign (.const (.bool true))) 4] false) .ret))))))
theorem s18 : Tryd.f18.body.map (slim cfg) = some g18 := by kernel_rfl
def g19 : Code :=
  .seq (.region 0 #[q 1 (.box 41 (.tmp 0)) 0, q 2 (.assign (ik 0)) 3] false) (.seq (.seq (.region 1 #[q 7 (.fieldAddr 41 (.tmp 1) 0) 0, q 8 (.load 3 (.tmp 7)) 3, q 9 (.binOp .neq 3 (.tmp 8) (ik 4) 3) 4, q 10 (.move (.tmp 9)) 4, qg 11 (.fieldAddr 41 (.tmp 1) 0) 0 3 true, qg 12 (.load 3 (.tmp 11)) 3 3 true, qg 13 (.binOp .neq 3 (.tmp 12) (ik 5) 3) 4 3 true, q 14 (.pick (.tmp 10) (.tmp 13) (.const (.bool false))) 4] false) (.cond (.tmp 14) (.seq (.region 2 #[q 2 (.assign (ik 0)) 3] false) .ret) .skip)) (.seq (.region 3 #[q 3 (.assign (ik 1)) 3] false) (.seq (.seq (.region 4 #[q 15 (.fieldAddr 41 (.tmp 1) 4) 0, q 16 (.load 39 (.tmp 15)) 39, q 17 (bi .len #[.tmp 16] #[39]) 3, q 18 (.move (ik 0)) 3] false) (.block 0 (.loop (.seq (.region 5 #[q 19 (.binOp .lss 3 (.tmp 18) (.tmp 17) 3) 0] false) (.seq (.cond (.tmp 19) .skip (.exit 0)) (.seq (.block 1 (.seq (.region 6 #[q 20 (.indexAddr 39 (.tmp 16) (.tmp 18)) 0, q 21 (.load 41 (.tmp 20)) 41, q 5 (.alloc 41) 0, qn (.store 41 (.tmp 5) (.tmp 21)) 0] false) (.seq (.region 7 #[q 22 (.load 41 (.tmp 5)) 41, q 23 (cl 19 #[.tmp 22] #[41]) 3, q 6 (.assign (.tmp 23)) 3] false) (.seq (.region 8 #[q 24 (.move (.tmp 6)) 3, q 25 (.move (.tmp 3)) 3, q 26 (.binOp .geq 3 (.tmp 24) (.tmp 25) 3) 4] false) (.cond (.tmp 26) (.region 9 #[q 27 (.move (.tmp 6)) 3, q 28 (.binOp .add 3 (.tmp 27) (ik 1) 3) 3, q 3 (.assign (.tmp 28)) 3] false) .skip))))) (.region 10 #[q 29 (.binOp .add 3 (.tmp 18) (ik 1) 3) 3, q 18 (.move (.tmp 29)) 3] false))))))) (.seq (.region 11 #[q 30 (.move (.tmp 3)) 3, q 2 (.assign (.tmp 30)) 3] false) .ret))))
theorem s19 : Tryd.f19.body.map (slim cfg) = some g19 := by kernel_rfl
def g25 : Code :=
  .seq (.region 0 #[q 4 (.assign (.const (.bool false))) 4] false) (.seq (.seq (.region 1 #[q 6 (.move (.tmp 0)) 23, q 7 (bi .len #[.tmp 6] #[23]) 3, q 8 (.move (.tmp 1)) 23, q 9 (bi .len #[.tmp 8] #[23]) 3, q 10 (.binOp .neq 3 (.tmp 7) (.tmp 9) 3) 4] false) (.cond (.tmp 10) (.seq (.region 2 #[q 4 (.assign (.const (.bool false))) 4] false) .ret) .skip)) (.seq (.seq (.region 3 #[q 11 (.move (.tmp 0)) 23, q 12 (bi .len #[.tmp 11] #[23]) 3, q 13 (.move (ik 0)) 3] false) (.block 0 (.loop (.seq (.region 4 #[q 14 (.binOp .lss 3 (.tmp 13) (.tmp 12) 3) 0] false) (.seq (.cond (.tmp 14) .skip (.exit 0)) (.seq (.block 1 (.seq (.region 5 #[q 15 (.move (.tmp 13)) 3, q 5 (.assign (.tmp 15)) 3] false) (.seq (.region 6 #[q 16 (.move (.tmp 0)) 23, q 17 (.move (.tmp 5)) 3, q 18 (.indexAddr 23 (.tmp 16) (.tmp 17)) 0, q 19 (.load 9 (.tmp 18)) 9, q 20 (.move (.tmp 1)) 23, q 21 (.move (.tmp 5)) 3, q 22 (.indexAddr 23 (.tmp 20) (.tmp 21)) 0, q 23 (.load 9 (.tmp 22)) 9, q 24 (.binOp .neq 9 (.tmp 19) (.tmp 23) 9) 4] false) (.cond (.tmp 24) (.seq (.region 7 #[q 4 (.assign (.const (.bool false))) 4] false) .ret) .skip)))) (.region 8 #[q 25 (.binOp .add 3 (.tmp 13) (ik 1) 3) 3, q 13 (.move (.tmp 25)) 3] false))))))) (.seq (.region 9 #[q 4 (.assign (.const (.bool true))) 4] false) .ret)))
theorem s25 : Tryd.f25.body.map (slim cfg) = some g25 := by kernel_rfl
def g26 : Code :=
  .seq (.region 0 #[q 6 (.assign (.const (.bool false))) 4] false) (.seq (.seq (.region 1 #[q 10 (.move (.tmp 0)) 22, q 11 (bi .len #[.tmp 10] #[22]) 3, q 12 (.move (.tmp 1)) 22, q 13 (bi .len #[.tmp 12] #[22]) 3, q 14 (.binOp .neq 3 (.tmp 11) (.tmp 13) 3) 4] false) (.cond (.tmp 14) (.seq (.region 2 #[q 6 (.assign (.const (.bool false))) 4] false) .ret) .skip)) (.seq (.seq (.region 3 #[q 15 (.move (.tmp 0)) 22, q 16 (bi .len #[.tmp 15] #[22]) 3, q 17 (.move (ik 0)) 3] false) (.block 0 (.loop (.seq (.region 4 #[q 18 (.binOp .lss 3 (.tmp 17) (.tmp 16) 3) 0] false) (.seq (.cond (.tmp 18) .skip (.exit 0)) (.seq (.block 1 (.seq (.region 5 #[q 19 (.move (.tmp 17)) 3, q 20 (.indexAddr 22 (.tmp 15) (.tmp 17)) 0, q 21 (.load 25 (.tmp 20)) 25, q 8 (.alloc 25) 0, q 7 (.assign (.tmp 19)) 3, qn (.store 25 (.tmp 8) (.tmp 21)) 0] false) (.seq (.region 6 #[q 22 (.move (.tmp 1)) 22, q 23 (.move (.tmp 7)) 3, q 24 (.indexAddr 22 (.tmp 22) (.tmp 23)) 0, q 25 (.load 25 (.tmp 24)) 25, q 9 (.alloc 25) 0, qn (.store 25 (.tmp 9) (.tmp 25)) 0] false) (.seq (.region 7 #[q 26 (.move (.tmp 2)) 36, q 27 (.load 25 (.tmp 8)) 25, q 28 (.load 25 (.tmp 9)) 25, q 29 (cv (.tmp 26) #[.tmp 27, .tmp 28] #[25, 25]) 4, q 30 (.unOp .not 4 (.tmp 29)) 4] false) (.cond (.tmp 30) (.seq (.region 8 #[q 6 (.assign (.const (.bool false))) 4] false) .ret) .skip))))) (.region 9 #[q 31 (.binOp .add 3 (.tmp 17) (ik 1) 3) 3, q 17 (.move (.tmp 31)) 3] false))))))) (.seq (.region 10 #[q 6 (.assign (.const (.bool true))) 4] false) .ret)))
theorem s26 : Tryd.f26.body.map (slim cfg) = some g26 := by kernel_rfl
theorem i12 : ((1 : Int) = 2) = False := by simp
theorem i13 : ((1 : Int) = 3) = False := by simp
theorem i14 : ((1 : Int) = 4) = False := by simp
theorem i15 : ((1 : Int) = 5) = False := by simp
theorem i23 : ((2 : Int) = 3) = False := by simp
theorem i24 : ((2 : Int) = 4) = False := by simp
theorem i25 : ((2 : Int) = 5) = False := by simp
theorem i34 : ((3 : Int) = 4) = False := by simp
theorem i35 : ((3 : Int) = 5) = False := by simp
theorem i21 : ((2 : Int) = 1) = False := by simp
theorem i31 : ((3 : Int) = 1) = False := by simp
theorem i32 : ((3 : Int) = 2) = False := by simp
theorem i51 : ((5 : Int) = 1) = False := by simp
theorem i52 : ((5 : Int) = 2) = False := by simp
theorem i53 : ((5 : Int) = 3) = False := by simp
theorem i41 : ((4 : Int) = 1) = False := by simp
theorem i42 : ((4 : Int) = 2) = False := by simp
theorem i43 : ((4 : Int) = 3) = False := by simp
theorem i45 : ((4 : Int) = 5) = False := by simp
theorem encStr_len (x : List UInt8) : (AV.str x).cells.length = 1 := rfl


theorem eqKeys_ok (l m : List (List UInt8)) (v w : AV) (hv : Sl AV.str v l) (hw : Sl AV.str w m) (hl : l.length < 1000000000000000000) (prot : Nat) (H : Heap) (hp : prot ≤ H.length) :
    aLim cfg prot 25 [v, w] H = some (.bool (l == m), none) := by
  have hsnap : snap H [v, w] = some ([v, w], false) := by cases hv <;> cases hw <;> rfl
  have hvl := fun (K : Heap) => hv.len (H := K) Tryd.underlying23
  have hwl := fun (K : Heap) => hw.len (H := K) Tryd.underlying23
  refine pure_slim rfl (by kernel_rfl) Tryd.func25 s25 hp hsnap (by simp [Tryd.f25]) fun fr hlen h => ?_
  simp only [Has, Nat.zero_add] at h
  obtain ⟨a0, a1, -⟩ := h
  simp only [Tryd.f25] at hlen ⊢
  unfold g25
  by_cases hlen' : l.length = m.length
  · have hne : (((l.length : Nat) : Int) = (m.length : Nat)) = True := by simp [hlen']
    simp only [wk, aBuiltin, AV.cells, AV.leaf, Nat.reduceEqDiff, Nat.reduceLT, Nat.reduceAdd, Nat.reduceLeDiff, reduceCtorEq, Nat.reduceMul, Nat.reduceMod, cfgP, u14, hlen, a0, a1, hvl, hwl, hne]
    refine loop_rule (fun k fr K => ∃ (i : Nat), k = l.length - i ∧ i ≤ l.length ∧ fr.length = 26 ∧ fget fr 0 = v ∧ fget fr 1 = w ∧ fget fr 12 = .int .i64 l.length ∧ fget fr 13 = .int .i64 i ∧ K = H ∧ (l == m) = (l.drop i == m.drop i)) ?_ l.length _ _ ⟨0, by simp [wk, aBuiltin, AV.cells, AV.leaf, Nat.reduceEqDiff, Nat.reduceLT, Nat.reduceAdd, Nat.reduceLeDiff, reduceCtorEq, Nat.reduceMul, Nat.reduceMod, cfgP, u14, hlen, a0, a1]⟩
    rintro k fr K ⟨i, rfl, hi, hlen, a0, a1, a12, a13, rfl, hc⟩ ih
    simp only [wk, aBuiltin, AV.cells, AV.leaf, Nat.reduceEqDiff, Nat.reduceLT, Nat.reduceAdd, Nat.reduceLeDiff, reduceCtorEq, Nat.reduceMul, Nat.reduceMod, cfgP, u14, hlen, a0, a1, a12, a13]
    refine RC_split (fun h => ?_) (fun h => ?_)
    · have hlt : i < l.length := by simpa using h
      have hlt2 : i < m.length := by omega
      have e1 := hv.at (k := .i64) Tryd.underlying23 sz9 encStr_len hlt
      have e2 := hw.at (k := .i64) Tryd.underlying23 sz9 encStr_len hlt2
      have hww : IntKind.i64.wrap ((i : Int) + 1) = ((i + 1 : Nat) : Int) := by rw [wrap64 (by omega) (by omega)]; simp
      rw [List.drop_eq_getElem_cons hlt, List.drop_eq_getElem_cons hlt2] at hc
      generalize l[i] = a at *
      generalize m[i] = b at *
      have hn := str_neq a b
      simp only [AV.cells] at e1 e2
      cases hab : a == b with
      | true =>
        rw [hab] at hn
        have hc' : (l == m) = (l.drop (i + 1) == m.drop (i + 1)) := by rw [hc]; show (a == b && (l.drop (i + 1) == m.drop (i + 1))) = _; rw [hab, Bool.true_and]
        simp only [wk, aBuiltin, AV.cells, AV.leaf, Nat.reduceEqDiff, Nat.reduceLT, Nat.reduceAdd, Nat.reduceLeDiff, reduceCtorEq, Nat.reduceMul, Nat.reduceMod, cfgP, u14, hlen, a0, a1, a12, a13, e1, e2, hn, hww]
        refine ih _ _ (l.length - (i + 1)) (by omega) ⟨i + 1, rfl, hlt, ?_⟩
        rw [hc']
        simp [wk, aBuiltin, AV.cells, AV.leaf, Nat.reduceEqDiff, Nat.reduceLT, Nat.reduceAdd, Nat.reduceLeDiff, reduceCtorEq, Nat.reduceMul, Nat.reduceMod, cfgP, u14, hlen, a0, a1, a12]
      | false =>
        rw [hab] at hn
        have hc' : (l == m) = false := by rw [hc]; show (a == b && (l.drop (i + 1) == m.drop (i + 1))) = _; rw [hab, Bool.false_and]
        simp only [wk, aBuiltin, AV.cells, AV.leaf, Nat.reduceEqDiff, Nat.reduceLT, Nat.reduceAdd, Nat.reduceLeDiff, reduceCtorEq, Nat.reduceMul, Nat.reduceMod, cfgP, u14, hlen, a0, a1, a12, a13, e1, e2, hn]
        rw [hc']
        exact Fin_pure (l := [.bool false]) (by simp [wk, aBuiltin, AV.cells, AV.leaf, Nat.reduceEqDiff, Nat.reduceLT, Nat.reduceAdd, Nat.reduceLeDiff, reduceCtorEq, Nat.reduceMul, Nat.reduceMod, cfgP, u14, aResults, aResult, hlen]) (.still rfl) (by simp)
    · have hnl : ¬ i < l.length := by simpa using h
      rw [List.drop_eq_nil_of_le (by omega), List.drop_eq_nil_of_le (by omega)] at hc
      rw [hc]
      simp only [wk, aBuiltin, AV.cells, AV.leaf, Nat.reduceEqDiff, Nat.reduceLT, Nat.reduceAdd, Nat.reduceLeDiff, reduceCtorEq, Nat.reduceMul, Nat.reduceMod, cfgP, u14, hlen, a0, a1]
      exact Fin_pure (l := [.bool true]) (by simp [wk, aBuiltin, AV.cells, AV.leaf, Nat.reduceEqDiff, Nat.reduceLT, Nat.reduceAdd, Nat.reduceLeDiff, reduceCtorEq, Nat.reduceMul, Nat.reduceMod, cfgP, u14, aResults, aResult, hlen]) (.still rfl) (by simp)
  · have hne : (((l.length : Nat) : Int) = (m.length : Nat)) = False := by simp; omega
    have hf : (l == m) = false := by
      rw [beq_eq_false_iff_ne]
      rintro rfl
      exact hlen' rfl
    simp only [wk, aBuiltin, AV.cells, AV.leaf, Nat.reduceEqDiff, Nat.reduceLT, Nat.reduceAdd, Nat.reduceLeDiff, reduceCtorEq, Nat.reduceMul, Nat.reduceMod, cfgP, u14, hlen, a0, a1, hvl, hwl, hne]
    rw [hf]
    exact Fin_pure (l := [.bool false]) (by simp [wk, aBuiltin, AV.cells, AV.leaf, Nat.reduceEqDiff, Nat.reduceLT, Nat.reduceAdd, Nat.reduceLeDiff, reduceCtorEq, Nat.reduceMul, Nat.reduceMod, cfgP, u14, aResults, aResult, hlen]) (.still rfl) (by simp)


theorem eqItems_ok (l m : List JV) (v w : AV) (hv : Sl encJ v l) (hw : Sl encJ w m) (hl : l.length < 1000000000000000000) (hS : ∀ x ∈ l, ∀ y ∈ m, ∀ (prot : Nat) (H : Heap), prot ≤ H.length → aLim cfg prot 14 [encJ x, encJ y] H = some (.bool (sameJ x y), none)) (prot : Nat) (H : Heap) (hp : prot ≤ H.length) :
    aLim cfg prot 26 [v, w, .func 14 [] []] H = some (.bool (sameJs l m), none) := by
  have hsnap : snap H [v, w, .func 14 [] []] = some ([v, w, .func 14 [] []], false) := by cases hv <;> cases hw <;> rfl
  have hvl := fun (K : Heap) => hv.len (H := K) Tryd.underlying22
  have hwl := fun (K : Heap) => hw.len (H := K) Tryd.underlying22
  refine pure_slim rfl (by kernel_rfl) Tryd.func26 s26 hp hsnap (by simp [Tryd.f26]) fun fr hlen h => ?_
  simp only [Has, Nat.zero_add] at h
  obtain ⟨a0, a1, a2, -⟩ := h
  simp only [Tryd.f26] at hlen ⊢
  unfold g26
  by_cases hlen' : l.length = m.length
  · have hne : (((l.length : Nat) : Int) = (m.length : Nat)) = True := by simp [hlen']
    simp only [wk, aBuiltin, AV.cells, AV.leaf, Nat.reduceEqDiff, Nat.reduceLT, Nat.reduceAdd, Nat.reduceLeDiff, reduceCtorEq, Nat.reduceMul, Nat.reduceMod, cfgP, u14, hlen, a0, a1, a2, hvl, hwl, hne]
    refine loop_rule (fun k fr K => ∃ (i : Nat), k = l.length - i ∧ i ≤ l.length ∧ fr.length = 32 ∧ fget fr 1 = w ∧ fget fr 2 = .func 14 [] [] ∧ fget fr 15 = v ∧ fget fr 16 = .int .i64 l.length ∧ fget fr 17 = .int .i64 i ∧ H.length ≤ K.length ∧ sameJs l m = sameJs (l.drop i) (m.drop i)) ?_ l.length _ _ ⟨0, by simp [wk, aBuiltin, AV.cells, AV.leaf, Nat.reduceEqDiff, Nat.reduceLT, Nat.reduceAdd, Nat.reduceLeDiff, reduceCtorEq, Nat.reduceMul, Nat.reduceMod, cfgP, u14, hlen, a0, a1, a2]⟩
    rintro k fr K ⟨i, rfl, hi, hlen, a1, a2, a15, a16, a17, hK, hc⟩ ih
    simp only [wk, aBuiltin, AV.cells, AV.leaf, Nat.reduceEqDiff, Nat.reduceLT, Nat.reduceAdd, Nat.reduceLeDiff, reduceCtorEq, Nat.reduceMul, Nat.reduceMod, cfgP, u14, hlen, a1, a2, a15, a16, a17]
    refine RC_split (fun h => ?_) (fun h => ?_)
    · have hlt : i < l.length := by simpa using h
      have hlt2 : i < m.length := by omega
      have e1 := hv.at (k := .i64) Tryd.underlying22 sz25 encJ_len hlt
      have e2 := hw.at (k := .i64) Tryd.underlying22 sz25 encJ_len hlt2
      have hww : IntKind.i64.wrap ((i : Int) + 1) = ((i + 1 : Nat) : Int) := by rw [wrap64 (by omega) (by omega)]; simp
      have hm1 : l[i] ∈ l := List.getElem_mem hlt
      have hm2 : m[i] ∈ m := List.getElem_mem hlt2
      rw [List.drop_eq_getElem_cons hlt, List.drop_eq_getElem_cons hlt2, sameJs] at hc
      generalize l[i] = x at *
      generalize m[i] = y at *
      have l1 := x.iv_leaf
      have l2 := x.kv_leaf
      have l3 := y.iv_leaf
      have l4 := y.kv_leaf
      unfold AV.leaf at l1 l2 l3 l4
      have n1 := fun (B C : Blk) => hS x hm1 y hm2 H.length (K ++ [B] ++ [C]) (by simp; omega)
      rw [encJ_eq] at e1 e2
      rw [encJ_eq, encJ_eq] at n1
      have hK2 : H.length ≤ K.length + 1 := by omega
      have hgA : ∀ (A : List AV) (B : Blk), hget (K ++ [Blk.cells 0 A] ++ [B]) K.length 0 = some A := fun A B => hget_mono (by rw [hget_new rfl, if_pos rfl]) _
      cases hab : sameJ x y with
      | true =>
        rw [hab] at n1 hc
        rw [Bool.true_and] at hc
        simp only [wk, aBuiltin, AV.cells, AV.leaf, Nat.reduceEqDiff, Nat.reduceLT, Nat.reduceAdd, Nat.reduceLeDiff, reduceCtorEq, Nat.reduceMul, Nat.reduceMod, cfgP, u14, hlen, a1, a2, a15, a16, a17, e1, e2, l1, l2, l3, l4, hK, hK2, hgA, n1, hww, List.length_append]
        refine ih _ _ (l.length - (i + 1)) (by omega) ⟨i + 1, rfl, hlt, ?_⟩
        rw [hc]
        simp [wk, aBuiltin, AV.cells, AV.leaf, Nat.reduceEqDiff, Nat.reduceLT, Nat.reduceAdd, Nat.reduceLeDiff, reduceCtorEq, Nat.reduceMul, Nat.reduceMod, cfgP, u14, hlen, a1, a2, a15, a16]
        omega
      | false =>
        rw [hab] at n1 hc
        rw [Bool.false_and] at hc
        simp only [wk, aBuiltin, AV.cells, AV.leaf, Nat.reduceEqDiff, Nat.reduceLT, Nat.reduceAdd, Nat.reduceLeDiff, reduceCtorEq, Nat.reduceMul, Nat.reduceMod, cfgP, u14, hlen, a1, a2, a15, a16, a17, e1, e2, l1, l2, l3, l4, hK, hK2, hgA, n1, List.length_append]
        rw [hc]
        exact Fin_pure (l := [.bool false]) (by simp [wk, aBuiltin, AV.cells, AV.leaf, Nat.reduceEqDiff, Nat.reduceLT, Nat.reduceAdd, Nat.reduceLeDiff, reduceCtorEq, Nat.reduceMul, Nat.reduceMod, cfgP, u14, aResults, aResult, hlen]) (.still rfl) (by simp)
    · have hnl : ¬ i < l.length := by simpa using h
      rw [List.drop_eq_nil_of_le (by omega), List.drop_eq_nil_of_le (by omega), sameJs] at hc
      rw [hc]
      simp only [wk, aBuiltin, AV.cells, AV.leaf, Nat.reduceEqDiff, Nat.reduceLT, Nat.reduceAdd, Nat.reduceLeDiff, reduceCtorEq, Nat.reduceMul, Nat.reduceMod, cfgP, u14, hlen, a1, a2]
      exact Fin_pure (l := [.bool true]) (by simp [wk, aBuiltin, AV.cells, AV.leaf, Nat.reduceEqDiff, Nat.reduceLT, Nat.reduceAdd, Nat.reduceLeDiff, reduceCtorEq, Nat.reduceMul, Nat.reduceMod, cfgP, u14, aResults, aResult, hlen]) (.still rfl) (by simp)
  · have hne : (((l.length : Nat) : Int) = (m.length : Nat)) = False := by simp; omega
    simp only [wk, aBuiltin, AV.cells, AV.leaf, Nat.reduceEqDiff, Nat.reduceLT, Nat.reduceAdd, Nat.reduceLeDiff, reduceCtorEq, Nat.reduceMul, Nat.reduceMod, cfgP, u14, hlen, a0, a1, a2, hvl, hwl, hne]
    rw [sameJs_len l m hlen']
    exact Fin_pure (l := [.bool false]) (by simp [wk, aBuiltin, AV.cells, AV.leaf, Nat.reduceEqDiff, Nat.reduceLT, Nat.reduceAdd, Nat.reduceLeDiff, reduceCtorEq, Nat.reduceMul, Nat.reduceMod, cfgP, u14, aResults, aResult, hlen]) (.still rfl) (by simp)

theorem same_ok : ∀ (x : JV), Fit 1000000 x → ∀ (y : JV) (prot : Nat) (H : Heap), prot ≤ H.length → aLim cfg prot 14 [encJ x, encJ y] H = some (.bool (sameJ x y), none) := by
  intro x
  induction hn : SizeOf.sizeOf x using Nat.strongRecOn generalizing x with
  | _ k IH =>
  subst hn
  intro hfit y prot H hp
  have hsnap : snap H [encJ x, encJ y] = some ([encJ x, encJ y], false) := by rw [encJ_snap, encJ_snap]; rfl
  have hfi := hfit.items
  have l1 := x.iv_leaf
  have l2 := x.kv_leaf
  have l3 := y.iv_leaf
  have l4 := y.kv_leaf
  unfold AV.leaf at l1 l2 l3 l4
  have n1 := fun (K : Heap) (hK : H.length ≤ K.length) => eqKeys_ok x.keys y.keys x.kv y.kv x.kv_sl y.kv_sl (by have := hfit.keys; omega) H.length K hK
  have n2 := fun (K : Heap) (hK : H.length ≤ K.length) => eqItems_ok x.items y.items x.iv y.iv x.iv_sl y.iv_sl (by omega) (fun z hz w _ prot H hp => IH _ (size_mem hz) z rfl (hfit.mem hz) w prot H hp) H.length K hK
  have n1 := fun (B C : Blk) => n1 (H ++ [B] ++ [C]) (by simp)
  have n2 := fun (B C : Blk) => n2 (H ++ [B] ++ [C]) (by simp)
  have hgA : ∀ (A : List AV) (B : Blk), hget (H ++ [Blk.cells 0 A] ++ [B]) H.length 0 = some A := fun A B => hget_mono (by rw [hget_new rfl, if_pos rfl]) _
  have hbb : ∀ xo yo, aBin Tryd.prog .eql 4 xo yo (.bool x.is) (.bool y.is) = some (.bool (x.is == y.is)) := fun xo yo => bin_eqb Tryd.underlying4 _ _
  have hss := str_eql x.text y.text
  rw [sameJ_eq]
  refine pure_slim rfl (by kernel_rfl) Tryd.func14 s14 hp hsnap (by simp [Tryd.f14]) fun fr hlen h => ?_
  simp only [Has, Nat.zero_add] at h
  obtain ⟨a0, a1, -⟩ := h
  simp only [Tryd.f14] at hlen ⊢
  unfold g14
  rw [encJ_eq] at a0 a1
  by_cases hk : x.kind = y.kind
  · rw [if_neg (by simpa using hk)]
    by_cases h1 : x.kind = 1
    · rw [if_pos h1]
      rw [← hk] at a1
      rw [h1] at a0 a1
      simp only [wk, aBuiltin, AV.cells, AV.leaf, Nat.reduceEqDiff, Nat.reduceLT, Nat.reduceAdd, Nat.reduceLeDiff, reduceCtorEq, Nat.reduceMul, Nat.reduceMod, cfgP, u14, hlen, a0, a1, hgA, l1, l2, l3, l4, hbb, List.length_append]
      exact Fin_pure (l := [.bool (x.is == y.is)]) (by simp [wk, aBuiltin, AV.cells, AV.leaf, Nat.reduceEqDiff, Nat.reduceLT, Nat.reduceAdd, Nat.reduceLeDiff, reduceCtorEq, Nat.reduceMul, Nat.reduceMod, cfgP, u14, aResults, aResult, hlen]) (.still rfl) (by simp)
    · rw [if_neg h1]
      by_cases h2 : x.kind = 2
      · rw [if_pos h2]
        rw [← hk] at a1
        rw [h2] at a0 a1
        simp only [wk, aBuiltin, AV.cells, AV.leaf, Nat.reduceEqDiff, Nat.reduceLT, Nat.reduceAdd, Nat.reduceLeDiff, reduceCtorEq, Nat.reduceMul, Nat.reduceMod, cfgP, u14, hlen, a0, a1, hgA, l1, l2, l3, l4, i21, List.length_append]
        exact Fin_pure (l := [.bool (decide (x.n = y.n))]) (by simp [wk, aBuiltin, AV.cells, AV.leaf, Nat.reduceEqDiff, Nat.reduceLT, Nat.reduceAdd, Nat.reduceLeDiff, reduceCtorEq, Nat.reduceMul, Nat.reduceMod, cfgP, u14, aResults, aResult, hlen]) (.still rfl) (by simp)
      · rw [if_neg h2]
        by_cases h3 : x.kind = 3
        · rw [if_pos h3]
          rw [← hk] at a1
          rw [h3] at a0 a1
          simp only [wk, aBuiltin, AV.cells, AV.leaf, Nat.reduceEqDiff, Nat.reduceLT, Nat.reduceAdd, Nat.reduceLeDiff, reduceCtorEq, Nat.reduceMul, Nat.reduceMod, cfgP, u14, hlen, a0, a1, hgA, l1, l2, l3, l4, i31, i32, hss, List.length_append]
          exact Fin_pure (l := [.bool (x.text == y.text)]) (by simp [wk, aBuiltin, AV.cells, AV.leaf, Nat.reduceEqDiff, Nat.reduceLT, Nat.reduceAdd, Nat.reduceLeDiff, reduceCtorEq, Nat.reduceMul, Nat.reduceMod, cfgP, u14, aResults, aResult, hlen]) (.still rfl) (by simp)
        · rw [if_neg h3]
          by_cases h5 : x.kind = 5
          · rw [if_pos h5]
            rw [← hk] at a1
            rw [h5] at a0 a1
            cases hke : x.keys == y.keys with
            | true =>
              rw [hke] at n1
              simp only [wk, aBuiltin, AV.cells, AV.leaf, Nat.reduceEqDiff, Nat.reduceLT, Nat.reduceAdd, Nat.reduceLeDiff, reduceCtorEq, Nat.reduceMul, Nat.reduceMod, cfgP, u14, hlen, a0, a1, hgA, l1, l2, l3, l4, i51, i52, i53, n1, n2, List.length_append]
              simp only [Bool.true_and]
              exact Fin_pure (l := [.bool (sameJs x.items y.items)]) (by simp [wk, aBuiltin, AV.cells, AV.leaf, Nat.reduceEqDiff, Nat.reduceLT, Nat.reduceAdd, Nat.reduceLeDiff, reduceCtorEq, Nat.reduceMul, Nat.reduceMod, cfgP, u14, aResults, aResult, hlen]) (.still rfl) (by simp)
            | false =>
              rw [hke] at n1
              simp only [wk, aBuiltin, AV.cells, AV.leaf, Nat.reduceEqDiff, Nat.reduceLT, Nat.reduceAdd, Nat.reduceLeDiff, reduceCtorEq, Nat.reduceMul, Nat.reduceMod, cfgP, u14, hlen, a0, a1, hgA, l1, l2, l3, l4, i51, i52, i53, n1, List.length_append]
              simp only [Bool.false_and]
              exact Fin_pure (l := [.bool false]) (by simp [wk, aBuiltin, AV.cells, AV.leaf, Nat.reduceEqDiff, Nat.reduceLT, Nat.reduceAdd, Nat.reduceLeDiff, reduceCtorEq, Nat.reduceMul, Nat.reduceMod, cfgP, u14, aResults, aResult, hlen]) (.still rfl) (by simp)
          · rw [if_neg h5]
            by_cases h4 : x.kind = 4
            · rw [if_pos h4]
              rw [← hk] at a1
              rw [h4] at a0 a1
              simp only [wk, aBuiltin, AV.cells, AV.leaf, Nat.reduceEqDiff, Nat.reduceLT, Nat.reduceAdd, Nat.reduceLeDiff, reduceCtorEq, Nat.reduceMul, Nat.reduceMod, cfgP, u14, hlen, a0, a1, hgA, l1, l2, l3, l4, i41, i42, i43, i45, n2, List.length_append]
              exact Fin_pure (l := [.bool (sameJs x.items y.items)]) (by simp [wk, aBuiltin, AV.cells, AV.leaf, Nat.reduceEqDiff, Nat.reduceLT, Nat.reduceAdd, Nat.reduceLeDiff, reduceCtorEq, Nat.reduceMul, Nat.reduceMod, cfgP, u14, aResults, aResult, hlen]) (.still rfl) (by simp)
            · rw [if_neg h4]
              rw [← hk] at a1
              simp only [wk, aBuiltin, AV.cells, AV.leaf, Nat.reduceEqDiff, Nat.reduceLT, Nat.reduceAdd, Nat.reduceLeDiff, reduceCtorEq, Nat.reduceMul, Nat.reduceMod, cfgP, u14, hlen, a0, a1, hgA, l1, l2, l3, l4, h1, h2, h3, h4, h5, List.length_append]
              exact Fin_pure (l := [.bool true]) (by simp [wk, aBuiltin, AV.cells, AV.leaf, Nat.reduceEqDiff, Nat.reduceLT, Nat.reduceAdd, Nat.reduceLeDiff, reduceCtorEq, Nat.reduceMul, Nat.reduceMod, cfgP, u14, aResults, aResult, hlen]) (.still rfl) (by simp)
  · rw [if_pos (by simpa using hk)]
    simp only [wk, aBuiltin, AV.cells, AV.leaf, Nat.reduceEqDiff, Nat.reduceLT, Nat.reduceAdd, Nat.reduceLeDiff, reduceCtorEq, Nat.reduceMul, Nat.reduceMod, cfgP, u14, hlen, a0, a1, hgA, l1, l2, l3, l4, hk, List.length_append]
    exact Fin_pure (l := [.bool false]) (by simp [wk, aBuiltin, AV.cells, AV.leaf, Nat.reduceEqDiff, Nat.reduceLT, Nat.reduceAdd, Nat.reduceLeDiff, reduceCtorEq, Nat.reduceMul, Nat.reduceMod, cfgP, u14, aResults, aResult, hlen]) (.still rfl) (by simp)

theorem depthJs_ge {x : JV} {l : List JV} (h : x ∈ l) : depthJ x ≤ depthJs l := depthJs_mem h

theorem rdepth_ok : ∀ (x : JV), Fit 1000000000000 x → depthJ x < 1000000000000 → ∀ (prot : Nat) (H : Heap), prot ≤ H.length → aLim cfg prot 19 [encJ x] H = some (.int .i64 (depthJ x : Nat), none) := by
  intro x
  induction hn : SizeOf.sizeOf x using Nat.strongRecOn generalizing x with
  | _ k IH =>
  subst hn
  intro hfit hdep prot H hp
  have hsnap : snap H [encJ x] = some ([encJ x], false) := by rw [encJ_snap]; rfl
  have hfi := hfit.items
  rw [depthJ_eq] at hdep ⊢
  refine pure_slim rfl (by kernel_rfl) Tryd.func19 s19 hp hsnap (by simp [Tryd.f19]) fun fr hlen h => ?_
  simp only [Has, Nat.zero_add] at h
  obtain ⟨a0, -⟩ := h
  simp only [Tryd.f19] at hlen ⊢
  unfold g19
  rw [encJ_eq] at a0
  have hlf : x.iv.leaf = true := x.iv_leaf
  have hlf2 : x.kv.leaf = true := x.kv_leaf
  unfold AV.leaf at hlf hlf2
  by_cases h4 : x.kind = 4 ∨ x.kind = 5
  · have hk : ¬ (x.kind ≠ 4 ∧ x.kind ≠ 5) := by omega
    rw [if_neg hk] at hdep ⊢
    have hw : ∀ i : Nat, i < x.items.length → IntKind.i64.wrap ((i : Int) + 1) = ((i + 1 : Nat) : Int) := fun i hi => by rw [wrap64 (by omega) (by omega)]; simp
    rcases h4 with h4 | h4
    all_goals
      rw [h4] at a0
      simp only [wk, aBuiltin, AV.cells, AV.leaf, Nat.reduceEqDiff, Nat.reduceLT, Nat.reduceAdd, Nat.reduceLeDiff, reduceCtorEq, Nat.reduceMul, Nat.reduceMod, cfgP, u14, hlen, a0, hlf, hlf2, i54, none_beq, x.iv_sl.len Tryd.underlying39]
      refine loop_rule (fun m fr K => ∃ (i : Nat), m = x.items.length - i ∧ i ≤ x.items.length ∧ fr.length = 31 ∧ fget fr 16 = x.iv ∧ fget fr 17 = .int .i64 x.items.length ∧ fget fr 18 = .int .i64 i ∧ fget fr 3 = .int .i64 (depthJs (x.items.take i) + 1 : Nat) ∧ H.length ≤ K.length) ?_ x.items.length _ _ ⟨0, by simp [wk, aBuiltin, AV.cells, AV.leaf, Nat.reduceEqDiff, Nat.reduceLT, Nat.reduceAdd, Nat.reduceLeDiff, reduceCtorEq, Nat.reduceMul, Nat.reduceMod, cfgP, u14, hlen, depthJs]⟩
      rintro m fr K ⟨i, rfl, hi, hlen, a15, a16, a17, a3, hK⟩ ih
      simp only [wk, aBuiltin, AV.cells, AV.leaf, Nat.reduceEqDiff, Nat.reduceLT, Nat.reduceAdd, Nat.reduceLeDiff, reduceCtorEq, Nat.reduceMul, Nat.reduceMod, cfgP, u14, hlen, a15, a16, a17, a3]
      refine RC_split (fun h => ?_) (fun h => ?_)
      · have hlt : i < x.items.length := by simpa using h
        have e1 := x.iv_sl.at (k := .i64) Tryd.underlying39 sz41 encJ_len hlt
        have hmem : x.items[i] ∈ x.items := List.getElem_mem hlt
        have htk : x.items.take (i + 1) = x.items.take i ++ [x.items[i]] := List.take_succ_eq_append_getElem hlt
        have hwi := hw i hlt
        have hdj := depthJs_mem hmem
        have htd : depthJs (x.items.take (i + 1)) = max (depthJs (x.items.take i)) (depthJ x.items[i]) := by rw [htk, depthJs_append]; simp [depthJs]
        generalize hy : x.items[i] = y at *
        have n1 := fun (K : Heap) (hK : H.length ≤ K.length) => IH _ (size_mem hmem) y rfl (hfit.mem hmem) (by omega) H.length K hK
        have l1 := y.iv_leaf
        have l2 := y.kv_leaf
        unfold AV.leaf at l1 l2
        simp only [encJ_eq] at n1
        rw [encJ_eq] at e1
        have hw2 : IntKind.i64.wrap ((depthJ y : Nat) + 1 : Int) = ((depthJ y + 1 : Nat) : Int) := by rw [wrap64 (by omega) (by omega)]; simp
        generalize hdd : depthJs (x.items.take i) = dd at *
        by_cases hge : dd + 1 ≤ depthJ y
        · have hc : ((((dd + 1 : Nat) : Int)) ≤ (depthJ y : Nat)) = True := by simp; omega
          simp only [wk, aBuiltin, AV.cells, AV.leaf, Nat.reduceEqDiff, Nat.reduceLT, Nat.reduceAdd, Nat.reduceLeDiff, reduceCtorEq, Nat.reduceMul, Nat.reduceMod, cfgP, u14, hlen, a15, a16, a17, a3, e1, l1, l2, y.iv_cells, y.kv_cells, hK, n1, hwi, hw2, hc, Nat.le_trans hK (Nat.le_add_right _ 1), List.length_append]
          refine ih _ _ (x.items.length - (i + 1)) (by omega) ⟨i + 1, rfl, hlt, ?_⟩
          simp [wk, aBuiltin, AV.cells, AV.leaf, Nat.reduceEqDiff, Nat.reduceLT, Nat.reduceAdd, Nat.reduceLeDiff, reduceCtorEq, Nat.reduceMul, Nat.reduceMod, cfgP, u14, hlen, a15, a16, htd]
          omega
        · have hc : ((((dd + 1 : Nat) : Int)) ≤ (depthJ y : Nat)) = False := by simp; omega
          simp only [wk, aBuiltin, AV.cells, AV.leaf, Nat.reduceEqDiff, Nat.reduceLT, Nat.reduceAdd, Nat.reduceLeDiff, reduceCtorEq, Nat.reduceMul, Nat.reduceMod, cfgP, u14, hlen, a15, a16, a17, a3, e1, l1, l2, y.iv_cells, y.kv_cells, hK, n1, hwi, hc, Nat.le_trans hK (Nat.le_add_right _ 1), List.length_append]
          refine ih _ _ (x.items.length - (i + 1)) (by omega) ⟨i + 1, rfl, hlt, ?_⟩
          simp [wk, aBuiltin, AV.cells, AV.leaf, Nat.reduceEqDiff, Nat.reduceLT, Nat.reduceAdd, Nat.reduceLeDiff, reduceCtorEq, Nat.reduceMul, Nat.reduceMod, cfgP, u14, hlen, a15, a16, a3, htd]
          omega
      · have hnl : i = x.items.length := by
          have : ¬ i < x.items.length := by simpa using h
          omega
        subst hnl
        rw [List.take_length] at a3
        simp only [wk, aBuiltin, AV.cells, AV.leaf, Nat.reduceEqDiff, Nat.reduceLT, Nat.reduceAdd, Nat.reduceLeDiff, reduceCtorEq, Nat.reduceMul, Nat.reduceMod, cfgP, u14, hlen, a3]
        exact Fin_pure (l := [.int .i64 ((depthJs x.items + 1 : Nat) : Int)]) (by simp [wk, aBuiltin, AV.cells, AV.leaf, Nat.reduceEqDiff, Nat.reduceLT, Nat.reduceAdd, Nat.reduceLeDiff, reduceCtorEq, Nat.reduceMul, Nat.reduceMod, cfgP, u14, aResults, aResult, hlen]) (.still rfl) (by simp)
  · have hk : x.kind ≠ 4 ∧ x.kind ≠ 5 := by omega
    rw [if_pos hk]
    simp only [wk, aBuiltin, AV.cells, AV.leaf, Nat.reduceEqDiff, Nat.reduceLT, Nat.reduceAdd, Nat.reduceLeDiff, reduceCtorEq, Nat.reduceMul, Nat.reduceMod, cfgP, u14, hlen, a0, hlf, hlf2, hk.1, hk.2]
    exact Fin_pure (l := [.int .i64 0]) (by simp [wk, aBuiltin, AV.cells, AV.leaf, Nat.reduceEqDiff, Nat.reduceLT, Nat.reduceAdd, Nat.reduceLeDiff, reduceCtorEq, Nat.reduceMul, Nat.reduceMod, cfgP, u14, aResults, aResult, hlen]) (.still rfl) (by simp)

set_option maxHeartbeats 1600000 in
theorem rsame_ok : ∀ (x : JV), Fit 1000000 x → ∀ (y : JV), Fit 1000000 y → ∀ (prot : Nat) (H : Heap), prot ≤ H.length → aLim cfg prot 18 [encJ x, encJ y] H = some (.bool (sameJ x y), none) := by
  intro x
  induction hn : SizeOf.sizeOf x using Nat.strongRecOn generalizing x with
  | _ k IH =>
  subst hn
  intro hfit y hfity prot H hp
  have hsnap : snap H [encJ x, encJ y] = some ([encJ x, encJ y], false) := by rw [encJ_snap, encJ_snap]; rfl
  have hfi := hfit.items
  have hfk := hfit.keys
  have hfi' := hfity.items
  have hfk' := hfity.keys
  have l1 := x.iv_leaf
  have l2 := x.kv_leaf
  have l3 := y.iv_leaf
  have l4 := y.kv_leaf
  unfold AV.leaf at l1 l2 l3 l4
  have hgA : ∀ (A : List AV) (B : Blk), hget (H ++ [Blk.cells 0 A] ++ [B]) H.length 0 = some A := fun A B => hget_mono (by rw [hget_new rfl, if_pos rfl]) _
  have hbb : ∀ xo yo, aBin Tryd.prog .neq 4 xo yo (.bool x.is) (.bool y.is) = some (.bool (!(x.is == y.is))) := fun xo yo => bin_neb Tryd.underlying4 _ _
  have hss := str_neq x.text y.text
  have xil := fun (K : Heap) => x.iv_sl.len (H := K) Tryd.underlying39
  have yil := fun (K : Heap) => y.iv_sl.len (H := K) Tryd.underlying39
  have xkl := fun (K : Heap) => x.kv_sl.len (H := K) Tryd.underlying23
  have ykl := fun (K : Heap) => y.kv_sl.len (H := K) Tryd.underlying23
  rw [sameJ_eq]
  refine pure_slim rfl (by kernel_rfl) Tryd.func18 s18 hp hsnap (by simp [Tryd.f18]) fun fr hlen h => ?_
  simp only [Has, Nat.zero_add] at h
  obtain ⟨a0, a1, -⟩ := h
  simp only [Tryd.f18] at hlen ⊢
  unfold g18
  rw [encJ_eq] at a0 a1
  by_cases hk : x.kind = y.kind
  · rw [if_neg (by simpa using hk)]
    by_cases h1 : x.kind = 1
    · rw [if_pos h1]
      rw [← hk] at a1
      rw [h1] at a0 a1
      cases hbe : x.is == y.is with
      | true =>
        rw [hbe] at hbb
        simp only [wk, aBuiltin, AV.cells, AV.leaf, Nat.reduceEqDiff, Nat.reduceLT, Nat.reduceAdd, Nat.reduceLeDiff, reduceCtorEq, Nat.reduceMul, Nat.reduceMod, cfgP, u14, hlen, a0, a1, hgA, l1, l2, l3, l4, hbb, i14, i15, i12, i13, none_beq, List.length_append]
        exact Fin_pure (l := [.bool true]) (by simp [wk, aBuiltin, AV.cells, AV.leaf, Nat.reduceEqDiff, Nat.reduceLT, Nat.reduceAdd, Nat.reduceLeDiff, reduceCtorEq, Nat.reduceMul, Nat.reduceMod, cfgP, u14, aResults, aResult, hlen]) (.still rfl) (by simp)
      | false =>
        rw [hbe] at hbb
        simp only [wk, aBuiltin, AV.cells, AV.leaf, Nat.reduceEqDiff, Nat.reduceLT, Nat.reduceAdd, Nat.reduceLeDiff, reduceCtorEq, Nat.reduceMul, Nat.reduceMod, cfgP, u14, hlen, a0, a1, hgA, l1, l2, l3, l4, hbb, i14, i15, i12, i13, none_beq, List.length_append]
        exact Fin_pure (l := [.bool false]) (by simp [wk, aBuiltin, AV.cells, AV.leaf, Nat.reduceEqDiff, Nat.reduceLT, Nat.reduceAdd, Nat.reduceLeDiff, reduceCtorEq, Nat.reduceMul, Nat.reduceMod, cfgP, u14, aResults, aResult, hlen]) (.still rfl) (by simp)
    · rw [if_neg h1]
      by_cases h2 : x.kind = 2
      · rw [if_pos h2]
        rw [← hk] at a1
        rw [h2] at a0 a1
        by_cases hne : x.n = y.n
        · simp only [wk, aBuiltin, AV.cells, AV.leaf, Nat.reduceEqDiff, Nat.reduceLT, Nat.reduceAdd, Nat.reduceLeDiff, reduceCtorEq, Nat.reduceMul, Nat.reduceMod, cfgP, u14, hlen, a0, a1, hgA, l1, l2, l3, l4, i21, i23, i24, i25, hne, none_beq, List.length_append]
          exact Fin_pure (l := [.bool true]) (by simp [wk, aBuiltin, AV.cells, AV.leaf, Nat.reduceEqDiff, Nat.reduceLT, Nat.reduceAdd, Nat.reduceLeDiff, reduceCtorEq, Nat.reduceMul, Nat.reduceMod, cfgP, u14, aResults, aResult, hlen]) (.still rfl) (by simp)
        · simp only [wk, aBuiltin, AV.cells, AV.leaf, Nat.reduceEqDiff, Nat.reduceLT, Nat.reduceAdd, Nat.reduceLeDiff, reduceCtorEq, Nat.reduceMul, Nat.reduceMod, cfgP, u14, hlen, a0, a1, hgA, l1, l2, l3, l4, i21, i23, i24, i25, hne, none_beq, List.length_append]
          exact Fin_pure (l := [.bool false]) (by simp [wk, aBuiltin, AV.cells, AV.leaf, Nat.reduceEqDiff, Nat.reduceLT, Nat.reduceAdd, Nat.reduceLeDiff, reduceCtorEq, Nat.reduceMul, Nat.reduceMod, cfgP, u14, aResults, aResult, hlen]) (.still rfl) (by simp)
      · rw [if_neg h2]
        by_cases h3 : x.kind = 3
        · rw [if_pos h3]
          rw [← hk] at a1
          rw [h3] at a0 a1
          cases hte : x.text == y.text with
          | true =>
            rw [hte] at hss
            simp only [wk, aBuiltin, AV.cells, AV.leaf, Nat.reduceEqDiff, Nat.reduceLT, Nat.reduceAdd, Nat.reduceLeDiff, reduceCtorEq, Nat.reduceMul, Nat.reduceMod, cfgP, u14, hlen, a0, a1, hgA, l1, l2, l3, l4, i31, i32, i34, i35, hss, none_beq, List.length_append]
            exact Fin_pure (l := [.bool true]) (by simp [wk, aBuiltin, AV.cells, AV.leaf, Nat.reduceEqDiff, Nat.reduceLT, Nat.reduceAdd, Nat.reduceLeDiff, reduceCtorEq, Nat.reduceMul, Nat.reduceMod, cfgP, u14, aResults, aResult, hlen]) (.still rfl) (by simp)
          | false =>
            rw [hte] at hss
            simp only [wk, aBuiltin, AV.cells, AV.leaf, Nat.reduceEqDiff, Nat.reduceLT, Nat.reduceAdd, Nat.reduceLeDiff, reduceCtorEq, Nat.reduceMul, Nat.reduceMod, cfgP, u14, hlen, a0, a1, hgA, l1, l2, l3, l4, i31, i32, i34, i35, hss, none_beq, List.length_append]
            exact Fin_pure (l := [.bool false]) (by simp [wk, aBuiltin, AV.cells, AV.leaf, Nat.reduceEqDiff, Nat.reduceLT, Nat.reduceAdd, Nat.reduceLeDiff, reduceCtorEq, Nat.reduceMul, Nat.reduceMod, cfgP, u14, aResults, aResult, hlen]) (.still rfl) (by simp)
        · rw [if_neg h3]
          by_cases h5 : x.kind = 5
          · rw [if_pos h5]
            rw [← hk] at a1
            rw [h5] at a0 a1
            have n1 := fun (z : JV) (hz : z ∈ x.items) (w : JV) (hw : w ∈ y.items) => IH _ (size_mem hz) z rfl (hfit.mem hz) w (hfity.mem hw) H.length
            by_cases hil : x.items.length = y.items.length
            · have hil' : (((x.items.length : Nat) : Int) = (y.items.length : Nat)) = True := by simp [hil]
              by_cases hkl : x.keys.length = y.keys.length
              · have hkl' : (((x.keys.length : Nat) : Int) = (y.keys.length : Nat)) = True := by simp [hkl]
                simp only [wk, aBuiltin, AV.cells, AV.leaf, Nat.reduceEqDiff, Nat.reduceLT, Nat.reduceAdd, Nat.reduceLeDiff, reduceCtorEq, Nat.reduceMul, Nat.reduceMod, cfgP, u14, hlen, a0, a1, hgA, l1, l2, l3, l4, i51, i52, i53, i54, none_beq, xil, yil, xkl, ykl, hil', hkl', List.length_append]
                generalize hK0 : H ++ [Blk.cells 0 [.int .i64 5, .bool x.is, .int .i64 x.n, .str x.text, x.iv, x.kv]] ++ [Blk.cells 0 [.int .i64 5, .bool y.is, .int .i64 y.n, .str y.text, y.iv, y.kv]] = K0
                have hA : hget K0 H.length 0 = some [.int .i64 5, .bool x.is, .int .i64 x.n, .str x.text, x.iv, x.kv] := by rw [← hK0]; exact hgA _ _
                have hB : hget K0 (H.length + 1) 0 = some [.int .i64 5, .bool y.is, .int .i64 y.n, .str y.text, y.iv, y.kv] := by rw [← hK0, hget_new (by simp), if_pos rfl]
                have hKl : H.length ≤ K0.length := by rw [← hK0]; simp
                refine loop_rule (fun k fr K => ∃ (i : Nat), k = x.items.length - i ∧ i ≤ x.items.length ∧ fr.length = 119 ∧ fget fr 2 = .ptr H.length 0 0 ∧ fget fr 3 = .ptr (H.length + 1) 0 0 ∧ fget fr 79 = .int .i64 x.items.length ∧ fget fr 80 = .int .i64 i ∧ K = K0 ∧ sameJs x.items y.items = sameJs (x.items.drop i) (y.items.drop i)) ?_ x.items.length _ _ ⟨0, by simp [wk, aBuiltin, AV.cells, AV.leaf, Nat.reduceEqDiff, Nat.reduceLT, Nat.reduceAdd, Nat.reduceLeDiff, reduceCtorEq, Nat.reduceMul, Nat.reduceMod, cfgP, u14, hlen]⟩
                rintro k fr K ⟨i, rfl, hi, hlen, a2, a3, a79, a80, rfl, hc⟩ ih
                simp only [wk, aBuiltin, AV.cells, AV.leaf, Nat.reduceEqDiff, Nat.reduceLT, Nat.reduceAdd, Nat.reduceLeDiff, reduceCtorEq, Nat.reduceMul, Nat.reduceMod, cfgP, u14, hlen, a2, a3, a79, a80]
                refine RC_split (fun h => ?_) (fun h => ?_)
                · have hlt : i < x.items.length := by simpa using h
                  have hlt2 : i < y.items.length := by omega
                  have e1 := x.iv_sl.at (k := .i64) Tryd.underlying39 sz41 encJ_len hlt
                  have e2 := y.iv_sl.at (k := .i64) Tryd.underlying39 sz41 encJ_len hlt2
                  have hww : IntKind.i64.wrap ((i : Int) + 1) = ((i + 1 : Nat) : Int) := by rw [wrap64 (by omega) (by omega)]; simp
                  have hm1 : x.items[i] ∈ x.items := List.getElem_mem hlt
                  have hm2 : y.items[i] ∈ y.items := List.getElem_mem hlt2
                  rw [List.drop_eq_getElem_cons hlt, List.drop_eq_getElem_cons hlt2, sameJs] at hc
                  generalize x.items[i] = u at *
                  generalize y.items[i] = w at *
                  have n1 := n1 u hm1 w hm2 K hKl
                  have e1u := encJ_eq u
                  have e1w := encJ_eq w
                  rw [e1u] at e1
                  rw [e1w] at e2
                  rw [e1u, e1w] at n1
                  cases hab : sameJ u w with
                  | true =>
                    rw [hab] at n1 hc
                    rw [Bool.true_and] at hc
                    simp only [wk, aBuiltin, AV.cells, AV.leaf, Nat.reduceEqDiff, Nat.reduceLT, Nat.reduceAdd, Nat.reduceLeDiff, reduceCtorEq, Nat.reduceMul, Nat.reduceMod, cfgP, u14, hlen, a2, a3, a79, a80, hA, hB, e1, e2, n1, hww]
                    refine ih _ _ (x.items.length - (i + 1)) (by omega) ⟨i + 1, rfl, hlt, ?_⟩
                    rw [hc]
                    simp [wk, aBuiltin, AV.cells, AV.leaf, Nat.reduceEqDiff, Nat.reduceLT, Nat.reduceAdd, Nat.reduceLeDiff, reduceCtorEq, Nat.reduceMul, Nat.reduceMod, cfgP, u14, hlen, a2, a3, a79]
                  | false =>
                    rw [hab] at n1 hc
                    rw [Bool.false_and] at hc
                    simp only [wk, aBuiltin, AV.cells, AV.leaf, Nat.reduceEqDiff, Nat.reduceLT, Nat.reduceAdd, Nat.reduceLeDiff, reduceCtorEq, Nat.reduceMul, Nat.reduceMod, cfgP, u14, hlen, a2, a3, a79, a80, hA, hB, e1, e2, n1]
                    rw [hc]
                    simp only [Bool.and_false]
                    exact Fin_pure (l := [.bool false]) (by simp [wk, aBuiltin, AV.cells, AV.leaf, Nat.reduceEqDiff, Nat.reduceLT, Nat.reduceAdd, Nat.reduceLeDiff, reduceCtorEq, Nat.reduceMul, Nat.reduceMod, cfgP, u14, aResults, aResult, hlen]) (.still rfl) (by simp)
                · have hnl : ¬ i < x.items.length := by simpa using h
                  rw [List.drop_eq_nil_of_le (by omega), List.drop_eq_nil_of_le (by omega), sameJs] at hc
                  rw [hc]
                  simp only [wk, aBuiltin, AV.cells, AV.leaf, Nat.reduceEqDiff, Nat.reduceLT, Nat.reduceAdd, Nat.reduceLeDiff, reduceCtorEq, Nat.reduceMul, Nat.reduceMod, cfgP, u14, hlen, a2, a3, hA, xkl]
                  refine loop_rule (fun k fr K' => ∃ (j : Nat), k = x.keys.length - j ∧ j ≤ x.keys.length ∧ fr.length = 119 ∧ fget fr 2 = .ptr H.length 0 0 ∧ fget fr 3 = .ptr (H.length + 1) 0 0 ∧ fget fr 98 = .int .i64 x.keys.length ∧ fget fr 99 = .int .i64 j ∧ K' = K ∧ (x.keys == y.keys) = (x.keys.drop j == y.keys.drop j)) ?_ x.keys.length _ _ ⟨0, by simp [wk, aBuiltin, AV.cells, AV.leaf, Nat.reduceEqDiff, Nat.reduceLT, Nat.reduceAdd, Nat.reduceLeDiff, reduceCtorEq, Nat.reduceMul, Nat.reduceMod, cfgP, u14, hlen, a2, a3]⟩
                  rintro k fr K' ⟨j, rfl, hj, hlen, a2, a3, a98, a99, rfl, hc2⟩ ih2
                  simp only [wk, aBuiltin, AV.cells, AV.leaf, Nat.reduceEqDiff, Nat.reduceLT, Nat.reduceAdd, Nat.reduceLeDiff, reduceCtorEq, Nat.reduceMul, Nat.reduceMod, cfgP, u14, hlen, a2, a3, a98, a99]
                  refine RC_split (fun h => ?_) (fun h => ?_)
                  · have hlt : j < x.keys.length := by simpa using h
                    have hlt2 : j < y.keys.length := by omega
                    have e1 := x.kv_sl.at (k := .i64) Tryd.underlying23 sz9 encStr_len hlt
                    have e2 := y.kv_sl.at (k := .i64) Tryd.underlying23 sz9 encStr_len hlt2
                    have hww : IntKind.i64.wrap ((j : Int) + 1) = ((j + 1 : Nat) : Int) := by rw [wrap64 (by omega) (by omega)]; simp
                    rw [List.drop_eq_getElem_cons hlt, List.drop_eq_getElem_cons hlt2] at hc2
                    generalize x.keys[j] = a at *
                    generalize y.keys[j] = b at *
                    have hn := str_neq a b
                    simp only [AV.cells] at e1 e2
                    cases hab : a == b with
                    | true =>
                      rw [hab] at hn
                      have hc' : (x.keys == y.keys) = (x.keys.drop (j + 1) == y.keys.drop (j + 1)) := by rw [hc2]; show (a == b && (x.keys.drop (j + 1) == y.keys.drop (j + 1))) = _; rw [hab, Bool.true_and]
                      simp only [wk, aBuiltin, AV.cells, AV.leaf, Nat.reduceEqDiff, Nat.reduceLT, Nat.reduceAdd, Nat.reduceLeDiff, reduceCtorEq, Nat.reduceMul, Nat.reduceMod, cfgP, u14, hlen, a2, a3, a98, a99, hA, hB, e1, e2, hn, hww]
                      refine ih2 _ _ (x.keys.length - (j + 1)) (by omega) ⟨j + 1, rfl, hlt, ?_⟩
                      rw [hc']
                      simp [wk, aBuiltin, AV.cells, AV.leaf, Nat.reduceEqDiff, Nat.reduceLT, Nat.reduceAdd, Nat.reduceLeDiff, reduceCtorEq, Nat.reduceMul, Nat.reduceMod, cfgP, u14, hlen, a2, a3, a98]
                    | false =>
                      rw [hab] at hn
                      have hc' : (x.keys == y.keys) = false := by rw [hc2]; show (a == b && (x.keys.drop (j + 1) == y.keys.drop (j + 1))) = _; rw [hab, Bool.false_and]
                      simp only [wk, aBuiltin, AV.cells, AV.leaf, Nat.reduceEqDiff, Nat.reduceLT, Nat.reduceAdd, Nat.reduceLeDiff, reduceCtorEq, Nat.reduceMul, Nat.reduceMod, cfgP, u14, hlen, a2, a3, a98, a99, hA, hB, e1, e2, hn]
                      rw [hc']
                      exact Fin_pure (l := [.bool false]) (by simp [wk, aBuiltin, AV.cells, AV.leaf, Nat.reduceEqDiff, Nat.reduceLT, Nat.reduceAdd, Nat.reduceLeDiff, reduceCtorEq, Nat.reduceMul, Nat.reduceMod, cfgP, u14, aResults, aResult, hlen]) (.still rfl) (by simp)
                  · have hnl : ¬ j < x.keys.length := by simpa using h
                    rw [List.drop_eq_nil_of_le (by omega), List.drop_eq_nil_of_le (by omega)] at hc2
                    rw [hc2]
                    simp only [wk, aBuiltin, AV.cells, AV.leaf, Nat.reduceEqDiff, Nat.reduceLT, Nat.reduceAdd, Nat.reduceLeDiff, reduceCtorEq, Nat.reduceMul, Nat.reduceMod, cfgP, u14, hlen, a2, a3]
                    exact Fin_pure (l := [.bool true]) (by simp [wk, aBuiltin, AV.cells, AV.leaf, Nat.reduceEqDiff, Nat.reduceLT, Nat.reduceAdd, Nat.reduceLeDiff, reduceCtorEq, Nat.reduceMul, Nat.reduceMod, cfgP, u14, aResults, aResult, hlen]) (.still rfl) (by simp)
              · have hkl' : (((x.keys.length : Nat) : Int) = (y.keys.length : Nat)) = False := by simp; omega
                have hf : (x.keys == y.keys) = false := by
                  rw [beq_eq_false_iff_ne]
                  intro he
                  exact hkl (by rw [he])
                simp only [wk, aBuiltin, AV.cells, AV.leaf, Nat.reduceEqDiff, Nat.reduceLT, Nat.reduceAdd, Nat.reduceLeDiff, reduceCtorEq, Nat.reduceMul, Nat.reduceMod, cfgP, u14, hlen, a0, a1, hgA, l1, l2, l3, l4, i51, i52, i53, i54, none_beq, xil, yil, xkl, ykl, hil', hkl', List.length_append]
                rw [hf, Bool.false_and]
                exact Fin_pure (l := [.bool false]) (by simp [wk, aBuiltin, AV.cells, AV.leaf, Nat.reduceEqDiff, Nat.reduceLT, Nat.reduceAdd, Nat.reduceLeDiff, reduceCtorEq, Nat.reduceMul, Nat.reduceMod, cfgP, u14, aResults, aResult, hlen]) (.still rfl) (by simp)
            · have hil' : (((x.items.length : Nat) : Int) = (y.items.length : Nat)) = False := by simp; omega
              simp only [wk, aBuiltin, AV.cells, AV.leaf, Nat.reduceEqDiff, Nat.reduceLT, Nat.reduceAdd, Nat.reduceLeDiff, reduceCtorEq, Nat.reduceMul, Nat.reduceMod, cfgP, u14, hlen, a0, a1, hgA, l1, l2, l3, l4, i51, i52, i53, i54, none_beq, xil, yil, hil', List.length_append]
              rw [sameJs_len _ _ hil, Bool.and_false]
              exact Fin_pure (l := [.bool false]) (by simp [wk, aBuiltin, AV.cells, AV.leaf, Nat.reduceEqDiff, Nat.reduceLT, Nat.reduceAdd, Nat.reduceLeDiff, reduceCtorEq, Nat.reduceMul, Nat.reduceMod, cfgP, u14, aResults, aResult, hlen]) (.still rfl) (by simp)
          · rw [if_neg h5]
            by_cases h4 : x.kind = 4
            · rw [if_pos h4]
              rw [← hk] at a1
              rw [h4] at a0 a1
              have n1 := fun (z : JV) (hz : z ∈ x.items) (w : JV) (hw : w ∈ y.items) => IH _ (size_mem hz) z rfl (hfit.mem hz) w (hfity.mem hw) H.length
              by_cases hil : x.items.length = y.items.length
              · have hil' : (((x.items.length : Nat) : Int) = (y.items.length : Nat)) = True := by simp [hil]
                simp only [wk, aBuiltin, AV.cells, AV.leaf, Nat.reduceEqDiff, Nat.reduceLT, Nat.reduceAdd, Nat.reduceLeDiff, reduceCtorEq, Nat.reduceMul, Nat.reduceMod, cfgP, u14, hlen, a0, a1, hgA, l1, l2, l3, l4, i41, i42, i43, i45, none_beq, xil, yil, hil', List.length_append]
                generalize hK0 : H ++ [Blk.cells 0 [.int .i64 4, .bool x.is, .int .i64 x.n, .str x.text, x.iv, x.kv]] ++ [Blk.cells 0 [.int .i64 4, .bool y.is, .int .i64 y.n, .str y.text, y.iv, y.kv]] = K0
                have hA : hget K0 H.length 0 = some [.int .i64 4, .bool x.is, .int .i64 x.n, .str x.text, x.iv, x.kv] := by rw [← hK0]; exact hgA _ _
                have hB : hget K0 (H.length + 1) 0 = some [.int .i64 4, .bool y.is, .int .i64 y.n, .str y.text, y.iv, y.kv] := by rw [← hK0, hget_new (by simp), if_pos rfl]
                have hKl : H.length ≤ K0.length := by rw [← hK0]; simp
                refine loop_rule (fun k fr K => ∃ (i : Nat), k = x.items.length - i ∧ i ≤ x.items.length ∧ fr.length = 119 ∧ fget fr 2 = .ptr H.length 0 0 ∧ fget fr 3 = .ptr (H.length + 1) 0 0 ∧ fget fr 79 = .int .i64 x.items.length ∧ fget fr 80 = .int .i64 i ∧ K = K0 ∧ sameJs x.items y.items = sameJs (x.items.drop i) (y.items.drop i)) ?_ x.items.length _ _ ⟨0, by simp [wk, aBuiltin, AV.cells, AV.leaf, Nat.reduceEqDiff, Nat.reduceLT, Nat.reduceAdd, Nat.reduceLeDiff, reduceCtorEq, Nat.reduceMul, Nat.reduceMod, cfgP, u14, hlen]⟩
                rintro k fr K ⟨i, rfl, hi, hlen, a2, a3, a79, a80, rfl, hc⟩ ih
                simp only [wk, aBuiltin, AV.cells, AV.leaf, Nat.reduceEqDiff, Nat.reduceLT, Nat.reduceAdd, Nat.reduceLeDiff, reduceCtorEq, Nat.reduceMul, Nat.reduceMod, cfgP, u14, hlen, a2, a3, a79, a80]
                refine RC_split (fun h => ?_) (fun h => ?_)
                · have hlt : i < x.items.length := by simpa using h
                  have hlt2 : i < y.items.length := by omega
                  have e1 := x.iv_sl.at (k := .i64) Tryd.underlying39 sz41 encJ_len hlt
                  have e2 := y.iv_sl.at (k := .i64) Tryd.underlying39 sz41 encJ_len hlt2
                  have hww : IntKind.i64.wrap ((i : Int) + 1) = ((i + 1 : Nat) : Int) := by rw [wrap64 (by omega) (by omega)]; simp
                  have hm1 : x.items[i] ∈ x.items := List.getElem_mem hlt
                  have hm2 : y.items[i] ∈ y.items := List.getElem_mem hlt2
                  rw [List.drop_eq_getElem_cons hlt, List.drop_eq_getElem_cons hlt2, sameJs] at hc
                  generalize x.items[i] = u at *
                  generalize y.items[i] = w at *
                  have n1 := n1 u hm1 w hm2 K hKl
                  have e1u := encJ_eq u
                  have e1w := encJ_eq w
                  rw [e1u] at e1
                  rw [e1w] at e2
                  rw [e1u, e1w] at n1
                  cases hab : sameJ u w with
                  | true =>
                    rw [hab] at n1 hc
                    rw [Bool.true_and] at hc
                    simp only [wk, aBuiltin, AV.cells, AV.leaf, Nat.reduceEqDiff, Nat.reduceLT, Nat.reduceAdd, Nat.reduceLeDiff, reduceCtorEq, Nat.reduceMul, Nat.reduceMod, cfgP, u14, hlen, a2, a3, a79, a80, hA, hB, e1, e2, n1, hww]
                    refine ih _ _ (x.items.length - (i + 1)) (by omega) ⟨i + 1, rfl, hlt, ?_⟩
                    rw [hc]
                    simp [wk, aBuiltin, AV.cells, AV.leaf, Nat.reduceEqDiff, Nat.reduceLT, Nat.reduceAdd, Nat.reduceLeDiff, reduceCtorEq, Nat.reduceMul, Nat.reduceMod, cfgP, u14, hlen, a2, a3, a79]
                  | false =>
                    rw [hab] at n1 hc
                    rw [Bool.false_and] at hc
                    simp only [wk, aBuiltin, AV.cells, AV.leaf, Nat.reduceEqDiff, Nat.reduceLT, Nat.reduceAdd, Nat.reduceLeDiff, reduceCtorEq, Nat.reduceMul, Nat.reduceMod, cfgP, u14, hlen, a2, a3, a79, a80, hA, hB, e1, e2, n1]
                    rw [hc]
                    exact Fin_pure (l := [.bool false]) (by simp [wk, aBuiltin, AV.cells, AV.leaf, Nat.reduceEqDiff, Nat.reduceLT, Nat.reduceAdd, Nat.reduceLeDiff, reduceCtorEq, Nat.reduceMul, Nat.reduceMod, cfgP, u14, aResults, aResult, hlen]) (.still rfl) (by simp)
                · have hnl : ¬ i < x.items.length := by simpa using h
                  rw [List.drop_eq_nil_of_le (by omega), List.drop_eq_nil_of_le (by omega), sameJs] at hc
                  rw [hc]
                  simp only [wk, aBuiltin, AV.cells, AV.leaf, Nat.reduceEqDiff, Nat.reduceLT, Nat.reduceAdd, Nat.reduceLeDiff, reduceCtorEq, Nat.reduceMul, Nat.reduceMod, cfgP, u14, hlen, a2, a3, hA, xkl]
                  refine loop_rule (fun k fr K' => ∃ (j : Nat), k = x.keys.length - j ∧ j ≤ x.keys.length ∧ fr.length = 119 ∧ fget fr 2 = .ptr H.length 0 0 ∧ fget fr 3 = .ptr (H.length + 1) 0 0 ∧ fget fr 98 = .int .i64 x.keys.length ∧ fget fr 99 = .int .i64 j ∧ K' = K) ?_ x.keys.length _ _ ⟨0, by simp [wk, aBuiltin, AV.cells, AV.leaf, Nat.reduceEqDiff, Nat.reduceLT, Nat.reduceAdd, Nat.reduceLeDiff, reduceCtorEq, Nat.reduceMul, Nat.reduceMod, cfgP, u14, hlen, a2, a3]⟩
                  rintro k fr K' ⟨j, rfl, hj, hlen, a2, a3, a98, a99, rfl⟩ ih2
                  simp only [wk, aBuiltin, AV.cells, AV.leaf, Nat.reduceEqDiff, Nat.reduceLT, Nat.reduceAdd, Nat.reduceLeDiff, reduceCtorEq, Nat.reduceMul, Nat.reduceMod, cfgP, u14, hlen, a2, a3, a98, a99]
                  refine RC_split (fun h => ?_) (fun h => ?_)
                  · have hlt : j < x.keys.length := by simpa using h
                    have hww : IntKind.i64.wrap ((j : Int) + 1) = ((j + 1 : Nat) : Int) := by rw [wrap64 (by omega) (by omega)]; simp
                    simp only [wk, aBuiltin, AV.cells, AV.leaf, Nat.reduceEqDiff, Nat.reduceLT, Nat.reduceAdd, Nat.reduceLeDiff, reduceCtorEq, Nat.reduceMul, Nat.reduceMod, cfgP, u14, hlen, a2, a3, a98, a99, hA, i45, none_beq, hww]
                    refine ih2 _ _ (x.keys.length - (j + 1)) (by omega) ⟨j + 1, rfl, hlt, ?_⟩
                    simp [wk, aBuiltin, AV.cells, AV.leaf, Nat.reduceEqDiff, Nat.reduceLT, Nat.reduceAdd, Nat.reduceLeDiff, reduceCtorEq, Nat.reduceMul, Nat.reduceMod, cfgP, u14, hlen, a2, a3, a98]
                  · simp only [wk, aBuiltin, AV.cells, AV.leaf, Nat.reduceEqDiff, Nat.reduceLT, Nat.reduceAdd, Nat.reduceLeDiff, reduceCtorEq, Nat.reduceMul, Nat.reduceMod, cfgP, u14, hlen, a2, a3]
                    exact Fin_pure (l := [.bool true]) (by simp [wk, aBuiltin, AV.cells, AV.leaf, Nat.reduceEqDiff, Nat.reduceLT, Nat.reduceAdd, Nat.reduceLeDiff, reduceCtorEq, Nat.reduceMul, Nat.reduceMod, cfgP, u14, aResults, aResult, hlen]) (.still rfl) (by simp)
              · have hil' : (((x.items.length : Nat) : Int) = (y.items.length : Nat)) = False := by simp; omega
                simp only [wk, aBuiltin, AV.cells, AV.leaf, Nat.reduceEqDiff, Nat.reduceLT, Nat.reduceAdd, Nat.reduceLeDiff, reduceCtorEq, Nat.reduceMul, Nat.reduceMod, cfgP, u14, hlen, a0, a1, hgA, l1, l2, l3, l4, i41, i42, i43, i45, none_beq, xil, yil, hil', List.length_append]
                rw [sameJs_len _ _ hil]
                exact Fin_pure (l := [.bool false]) (by simp [wk, aBuiltin, AV.cells, AV.leaf, Nat.reduceEqDiff, Nat.reduceLT, Nat.reduceAdd, Nat.reduceLeDiff, reduceCtorEq, Nat.reduceMul, Nat.reduceMod, cfgP, u14, aResults, aResult, hlen]) (.still rfl) (by simp)
            · rw [if_neg h4]
              rw [← hk] at a1
              simp only [wk, aBuiltin, AV.cells, AV.leaf, Nat.reduceEqDiff, Nat.reduceLT, Nat.reduceAdd, Nat.reduceLeDiff, reduceCtorEq, Nat.reduceMul, Nat.reduceMod, cfgP, u14, hlen, a0, a1, hgA, l1, l2, l3, l4, h1, h2, h3, h4, h5, none_beq, List.length_append]
              exact Fin_pure (l := [.bool true]) (by simp [wk, aBuiltin, AV.cells, AV.leaf, Nat.reduceEqDiff, Nat.reduceLT, Nat.reduceAdd, Nat.reduceLeDiff, reduceCtorEq, Nat.reduceMul, Nat.reduceMod, cfgP, u14, aResults, aResult, hlen]) (.still rfl) (by simp)
  · rw [if_pos (by simpa using hk)]
    simp only [wk, aBuiltin, AV.cells, AV.leaf, Nat.reduceEqDiff, Nat.reduceLT, Nat.reduceAdd, Nat.reduceLeDiff, reduceCtorEq, Nat.reduceMul, Nat.reduceMod, cfgP, u14, hlen, a0, a1, hgA, l1, l2, l3, l4, hk, none_beq, List.length_append]
    exact Fin_pure (l := [.bool false]) (by simp [wk, aBuiltin, AV.cells, AV.leaf, Nat.reduceEqDiff, Nat.reduceLT, Nat.reduceAdd, Nat.reduceLeDiff, reduceCtorEq, Nat.reduceMul, Nat.reduceMod, cfgP, u14, aResults, aResult, hlen]) (.still rfl) (by simp)
end Go.Proofs.YtimbhlbkidmplaaDoor
