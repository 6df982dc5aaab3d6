import Derived.Test.YtnipaiklandliaaGreatDoorM1MatchEither
import Derived.Test.YtnipaiklandliaaGreatDoorAbsSeat
import Derived.Test.YtnipaiklandliaaGreatDoorAbsSet
import Derived.Test.YtnipaiklandliaaGreatDoorAbsRows
import Derived.Test.YtnipaiklandliaaGreatDoorAbsMore
/-! Part 2 of the proof of MatchEither. -/
set_option linter.unusedSimpArgs false
/- Chapter 15: the program's reader of expressions: its small parts, walked. -/
namespace Go.Abs
open Go
open Nat (reduceEqDiff reduceLT reduceAdd reduceLeDiff reduceMul reduceMod)
theorem Row.low {α : Type} {enc : α → AV} {sz : Nat} {ag : Bool} {base base' : Nat} {H : Heap} {v : AV} {l : List α} (h : Row enc sz ag base H v l) (hb : base' ≤ base) : Row enc sz ag base' H v l := by
 rcases h with h | ⟨b, ver, h1, h2, h3, h4⟩
 · exact .inl h
 · exact .inr ⟨b, ver, h1, by omega, h3, h4⟩
theorem Row.setne {α : Type} {enc : α → AV} {sz : Nat} {ag : Bool} {base b' : Nat} {H : Heap} {v : AV} {l : List α} (h : Row enc sz ag base H v l) (hb : b' < base) (k : Blk) : Row enc sz ag base (H.set b' k) v l := by
 rcases h with h | ⟨b, ver, h1, h2, h3, h4⟩
 · exact .inl h
 · exact .inr ⟨b, ver, h1, h2, by rw [hget_set_ne (by omega)]; exact h3, h4⟩
end Go.Abs
namespace Go.Proofs.YtnipaiklandliaaGreatDoor
open Go Go.Abs AbsSeat Ty
open Nat (reduceEqDiff reduceLT reduceAdd reduceLeDiff reduceMul reduceMod)
theorem u185 : type_of% (And.intro (fun (K : Heap) (n : Int) => conv_int Tryz.underlying21 Tryz.underlying5 K n) (And.intro (show tagT Tryz.prog 176 = 0 from by kernel_rfl) (And.intro ag1 (And.intro sz1 (And.intro by1 (And.intro ze1 (And.intro Tryz.underlying1 (And.intro ag3 (And.intro sz3 (And.intro by3 (And.intro ze3 (And.intro Tryz.underlying3 (And.intro ag4 (And.intro sz4 (And.intro by4 (And.intro ze4 (And.intro Tryz.underlying4 (And.intro ag5 (And.intro sz5 (And.intro by5 (And.intro ze5 (And.intro Tryz.underlying5 (And.intro ag9 (And.intro sz9 (And.intro by9 (And.intro ze9 (And.intro Tryz.underlying9 (And.intro ag21 (And.intro sz21 (And.intro by21 (And.intro ze21 (And.intro Tryz.underlying21 (And.intro ag28 (And.intro sz28 (And.intro by28 (And.intro ze28 (And.intro Tryz.underlying28 (And.intro ag173 (And.intro sz173 (And.intro by173 (And.intro se173 (And.intro ze173 (And.intro Tryz.underlying173 (And.intro ag176 (And.intro sz176 (And.intro by176 (And.intro ze176 (And.intro bu176 (And.intro Tryz.underlying176 (And.intro ag205 (And.intro sz205 (And.intro by205 (And.intro ze205 (And.intro Tryz.underlying205 (And.intro ag206 (And.intro sz206 (And.intro by206 (And.intro se206 (And.intro ze206 (And.intro Tryz.underlying206 (And.intro ag209 (And.intro sz209 (And.intro by209 (And.intro ze209 (And.intro bu209 (And.intro Tryz.underlying209 (And.intro ag276 (And.intro sz276 (And.intro by276 (And.intro ze276 (And.intro bu276 (And.intro Tryz.underlying276 (And.intro fa209_0 (And.intro fd209_0 (And.intro fa209_1 fd209_1))))))))))))))))))))))))))))))))))))))))))))))))))))))))))))))))))))))))))) := And.intro (fun (K : Heap) (n : Int) => conv_int Tryz.underlying21 Tryz.underlying5 K n) (And.intro (show tagT Tryz.prog 176 = 0 from by kernel_rfl) (And.intro ag1 (And.intro sz1 (And.intro by1 (And.intro ze1 (And.intro Tryz.underlying1 (And.intro ag3 (And.intro sz3 (And.intro by3 (And.intro ze3 (And.intro Tryz.underlying3 (And.intro ag4 (And.intro sz4 (And.intro by4 (And.intro ze4 (And.intro Tryz.underlying4 (And.intro ag5 (And.intro sz5 (And.intro by5 (And.intro ze5 (And.intro Tryz.underlying5 (And.intro ag9 (And.intro sz9 (And.intro by9 (And.intro ze9 (And.intro Tryz.underlying9 (And.intro ag21 (And.intro sz21 (And.intro by21 (And.intro ze21 (And.intro Tryz.underlying21 (And.intro ag28 (And.intro sz28 (And.intro by28 (And.intro ze28 (And.intro Tryz.underlying28 (And.intro ag173 (And.intro sz173 (And.intro by173 (And.intro se173 (And.intro ze173 (And.intro Tryz.underlying173 (And.intro ag176 (And.intro sz176 (And.intro by176 (And.intro ze176 (And.intro bu176 (And.intro Tryz.underlying176 (And.intro ag205 (And.intro sz205 (And.intro by205 (And.intro ze205 (And.intro Tryz.underlying205 (And.intro ag206 (And.intro sz206 (And.intro by206 (And.intro se206 (And.intro ze206 (And.intro Tryz.underlying206 (And.intro ag209 (And.intro sz209 (And.intro by209 (And.intro ze209 (And.intro bu209 (And.intro Tryz.underlying209 (And.intro ag276 (And.intro sz276 (And.intro by276 (And.intro ze276 (And.intro bu276 (And.intro Tryz.underlying276 (And.intro fa209_0 (And.intro fd209_0 (And.intro fa209_1 fd209_1))))))))))))))))))))))))))))))))))))))))))))))))))))))))))))))))))))))))))
def g185 : Code :=
 .seq (.region 0 #[q 2 (.assign (.const (.int .i32 0))) 21] false) (.seq (.seq (.region 1 #[q 3 (.move (.tmp 0)) 205, q 4 (.nilCheck (.tmp 3)) 0, q 5 (.fieldAddr 209 (.tmp 4) 1) 0, q 6 (.load 3 (.tmp 5)) 3, q 7 (.move (.tmp 0)) 205, q 8 (.nilCheck (.tmp 7)) 0, q 9 (.fieldAddr 209 (.tmp 8) 0) 0, q 10 (.load 206 (.tmp 9)) 206, q 11 (bi .len #[.tmp 10] #[206]) 3, q 12 (.binOp .geq 3 (.tmp 6) (.tmp 11) 3) 4] false) (.cond (.tmp 12) (.seq (.region 2 #[q 2 (.assign (.const (.int .i32 (-1)))) 21] false) .ret) .skip)) (.seq (.region 3 #[q 13 (.move (.tmp 0)) 205, q 14 (.nilCheck (.tmp 13)) 0, q 15 (.fieldAddr 209 (.tmp 14) 0) 0, q 16 (.load 206 (.tmp 15)) 206, q 17 (.move (.tmp 0)) 205, q 18 (.nilCheck (.tmp 17)) 0, q 19 (.fieldAddr 209 (.tmp 18) 1) 0, q 20 (.load 3 (.tmp 19)) 3, q 21 (.indexAddr 206 (.tmp 16) (.tmp 20)) 0, q 22 (.load 21 (.tmp 21)) 21, q 2 (.assign (.tmp 22)) 21] false) .ret))
theorem s185 : Tryz.f185.body.map (slim cfg) = some g185 := by kernel_rfl
def g173 : Code :=
 .seq (.region 0 #[q 4 (.assign (.const (.bool false))) 4] false) (.seq (.seq (.region 1 #[q 5 (.move (.tmp 0)) 205, q 6 (cl 185 #[.tmp 5] #[205]) 21, q 7 (.move (.tmp 1)) 21, q 8 (.binOp .neq 21 (.tmp 6) (.tmp 7) 21) 4] false) (.cond (.tmp 8) (.seq (.region 2 #[q 4 (.assign (.const (.bool false))) 4] false) .ret) .skip)) (.seq (.region 3 #[q 9 (.move (.tmp 0)) 205, q 10 (.nilCheck (.tmp 9)) 0, q 11 (.fieldAddr 209 (.tmp 10) 1) 0, q 12 (.load 3 (.tmp 11)) 3, q 13 (.binOp .add 3 (.tmp 12) (ik 1) 3) 3, q 14 (.nilCheck (.tmp 9)) 0, q 15 (.fieldAddr 209 (.tmp 14) 1) 0, qn (.store 3 (.tmp 15) (.tmp 13)) 0] false) (.seq (.region 4 #[q 4 (.assign (.const (.bool true))) 4] false) .ret)))
theorem s173 : Tryz.f173.body.map (slim cfg) = some g173 := by kernel_rfl
def g202 : Code :=
 .seq (.region 0 #[q 4 (.assign (.const (.bool false))) 4] false) (.seq (.region 1 #[q 5 (.move (.tmp 1)) 21, q 6 (.binOp .geq 21 (.tmp 5) (.const (.int .i32 0)) 21) 4, q 7 (.move (.tmp 6)) 4, qg 8 (.move (.tmp 1)) 21 2 true, qg 9 (.binOp .lss 21 (.tmp 8) (.const (.int .i32 128)) 21) 4 2 true, q 10 (.pick (.tmp 7) (.tmp 9) (.const (.bool false))) 4, q 11 (.move (.tmp 10)) 4, qg 12 (.move (.tmp 0)) 9 6 true, qg 13 (.move (.tmp 1)) 21 6 true, qg 14 (.convert 21 5 (.tmp 13)) 5 6 true, qg 15 (cl 74 #[.tmp 12, .tmp 14] #[9, 5]) 3 6 true, qg 16 (.binOp .geq 3 (.tmp 15) (ik 0) 3) 4 6 true, q 17 (.pick (.tmp 11) (.tmp 16) (.const (.bool false))) 4, q 4 (.assign (.tmp 17)) 4] false) .ret)
theorem s202 : Tryz.f202.body.map (slim cfg) = some g202 := by kernel_rfl
def g205 : Code :=
 .seq (.region 0 #[q 2 (.assign (.const (.bool false))) 4] false) (.seq (.region 1 #[q 3 (.move (.tmp 0)) 21, q 4 (.binOp .geq 21 (.tmp 3) (.const (.int .i32 48)) 21) 4, q 5 (.move (.tmp 4)) 4, qg 6 (.move (.tmp 0)) 21 2 true, qg 7 (.binOp .leq 21 (.tmp 6) (.const (.int .i32 57)) 21) 4 2 true, q 8 (.pick (.tmp 5) (.tmp 7) (.const (.bool false))) 4, q 9 (.move (.tmp 8)) 4, qg 10 (.move (.tmp 0)) 21 6 false, qg 11 (.binOp .geq 21 (.tmp 10) (.const (.int .i32 97)) 21) 4 6 false, qg 12 (.move (.tmp 11)) 4 6 false, qg 13 (.move (.tmp 0)) 21 9 true, qg 14 (.binOp .leq 21 (.tmp 13) (.const (.int .i32 122)) 21) 4 9 true, qg 15 (.pick (.tmp 12) (.tmp 14) (.const (.bool false))) 4 6 false, q 16 (.pick (.tmp 9) (.const (.bool true)) (.tmp 15)) 4, q 17 (.move (.tmp 16)) 4, qg 18 (.move (.tmp 0)) 21 14 false, qg 19 (.binOp .geq 21 (.tmp 18) (.const (.int .i32 65)) 21) 4 14 false, qg 20 (.move (.tmp 19)) 4 14 false, qg 21 (.move (.tmp 0)) 21 17 true, qg 22 (.binOp .leq 21 (.tmp 21) (.const (.int .i32 90)) 21) 4 17 true, qg 23 (.pick (.tmp 20) (.tmp 22) (.const (.bool false))) 4 14 false, q 24 (.pick (.tmp 17) (.const (.bool true)) (.tmp 23)) 4, q 2 (.assign (.tmp 24)) 4] false) .ret)
theorem s205 : Tryz.f205.body.map (slim cfg) = some g205 := by kernel_rfl
def g201 : Code :=
 .seq (.region 0 #[q 2 (.alloc 176) 0] false) (.seq (.region 1 #[q 3 (.move (.tmp 0)) 173, q 4 (.build 176 #[(0, ik 1), (2, .tmp 3)]) 176, qn (.store 176 (.tmp 2) (.tmp 4)) 0] false) .ret)
theorem s201 : Tryz.f201.body.map (slim cfg) = some g201 := by kernel_rfl
def g200 : Code :=
 .seq (.region 0 #[q 2 (.assign (.const (.slice none 0 0))) 173, q 3 (.assign (.const (.bool false))) 4] false) (.seq (.region 1 #[q 5 (.move (.tmp 0)) 205, q 6 (cl 185 #[.tmp 5] #[205]) 21, q 4 (.assign (.tmp 6)) 21] false) (.seq (.region 2 #[q 7 (.move (.tmp 0)) 205, q 8 (.nilCheck (.tmp 7)) 0, q 9 (.fieldAddr 209 (.tmp 8) 1) 0, q 10 (.load 3 (.tmp 9)) 3, q 11 (.binOp .add 3 (.tmp 10) (ik 1) 3) 3, q 12 (.nilCheck (.tmp 7)) 0, q 13 (.fieldAddr 209 (.tmp 12) 1) 0, qn (.store 3 (.tmp 13) (.tmp 11)) 0] false) (.seq (.seq (.region 3 #[q 14 (.move (.tmp 4)) 21] false) (.block 0 (.seq (.region 4 #[q 16 (.binOp .eql 21 (.tmp 14) (.const (.int .i32 100)) 21) 4, q 15 (.assign (.tmp 16)) 4] false) (.cond (.tmp 15) (.seq (.region 5 #[q 17 (.build 276 #[(0, .const (.int .i32 48)), (1, .const (.int .i32 57))]) 276, q 18 (.buildSlice 173 1 #[(0, .tmp 17)]) 173, q 2 (.assign (.tmp 18)) 173, q 3 (.assign (.const (.bool true))) 4] false) .ret) (.seq (.region 6 #[q 20 (.binOp .eql 21 (.tmp 14) (.const (.int .i32 119)) 21) 4, q 19 (.assign (.tmp 20)) 4] false) (.cond (.tmp 19) (.seq (.region 7 #[q 21 (.build 276 #[(0, .const (.int .i32 97)), (1, .const (.int .i32 122))]) 276, q 22 (.build 276 #[(0, .const (.int .i32 65)), (1, .const (.int .i32 90))]) 276, q 23 (.build 276 #[(0, .const (.int .i32 48)), (1, .const (.int .i32 57))]) 276, q 24 (.build 276 #[(0, .const (.int .i32 95)), (1, .const (.int .i32 95))]) 276, q 25 (.buildSlice 173 4 #[(0, .tmp 21), (1, .tmp 22), (2, .tmp 23), (3, .tmp 24)]) 173, q 2 (.assign (.tmp 25)) 173, q 3 (.assign (.const (.bool true))) 4] false) .ret) (.seq (.region 8 #[q 27 (.binOp .eql 21 (.tmp 14) (.const (.int .i32 115)) 21) 4, q 26 (.assign (.tmp 27)) 4] false) (.cond (.tmp 26) (.seq (.region 9 #[q 28 (.build 276 #[(0, .const (.int .i32 9)), (1, .const (.int .i32 9))]) 276, q 29 (.build 276 #[(0, .const (.int .i32 10)), (1, .const (.int .i32 10))]) 276, q 30 (.build 276 #[(0, .const (.int .i32 13)), (1, .const (.int .i32 13))]) 276, q 31 (.build 276 #[(0, .const (.int .i32 32)), (1, .const (.int .i32 32))]) 276, q 32 (.buildSlice 173 4 #[(0, .tmp 28), (1, .tmp 29), (2, .tmp 30), (3, .tmp 31)]) 173, q 2 (.assign (.tmp 32)) 173, q 3 (.assign (.const (.bool true))) 4] false) .ret) .skip)))))))) (.seq (.region 10 #[q 33 (.move (.tmp 4)) 21, q 34 (.move (.tmp 4)) 21, q 35 (.build 276 #[(0, .tmp 33), (1, .tmp 34)]) 276, q 36 (.buildSlice 173 1 #[(0, .tmp 35)]) 173, q 37 (.move (.tmp 4)) 21, q 38 (.binOp .gtr 21 (.tmp 37) (.const (.int .i32 32)) 21) 4, q 39 (.move (.tmp 38)) 4, qg 40 (.move (.tmp 4)) 21 6 true, qg 41 (.binOp .lss 21 (.tmp 40) (.const (.int .i32 127)) 21) 4 6 true, q 42 (.pick (.tmp 39) (.tmp 41) (.const (.bool false))) 4, q 43 (.move (.tmp 42)) 4, qg 44 (.move (.tmp 4)) 21 10 true, qg 45 (cl 205 #[.tmp 44] #[21]) 4 10 true, qg 46 (.unOp .not 4 (.tmp 45)) 4 10 true, q 47 (.pick (.tmp 43) (.tmp 46) (.const (.bool false))) 4, q 2 (.assign (.tmp 36)) 173, q 3 (.assign (.tmp 47)) 4] false) .ret))))
theorem s200 : Tryz.f200.body.map (slim cfg) = some g200 := by kernel_rfl
def g203 : Code :=
 .seq (.region 0 #[q 2 (.assign (ik 0)) 3, q 3 (.assign (.const (.bool false))) 4] false) (.seq (.region 1 #[q 7 (.move (.tmp 0)) 205, q 8 (.nilCheck (.tmp 7)) 0, q 9 (.fieldAddr 209 (.tmp 8) 1) 0, q 10 (.load 3 (.tmp 9)) 3, q 4 (.assign (.tmp 10)) 3] false) (.seq (.block 0 (.loop (.seq (.seq (.region 2 #[q 11 (.move (.tmp 0)) 205, q 12 (.nilCheck (.tmp 11)) 0, q 13 (.fieldAddr 209 (.tmp 12) 1) 0, q 14 (.load 3 (.tmp 13)) 3, q 15 (.move (.tmp 0)) 205, q 16 (.nilCheck (.tmp 15)) 0, q 17 (.fieldAddr 209 (.tmp 16) 0) 0, q 18 (.load 206 (.tmp 17)) 206, q 19 (bi .len #[.tmp 18] #[206]) 3, q 20 (.binOp .lss 3 (.tmp 14) (.tmp 19) 3) 4, q 21 (.move (.tmp 20)) 4, qg 22 (.move (.tmp 0)) 205 10 true, qg 23 (.nilCheck (.tmp 22)) 0 10 true, qg 24 (.fieldAddr 209 (.tmp 23) 1) 0 10 true, qg 25 (.load 3 (.tmp 24)) 3 10 true, qg 26 (.move (.tmp 4)) 3 10 true, qg 27 (.binOp .sub 3 (.tmp 25) (.tmp 26) 3) 3 10 true, qg 28 (.binOp .lss 3 (.tmp 27) (ik 2) 3) 4 10 true, q 29 (.pick (.tmp 21) (.tmp 28) (.const (.bool false))) 4, q 30 (.move (.tmp 29)) 4, qg 31 (.move (.tmp 0)) 205 19 true, qg 32 (.nilCheck (.tmp 31)) 0 19 true, qg 33 (.fieldAddr 209 (.tmp 32) 0) 0 19 true, qg 34 (.load 206 (.tmp 33)) 206 19 true, qg 35 (.move (.tmp 0)) 205 19 true, qg 36 (.nilCheck (.tmp 35)) 0 19 true, qg 37 (.fieldAddr 209 (.tmp 36) 1) 0 19 true, qg 38 (.load 3 (.tmp 37)) 3 19 true, qg 39 (.indexAddr 206 (.tmp 34) (.tmp 38)) 0 19 true, qg 40 (.load 21 (.tmp 39)) 21 19 true, qg 41 (.binOp .geq 21 (.tmp 40) (.const (.int .i32 48)) 21) 4 19 true, q 42 (.pick (.tmp 30) (.tmp 41) (.const (.bool false))) 4, q 43 (.move (.tmp 42)) 4, qg 44 (.move (.tmp 0)) 205 32 true, qg 45 (.nilCheck (.tmp 44)) 0 32 true, qg 46 (.fieldAddr 209 (.tmp 45) 0) 0 32 true, qg 47 (.load 206 (.tmp 46)) 206 32 true, qg 48 (.move (.tmp 0)) 205 32 true, qg 49 (.nilCheck (.tmp 48)) 0 32 true, qg 50 (.fieldAddr 209 (.tmp 49) 1) 0 32 true, qg 51 (.load 3 (.tmp 50)) 3 32 true, qg 52 (.indexAddr 206 (.tmp 47) (.tmp 51)) 0 32 true, qg 53 (.load 21 (.tmp 52)) 21 32 true, qg 54 (.binOp .leq 21 (.tmp 53) (.const (.int .i32 57)) 21) 4 32 true, q 55 (.pick (.tmp 43) (.tmp 54) (.const (.bool false))) 4] false) (.cond (.tmp 55) .skip (.exit 0))) (.block 1 (.region 3 #[q 56 (.move (.tmp 0)) 205, q 57 (.nilCheck (.tmp 56)) 0, q 58 (.fieldAddr 209 (.tmp 57) 1) 0, q 59 (.load 3 (.tmp 58)) 3, q 60 (.binOp .add 3 (.tmp 59) (ik 1) 3) 3, q 61 (.nilCheck (.tmp 56)) 0, q 62 (.fieldAddr 209 (.tmp 61) 1) 0, qn (.store 3 (.tmp 62) (.tmp 60)) 0] false))))) (.seq (.region 4 #[q 64 (.move (.tmp 0)) 205, q 65 (.nilCheck (.tmp 64)) 0, q 66 (.fieldAddr 209 (.tmp 65) 0) 0, q 67 (.load 206 (.tmp 66)) 206, q 68 (.move (.tmp 4)) 3, q 69 (.move (.tmp 0)) 205, q 70 (.nilCheck (.tmp 69)) 0, q 71 (.fieldAddr 209 (.tmp 70) 1) 0, q 72 (.load 3 (.tmp 71)) 3, q 73 (.slice 206 (.tmp 67) (some (.tmp 68)) (some (.tmp 72)) none) 206, q 74 (.convert 206 9 (.tmp 73)) 9, q 75 (cl 206 #[.tmp 74] #[9]) 286, q 63 (.move (.tmp 75)) 286, q 76 (.extract (.tmp 63) 0) 3, q 77 (.extract (.tmp 63) 1) 28, q 5 (.assign (.tmp 76)) 3, q 6 (.assign (.tmp 77)) 28] false) (.seq (.region 5 #[q 78 (.move (.tmp 5)) 3, q 79 (.move (.tmp 6)) 28, q 80 (.binOp .eql 28 (.tmp 79) (ik 0) 28) 4, q 81 (.move (.tmp 80)) 4, qg 82 (.move (.tmp 5)) 3 3 true, qg 83 (.binOp .leq 3 (.tmp 82) (ik 16) 3) 4 3 true, q 84 (.pick (.tmp 81) (.tmp 83) (.const (.bool false))) 4, q 2 (.assign (.tmp 78)) 3, q 3 (.assign (.tmp 84)) 4] false) .ret))))
theorem s203 : Tryz.f203.body.map (slim cfg) = some g203 := by kernel_rfl
def g194 : Code :=
 .seq (.region 0 #[q 2 (.assign (ik 0)) 3, q 3 (.assign (ik 0)) 3, q 4 (.assign (.const (.bool false))) 4] false) (.seq (.region 1 #[q 9 (.move (.tmp 0)) 205, q 10 (cl 203 #[.tmp 9] #[205]) 155, q 8 (.move (.tmp 10)) 155, q 11 (.extract (.tmp 8) 0) 3, q 12 (.extract (.tmp 8) 1) 4, q 5 (.assign (.tmp 11)) 3, q 6 (.assign (.tmp 12)) 4] false) (.seq (.seq (.region 2 #[q 13 (.move (.tmp 6)) 4, q 14 (.unOp .not 4 (.tmp 13)) 4] false) (.cond (.tmp 14) (.seq (.region 3 #[q 2 (.assign (ik 0)) 3, q 3 (.assign (ik 0)) 3, q 4 (.assign (.const (.bool false))) 4] false) .ret) .skip)) (.seq (.region 4 #[q 15 (.move (.tmp 5)) 3, q 7 (.assign (.tmp 15)) 3] false) (.seq (.seq (.region 5 #[q 16 (.move (.tmp 0)) 205, q 17 (cl 173 #[.tmp 16, .const (.int .i32 44)] #[205, 21]) 4] false) (.cond (.tmp 17) (.seq (.region 6 #[q 7 (.assign (ik (-1))) 3] false) (.seq (.region 7 #[q 18 (.move (.tmp 0)) 205, q 19 (cl 185 #[.tmp 18] #[205]) 21, q 20 (.binOp .neq 21 (.tmp 19) (.const (.int .i32 125)) 21) 4] false) (.cond (.tmp 20) (.seq (.region 8 #[q 22 (.move (.tmp 0)) 205, q 23 (cl 203 #[.tmp 22] #[205]) 155, q 21 (.move (.tmp 23)) 155, q 24 (.extract (.tmp 21) 0) 3, q 25 (.extract (.tmp 21) 1) 4, q 7 (.assign (.tmp 24)) 3, q 6 (.assign (.tmp 25)) 4] false) (.seq (.region 9 #[q 26 (.move (.tmp 6)) 4, q 27 (.unOp .not 4 (.tmp 26)) 4, q 28 (.move (.tmp 27)) 4, qg 29 (.move (.tmp 7)) 3 2 false, qg 30 (.move (.tmp 5)) 3 2 false, qg 31 (.binOp .lss 3 (.tmp 29) (.tmp 30) 3) 4 2 false, q 32 (.pick (.tmp 28) (.const (.bool true)) (.tmp 31)) 4] false) (.cond (.tmp 32) (.seq (.region 10 #[q 2 (.assign (ik 0)) 3, q 3 (.assign (ik 0)) 3, q 4 (.assign (.const (.bool false))) 4] false) .ret) .skip))) .skip))) .skip)) (.seq (.region 11 #[q 33 (.move (.tmp 5)) 3, q 34 (.move (.tmp 7)) 3, q 35 (.move (.tmp 0)) 205, q 36 (cl 173 #[.tmp 35, .const (.int .i32 125)] #[205, 21]) 4, q 2 (.assign (.tmp 33)) 3, q 3 (.assign (.tmp 34)) 3, q 4 (.assign (.tmp 36)) 4] false) .ret)))))
theorem s194 : Tryz.f194.body.map (slim cfg) = some g194 := by kernel_rfl
structure Sg where
 lo : Int
 hi : Int
def encG (x : Sg) : AV := .agg [.int .i32 x.lo, .int .i32 x.hi]
theorem encG_len (x : Sg) : (encG x).cells.length = 2 := rfl
theorem encG_T : EncT encG 2 true where
 len _ := rfl
 leaf x c hc := by simp [encG, AV.cells] at hc; rcases hc with rfl | rfl <;> rfl
 still x c hc := by simp [encG, AV.cells] at hc; rcases hc with rfl | rfl <;> rfl
 shape _ := rfl
theorem rowG : RowT Tryz.prog 173 276 2 8 true where
 un := Tryz.underlying173
 size := sz276
 bytes := by276
 agg := ag276
 zero := ⟨_, ze276, rfl⟩
 pos := by decide
 tree := rfl
theorem litG1 (a b : Int) (H : Heap) : aBuildSlice Tryz.prog H 173 1 [(0, .agg [.int .i32 a, .int .i32 b])] = some (.vs ([⟨a, b⟩].map encG) true, none) :=
 lit1 rowG encG_T ze276 rfl (by decide) (⟨a, b⟩ : Sg) rfl
theorem litG4 (a b c d e f g h : Int) (H : Heap) : aBuildSlice Tryz.prog H 173 4 [(0, .agg [.int .i32 a, .int .i32 b]), (1, .agg [.int .i32 c, .int .i32 d]), (2, .agg [.int .i32 e, .int .i32 f]), (3, .agg [.int .i32 g, .int .i32 h])] =
   some (.vs (([⟨a, b⟩, ⟨c, d⟩, ⟨e, f⟩, ⟨g, h⟩] : List Sg).map encG) true, none) := by
 simp [aBuildSlice, se173, sz276, by276, ag276, ze276, AV.cells, fillA, zrep, List.range_succ, splice, litOk, AV.scal, AV.plL, AV.pl, chunk, AV.leaf, encG]
def encI (n : Int) : AV := .int .i32 n
theorem encI_len (n : Int) : (encI n).cells.length = 1 := rfl
theorem encI_T : EncT encI 1 false where
 len _ := rfl
 leaf x c hc := by simp [encI, AV.cells] at hc; subst hc; rfl
 still x c hc := by simp [encI, AV.cells] at hc; subst hc; rfl
 shape _ := rfl
theorem encI_plL (l : List Int) : AV.plL (l.map encI) = true := by
 induction l with
 | nil => rfl
 | cons x r ih => simp only [List.map_cons, encI, AV.plL, AV.pl, Bool.true_and] at ih ⊢; exact ih
theorem slI_plain {l : List Int} {L : AV} (h : Sl encI L l) (x : Int) : AV.plL [L, .int .i64 x] = true := by
 cases h with
 | nil => rfl
 | vs l f => simp only [AV.plL, AV.pl, encI_plL, Bool.and_true]
def pk (l : List Int) (i : Nat) : Int := l.getD i (-1)
theorem pk_lt {l : List Int} {i : Nat} (h : i < l.length) : pk l i = l[i] := by simp [pk, List.getD, h]
theorem pk_ge {l : List Int} {i : Nat} (h : l.length ≤ i) : pk l i = -1 := by simp [pk, List.getD, h]
def Runes (l : List Int) : Prop := l.length < 1000000 ∧ ∀ r ∈ l, 0 ≤ r ∧ r < 2147483648
theorem pk_in {l : List Int} {i : Nat} (h : pk l i ≠ -1) : i < l.length := Classical.byContradiction fun hn => h (pk_ge (by omega))
theorem pk_nn {l : List Int} (hl : Runes l) (i : Nat) : -1 ≤ pk l i ∧ pk l i < 2147483648 := by
 by_cases h : i < l.length
 · rw [pk_lt h]
   have := hl.2 _ (List.getElem_mem h)
   omega
 · rw [pk_ge (by omega)]; omega
theorem peek_ok (l : List Int) (L : AV) (hL : Sl encI L l) (_hl : Runes l) (at_ b : Nat) (prot : Nat) (H : Heap) (hp : prot ≤ H.length) (hg : hget H b 0 = some [L, .int .i64 at_]) : aLim cfg prot 185 [.ptr b 0 0] H = some (.int .i32 (pk l at_), none) := by
 have hsnap : snap H [.ptr b 0 0] = some ([.ptr b 0 0], false) := rfl
 refine pure_slim rfl (by kernel_rfl) Tryz.func185 s185 hp hsnap (by simp [Tryz.f185]) fun fr hlen h => ?_
 simp only [Has, Nat.zero_add] at h
 obtain ⟨a0, -⟩ := h
 simp only [Tryz.f185] at hlen ⊢
 unfold g185
 by_cases h : at_ < l.length
 · have c1 : decide ((l.length : Int) ≤ (at_ : Nat)) = false := decide_eq_false (by omega)
   have e1 := hL.at (k := .i64) (i := at_) Tryz.underlying206 sz21 encI_len h
   rw [pk_lt h]
   generalize l[at_] = c at *
   simp only [w9, AV.cells, AV.leaf, reduceEqDiff, reduceLT, reduceAdd, reduceLeDiff, reduceCtorEq, reduceMul, reduceMod, u185, hlen, a0, hg, hL.len Tryz.underlying206, c1, e1, encI]
   exact Fin_pure (l := [.int .i32 c]) (by simp [w9, AV.cells, AV.leaf, reduceEqDiff, reduceLT, reduceAdd, reduceLeDiff, reduceCtorEq, reduceMul, reduceMod, u185, aResults, aResult, hlen]) (.still rfl) (by simp)
 · have c1 : decide ((l.length : Int) ≤ (at_ : Nat)) = true := decide_eq_true (by omega)
   rw [pk_ge (by omega)]
   simp only [w9, AV.cells, AV.leaf, reduceEqDiff, reduceLT, reduceAdd, reduceLeDiff, reduceCtorEq, reduceMul, reduceMod, u185, hlen, a0, hg, hL.len Tryz.underlying206, c1]
   exact Fin_pure (l := [.int .i32 (-1)]) (by simp [w9, AV.cells, AV.leaf, reduceEqDiff, reduceLT, reduceAdd, reduceLeDiff, reduceCtorEq, reduceMul, reduceMod, u185, aResults, aResult, hlen]) (.still rfl) (by simp)
theorem take_ok (l : List Int) (L : AV) (hL : Sl encI L l) (hl : Runes l) (at_ b : Nat) (c : Int) (hat : at_ ≤ 2000000) (prot : Nat) (H : Heap) (hp : prot ≤ b) (hg : hget H b 0 = some [L, .int .i64 at_]) :
   aLim cfg prot 173 [.ptr b 0 0, .int .i32 c] H = some (.bool (decide (pk l at_ = c)), some (H.set b (.cells 0 [L, .int .i64 ((if pk l at_ = c then at_ + 1 else at_ : Nat))]))) := by
 have hb := hget_lt hg
 have n1 := peek_ok l L hL hl at_ b prot H (by omega) hg
 have hww : IntKind.i64.wrap ((at_ : Int) + 1) = ((at_ + 1 : Nat) : Int) := by rw [wrap64 (by omega) (by omega)]; simp
 have hput1 : hput prot H b 0 1 [.int .i64 ((at_ + 1 : Nat))] = some (H.set b (.cells 0 [L, .int .i64 ((at_ + 1 : Nat))])) := by
   rw [hput_eq hg hp (by simp) (by simp [AV.leaf])]; rfl
 have hLb : AV.blwL H.length [L, .int .i64 ((at_ + 1 : Nat))] = true := plL_blwL _ _ (slI_plain hL _)
 have kp0 := Kp.start hg
 refine trim_slim rfl (by kernel_rfl) (by kernel_rfl) (by kernel_rfl) Tryz.func173 s173 (by simp [Tryz.f173]) fun fr hlen h => ?_
 simp only [Has, Nat.zero_add] at h
 obtain ⟨a0, a1, -⟩ := h
 simp only [Tryz.f173] at hlen ⊢
 unfold g173
 by_cases h : pk l at_ = c
 · have c1 : decide (¬ pk l at_ = c) = false := by simp [h]
   rw [if_pos h, decide_eq_true h]
   simp only [w9, AV.cells, AV.leaf, reduceEqDiff, reduceLT, reduceAdd, reduceLeDiff, reduceCtorEq, reduceMul, reduceMod, u185, hlen, a0, a1, n1, hg, c1, hww, hput1]
   exact (kp0.put hLb).fin (l := [.bool true]) (by simp [w9, AV.cells, AV.leaf, reduceEqDiff, reduceLT, reduceAdd, reduceLeDiff, reduceCtorEq, reduceMul, reduceMod, u185, hlen, aResults, aResult]) (.still rfl)
 · have c1 : decide (¬ pk l at_ = c) = true := by simp [h]
   rw [if_neg h, decide_eq_false h]
   simp only [w9, AV.cells, AV.leaf, reduceEqDiff, reduceLT, reduceAdd, reduceLeDiff, reduceCtorEq, reduceMul, reduceMod, u185, hlen, a0, a1, n1, hg, c1, hww, hput1]
   exact kp0.fin (l := [.bool false]) (by simp [w9, AV.cells, AV.leaf, reduceEqDiff, reduceLT, reduceAdd, reduceLeDiff, reduceCtorEq, reduceMul, reduceMod, u185, hlen, aResults, aResult]) (.still rfl)
def hasS (s : List UInt8) (c : Int) : Bool := s.any fun b => decide ((b.toNat : Int) = c)
theorem idxByte_mem (s : List UInt8) (c : UInt8) : 0 ≤ idxByte s c ↔ c ∈ s := by
 unfold idxByte
 cases h : (List.range s.length).find? fun i => s.getD i 0 == c with
 | none =>
   simp only [Int.reduceNeg, Int.reduceLE, false_iff]
   intro hm
   obtain ⟨i, hi, rfl⟩ := List.getElem_of_mem hm
   have := List.find?_eq_none.1 h i (by simpa using hi)
   simp [List.getD, hi] at this
 | some i =>
   have h1 := List.find?_some h
   have h2 := List.mem_of_find?_eq_some h
   simp only [List.mem_range] at h2
   simp only [List.getD, h2, List.getElem?_eq_getElem, Option.getD_some, beq_iff_eq] at h1
   simp only [Int.natCast_nonneg, true_iff]
   rw [← h1]; exact List.getElem_mem h2
theorem has_ok (s : List UInt8) (c : Int) (hs : s.all (fun b => decide (b.toNat < 128)) = true) (prot : Nat) (H : Heap) (hp : prot ≤ H.length) : aLim cfg prot 202 [.str s, .int .i32 c] H = some (.bool (hasS s c), none) := by
 have hsnap : snap H [.str s, .int .i32 c] = some ([.str s, .int .i32 c], false) := rfl
 have hs := List.all_eq_true.1 hs
 refine pure_slim rfl (by kernel_rfl) Tryz.func202 s202 hp hsnap (by simp [Tryz.f202]) fun fr hlen h => ?_
 simp only [Has, Nat.zero_add] at h
 obtain ⟨a0, a1, -⟩ := h
 simp only [Tryz.f202] at hlen ⊢
 unfold g202
 by_cases h : 0 ≤ c ∧ c < 128
 · obtain ⟨h1, h2⟩ := h
   obtain ⟨n, rfl⟩ : ∃ n : Nat, c = n := ⟨c.toNat, by omega⟩
   have en : (UInt8.ofNat n).toNat = n := by simp; omega
   have w1 : IntKind.u8.wrap (n : Int) = (n : Int) := by simp [IntKind.wrap, IntKind.bits, IntKind.signed]; omega
   have n1 := idxS_ok s (UInt8.ofNat n) H.length H (Nat.le_refl _)
   rw [en] at n1
   have e : decide ((0 : Int) ≤ idxByte s (UInt8.ofNat n)) = hasS s n := by
     rw [Bool.eq_iff_iff, decide_eq_true_iff, idxByte_mem]
     unfold hasS
     rw [List.any_eq_true]
     constructor
     · intro hm; exact ⟨_, hm, by rw [en]; simp⟩
     · rintro ⟨b, hb, he⟩
       have : b = UInt8.ofNat n := by
         have he' : (b.toNat : Int) = n := of_decide_eq_true he
         rw [← UInt8.toNat_inj, en]; omega
       rw [← this]; exact hb
   simp only [w9, AV.cells, AV.leaf, reduceEqDiff, reduceLT, reduceAdd, reduceLeDiff, reduceCtorEq, reduceMul, reduceMod, u185, hlen, a0, a1, h1, h2, w1, n1, e]
   exact Fin_pure (l := [.bool (hasS s n)]) (by simp [w9, AV.cells, AV.leaf, reduceEqDiff, reduceLT, reduceAdd, reduceLeDiff, reduceCtorEq, reduceMul, reduceMod, u185, aResults, aResult, hlen]) (.still rfl) (by simp)
 · have hf : hasS s c = false := by
     unfold hasS
     rw [List.any_eq_false]
     intro b hb he
     have := hs b hb
     simp at this he
     omega
   rw [hf]
   by_cases h1 : 0 ≤ c
   · have h2 : ¬ c < 128 := fun h2 => h ⟨h1, h2⟩
     simp only [w9, AV.cells, AV.leaf, reduceEqDiff, reduceLT, reduceAdd, reduceLeDiff, reduceCtorEq, reduceMul, reduceMod, u185, hlen, a0, a1, h1, h2, none_beq]
     exact Fin_pure (l := [.bool false]) (by simp [w9, AV.cells, AV.leaf, reduceEqDiff, reduceLT, reduceAdd, reduceLeDiff, reduceCtorEq, reduceMul, reduceMod, u185, aResults, aResult, hlen]) (.still rfl) (by simp)
   · simp only [w9, AV.cells, AV.leaf, reduceEqDiff, reduceLT, reduceAdd, reduceLeDiff, reduceCtorEq, reduceMul, reduceMod, u185, hlen, a0, a1, h1, none_beq]
     exact Fin_pure (l := [.bool false]) (by simp [w9, AV.cells, AV.leaf, reduceEqDiff, reduceLT, reduceAdd, reduceLeDiff, reduceCtorEq, reduceMul, reduceMod, u185, aResults, aResult, hlen]) (.still rfl) (by simp)
def wordyCX (c : Int) : Bool := decide (48 ≤ c ∧ c ≤ 57) || (decide (97 ≤ c ∧ c ≤ 122) || decide (65 ≤ c ∧ c ≤ 90))
theorem wordy_okX (c : Int) (prot : Nat) (H : Heap) (hp : prot ≤ H.length) : aLim cfg prot 205 [.int .i32 c] H = some (.bool (wordyCX c), none) := by
 have hsnap : snap H [.int .i32 c] = some ([.int .i32 c], false) := rfl
 have hc : (48 ≤ c ∧ c ≤ 57) ∨ (97 ≤ c ∧ c ≤ 122) ∨ (65 ≤ c ∧ c ≤ 90) ∨ (c < 48) ∨ (57 < c ∧ c < 65) ∨ (90 < c ∧ c < 97) ∨ 122 < c := by omega
 have hw : wordyCX c = decide ((48 ≤ c ∧ c ≤ 57) ∨ (97 ≤ c ∧ c ≤ 122) ∨ (65 ≤ c ∧ c ≤ 90)) := by simp [wordyCX]
 rw [hw]
 have d : ∀ (k : Int), decide (k ≤ c) = decide (k ≤ c) := fun _ => rfl
 refine pure_slim rfl (by kernel_rfl) Tryz.func205 s205 hp hsnap (by simp [Tryz.f205]) fun fr hlen h => ?_
 simp only [Has, Nat.zero_add] at h
 obtain ⟨a0, -⟩ := h
 simp only [Tryz.f205] at hlen ⊢
 unfold g205
 rcases hc with h | h | h | h | h | h | h
 · rw [decide_eq_true (by omega)]
   have d1 : decide (48 ≤ c) = true := decide_eq_true (by omega)
   have d2 : decide (c ≤ 57) = true := decide_eq_true (by omega)
   simp only [w9, AV.cells, AV.leaf, reduceEqDiff, reduceLT, reduceAdd, reduceLeDiff, reduceCtorEq, reduceMul, reduceMod, u185, hlen, a0, d1, d2, none_beq]
   exact Fin_pure (l := [.bool true]) (by simp [w9, AV.cells, AV.leaf, reduceEqDiff, reduceLT, reduceAdd, reduceLeDiff, reduceCtorEq, reduceMul, reduceMod, u185, aResults, aResult, hlen]) (.still rfl) (by simp)
 · rw [decide_eq_true (by omega)]
   have d1 : decide (48 ≤ c) = true := decide_eq_true (by omega)
   have d2 : decide (c ≤ 57) = false := decide_eq_false (by omega)
   have d3 : decide (97 ≤ c) = true := decide_eq_true (by omega)
   have d4 : decide (c ≤ 122) = true := decide_eq_true (by omega)
   simp only [w9, AV.cells, AV.leaf, reduceEqDiff, reduceLT, reduceAdd, reduceLeDiff, reduceCtorEq, reduceMul, reduceMod, u185, hlen, a0, d1, d2, d3, d4, none_beq]
   exact Fin_pure (l := [.bool true]) (by simp [w9, AV.cells, AV.leaf, reduceEqDiff, reduceLT, reduceAdd, reduceLeDiff, reduceCtorEq, reduceMul, reduceMod, u185, aResults, aResult, hlen]) (.still rfl) (by simp)
 · rw [decide_eq_true (by omega)]
   have d1 : decide (48 ≤ c) = true := decide_eq_true (by omega)
   have d2 : decide (c ≤ 57) = false := decide_eq_false (by omega)
   have d3 : decide (97 ≤ c) = false := decide_eq_false (by omega)
   have d5 : decide (65 ≤ c) = true := decide_eq_true (by omega)
   have d6 : decide (c ≤ 90) = true := decide_eq_true (by omega)
   simp only [w9, AV.cells, AV.leaf, reduceEqDiff, reduceLT, reduceAdd, reduceLeDiff, reduceCtorEq, reduceMul, reduceMod, u185, hlen, a0, d1, d2, d3, d5, d6, none_beq]
   exact Fin_pure (l := [.bool true]) (by simp [w9, AV.cells, AV.leaf, reduceEqDiff, reduceLT, reduceAdd, reduceLeDiff, reduceCtorEq, reduceMul, reduceMod, u185, aResults, aResult, hlen]) (.still rfl) (by simp)
 · rw [decide_eq_false (by omega)]
   have d1 : decide (48 ≤ c) = false := decide_eq_false (by omega)
   have d3 : decide (97 ≤ c) = false := decide_eq_false (by omega)
   have d5 : decide (65 ≤ c) = false := decide_eq_false (by omega)
   simp only [w9, AV.cells, AV.leaf, reduceEqDiff, reduceLT, reduceAdd, reduceLeDiff, reduceCtorEq, reduceMul, reduceMod, u185, hlen, a0, d1, d3, d5, none_beq]
   exact Fin_pure (l := [.bool false]) (by simp [w9, AV.cells, AV.leaf, reduceEqDiff, reduceLT, reduceAdd, reduceLeDiff, reduceCtorEq, reduceMul, reduceMod, u185, aResults, aResult, hlen]) (.still rfl) (by simp)
 · rw [decide_eq_false (by omega)]
   have d1 : decide (48 ≤ c) = true := decide_eq_true (by omega)
   have d2 : decide (c ≤ 57) = false := decide_eq_false (by omega)
   have d3 : decide (97 ≤ c) = false := decide_eq_false (by omega)
   have d5 : decide (65 ≤ c) = false := decide_eq_false (by omega)
   simp only [w9, AV.cells, AV.leaf, reduceEqDiff, reduceLT, reduceAdd, reduceLeDiff, reduceCtorEq, reduceMul, reduceMod, u185, hlen, a0, d1, d2, d3, d5, none_beq]
   exact Fin_pure (l := [.bool false]) (by simp [w9, AV.cells, AV.leaf, reduceEqDiff, reduceLT, reduceAdd, reduceLeDiff, reduceCtorEq, reduceMul, reduceMod, u185, aResults, aResult, hlen]) (.still rfl) (by simp)
 · rw [decide_eq_false (by omega)]
   have d1 : decide (48 ≤ c) = true := decide_eq_true (by omega)
   have d2 : decide (c ≤ 57) = false := decide_eq_false (by omega)
   have d3 : decide (97 ≤ c) = false := decide_eq_false (by omega)
   have d5 : decide (65 ≤ c) = true := decide_eq_true (by omega)
   have d6 : decide (c ≤ 90) = false := decide_eq_false (by omega)
   simp only [w9, AV.cells, AV.leaf, reduceEqDiff, reduceLT, reduceAdd, reduceLeDiff, reduceCtorEq, reduceMul, reduceMod, u185, hlen, a0, d1, d2, d3, d5, d6, none_beq]
   exact Fin_pure (l := [.bool false]) (by simp [w9, AV.cells, AV.leaf, reduceEqDiff, reduceLT, reduceAdd, reduceLeDiff, reduceCtorEq, reduceMul, reduceMod, u185, aResults, aResult, hlen]) (.still rfl) (by simp)
 · rw [decide_eq_false (by omega)]
   have d1 : decide (48 ≤ c) = true := decide_eq_true (by omega)
   have d2 : decide (c ≤ 57) = false := decide_eq_false (by omega)
   have d3 : decide (97 ≤ c) = true := decide_eq_true (by omega)
   have d4 : decide (c ≤ 122) = false := decide_eq_false (by omega)
   have d5 : decide (65 ≤ c) = true := decide_eq_true (by omega)
   have d6 : decide (c ≤ 90) = false := decide_eq_false (by omega)
   simp only [w9, AV.cells, AV.leaf, reduceEqDiff, reduceLT, reduceAdd, reduceLeDiff, reduceCtorEq, reduceMul, reduceMod, u185, hlen, a0, d1, d2, d3, d4, d5, d6, none_beq]
   exact Fin_pure (l := [.bool false]) (by simp [w9, AV.cells, AV.leaf, reduceEqDiff, reduceLT, reduceAdd, reduceLeDiff, reduceCtorEq, reduceMul, reduceMod, u185, aResults, aResult, hlen]) (.still rfl) (by simp)
theorem one_ok (s : AV) (hs : s.leaf = true) (hc : s.cells = [s]) (hf : ∀ K n, Frz K n s s) (prot : Nat) (H : Heap) (hp : prot ≤ H.length) (hsnap : snap H [s] = some ([s], false)) : aLim cfg prot 201 [s] H = some (.agg [.int .i64 1, .bool false, s, .int .i64 0, .int .i64 0, .nilS], none) := by
 unfold AV.leaf at hs
 unfold AV.cells at hc
 refine pure_slim rfl (by kernel_rfl) Tryz.func201 s201 hp hsnap (by simp [Tryz.f201]) fun fr hlen h => ?_
 simp only [Has, Nat.zero_add] at h
 obtain ⟨a0, -⟩ := h
 simp only [Tryz.f201] at hlen ⊢
 unfold g201
 simp only [w9, AV.cells, AV.leaf, reduceEqDiff, reduceLT, reduceAdd, reduceLeDiff, reduceCtorEq, reduceMul, reduceMod, u185, hlen, a0, hs, hc]
 exact Fin_pure (l := [.agg [.int .i64 1, .bool false, s, .int .i64 0, .int .i64 0, .nilS]]) (by simp [w9, AV.cells, AV.leaf, reduceEqDiff, reduceLT, reduceAdd, reduceLeDiff, reduceCtorEq, reduceMul, reduceMod, u185, hlen, aResults, aResult, hget]) (.agg (.cons (.still rfl) (.cons (.still rfl) (.cons (hf _ _) (.cons (.still rfl) (.cons (.still rfl) (.cons (.still rfl) .nil))))))) (by simp)
end Go.Proofs.YtnipaiklandliaaGreatDoor
namespace Go.Proofs.YtnipaiklandliaaGreatDoor
open Go Go.Abs AbsSeat Ty
open Nat (reduceEqDiff reduceLT reduceAdd reduceLeDiff reduceMul reduceMod)
def escSX (c : Int) : List Sg × Bool := if c = 100 then ([⟨48, 57⟩], true) else if c = 119 then ([⟨97, 122⟩, ⟨65, 90⟩, ⟨48, 57⟩, ⟨95, 95⟩], true) else if c = 115 then ([⟨9, 9⟩, ⟨10, 10⟩, ⟨13, 13⟩, ⟨32, 32⟩], true)
 else ([⟨c, c⟩], decide (32 < c) && decide (c < 127) && !wordyCX c)
theorem esc_ok (l : List Int) (L : AV) (hL : Sl encI L l) (hl : Runes l) (at_ b : Nat) (hat : at_ ≤ 2000000) (prot : Nat) (H : Heap) (hp : prot ≤ b) (hg : hget H b 0 = some [L, .int .i64 at_]) :
   aLim cfg prot 200 [.ptr b 0 0] H = some (.tup [.vs ((escSX (pk l at_)).1.map encG) true, .bool (escSX (pk l at_)).2], some (H.set b (.cells 0 [L, .int .i64 ((at_ + 1 : Nat))]))) := by
 have hb := hget_lt hg
 have n1 := peek_ok l L hL hl at_ b prot H (by omega) hg
 have hww : IntKind.i64.wrap ((at_ : Int) + 1) = ((at_ + 1 : Nat) : Int) := by rw [wrap64 (by omega) (by omega)]; simp
 have hput1 : hput prot H b 0 1 [.int .i64 ((at_ + 1 : Nat))] = some (H.set b (.cells 0 [L, .int .i64 ((at_ + 1 : Nat))])) := by
   rw [hput_eq hg hp (by simp) (by simp [AV.leaf])]; rfl
 have hLb : AV.blwL H.length [L, .int .i64 ((at_ + 1 : Nat))] = true := plL_blwL _ _ (slI_plain hL _)
 have kp := (Kp.start hg).put hLb
 have n2 := wordy_okX (pk l at_) prot (H.set b (.cells 0 [L, .int .i64 ((at_ + 1 : Nat))])) (by simp; omega)
 have hfz : ∀ (K : Heap) (m : List Sg) (y : Bool), Frz K H.length (packR [.vs (m.map encG) true, .bool y]) (.tup [.vs (m.map encG) true, .bool y]) := fun K m y => .tup (.cons (.still rfl) (.cons (.still rfl) .nil))
 generalize pk l at_ = c at *
 refine trim_slim rfl (by kernel_rfl) (by kernel_rfl) (by kernel_rfl) Tryz.func200 s200 (by simp [Tryz.f200]) fun fr hlen h => ?_
 simp only [Has, Nat.zero_add] at h
 obtain ⟨a0, -⟩ := h
 simp only [Tryz.f200] at hlen ⊢
 unfold g200
 by_cases h1 : c = 100
 · subst h1
   have e : escSX 100 = ([⟨48, 57⟩], true) := rfl
   rw [e]
   simp only [w9, AV.cells, AV.leaf, reduceEqDiff, reduceLT, reduceAdd, reduceLeDiff, reduceCtorEq, reduceMul, reduceMod, u185, hlen, a0, n1, hg, hww, hput1, litG1, none_beq]
   exact kp.fin (l := [.vs (([⟨48, 57⟩] : List Sg).map encG) true, .bool true]) (by simp [w9, AV.cells, AV.leaf, reduceEqDiff, reduceLT, reduceAdd, reduceLeDiff, reduceCtorEq, reduceMul, reduceMod, u185, hlen, aResults, aResult]) (hfz _ _ _)
 by_cases h2 : c = 119
 · subst h2
   have d1 : decide ((119 : Int) = 100) = false := by decide
   have e : escSX 119 = ([⟨97, 122⟩, ⟨65, 90⟩, ⟨48, 57⟩, ⟨95, 95⟩], true) := rfl
   rw [e]
   simp only [w9, AV.cells, AV.leaf, reduceEqDiff, reduceLT, reduceAdd, reduceLeDiff, reduceCtorEq, reduceMul, reduceMod, u185, hlen, a0, n1, hg, hww, hput1, litG4, d1, none_beq]
   exact kp.fin (l := [.vs (([⟨97, 122⟩, ⟨65, 90⟩, ⟨48, 57⟩, ⟨95, 95⟩] : List Sg).map encG) true, .bool true]) (by simp [w9, AV.cells, AV.leaf, reduceEqDiff, reduceLT, reduceAdd, reduceLeDiff, reduceCtorEq, reduceMul, reduceMod, u185, hlen, aResults, aResult]) (hfz _ _ _)
 by_cases h3 : c = 115
 · subst h3
   have d1 : decide ((115 : Int) = 100) = false := by decide
   have d2 : decide ((115 : Int) = 119) = false := by decide
   have e : escSX 115 = ([⟨9, 9⟩, ⟨10, 10⟩, ⟨13, 13⟩, ⟨32, 32⟩], true) := rfl
   rw [e]
   simp only [w9, AV.cells, AV.leaf, reduceEqDiff, reduceLT, reduceAdd, reduceLeDiff, reduceCtorEq, reduceMul, reduceMod, u185, hlen, a0, n1, hg, hww, hput1, litG4, d1, d2, none_beq]
   exact kp.fin (l := [.vs (([⟨9, 9⟩, ⟨10, 10⟩, ⟨13, 13⟩, ⟨32, 32⟩] : List Sg).map encG) true, .bool true]) (by simp [w9, AV.cells, AV.leaf, reduceEqDiff, reduceLT, reduceAdd, reduceLeDiff, reduceCtorEq, reduceMul, reduceMod, u185, hlen, aResults, aResult]) (hfz _ _ _)
 have e : escSX c = ([⟨c, c⟩], decide (32 < c) && decide (c < 127) && !wordyCX c) := by simp [escSX, h1, h2, h3]
 rw [e]
 have d1 : decide (c = 100) = false := by simp [h1]
 have d2 : decide (c = 119) = false := by simp [h2]
 have d3 : decide (c = 115) = false := by simp [h3]
 by_cases h4 : 32 < c
 · by_cases h5 : c < 127
   · simp only [w9, AV.cells, AV.leaf, reduceEqDiff, reduceLT, reduceAdd, reduceLeDiff, reduceCtorEq, reduceMul, reduceMod, u185, hlen, a0, n1, n2, hg, hww, hput1, litG1, d1, d2, d3, h4, h5, none_beq]
     exact kp.fin (l := [.vs (([⟨c, c⟩] : List Sg).map encG) true, .bool (!wordyCX c)]) (by simp [w9, AV.cells, AV.leaf, reduceEqDiff, reduceLT, reduceAdd, reduceLeDiff, reduceCtorEq, reduceMul, reduceMod, u185, hlen, aResults, aResult]) (hfz _ _ _)
   · simp only [w9, AV.cells, AV.leaf, reduceEqDiff, reduceLT, reduceAdd, reduceLeDiff, reduceCtorEq, reduceMul, reduceMod, u185, hlen, a0, n1, n2, hg, hww, hput1, litG1, d1, d2, d3, h4, h5, none_beq]
     exact kp.fin (l := [.vs (([⟨c, c⟩] : List Sg).map encG) true, .bool false]) (by simp [w9, AV.cells, AV.leaf, reduceEqDiff, reduceLT, reduceAdd, reduceLeDiff, reduceCtorEq, reduceMul, reduceMod, u185, hlen, aResults, aResult]) (hfz _ _ _)
 · simp only [w9, AV.cells, AV.leaf, reduceEqDiff, reduceLT, reduceAdd, reduceLeDiff, reduceCtorEq, reduceMul, reduceMod, u185, hlen, a0, n1, n2, hg, hww, hput1, litG1, d1, d2, d3, h4, none_beq]
   exact kp.fin (l := [.vs (([⟨c, c⟩] : List Sg).map encG) true, .bool false]) (by simp [w9, AV.cells, AV.leaf, reduceEqDiff, reduceLT, reduceAdd, reduceLeDiff, reduceCtorEq, reduceMul, reduceMod, u185, hlen, aResults, aResult]) (hfz _ _ _)
def dgC (c : Int) : Bool := decide (48 ≤ c ∧ c ≤ 57)
theorem dgC_iff {c : Int} : dgC c = true ↔ 48 ≤ c ∧ c ≤ 57 := by simp [dgC]
def numL (l : List Int) (i : Nat) : Nat := if dgC (pk l i) then if dgC (pk l (i + 1)) then 2 else 1 else 0
def numV (l : List Int) (i : Nat) : Int := if dgC (pk l i) then if dgC (pk l (i + 1)) then 10 * (pk l i - 48) + (pk l (i + 1) - 48) else pk l i - 48 else 0
def numB (l : List Int) (i : Nat) : Bool := decide (0 < numL l i) && decide (numV l i ≤ 16)
theorem numL_in {l : List Int} {i : Nat} (h : i ≤ l.length) : i + numL l i ≤ l.length := by
 unfold numL
 split
 · rename_i h1
   have h1 := dgC_iff.1 h1
   have := pk_in (l := l) (i := i) (by omega)
   split
   · rename_i h2
     have h2 := dgC_iff.1 h2
     have := pk_in (l := l) (i := i + 1) (by omega)
     omega
   · omega
 · omega
theorem numL_lt {l : List Int} {i k : Nat} (hk : k ≤ numL l i) : k < numL l i ↔ k < 2 ∧ dgC (pk l (i + k)) = true := by
 unfold numL at hk ⊢
 by_cases h1 : dgC (pk l i) = true
 · by_cases h2 : dgC (pk l (i + 1)) = true
   · simp only [h1, h2, if_true] at hk ⊢
     have : k = 0 ∨ k = 1 ∨ k = 2 := by omega
     rcases this with rfl | rfl | rfl <;> simp [h1, h2]
   · simp only [h1, h2, if_true, Bool.false_eq_true, if_false] at hk ⊢
     have : k = 0 ∨ k = 1 := by omega
     rcases this with rfl | rfl <;> simp [h1, h2]
 · simp only [h1, Bool.false_eq_true, if_false] at hk ⊢
   have : k = 0 := by omega
   subst this; simp [h1]
theorem encR_dg {c : Int} (h : 48 ≤ c ∧ c ≤ 57) : encR c = [UInt8.ofNat c.toNat] := by
 have : c = 48 ∨ c = 49 ∨ c = 50 ∨ c = 51 ∨ c = 52 ∨ c = 53 ∨ c = 54 ∨ c = 55 ∨ c = 56 ∨ c = 57 := by omega
 rcases this with rfl | rfl | rfl | rfl | rfl | rfl | rfl | rfl | rfl | rfl <;> decide
theorem num_size (l : List Int) (i : Nat) : sizeU (((l.drop i).take (numL l i)).flatMap encR) = (numV l i, if numL l i = 0 then 3 else 0) := by
 unfold numL numV
 by_cases h1 : dgC (pk l i) = true
 · have h1' := dgC_iff.1 h1
   have hi1 := pk_in (l := l) (i := i) (by omega)
   have hd1 : l.drop i = l[i] :: l.drop (i + 1) := by simp
   rw [pk_lt hi1] at h1 h1' ⊢
   by_cases h2 : dgC (pk l (i + 1)) = true
   · have h2' := dgC_iff.1 h2
     have hi2 := pk_in (l := l) (i := i + 1) (by omega)
     have hd2 : l.drop (i + 1) = l[i + 1] :: l.drop (i + 2) := by simp
     rw [pk_lt hi2] at h2 h2' ⊢
     rw [hd1, hd2]
     generalize l[i] = c at *
     generalize l[i + 1] = d at *
     simp only [h1, h2, if_true, List.take_succ_cons, List.take_zero, List.flatMap_cons, List.flatMap_nil, encR_dg h1', encR_dg h2', List.append_nil, List.cons_append, List.nil_append]
     obtain ⟨x, rfl⟩ : ∃ x : Nat, c = x := ⟨c.toNat, by omega⟩
     obtain ⟨y, rfl⟩ : ∃ y : Nat, d = y := ⟨d.toNat, by omega⟩
     have ex : (UInt8.ofNat x).toNat = x := by simp; omega
     have ey : (UInt8.ofNat y).toNat = y := by simp; omega
     have cx : digitC x = true := by simp [digitC]; omega
     have cy : digitC y = true := by simp [digitC]; omega
     simp only [Int.toNat_natCast, sizeU, List.all_cons, List.all_nil, ex, ey, cx, cy, digGo]
     rw [if_neg (by simp), if_neg (by omega), if_neg (by omega)]
     simp
     omega
   · rw [hd1]
     generalize l[i] = c at *
     simp only [h1, h2, if_true, Bool.false_eq_true, if_false, List.take_succ_cons, List.take_zero, List.flatMap_cons, List.flatMap_nil, encR_dg h1', List.append_nil]
     obtain ⟨x, rfl⟩ : ∃ x : Nat, c = x := ⟨c.toNat, by omega⟩
     have ex : (UInt8.ofNat x).toNat = x := by simp; omega
     have cx : digitC x = true := by simp [digitC]; omega
     simp only [Int.toNat_natCast, sizeU, List.all_cons, List.all_nil, ex, cx, digGo]
     rw [if_neg (by simp), if_neg (by omega)]
     simp
     omega
 · simp [h1, sizeU]
theorem encR_le (n : Int) : (encR n).length ≤ 4 := by
 unfold encR Utf8.encode
 split <;> simp
 all_goals
   split
   · exact Nat.le_of_ble_eq_true rfl
   · split
     · exact Nat.le_of_ble_eq_true rfl
     · split <;> exact Nat.le_of_ble_eq_true rfl
theorem runes_cells (l : List Int) : runesOf (cellsOf encI l) = some l := by
 induction l with
 | nil => rfl
 | cons x r ih =>
   have : cellsOf encI (x :: r) = .int .i32 x :: cellsOf encI r := rfl
   rw [this, runesOf, ih]; rfl
theorem runes_str {v : AV} {l : List Int} (hv : Sl encI v l) (H : Heap) : aConvert Tryz.prog H 206 9 v = some (.str (l.flatMap encR), none) := by
 have he := hv.elems encI_T H
 cases hv <;> simp only [aConvert, Tryz.underlying206, Tryz.underlying21, Tryz.underlying9, he, Option.bind_some, runes_cells, Option.map_some]
theorem number_okX (l : List Int) (L : AV) (hL : Sl encI L l) (hl : Runes l) (at_ b : Nat) (hat : at_ ≤ l.length) (prot : Nat) (H : Heap) (hp : prot ≤ b) (hg : hget H b 0 = some [L, .int .i64 at_]) :
   aLim cfg prot 203 [.ptr b 0 0] H = some (.tup [.int .i64 (numV l at_), .bool (numB l at_)], some (H.set b (.cells 0 [L, .int .i64 ((at_ + numL l at_ : Nat))]))) := by
 have hb := hget_lt hg
 have hll := hl.1
 have hin := numL_in hat
 have kp0 := Kp.start hg
 have hfz : ∀ (K : Heap) (x : Int) (y : Bool), Frz K H.length (packR [.int .i64 x, .bool y]) (.tup [.int .i64 x, .bool y]) := fun K x y => .tup (.cons (.still rfl) (.cons (.still rfl) .nil))
 refine trim_slim rfl (by kernel_rfl) (by kernel_rfl) (by kernel_rfl) Tryz.func203 s203 (by simp [Tryz.f203]) fun fr hlen h => ?_
 simp only [Has, Nat.zero_add] at h
 obtain ⟨a0, -⟩ := h
 simp only [Tryz.f203] at hlen ⊢
 unfold g203
 simp only [w9, AV.cells, AV.leaf, reduceEqDiff, reduceLT, reduceAdd, reduceLeDiff, reduceCtorEq, reduceMul, reduceMod, u185, hlen, a0, hg]
 refine loop_rule (fun m fr H' => ∃ (k : Nat), m = numL l at_ - k ∧ k ≤ numL l at_ ∧ fr.length = 85 ∧ fget fr 0 = .ptr b 0 0 ∧ fget fr 4 = .int .i64 at_ ∧ Kp H b [L, .int .i64 ((at_ + k : Nat))] H') ?_ (numL l at_) _ _ ⟨0, by
     refine ⟨by omega, by omega, ?_⟩
     simp [w9, AV.cells, AV.leaf, reduceEqDiff, reduceLT, reduceAdd, reduceLeDiff, reduceCtorEq, reduceMul, reduceMod, u185, hlen, a0]
     exact kp0⟩
 rintro m fr H' ⟨k, rfl, hk, hlen, a0, a4, kp⟩ ih
 have hlt := numL_lt hk
 have hg' := kp.get
 have w1 : IntKind.i64.wrap (((at_ + k : Nat) : Int) - (at_ : Nat)) = (k : Nat) := by rw [wrap64 (by omega) (by omega)]; omega
 have hL1 := hL.len Tryz.underlying206 (H := H')
 have hww : IntKind.i64.wrap (((at_ + k : Nat) : Int) + 1) = ((at_ + k + 1 : Nat) : Int) := by rw [wrap64 (by omega) (by omega)]; simp
 by_cases hc : k < numL l at_
 · obtain ⟨hk2, hd⟩ := hlt.1 hc
   have hd := dgC_iff.1 hd
   have hi := pk_in (l := l) (i := at_ + k) (by omega)
   have e1 := hL.at (k := .i64) (i := at_ + k) Tryz.underlying206 sz21 encI_len hi
   rw [pk_lt hi] at hd
   generalize l[at_ + k] = c at *
   have d1 : decide (((at_ + k : Nat) : Int) < (l.length : Nat)) = true := decide_eq_true (by omega)
   have d2 : decide ((k : Int) < 2) = true := decide_eq_true (by omega)
   have d3 : decide (48 ≤ c) = true := decide_eq_true (by omega)
   have d4 : decide (c ≤ 57) = true := decide_eq_true (by omega)
   have hput1 : hput prot H' b 0 1 [.int .i64 ((at_ + k + 1 : Nat))] = some (H'.set b (.cells 0 [L, .int .i64 ((at_ + k + 1 : Nat))])) := by
     rw [hput_eq hg' hp (by simp) (by simp [AV.leaf])]; rfl
   have hLb : AV.blwL H.length [L, .int .i64 ((at_ + k + 1 : Nat))] = true := plL_blwL _ _ (slI_plain hL _)
   simp only [w9, AV.cells, AV.leaf, reduceEqDiff, reduceLT, reduceAdd, reduceLeDiff, reduceCtorEq, reduceMul, reduceMod, u185, hlen, a0, a4, hg', hL1, w1, e1, encI, d1, d2, d3, d4, hww, hput1, none_beq]
   refine ih _ _ (numL l at_ - (k + 1)) (by omega) ⟨k + 1, rfl, by omega, ?_⟩
   have := kp.put hLb
   simp [w9, AV.cells, AV.leaf, reduceEqDiff, reduceLT, reduceAdd, reduceLeDiff, reduceCtorEq, reduceMul, reduceMod, u185, hlen, a0, a4]
   exact this
 · obtain rfl : k = numL l at_ := by omega
   have hnb : numB l at_ = (decide (0 < numL l at_) && decide (numV l at_ ≤ 16)) := rfl
   have hsz := num_size l at_
   obtain ⟨v2, e2, hv2⟩ := Sl_mid hL (lo := at_) (hi := at_ + numL l at_) Tryz.underlying206 sz21 encI_len (by omega) hin
   rw [show at_ + numL l at_ - at_ = numL l at_ by omega] at hv2
   have e3 := runes_str hv2 H'
   have n1 := size_ok (((l.drop at_).take (numL l at_)).flatMap encR) (by
     have : ∀ m : List Int, (m.flatMap encR).length ≤ 4 * m.length := fun m => by
       induction m with
       | nil => simp
       | cons x r ih =>
         have : (encR x).length ≤ 4 := encR_le x
         simp only [List.flatMap_cons, List.length_append, List.length_cons]
         omega
     have := this ((l.drop at_).take (numL l at_))
     rw [List.length_take, List.length_drop] at this
     omega) prot H' (by have := kp.len; omega)
   rw [hsz] at n1
   have hdis : l.length ≤ at_ + numL l at_ ∨ (at_ + numL l at_ < l.length ∧ 2 ≤ numL l at_) ∨ (∃ h : at_ + numL l at_ < l.length, numL l at_ < 2 ∧ l[at_ + numL l at_] < 48) ∨ (∃ h : at_ + numL l at_ < l.length, numL l at_ < 2 ∧ ¬ l[at_ + numL l at_] < 48 ∧ 57 < l[at_ + numL l at_]) := by
     by_cases h1 : l.length ≤ at_ + numL l at_
     · exact .inl h1
     · have hi : at_ + numL l at_ < l.length := by omega
       by_cases h2 : 2 ≤ numL l at_
       · exact .inr (.inl ⟨hi, h2⟩)
       · have h3 : ¬ dgC (pk l (at_ + numL l at_)) = true := fun h => hc (hlt.2 ⟨by omega, h⟩)
         rw [pk_lt hi, dgC_iff] at h3
         by_cases h4 : l[at_ + numL l at_] < 48
         · exact .inr (.inr (.inl ⟨hi, by omega, h4⟩))
         · exact .inr (.inr (.inr ⟨hi, by omega, h4, by omega⟩))
   generalize numB l at_ = nb at *
   generalize numV l at_ = nv at *
   have hfin : ∀ fr' H'', H'' = H' → aResults cfg.P fr' H' [ResultVar.tmp 2, ResultVar.tmp 3] = some [.int .i64 nv, .bool nb] → Fin ⟨cfg, prot, [ResultVar.tmp 2, ResultVar.tmp 3], .trim H⟩ fr' H'' (.tup [.int .i64 nv, .bool nb], some (H.set b (.cells 0 [L, .int .i64 ((at_ + numL l at_ : Nat))]))) := fun fr' H'' e h => by
     subst e
     exact kp.fin h (hfz _ _ _)
   have hb3 : (if numL l at_ = 0 then (3 : Int) else 0) = 0 ↔ 0 < numL l at_ := by split <;> omega
   generalize (if numL l at_ = 0 then (3 : Int) else 0) = u at *
   have hend : u = 0 ∧ nb = decide (nv ≤ 16) ∨ u ≠ 0 ∧ nb = false := by
     by_cases h0 : u = 0
     · exact .inl ⟨h0, by rw [hnb, decide_eq_true (hb3.1 h0), Bool.true_and]⟩
     · exact .inr ⟨h0, by rw [hnb, decide_eq_false (fun h => h0 (hb3.2 h)), Bool.false_and]⟩
   clear hnb hb3 hsz
   rcases hdis with h1 | ⟨h1, h2⟩ | ⟨h1, h2, h3⟩ | ⟨h1, h2, h3, h4⟩
   · have d1 : decide (((at_ + numL l at_ : Nat) : Int) < (l.length : Nat)) = false := decide_eq_false (by omega)
     rcases hend with ⟨rfl, rfl⟩ | ⟨hu, rfl⟩
     · simp only [w9, AV.cells, AV.leaf, reduceEqDiff, reduceLT, reduceAdd, reduceLeDiff, reduceCtorEq, reduceMul, reduceMod, u185, hlen, a0, a4, hg', hL1, w1, d1, e2, e3, n1, none_beq]
       exact hfin _ _ rfl (by simp [w9, AV.cells, AV.leaf, reduceEqDiff, reduceLT, reduceAdd, reduceLeDiff, reduceCtorEq, reduceMul, reduceMod, u185, hlen, aResults, aResult])
     · have d5 : decide (u = 0) = false := decide_eq_false hu
       simp only [w9, AV.cells, AV.leaf, reduceEqDiff, reduceLT, reduceAdd, reduceLeDiff, reduceCtorEq, reduceMul, reduceMod, u185, hlen, a0, a4, hg', hL1, w1, d1, e2, e3, n1, d5, none_beq]
       exact hfin _ _ rfl (by simp [w9, AV.cells, AV.leaf, reduceEqDiff, reduceLT, reduceAdd, reduceLeDiff, reduceCtorEq, reduceMul, reduceMod, u185, hlen, aResults, aResult])
   · have d1 : decide (((at_ + numL l at_ : Nat) : Int) < (l.length : Nat)) = true := decide_eq_true (by omega)
     have d2 : decide ((numL l at_ : Int) < 2) = false := decide_eq_false (by omega)
     rcases hend with ⟨rfl, rfl⟩ | ⟨hu, rfl⟩
     · simp only [w9, AV.cells, AV.leaf, reduceEqDiff, reduceLT, reduceAdd, reduceLeDiff, reduceCtorEq, reduceMul, reduceMod, u185, hlen, a0, a4, hg', hL1, w1, d1, d2, e2, e3, n1, none_beq]
       exact hfin _ _ rfl (by simp [w9, AV.cells, AV.leaf, reduceEqDiff, reduceLT, reduceAdd, reduceLeDiff, reduceCtorEq, reduceMul, reduceMod, u185, hlen, aResults, aResult])
     · have d5 : decide (u = 0) = false := decide_eq_false hu
       simp only [w9, AV.cells, AV.leaf, reduceEqDiff, reduceLT, reduceAdd, reduceLeDiff, reduceCtorEq, reduceMul, reduceMod, u185, hlen, a0, a4, hg', hL1, w1, d1, d2, e2, e3, n1, d5, none_beq]
       exact hfin _ _ rfl (by simp [w9, AV.cells, AV.leaf, reduceEqDiff, reduceLT, reduceAdd, reduceLeDiff, reduceCtorEq, reduceMul, reduceMod, u185, hlen, aResults, aResult])
   · have d1 : decide (((at_ + numL l at_ : Nat) : Int) < (l.length : Nat)) = true := decide_eq_true (by omega)
     have d2 : decide ((numL l at_ : Int) < 2) = true := decide_eq_true (by omega)
     have e1 := hL.at (k := .i64) (i := at_ + numL l at_) Tryz.underlying206 sz21 encI_len h1
     have d3 : decide (48 ≤ l[at_ + numL l at_]) = false := decide_eq_false (by omega)
     rcases hend with ⟨rfl, rfl⟩ | ⟨hu, rfl⟩
     · simp only [w9, AV.cells, AV.leaf, reduceEqDiff, reduceLT, reduceAdd, reduceLeDiff, reduceCtorEq, reduceMul, reduceMod, u185, hlen, a0, a4, hg', hL1, w1, d1, d2, e1, encI, d3, e2, e3, n1, none_beq]
       exact hfin _ _ rfl (by simp [w9, AV.cells, AV.leaf, reduceEqDiff, reduceLT, reduceAdd, reduceLeDiff, reduceCtorEq, reduceMul, reduceMod, u185, hlen, aResults, aResult])
     · have d5 : decide (u = 0) = false := decide_eq_false hu
       simp only [w9, AV.cells, AV.leaf, reduceEqDiff, reduceLT, reduceAdd, reduceLeDiff, reduceCtorEq, reduceMul, reduceMod, u185, hlen, a0, a4, hg', hL1, w1, d1, d2, e1, encI, d3, e2, e3, n1, d5, none_beq]
       exact hfin _ _ rfl (by simp [w9, AV.cells, AV.leaf, reduceEqDiff, reduceLT, reduceAdd, reduceLeDiff, reduceCtorEq, reduceMul, reduceMod, u185, hlen, aResults, aResult])
   · have d1 : decide (((at_ + numL l at_ : Nat) : Int) < (l.length : Nat)) = true := decide_eq_true (by omega)
     have d2 : decide ((numL l at_ : Int) < 2) = true := decide_eq_true (by omega)
     have e1 := hL.at (k := .i64) (i := at_ + numL l at_) Tryz.underlying206 sz21 encI_len h1
     have d3 : decide (48 ≤ l[at_ + numL l at_]) = true := decide_eq_true (by omega)
     have d4 : decide (l[at_ + numL l at_] ≤ 57) = false := decide_eq_false (by omega)
     rcases hend with ⟨rfl, rfl⟩ | ⟨hu, rfl⟩
     · simp only [w9, AV.cells, AV.leaf, reduceEqDiff, reduceLT, reduceAdd, reduceLeDiff, reduceCtorEq, reduceMul, reduceMod, u185, hlen, a0, a4, hg', hL1, w1, d1, d2, e1, encI, d3, d4, e2, e3, n1, none_beq]
       exact hfin _ _ rfl (by simp [w9, AV.cells, AV.leaf, reduceEqDiff, reduceLT, reduceAdd, reduceLeDiff, reduceCtorEq, reduceMul, reduceMod, u185, hlen, aResults, aResult])
     · have d5 : decide (u = 0) = false := decide_eq_false hu
       simp only [w9, AV.cells, AV.leaf, reduceEqDiff, reduceLT, reduceAdd, reduceLeDiff, reduceCtorEq, reduceMul, reduceMod, u185, hlen, a0, a4, hg', hL1, w1, d1, d2, e1, encI, d3, d4, e2, e3, n1, d5, none_beq]
       exact hfin _ _ rfl (by simp [w9, AV.cells, AV.leaf, reduceEqDiff, reduceLT, reduceAdd, reduceLeDiff, reduceCtorEq, reduceMul, reduceMod, u185, hlen, aResults, aResult])
structure Tm where
 lo : Int
 hi : Int
 ok : Bool
 at_ : Nat
def timesS (l : List Int) (i : Nat) : Tm :=
 let j := i + numL l i
 if numB l i then
   if pk l j = 44 then
     if pk l (j + 1) = 125 then ⟨numV l i, -1, true, j + 2⟩
     else if numB l (j + 1) && decide (numV l i ≤ numV l (j + 1)) then
       if pk l (j + 1 + numL l (j + 1)) = 125 then ⟨numV l i, numV l (j + 1), true, j + 1 + numL l (j + 1) + 1⟩ else ⟨numV l i, numV l (j + 1), false, j + 1 + numL l (j + 1)⟩
     else ⟨0, 0, false, j + 1 + numL l (j + 1)⟩
   else if pk l j = 125 then ⟨numV l i, numV l i, true, j + 1⟩ else ⟨numV l i, numV l i, false, j⟩
 else ⟨0, 0, false, j⟩
theorem times_ok (l : List Int) (L : AV) (hL : Sl encI L l) (hl : Runes l) (at_ b : Nat) (hat : at_ ≤ l.length) (prot : Nat) (H : Heap) (hp : prot ≤ b) (hg : hget H b 0 = some [L, .int .i64 at_]) :
   aLim cfg prot 194 [.ptr b 0 0] H = some (.tup [.int .i64 (timesS l at_).lo, .int .i64 (timesS l at_).hi, .bool (timesS l at_).ok], some (H.set b (.cells 0 [L, .int .i64 ((timesS l at_).at_ : Nat)]))) := by
 have hb := hget_lt hg
 have hll := hl.1
 have hin := numL_in hat
 have hset : ∀ (c d : List AV), (H.set b (.cells 0 c)).set b (.cells 0 d) = H.set b (.cells 0 d) := fun c d => List.set_set ..
 have hLb : ∀ x : Int, AV.blwL H.length [L, .int .i64 x] = true := fun x => plL_blwL _ _ (slI_plain hL _)
 have kp := fun x => (Kp.start hg).put (hLb x)
 have hfz : ∀ (K : Heap) (x y : Int) (z : Bool), Frz K H.length (packR [.int .i64 x, .int .i64 y, .bool z]) (.tup [.int .i64 x, .int .i64 y, .bool z]) := fun K x y z => .tup (.cons (.still rfl) (.cons (.still rfl) (.cons (.still rfl) .nil)))
 have hgs : ∀ c, hget (H.set b (.cells 0 c)) b 0 = some c := fun c => hget_set_at hb
 have n1 := number_okX l L hL hl at_ b hat prot H hp hg
 have n2 := take_ok l L hL hl (at_ + numL l at_) b 44 (by omega) prot _ hp (hgs [L, .int .i64 ((at_ + numL l at_ : Nat))])
 have n3 := take_ok l L hL hl (at_ + numL l at_) b 125 (by omega) prot _ hp (hgs [L, .int .i64 ((at_ + numL l at_ : Nat))])
 rw [hset] at n2 n3
 unfold timesS
 generalize hj : at_ + numL l at_ = j at *
 refine trim_slim rfl (by kernel_rfl) (by kernel_rfl) (by kernel_rfl) Tryz.func194 s194 (by simp [Tryz.f194]) fun fr hlen h => ?_
 simp only [Has, Nat.zero_add] at h
 obtain ⟨a0, -⟩ := h
 simp only [Tryz.f194] at hlen ⊢
 unfold g194
 cases hn : numB l at_ with
 | false =>
   simp only [Bool.false_eq_true, if_false]
   simp only [w9, AV.cells, AV.leaf, reduceEqDiff, reduceLT, reduceAdd, reduceLeDiff, reduceCtorEq, reduceMul, reduceMod, u185, hlen, a0, n1, hn, none_beq]
   exact (kp _).fin (l := [.int .i64 0, .int .i64 0, .bool false]) (by simp [w9, AV.cells, AV.leaf, reduceEqDiff, reduceLT, reduceAdd, reduceLeDiff, reduceCtorEq, reduceMul, reduceMod, u185, hlen, aResults, aResult]) (hfz _ _ _ _)
 | true =>
   simp only [if_true]
   by_cases h1 : pk l j = 44
   · have h1' : ¬ pk l j = 125 := by rw [h1]; decide
     have hj1 := pk_in (l := l) (i := j) (by rw [h1]; decide)
     simp only [h1, if_true, decide_true] at n2 ⊢
     have n4 := peek_ok l L hL hl (j + 1) b prot _ (by simp; omega) (hgs [L, .int .i64 ((j + 1 : Nat))])
     have n5 := take_ok l L hL hl (j + 1) b 125 (by omega) prot _ hp (hgs [L, .int .i64 ((j + 1 : Nat))])
     have n6 := number_okX l L hL hl (j + 1) b (by omega) prot _ hp (hgs [L, .int .i64 ((j + 1 : Nat))])
     have hin2 := numL_in (l := l) (i := j + 1) (by omega)
     rw [hset] at n5 n6
     by_cases h2 : pk l (j + 1) = 125
     · have d2 : decide (¬ pk l (j + 1) = 125) = false := by simp [h2]
       simp only [h2, if_true, decide_true] at n5 ⊢
       simp only [w9, AV.cells, AV.leaf, reduceEqDiff, reduceLT, reduceAdd, reduceLeDiff, reduceCtorEq, reduceMul, reduceMod, u185, hlen, a0, n1, hn, n2, n4, d2, n5, h2, none_beq]
       exact (kp _).fin (l := [.int .i64 (numV l at_), .int .i64 (-1), .bool true]) (by simp [w9, AV.cells, AV.leaf, reduceEqDiff, reduceLT, reduceAdd, reduceLeDiff, reduceCtorEq, reduceMul, reduceMod, u185, hlen, aResults, aResult]) (hfz _ _ _ _)
     · have d2 : decide (¬ pk l (j + 1) = 125) = true := by simp [h2]
       simp only [h2, if_false]
       have n7 := take_ok l L hL hl (j + 1 + numL l (j + 1)) b 125 (by omega) prot _ hp (hgs [L, .int .i64 ((j + 1 + numL l (j + 1) : Nat))])
       rw [hset] at n7
       cases hn2 : numB l (j + 1) with
       | false =>
         simp only [Bool.false_and, Bool.false_eq_true, if_false]
         simp only [w9, AV.cells, AV.leaf, reduceEqDiff, reduceLT, reduceAdd, reduceLeDiff, reduceCtorEq, reduceMul, reduceMod, u185, hlen, a0, n1, hn, n2, n4, d2, n6, hn2, none_beq]
         exact (kp _).fin (l := [.int .i64 0, .int .i64 0, .bool false]) (by simp [w9, AV.cells, AV.leaf, reduceEqDiff, reduceLT, reduceAdd, reduceLeDiff, reduceCtorEq, reduceMul, reduceMod, u185, hlen, aResults, aResult]) (hfz _ _ _ _)
       | true =>
         by_cases h3 : numV l at_ ≤ numV l (j + 1)
         · have d3 : decide (numV l (j + 1) < numV l at_) = false := decide_eq_false (by omega)
           simp only [h3, Bool.true_and, decide_true, if_true]
           by_cases h4 : pk l (j + 1 + numL l (j + 1)) = 125
           · simp only [h4, if_true, decide_true] at n7 ⊢
             simp only [w9, AV.cells, AV.leaf, reduceEqDiff, reduceLT, reduceAdd, reduceLeDiff, reduceCtorEq, reduceMul, reduceMod, u185, hlen, a0, n1, hn, n2, n4, d2, n6, hn2, d3, n7, none_beq]
             exact (kp _).fin (l := [.int .i64 (numV l at_), .int .i64 (numV l (j + 1)), .bool true]) (by simp [w9, AV.cells, AV.leaf, reduceEqDiff, reduceLT, reduceAdd, reduceLeDiff, reduceCtorEq, reduceMul, reduceMod, u185, hlen, aResults, aResult]) (hfz _ _ _ _)
           · simp only [h4, if_false, decide_false] at n7 ⊢
             simp only [w9, AV.cells, AV.leaf, reduceEqDiff, reduceLT, reduceAdd, reduceLeDiff, reduceCtorEq, reduceMul, reduceMod, u185, hlen, a0, n1, hn, n2, n4, d2, n6, hn2, d3, n7, none_beq]
             exact (kp _).fin (l := [.int .i64 (numV l at_), .int .i64 (numV l (j + 1)), .bool false]) (by simp [w9, AV.cells, AV.leaf, reduceEqDiff, reduceLT, reduceAdd, reduceLeDiff, reduceCtorEq, reduceMul, reduceMod, u185, hlen, aResults, aResult]) (hfz _ _ _ _)
         · have d3 : decide (numV l (j + 1) < numV l at_) = true := decide_eq_true (by omega)
           simp only [h3, Bool.true_and, decide_false, Bool.false_eq_true, if_false]
           simp only [w9, AV.cells, AV.leaf, reduceEqDiff, reduceLT, reduceAdd, reduceLeDiff, reduceCtorEq, reduceMul, reduceMod, u185, hlen, a0, n1, hn, n2, n4, d2, n6, hn2, d3, none_beq]
           exact (kp _).fin (l := [.int .i64 0, .int .i64 0, .bool false]) (by simp [w9, AV.cells, AV.leaf, reduceEqDiff, reduceLT, reduceAdd, reduceLeDiff, reduceCtorEq, reduceMul, reduceMod, u185, hlen, aResults, aResult]) (hfz _ _ _ _)
   · simp only [h1, if_false, decide_false] at n2 ⊢
     by_cases h2 : pk l j = 125
     · simp only [h2, if_true, decide_true] at n3 ⊢
       simp only [w9, AV.cells, AV.leaf, reduceEqDiff, reduceLT, reduceAdd, reduceLeDiff, reduceCtorEq, reduceMul, reduceMod, u185, hlen, a0, n1, hn, n2, n3, none_beq]
       exact (kp _).fin (l := [.int .i64 (numV l at_), .int .i64 (numV l at_), .bool true]) (by simp [w9, AV.cells, AV.leaf, reduceEqDiff, reduceLT, reduceAdd, reduceLeDiff, reduceCtorEq, reduceMul, reduceMod, u185, hlen, aResults, aResult]) (hfz _ _ _ _)
     · simp only [h2, if_false, decide_false] at n3 ⊢
       simp only [w9, AV.cells, AV.leaf, reduceEqDiff, reduceLT, reduceAdd, reduceLeDiff, reduceCtorEq, reduceMul, reduceMod, u185, hlen, a0, n1, hn, n2, n3, none_beq]
       exact (kp _).fin (l := [.int .i64 (numV l at_), .int .i64 (numV l at_), .bool false]) (by simp [w9, AV.cells, AV.leaf, reduceEqDiff, reduceLT, reduceAdd, reduceLeDiff, reduceCtorEq, reduceMul, reduceMod, u185, hlen, aResults, aResult]) (hfz _ _ _ _)
end Go.Proofs.YtnipaiklandliaaGreatDoor
/- Chapter 15: states of a machine, as they lie. -/
namespace Go.Abs
open Go
open Nat (reduceEqDiff reduceLT reduceAdd reduceLeDiff reduceMul reduceMod)
theorem raw_slimE {C : Cfg} {prot : Nat} {f : FuncId} {args : List AV} {H : Heap} {fn : Func} {c : Code} {v : AV} {P : Heap → Prop} (hok : C.ok f = true) (hp : C.pure f = false) (hsh : C.shut f = false) (htr : C.trim f = false) (hfn : C.P.funcs[f]? = some fn) (hb : fn.body.map (slim C) = some c)
   (hl : args.length ≤ fn.ntmps)
   (h : ∀ fr, fr.length = fn.ntmps → Has fr 0 args → ∃ H', P H' ∧ R ⟨C, prot, fn.results.toList, .raw⟩ c [] fr H (v, some H')) : ∃ H', P H' ∧ aLim C prot f args H = some (v, some H') := by
 rw [Option.map_eq_some_iff] at hb
 obtain ⟨c0, hb, rfl⟩ := hb
 have h := entered (Q := fun fr => ∃ H', P H' ∧ R ⟨C, prot, fn.results.toList, .raw⟩ (slim C c0) [] fr H (v, some H')) hl h
 obtain ⟨H1, hP, h⟩ := h
 have h := R_slim (X := ⟨C, prot, fn.results.toList, .raw⟩) h
 refine ⟨H1, hP, ?_⟩
 obtain ⟨e, fr', H', h1, h2⟩ := h
 have h1' := aCode_conv (aLim_conv C) _ h1
 have hfin : Fin ⟨C, prot, fn.results.toList, .raw⟩ fr' H' (v, some H1) ∧ ∀ id, e ≠ .exit id := by
   cases e with
   | normal => exact ⟨h2, fun _ h => by cases h⟩
   | ret => exact ⟨h2, fun _ h => by cases h⟩
   | exit id => exact h2.elim
 obtain ⟨⟨l, hr, he⟩, hex⟩ := hfin
 rw [he]
 refine aLim_of ?_
 obtain ⟨n0, h0⟩ := h1'
 refine ⟨n0 + 1, fun n hn => ?_⟩
 obtain ⟨n, rfl⟩ : ∃ j, n = j + 1 := ⟨n - 1, by omega⟩
 have h3 := h0 n (by omega)
 cases e with
 | exit id => exact absurd rfl (hex id)
 | normal => simp only [aCall, hok, Bool.true_eq_false, if_false, hfn, hb, hp, hsh, htr, Bool.false_eq_true, Option.bind_some, aBody, h3, hr, Option.map_some]
 | ret => simp only [aCall, hok, Bool.true_eq_false, if_false, hfn, hb, hp, hsh, htr, Bool.false_eq_true, Option.bind_some, aBody, h3, hr, Option.map_some]
theorem loop_ruleE {X : Ctx} {c : Code} {κ : List K} {v : AV} {P : Heap → Prop} (Inv : Nat → List AV → Heap → Prop)
   (step : ∀ m fr H, Inv m fr H → (∀ fr' H' m', m' < m → Inv m' fr' H' → ∃ Z, P Z ∧ U X (.loop c :: κ) .normal fr' H' (v, some Z)) → ∃ Z, P Z ∧ R X c (.loop c :: κ) fr H (v, some Z)) :
   ∀ (m : Nat) (fr : List AV) (H : Heap), Inv m fr H → ∃ Z, P Z ∧ R X (.loop c) κ fr H (v, some Z) := by
 intro m
 induction m using Nat.strongRecOn with
 | _ m ih =>
   intro fr H h
   simp only [R_loop]
   refine step m fr H h fun fr' H' m' hm h' => ?_
   have := ih m' hm fr' H' h'
   simp only [U_loop, ← R_loop]
   exact this
theorem ex_draw {D : Prop} {P Q : Heap → Prop} (hd : D) (h : ∃ Z, P Z ∧ Q Z) : ∃ Z, P Z ∧ D ∧ Q Z := by
 obtain ⟨Z, h1, h2⟩ := h
 exact ⟨Z, h1, hd, h2⟩
structure EncL {α : Type} (enc : α → AV) (sz : Nat) : Prop where
 len : ∀ x, (enc x).cells.length = sz
 leaf : ∀ x, ∀ c ∈ (enc x).cells, c.leaf = true
theorem EncL.length {α : Type} {enc : α → AV} {sz : Nat} (he : EncL enc sz) (l : List α) : (cellsOf enc l).length = l.length * sz := by
 induction l with
 | nil => simp [cellsOf]
 | cons x r ih =>
   simp only [cellsOf, List.flatMap_cons, List.length_append, List.length_cons, he.len] at ih ⊢
   rw [ih, Nat.add_mul]; omega
theorem EncL.leafs {α : Type} {enc : α → AV} {sz : Nat} (he : EncL enc sz) (l : List α) : (cellsOf enc l).all AV.leaf = true := by
 rw [List.all_eq_true]
 intro c hc
 obtain ⟨x, _, hx⟩ := List.mem_flatMap.1 hc
 exact he.leaf x c hx
theorem EncL.app {α : Type} {enc : α → AV} {sz : Nat} {ag : Bool} (he : EncL enc sz) {P : Program} {t xt e : TypeId} {by_ prot : Nat} (ht : RowT P t e sz by_ ag) (hxt : (∃ e', P.underlying xt = some (.slice e')) ∨ P.underlying xt = some .string) {x : AV} {l m : List α} {H : Heap} {b ver : Nat}
   (hg : hget H b ver = some (cellsOf enc l)) (hv4 : ver % 4 = 0) (hx : elemCells H sz x = some (m.length, cellsOf enc m)) (hm : 0 < m.length) (hr : roomy (l.length + m.length) by_ = true) (hp : prot ≤ b) :
   aAppend P prot H #[t, xt] (.bs ⟨b, ver, 0, l.length, 0, sz, ag, false⟩) x = some (.bs ⟨b, ver + 4, 0, l.length + m.length, 0, sz, ag, false⟩, some (H.set b (Blk.cells (ver + 4) (cellsOf enc (l ++ m))))) := by
 obtain ⟨z, hz, hzl⟩ := ht.zero
 have hm0 : ¬ m.length = 0 := by omega
 have hlf := he.leafs m
 have hw : win (cellsOf enc l) 0 (l.length * sz) = some (cellsOf enc l) := by
   have := he.length l
   simp only [win, Nat.zero_add, List.drop_zero]
   rw [if_pos (by omega), List.take_of_length_le (by omega)]
 rw [cellsOf_append]
 rcases hxt with ⟨e', hu⟩ | hu <;> unfold aAppend <;>
 simp only [List.getElem?_toArray, List.getElem?_cons_zero, List.getElem?_cons_succ, Option.bind_some, ht.elem, ht.size, ht.bytes, ht.agg, hz, hzl, hu, hx, ne_eq, not_true_eq_false, if_false, hlf, if_true, hm0, hr, hg, hw, Bool.false_eq_true,
   hp, rowOk_zero hv4, and_self]
theorem EncL.app0 {α : Type} {enc : α → AV} {sz : Nat} {ag : Bool} (he : EncL enc sz) {P : Program} {t xt e : TypeId} {by_ prot : Nat} (ht : RowT P t e sz by_ ag) (hxt : (∃ e', P.underlying xt = some (.slice e')) ∨ P.underlying xt = some .string) {x : AV} {m : List α} {H : Heap}
   (hx : elemCells H sz x = some (m.length, cellsOf enc m)) (hm : 0 < m.length) (hr : roomy m.length by_ = true) :
   aAppend P prot H #[t, xt] .nilS x = some (.bs ⟨H.length, 0, 0, m.length, 0, sz, ag, false⟩, some (H ++ [Blk.cells 0 (cellsOf enc m)])) := by
 obtain ⟨z, hz, hzl⟩ := ht.zero
 have hm0 : ¬ m.length = 0 := by omega
 have hlf := he.leafs m
 rcases hxt with ⟨e', hu⟩ | hu <;> unfold aAppend <;>
 simp only [ht.row0, List.getElem?_toArray, List.getElem?_cons_zero, List.getElem?_cons_succ, Option.bind_some, ht.elem, ht.size, ht.bytes, ht.agg, hz, hzl, hu, hx, ne_eq, not_true_eq_false, if_false, hlf, if_true, hm0, hr]
structure Frm (H H' : Heap) (b rb : Nat) : Prop where
 len : H.length ≤ H'.length
 keep : ∀ z ver cs, z ≠ b → z ≠ rb → hget H z ver = some cs → hget H' z ver = some cs
theorem Frm.refl (H : Heap) (b rb : Nat) : Frm H H b rb := ⟨Nat.le_refl _, fun _ _ _ _ _ h => h⟩
theorem Frm.trans {H K L : Heap} {b rb : Nat} (h : Frm H K b rb) (k : Frm K L b rb) : Frm H L b rb := ⟨Nat.le_trans h.len k.len, fun z ver cs h1 h2 h3 => k.keep z ver cs h1 h2 (h.keep z ver cs h1 h2 h3)⟩
theorem Frm.more (H : Heap) (b rb : Nat) (x : List Blk) : Frm H (H ++ x) b rb := ⟨by simp, fun _ _ _ _ _ h => hget_mono h x⟩
theorem Frm.set1 (H : Heap) (b rb : Nat) (k : Blk) : Frm H (H.set b k) b rb := ⟨by simp, fun z _ _ h1 _ h => by rw [hget_set_ne h1]; exact h⟩
theorem Frm.set2 (H : Heap) (b rb : Nat) (k : Blk) : Frm H (H.set rb k) b rb := ⟨by simp, fun z _ _ _ h2 h => by rw [hget_set_ne h2]; exact h⟩
theorem Frm.row {α : Type} {enc : α → AV} {sz : Nat} {ag : Bool} {base b rb : Nat} {H K : Heap} {v : AV} {l : List α} (f : Frm H K b rb) (hb : b < base) (hr : rb < base) (h : Row enc sz ag base H v l) : Row enc sz ag base K v l := by
 rcases h with h | ⟨c, ver, h1, h2, h3, h4⟩
 · exact .inl h
 · exact .inr ⟨c, ver, h1, h2, f.keep _ _ _ (by omega) (by omega) h3, h4⟩
end Go.Abs
namespace Go.Proofs.YtnipaiklandliaaGreatDoor
open Go Go.Abs AbsSeat Ty
open Nat (reduceEqDiff reduceLT reduceAdd reduceLeDiff reduceMul reduceMod)
structure St where
 kind : Int
 no : Bool
 sp : List Sg
 one : Int
 two : Int
structure HS where
 kind : Int
 no : Bool
 sv : AV
 lf : sv.leaf = true
 one : Int
 two : Int
def encH (x : HS) : AV := .agg [.int .i64 x.kind, .bool x.no, x.sv, .int .i64 x.one, .int .i64 x.two]
theorem encH_L : EncL encH 5 where
 len _ := rfl
 leaf x c hc := by
   simp only [encH, AV.cells, List.mem_cons, List.not_mem_nil, or_false] at hc
   rcases hc with rfl | rfl | rfl | rfl | rfl <;> first | rfl | exact x.lf
theorem rowSt : RowT Tryz.prog 179 219 5 56 true where
 un := Tryz.underlying179
 size := sz219
 bytes := by219
 agg := ag219
 zero := ⟨_, ze219, rfl⟩
 pos := by decide
 tree := rfl
theorem hxtSt : (∃ e', Tryz.prog.underlying 179 = some (.slice e')) ∨ Tryz.prog.underlying 179 = some .string := .inl ⟨_, Tryz.underlying179⟩
theorem litH (x : HS) (K : Heap) : aBuildSlice Tryz.prog K 179 1 [(0, encH x)] = some (.bs ⟨K.length, 0, 0, 1, 1, 5, true, true⟩, some (K ++ [Blk.cells 0 (encH x).cells])) := by
 have e : (encH x).cells.all AV.leaf = true := List.all_eq_true.2 fun c hc => encH_L.leaf x c hc
 have e2 : fillA (fun i => some (i * 5, 5)) (zrep 1 [.int .i64 0, .bool false, .nilS, .int .i64 0, .int .i64 0]) [(0, encH x)] = some (encH x).cells := rfl
 unfold aBuildSlice
 rw [rowSt.elem, Option.bind_some, rowSt.size, Option.bind_some, rowSt.agg, Option.bind_some, ze219, Option.bind_some]
 rw [if_pos ⟨by decide, rfl, by decide⟩]
 simp only [AV.cells] at e e2 ⊢
 rw [e2, Option.bind_some, if_pos e, if_neg (by decide)]
theorem elemH (x : HS) (K : Heap) : elemCells (K ++ [Blk.cells 0 (encH x).cells]) 5 (.bs ⟨K.length, 0, 0, 1, 1, 5, true, true⟩) = some ([x].length, cellsOf encH [x]) := by
 have hc : cellsOf encH [x] = (encH x).cells := by simp [cellsOf]
 have hg : hget (K ++ [Blk.cells 0 (encH x).cells]) K.length 0 = some (encH x).cells := by rw [hget_new rfl, if_pos rfl]
 have hw : win (encH x).cells 0 (1 * 5) = some (encH x).cells := rfl
 simp only [elemCells, if_true, hg, Option.bind_some, hw, Option.map_some, hc, List.length_cons, List.length_nil, Nat.zero_add]
theorem lenSt (K : Heap) (r v n : Nat) : aLen Tryz.prog K 179 (.bs ⟨r, v, 0, n, 0, 5, true, false⟩) = some (.int .i64 (n : Nat)) := by simp [aLen, Tryz.underlying179]
theorem hxtGs : (∃ e', Tryz.prog.underlying 173 = some (.slice e')) ∨ Tryz.prog.underlying 173 = some .string := .inl ⟨_, Tryz.underlying173⟩
theorem spans_app (v : AV) (sp : List Sg) (hv : Sl encG v sp) (hs : sp.length ≤ 10000000) (prot base : Nat) (K : Heap) (hb : base ≤ K.length) :
   (sp = [] ∧ aAppend Tryz.prog prot K #[173, 173] .nilS v = some (.nilS, none)) ∨
   (sp ≠ [] ∧ ∃ K', aAppend Tryz.prog prot K #[173, 173] .nilS v = some (.bs ⟨K.length, 0, 0, sp.length, 0, 2, true, false⟩, some K') ∧ K' = K ++ [Blk.cells 0 (cellsOf encG sp)] ∧ Row encG 2 true base K' (.bs ⟨K.length, 0, 0, sp.length, 0, 2, true, false⟩) sp) := by
 by_cases h : sp = []
 · subst h
   exact .inl ⟨rfl, app_zero rowG hxtGs (.inl rfl) (hv.elems encG_T K)⟩
 · have hpos : 0 < sp.length := List.length_pos_iff.2 h
   have hel : elemCells K 2 v = some (sp.length, cellsOf encG sp) := hv.elems encG_T K
   have happ := (EncL.mk encG_T.len encG_T.leaf).app0 (prot := prot) rowG hxtGs hel hpos (by simp [roomy]; omega)
   exact .inr ⟨h, _, happ, rfl, .inr ⟨_, _, rfl, hb, by rw [hget_new rfl, if_pos rfl], rfl⟩⟩
def encSt (s : St) : AV := .agg [.int .i64 s.kind, .bool s.no, slv encG s.sp, .int .i64 s.one, .int .i64 s.two]
theorem slvG_leaf (l : List Sg) : (slv encG l).leaf = true := by cases l <;> rfl
theorem slvG_still (l : List Sg) : still (slv encG l) = true := by cases l <;> rfl
theorem encSt_T : EncT encSt 5 true where
 len _ := rfl
 leaf x c hc := by
   simp only [encSt, AV.cells, List.mem_cons, List.not_mem_nil, or_false] at hc
   rcases hc with rfl | rfl | rfl | rfl | rfl <;> first | rfl | exact slvG_leaf _
 still x c hc := by
   simp only [encSt, AV.cells, List.mem_cons, List.not_mem_nil, or_false] at hc
   rcases hc with rfl | rfl | rfl | rfl | rfl <;> first | rfl | exact slvG_still _
 shape _ := rfl
end Go.Proofs.YtnipaiklandliaaGreatDoor
/-! Raw functions whose heap is known by what holds of it alone; rows of what leads elsewhere. -/
/- Chapter 16: the sets that a machine is in, walked. -/
namespace Go.Proofs.YtnipaiklandliaaGreatDoor
open Go Go.Abs AbsSeat Ty
open Nat (reduceEqDiff reduceLT reduceAdd reduceLeDiff reduceMul reduceMod)
def Sg.has (x : Sg) (r : Int) : Bool := decide (x.lo ≤ r) && decide (r ≤ x.hi)
def inS (r : Int) (n : Bool) (l : List Sg) : Bool := if l.any (·.has r) then !n else n
theorem u189 : type_of% (And.intro (show tagT Tryz.prog 276 = 0 from by kernel_rfl) (And.intro (show tagT Tryz.prog 21 = 0 from by kernel_rfl) (And.intro ag3 (And.intro sz3 (And.intro by3 (And.intro ze3 (And.intro Tryz.underlying3 (And.intro ag4 (And.intro sz4 (And.intro by4 (And.intro ze4 (And.intro Tryz.underlying4 (And.intro ag21 (And.intro sz21 (And.intro by21 (And.intro ze21 (And.intro Tryz.underlying21 (And.intro ag173 (And.intro sz173 (And.intro by173 (And.intro se173 (And.intro ze173 (And.intro Tryz.underlying173 (And.intro ag276 (And.intro sz276 (And.intro by276 (And.intro ze276 (And.intro bu276 (And.intro Tryz.underlying276 (And.intro ag277 (And.intro sz277 (And.intro by277 (And.intro ze277 (And.intro Tryz.underlying277 (And.intro fa276_0 (And.intro fd276_0 (And.intro fa276_1 fd276_1))))))))))))))))))))))))))))))))))))) := And.intro (show tagT Tryz.prog 276 = 0 from by kernel_rfl) (And.intro (show tagT Tryz.prog 21 = 0 from by kernel_rfl) (And.intro ag3 (And.intro sz3 (And.intro by3 (And.intro ze3 (And.intro Tryz.underlying3 (And.intro ag4 (And.intro sz4 (And.intro by4 (And.intro ze4 (And.intro Tryz.underlying4 (And.intro ag21 (And.intro sz21 (And.intro by21 (And.intro ze21 (And.intro Tryz.underlying21 (And.intro ag173 (And.intro sz173 (And.intro by173 (And.intro se173 (And.intro ze173 (And.intro Tryz.underlying173 (And.intro ag276 (And.intro sz276 (And.intro by276 (And.intro ze276 (And.intro bu276 (And.intro Tryz.underlying276 (And.intro ag277 (And.intro sz277 (And.intro by277 (And.intro ze277 (And.intro Tryz.underlying277 (And.intro fa276_0 (And.intro fd276_0 (And.intro fa276_1 fd276_1))))))))))))))))))))))))))))))))))))
def g189 : Code :=
 .seq (.region 0 #[q 2 (.box 276 (.tmp 0)) 0, q 3 (.assign (.const (.bool false))) 4] false) (.seq (.region 1 #[q 4 (.load 21 (.tmp 1)) 21, q 5 (.fieldAddr 276 (.tmp 2) 0) 0, q 6 (.load 21 (.tmp 5)) 21, q 7 (.binOp .geq 21 (.tmp 4) (.tmp 6) 21) 4, q 8 (.move (.tmp 7)) 4, qg 9 (.load 21 (.tmp 1)) 21 4 true, qg 10 (.fieldAddr 276 (.tmp 2) 1) 0 4 true, qg 11 (.load 21 (.tmp 10)) 21 4 true, qg 12 (.binOp .leq 21 (.tmp 9) (.tmp 11) 21) 4 4 true, q 13 (.pick (.tmp 8) (.tmp 12) (.const (.bool false))) 4, q 3 (.assign (.tmp 13)) 4] false) .ret)
theorem s189 : Tryz.f189.body.map (slim cfg) = some g189 := by kernel_rfl
def g195 : Code :=
 .seq (.region 0 #[q 4 (.assign (ik 0)) 3] false) (.seq (.seq (.region 1 #[q 6 (.move (.tmp 0)) 173, q 7 (bi .len #[.tmp 6] #[173]) 3, q 8 (.move (ik 0)) 3] false) (.block 0 (.loop (.seq (.region 2 #[q 9 (.binOp .lss 3 (.tmp 8) (.tmp 7) 3) 0] false) (.seq (.cond (.tmp 9) .skip (.exit 0)) (.seq (.block 1 (.seq (.region 3 #[q 10 (.move (.tmp 8)) 3, q 5 (.assign (.tmp 10)) 3] false) (.seq (.region 4 #[q 11 (.move (.tmp 1)) 277, q 12 (.move (.tmp 0)) 173, q 13 (.move (.tmp 5)) 3, q 14 (.indexAddr 173 (.tmp 12) (.tmp 13)) 0, q 15 (.load 276 (.tmp 14)) 276, q 16 (cv (.tmp 11) #[.tmp 15] #[276]) 4] false) (.cond (.tmp 16) (.seq (.region 5 #[q 17 (.move (.tmp 5)) 3, q 4 (.assign (.tmp 17)) 3] false) .ret) .skip)))) (.region 6 #[q 18 (.binOp .add 3 (.tmp 8) (ik 1) 3) 3, q 8 (.move (.tmp 18)) 3] false))))))) (.seq (.region 7 #[q 4 (.assign (ik (-1))) 3] false) .ret))
theorem s195 : Tryz.f195.body.map (slim cfg) = some g195 := by kernel_rfl
def g188 : Code :=
 .seq (.region 0 #[q 4 (.assign (.const (.bool false))) 4] false) (.seq (.region 1 #[q 5 (.move (.tmp 0)) 173, q 6 (.move (.tmp 1)) 277, q 7 (cl 195 #[.tmp 5, .tmp 6] #[173, 277]) 3, q 8 (.binOp .geq 3 (.tmp 7) (ik 0) 3) 4, q 4 (.assign (.tmp 8)) 4] false) .ret)
theorem s188 : Tryz.f188.body.map (slim cfg) = some g188 := by kernel_rfl
def g179 : Code :=
 .seq (.region 0 #[q 3 (.box 21 (.tmp 0)) 0, q 6 (.assign (.const (.bool false))) 4] false) (.seq (.region 1 #[q 7 (.move (.tmp 2)) 173, q 8 (.makeFunc (.func 189) #[] #[.tmp 3]) 277, q 9 (cl 188 #[.tmp 7, .tmp 8] #[173, 277]) 4, q 10 (.move (.tmp 1)) 4, q 11 (.binOp .neq 4 (.tmp 9) (.tmp 10) 4) 4, q 6 (.assign (.tmp 11)) 4] false) .ret)
theorem s179 : Tryz.f179.body.map (slim cfg) = some g179 := by kernel_rfl
theorem in1_ok (x : Sg) (r : Int) (b ver : Nat) (prot : Nat) (H : Heap) (hp : prot ≤ H.length) (hb : hget H b ver = some [.int .i32 r]) :
   aLim cfg prot 189 [encG x, .ptr b ver 0] H = some (.bool (x.has r), none) := by
 refine pure_slim rfl (by kernel_rfl) Tryz.func189 s189 hp rfl (by simp [Tryz.f189]) fun fr hlen h => ?_
 simp only [Has, Nat.zero_add] at h
 obtain ⟨h0, h1, -⟩ := h
 simp only [Tryz.f189] at hlen ⊢
 unfold g189
 have hb' := fun x => hget_mono hb x
 by_cases hlo : x.lo ≤ r
 · simp only [w9, AV.cells, AV.leaf, reduceEqDiff, reduceLT, reduceAdd, reduceLeDiff, reduceCtorEq, reduceMul, reduceMod, u189, hlen, h0, h1, encG, hb', hlo]
   exact Fin_pure (l := [.bool (x.has r)]) (by simp [w9, AV.cells, AV.leaf, reduceEqDiff, reduceLT, reduceAdd, reduceLeDiff, reduceCtorEq, reduceMul, reduceMod, u189, aResults, aResult, hlen, Sg.has, hlo]) (.still rfl) (by simp)
 · simp only [w9, AV.cells, AV.leaf, reduceEqDiff, reduceLT, reduceAdd, reduceLeDiff, reduceCtorEq, reduceMul, reduceMod, u189, hlen, h0, h1, encG, hb', hlo, none_beq]
   exact Fin_pure (l := [.bool (x.has r)]) (by simp [w9, AV.cells, AV.leaf, reduceEqDiff, reduceLT, reduceAdd, reduceLeDiff, reduceCtorEq, reduceMul, reduceMod, u189, aResults, aResult, hlen, Sg.has, hlo]) (.still rfl) (by simp)
def idxS (r : Int) : List Sg → Int → Int
 | [], _ => -1
 | x :: l, i => if x.has r then i else idxS r l (i + 1)
theorem idxS_ge (r : Int) : ∀ (l : List Sg) (i : Int), 0 ≤ i → (0 ≤ idxS r l i ↔ l.any (·.has r) = true)
 | [], i, _ => by simp [idxS]
 | x :: l, i, hi => by
   have := idxS_ge r l (i + 1) (by omega)
   by_cases h : x.has r
   · simp [idxS, h, hi]
   · simp [idxS, h, this]
theorem gidx_ok (l : List Sg) (r : Int) (b ver : Nat) (v : AV) (hv : Sl encG v l) (hl : l.length < 1000000000) (prot : Nat) (H : Heap) (hp : prot ≤ H.length) (hb : hget H b ver = some [.int .i32 r]) :
   aLim cfg prot 195 [v, .func 189 [] [.ptr b ver 0]] H = some (.int .i64 (idxS r l 0), none) := by
 have hsnap : snap H [v, .func 189 [] [.ptr b ver 0]] = some ([v, .func 189 [] [.ptr b ver 0]], false) := by cases hv <;> rfl
 refine pure_slim rfl (by kernel_rfl) Tryz.func195 s195 hp hsnap (by simp [Tryz.f195]) fun fr hlen h => ?_
 simp only [Has, Nat.zero_add] at h
 obtain ⟨h0, h1, -⟩ := h
 simp only [Tryz.f195] at hlen ⊢
 unfold g195
 simp only [w9, AV.cells, AV.leaf, reduceEqDiff, reduceLT, reduceAdd, reduceLeDiff, reduceCtorEq, reduceMul, reduceMod, u189, hlen, h0, h1, hv.len Tryz.underlying173]
 refine loop_rule (fun m fr H' => ∃ (i : Nat), m = l.length - i ∧ i ≤ l.length ∧ fr.length = 19 ∧ fget fr 0 = v ∧ fget fr 1 = .func 189 [] [.ptr b ver 0] ∧ fget fr 7 = .int .i64 l.length ∧ fget fr 8 = .int .i64 i
   ∧ H' = H ∧ idxS r l 0 = idxS r (l.drop i) i) ?_ l.length _ _ ⟨0, by simp [w9, AV.cells, AV.leaf, reduceEqDiff, reduceLT, reduceAdd, reduceLeDiff, reduceCtorEq, reduceMul, reduceMod, u189, hlen, h0, h1]⟩
 rintro m fr H' ⟨i, rfl, hi, hlen, h0, h1, h7, h8, hHe, hc⟩ ih
 subst hHe
 simp only [w9, AV.cells, AV.leaf, reduceEqDiff, reduceLT, reduceAdd, reduceLeDiff, reduceCtorEq, reduceMul, reduceMod, u189, hlen, h0, h1, h7, h8]
 refine RC_split (fun h => ?_) (fun h => ?_)
 · have hlt : i < l.length := by simpa using h
   have hw : IntKind.i64.wrap ((i : Int) + 1) = ((i + 1 : Nat) : Int) := by rw [wrap64 (by omega) (by omega)]; simp
   have e1 := hv.at (k := .i64) Tryz.underlying173 sz276 encG_len hlt
   have hd : l.drop i = l[i] :: l.drop (i + 1) := by simp
   generalize l[i] = x at *
   rw [hd, idxS] at hc
   have hcall := in1_ok x r b ver H'.length H' (Nat.le_refl _) hb
   simp only [encG] at hcall
   simp only [w9, AV.cells, AV.leaf, reduceEqDiff, reduceLT, reduceAdd, reduceLeDiff, reduceCtorEq, reduceMul, reduceMod, u189, hlen, h0, h1, h7, h8, e1, encG, hcall]
   refine RC_split (fun h => ?_) (fun h => ?_)
   · simp only [w9, AV.cells, AV.leaf, reduceEqDiff, reduceLT, reduceAdd, reduceLeDiff, reduceCtorEq, reduceMul, reduceMod, u189, hlen, h0, h1, h7, h8]
     rw [hc, if_pos h]
     exact Fin_pure (l := [.int .i64 i]) (by simp [w9, AV.cells, AV.leaf, reduceEqDiff, reduceLT, reduceAdd, reduceLeDiff, reduceCtorEq, reduceMul, reduceMod, u189, aResults, aResult, hlen]) (.still rfl) (by simp)
   · simp only [w9, AV.cells, AV.leaf, reduceEqDiff, reduceLT, reduceAdd, reduceLeDiff, reduceCtorEq, reduceMul, reduceMod, u189, hlen, h0, h1, h7, h8, hw]
     refine ih _ _ (l.length - (i + 1)) (by omega) ⟨i + 1, rfl, hlt, ?_⟩
     rw [hc]
     simp [w9, AV.cells, AV.leaf, reduceEqDiff, reduceLT, reduceAdd, reduceLeDiff, reduceCtorEq, reduceMul, reduceMod, u189, hlen, h0, h1, h7, h8, h]
 · simp only [w9, AV.cells, AV.leaf, reduceEqDiff, reduceLT, reduceAdd, reduceLeDiff, reduceCtorEq, reduceMul, reduceMod, u189, hlen, h0, h1, h7, h8]
   have hnl : ¬ i < l.length := by simpa using h
   have : l.drop i = [] := by simp; omega
   rw [this] at hc
   rw [hc]
   exact Fin_pure (l := [.int .i64 (-1)]) (by simp [w9, AV.cells, AV.leaf, reduceEqDiff, reduceLT, reduceAdd, reduceLeDiff, reduceCtorEq, reduceMul, reduceMod, u189, aResults, aResult, hlen]) (.still rfl) (by simp)
theorem ghas_ok (l : List Sg) (r : Int) (b ver : Nat) (v : AV) (hv : Sl encG v l) (hl : l.length < 1000000000) (prot : Nat) (H : Heap) (hp : prot ≤ H.length) (hb : hget H b ver = some [.int .i32 r]) :
   aLim cfg prot 188 [v, .func 189 [] [.ptr b ver 0]] H = some (.bool (l.any (·.has r)), none) := by
 have hsnap : snap H [v, .func 189 [] [.ptr b ver 0]] = some ([v, .func 189 [] [.ptr b ver 0]], false) := by cases hv <;> rfl
 refine pure_slim rfl (by kernel_rfl) Tryz.func188 s188 hp hsnap (by simp [Tryz.f188]) fun fr hlen h => ?_
 simp only [Has, Nat.zero_add] at h
 obtain ⟨h0, h1, -⟩ := h
 simp only [Tryz.f188] at hlen ⊢
 unfold g188
 have hcall := gidx_ok l r b ver v hv hl H.length H (Nat.le_refl _) hb
 have e : decide (idxS r l 0 ≥ 0) = l.any (·.has r) := by
   have := idxS_ge r l 0 (by omega)
   rw [Bool.eq_iff_iff, decide_eq_true_iff, ← this]
 simp only [w9, AV.cells, AV.leaf, reduceEqDiff, reduceLT, reduceAdd, reduceLeDiff, reduceCtorEq, reduceMul, reduceMod, u189, hlen, h0, h1, hcall, e]
 exact Fin_pure (l := [.bool (l.any (·.has r))]) (by simp [w9, AV.cells, AV.leaf, reduceEqDiff, reduceLT, reduceAdd, reduceLeDiff, reduceCtorEq, reduceMul, reduceMod, u189, aResults, aResult, hlen]) (.still rfl) (by simp)
theorem inG_ok (l : List Sg) (r : Int) (n : Bool) (v : AV) (hv : Sl encG v l) (hl : l.length < 1000000000) (prot : Nat) (H : Heap) (hp : prot ≤ H.length) :
   aLim cfg prot 179 [.int .i32 r, .bool n, v] H = some (.bool (inS r n l), none) := by
 have hsnap : snap H [.int .i32 r, .bool n, v] = some ([.int .i32 r, .bool n, v], false) := by cases hv <;> rfl
 refine pure_slim rfl (by kernel_rfl) Tryz.func179 s179 hp hsnap (by simp [Tryz.f179]) fun fr hlen h => ?_
 simp only [Has, Nat.zero_add] at h
 obtain ⟨h0, h1, h2, -⟩ := h
 simp only [Tryz.f179] at hlen ⊢
 unfold g179
 have hcall := ghas_ok l r H.length 0 v hv hl H.length (H ++ [Blk.cells 0 [.int .i32 r]]) (by simp) (by rw [hget_new rfl]; rfl)
 have e : (!(l.any (·.has r) == n)) = inS r n l := by
   unfold inS
   cases l.any (·.has r) <;> cases n <;> rfl
 simp only [w9, AV.cells, AV.leaf, reduceEqDiff, reduceLT, reduceAdd, reduceLeDiff, reduceCtorEq, reduceMul, reduceMod, u189, hlen, h0, h1, h2, hcall]
 exact Fin_pure (l := [.bool (inS r n l)]) (by simp [w9, AV.cells, AV.leaf, reduceEqDiff, reduceLT, reduceAdd, reduceLeDiff, reduceCtorEq, reduceMul, reduceMod, u189, aResults, aResult, hlen, e]) (.still rfl) (by simp)
end Go.Proofs.YtnipaiklandliaaGreatDoor
namespace Go.Abs
open Go
open Nat (reduceEqDiff reduceLT reduceAdd reduceLeDiff reduceMul reduceMod)
theorem hmap_set_ne {H : Heap} {b r : Nat} {k : Blk} (h : r ≠ b) : hmap (H.set b k) r = hmap H r := by
 unfold hmap; rw [List.getElem?_set_ne (Ne.symm h)]
theorem hmap_set {H : Heap} {r : Nat} {es es' : List (AV × AV)} (h : hmap H r = some es) : hmap (H.set r (.map es')) r = some es' := by
 unfold hmap at h ⊢
 split at h
 · rename_i hb
   have := (List.getElem?_eq_some_iff.1 hb).1
   simp [this]
 · cases h
theorem hmap_lt {H : Heap} {r : Nat} {es : List (AV × AV)} (h : hmap H r = some es) : r < H.length := by
 unfold hmap at h
 split at h
 · rename_i hb; exact (List.getElem?_eq_some_iff.1 hb).1
 · cases h
theorem hmap_mono {H : Heap} {r : Nat} {es : List (AV × AV)} (h : hmap H r = some es) (x : List Blk) : hmap (H ++ x) r = some es := by
 have hl := hmap_lt h
 unfold hmap at h ⊢
 rw [List.getElem?_append_left hl]; exact h
end Go.Abs
namespace Go.Proofs.YtnipaiklandliaaGreatDoor
open Go Go.Abs AbsSeat Ty
open Nat (reduceEqDiff reduceLT reduceAdd reduceLeDiff reduceMul reduceMod)
def encK (k : Nat) : AV := .int .i64 (k : Nat)
theorem encK_T : EncT encK 1 false where
 len _ := rfl
 leaf x c hc := by simp [encK, AV.cells] at hc; subst hc; rfl
 still x c hc := by simp [encK, AV.cells] at hc; subst hc; rfl
 shape _ := rfl
theorem cellsK (l : List Nat) : cellsOf encK l = l.map encK := by
 induction l with
 | nil => rfl
 | cons x r ih => simp only [cellsOf, List.flatMap_cons, List.map_cons] at ih ⊢; rw [ih]; rfl
theorem rowK : RowT Tryz.prog 145 3 1 8 false where
 un := Tryz.underlying145
 size := sz3
 bytes := by3
 agg := ag3
 zero := ⟨_, ze3, rfl⟩
 pos := by decide
 tree := rfl
theorem hxtK : (∃ e', Tryz.prog.underlying 145 = some (.slice e')) ∨ Tryz.prog.underlying 145 = some .string := .inl ⟨_, Tryz.underlying145⟩
theorem litK1 (a : Nat) (K : Heap) : aBuildSlice Tryz.prog K 145 1 [(0, .int .i64 (a : Nat))] = some (.bs ⟨K.length, 0, 0, 1, 1, 1, false, true⟩, some (K ++ [Blk.cells 0 ([a].map encK)])) := by
 have e2 : fillA (fun i => some (i * 1, 1)) (zrep 1 [.int .i64 0]) [(0, .int .i64 (a : Nat))] = some [.int .i64 (a : Nat)] := rfl
 unfold aBuildSlice
 rw [rowK.elem, Option.bind_some, rowK.size, Option.bind_some, rowK.agg, Option.bind_some, ze3, Option.bind_some]
 rw [if_pos ⟨by decide, rfl, by decide⟩]
 simp only [AV.cells]
 rw [e2, Option.bind_some, if_pos (show ([.int .i64 (a : Nat)] : List AV).all AV.leaf = true from rfl), if_neg (by decide)]
 rfl
theorem litK2 (a b : Nat) (K : Heap) : aBuildSlice Tryz.prog K 145 2 [(0, .int .i64 (a : Nat)), (1, .int .i64 (b : Nat))] = some (.bs ⟨K.length, 0, 0, 2, 2, 1, false, true⟩, some (K ++ [Blk.cells 0 ([a, b].map encK)])) := by
 have e2 : fillA (fun i => some (i * 1, 1)) (zrep 2 [.int .i64 0]) [(0, .int .i64 (a : Nat)), (1, .int .i64 (b : Nat))] = some [.int .i64 (a : Nat), .int .i64 (b : Nat)] := rfl
 unfold aBuildSlice
 rw [rowK.elem, Option.bind_some, rowK.size, Option.bind_some, rowK.agg, Option.bind_some, ze3, Option.bind_some]
 rw [if_pos ⟨by decide, rfl, by decide⟩]
 simp only [AV.cells]
 rw [e2, Option.bind_some, if_pos (show ([.int .i64 (a : Nat), .int .i64 (b : Nat)] : List AV).all AV.leaf = true from rfl), if_neg (by decide)]
 rfl
theorem elemK (l : List Nat) (K : Heap) (x : List Blk) : elemCells (K ++ Blk.cells 0 (l.map encK) :: x) 1 (.bs ⟨K.length, 0, 0, l.length, l.length, 1, false, true⟩) = some (l.length, cellsOf encK l) := by
 have hg : hget (K ++ Blk.cells 0 (l.map encK) :: x) K.length 0 = some (l.map encK) := by rw [hget_new rfl, if_pos rfl]
 have hw : win (l.map encK) 0 (l.length * 1) = some (l.map encK) := by
   simp only [win, Nat.zero_add, List.drop_zero]
   rw [if_pos (by simp), List.take_of_length_le (by simp)]
 simp only [elemCells, if_true, hg, Option.bind_some, hw, Option.map_some, cellsK]
def ent (k : Nat) : AV × AV := (.int .i64 (k : Nat), .int .i64 1)
theorem mfit_ent (o : List Nat) : mfit (o.map ent) = true := by simp [mfit, ent, mfitK]
theorem mfind_ent (k : Nat) : ∀ (o : List Nat) (i : Nat), mfind (.int .i64 (k : Nat)) (o.map ent) i = some (if k ∈ o then some (i + o.idxOf k, .int .i64 1) else none)
 | [], i => rfl
 | x :: r, i => by
   rw [List.map_cons]
   unfold mfind
   simp only [ent, keyEq, if_true, Option.bind_some]
   by_cases h : x = k
   · subst h
     simp [List.idxOf_cons]
   · have h1 : (((k : Nat) : Int) == (x : Nat)) = false := by simp; omega
     have h2 : (x == k) = false := by simp [h]
     rw [h1]
     simp only [Bool.false_eq_true, if_false]
     rw [mfind_ent k r (i + 1)]
     by_cases h3 : k ∈ r
     · rw [if_pos h3, if_pos (by simp [h3])]
       simp [List.idxOf_cons, h2]
       omega
     · rw [if_neg h3, if_neg (by simp [h3]; omega)]
theorem look_ok {H : Heap} {r : Nat} {o : List Nat} (h : hmap H r = some (o.map ent)) (k : Nat) : aLookup Tryz.prog H 227 (.map r) (.int .i64 (k : Nat)) false = some (.int .i64 (if k ∈ o then 1 else 0)) := by
 have hk : keyT Tryz.prog 227 = some (3, 3) := by unfold keyT; rw [Tryz.underlying227]; simp only [Tryz.underlying3]
 have hf : keyFits Tryz.prog 3 (.int .i64 (k : Nat)) = true := by unfold keyFits; rw [Tryz.underlying3]
 unfold aLookup
 rw [hk, Option.bind_some]
 simp only [hf, if_true, h, Option.bind_some, mfind_ent]
 by_cases h1 : k ∈ o
 · simp [h1]
 · simp [h1, ze3]
theorem put_new {H : Heap} {prot r : Nat} {o : List Nat} (h : hmap H r = some (o.map ent)) {k : Nat} (hk : k ∉ o) (hp : prot ≤ r) : aMapPut Tryz.prog prot H 227 (.map r) (.int .i64 (k : Nat)) (.int .i64 1) = some (H.set r (Blk.map ((o ++ [k]).map ent))) := by
 have hkt : keyT Tryz.prog 227 = some (3, 3) := by unfold keyT; rw [Tryz.underlying227]; simp only [Tryz.underlying3]
 have hf : keyFits Tryz.prog 3 (.int .i64 (k : Nat)) = true := by unfold keyFits; rw [Tryz.underlying3]
 unfold aMapPut
 rw [hkt, Option.bind_some]
 simp only [hf, if_true, hp, h, Option.bind_some, mfind_ent, hk, if_false, Option.map_some, List.map_append]
 rfl
def StkAt (b : Nat) (H : Heap) (w : AV) (st : List Nat) : Prop := ∃ ver cap ex cs, w = .bs ⟨b, ver, 0, st.length, cap, 1, false, ex⟩ ∧ hget H b ver = some cs ∧ win cs 0 (st.length * 1) = some (st.map encK) ∧ ver % 4 = 0 ∧ (ex = true → cap = 1 ∧ st.length ≤ 1)
theorem StkAt.len {b : Nat} {H : Heap} {w : AV} {st : List Nat} (h : StkAt b H w st) : aLen Tryz.prog H 145 w = some (.int .i64 (st.length : Nat)) := by
 obtain ⟨ver, cap, ex, cs, rfl, _⟩ := h
 simp [aLen, Tryz.underlying145]
theorem StkAt.len' {b : Nat} {H : Heap} {w : AV} {st : List Nat} (h : StkAt b H w st) (K : Heap) : aLen Tryz.prog K 145 w = some (.int .i64 (st.length : Nat)) := by
 obtain ⟨ver, cap, ex, cs, rfl, _⟩ := h
 simp [aLen, Tryz.underlying145]
theorem win_take {cs xs : List AV} {n m : Nat} (h : win cs 0 n = some xs) (hm : m ≤ n) : win cs 0 m = some (xs.take m) := by
 unfold win at h ⊢
 simp only [Nat.zero_add, List.drop_zero] at h ⊢
 split at h
 · cases h
   rw [if_pos (by omega), List.take_take, Nat.min_eq_left hm]
 · cases h
theorem win_get {cs xs : List AV} {n : Nat} (h : win cs 0 n = some xs) {i : Nat} (hi : i < n) : cs[i]? = xs[i]? := by
 unfold win at h
 simp only [Nat.zero_add, List.drop_zero] at h
 split at h
 · cases h
   rw [List.getElem?_take_of_lt hi]
 · cases h
theorem StkAt.pop {b : Nat} {H : Heap} {w : AV} {st : List Nat} {k : Nat} (h : StkAt b H w (st ++ [k])) : ∃ ver cs w', aIndexAddr Tryz.prog 145 w (.int .i64 (st.length : Nat)) = some (.ptr b ver st.length) ∧ hget H b ver = some cs ∧ cs[st.length]? = some (.int .i64 (k : Nat)) ∧
   aSlice Tryz.prog 145 w none (some (.int .i64 (st.length : Nat))) none = some w' ∧ StkAt b H w' st := by
 obtain ⟨ver, cap, ex, cs, rfl, hg, hw, hv, hx⟩ := h
 rw [List.length_append, List.length_singleton] at hw
 have hget : cs[st.length]? = some (.int .i64 (k : Nat)) := by
   rw [win_get hw (by omega)]
   simp [encK]
 have hw2 : win cs 0 (st.length * 1) = some (st.map encK) := by
   rw [win_take hw (by omega)]
   simp
 refine ⟨ver, cs, .bs ⟨b, ver, 0, st.length, cap, 1, false, ex⟩, ?_, hg, hget, ?_, ⟨ver, cap, ex, cs, rfl, hg, hw2, hv, fun h => ⟨(hx h).1, by have := (hx h).2; simp at this; simp [this]⟩⟩⟩
 · simp [aIndexAddr, asNat, Tryz.underlying145, sz3]
 · cases ex with
   | true =>
     obtain ⟨rfl, hl⟩ := hx rfl
     have h0 : st = [] := by simpa using hl
     subst h0
     simp [aSlice, Tryz.underlying145, sz3, aBounds, optInt]
   | false =>
     simp [aSlice, Tryz.underlying145, sz3, aBounds, optInt]
theorem StkAt.keep {b : Nat} {H K : Heap} {w : AV} {st : List Nat} (h : StkAt b H w st) (hk : ∀ ver cs, hget H b ver = some cs → hget K b ver = some cs) : StkAt b K w st := by
 obtain ⟨ver, cap, ex, cs, rfl, hg, hw, hv, hx⟩ := h
 exact ⟨ver, cap, ex, cs, rfl, hk _ _ hg, hw, hv, hx⟩
theorem StkAt.push {b : Nat} {H : Heap} {w : AV} {st : List Nat} (h : StkAt b H w st) (hl : st.length ≤ 1000000) {prot : Nat} (hp : prot ≤ b) {x : AV} {m : List Nat} (hm : m.length = 2) (hx : elemCells H 1 x = some (m.length, cellsOf encK m)) :
   ∃ w' H' b', aAppend Tryz.prog prot H #[145, 145] w x = some (w', some H') ∧ StkAt b' H' w' (st ++ m) ∧ H.length ≤ H'.length ∧ (b' = b ∨ b' = H.length) ∧ (∀ z ver cs, z ≠ b → hget H z ver = some cs → hget H' z ver = some cs) ∧ ∀ r es, r ≠ b → hmap H r = some es → hmap H' r = some es := by
 obtain ⟨ver, cap, ex, cs, rfl, hg, hw, hv, he⟩ := h
 have hwin : win (st.map encK ++ m.map encK) 0 ((st ++ m).length * 1) = some ((st ++ m).map encK) := by
   simp only [win, Nat.zero_add, List.drop_zero, List.map_append]
   rw [if_pos (by simp), List.take_of_length_le (by simp)]
 have hlf : (cellsOf encK m).all AV.leaf = true := cellsOf_leaf encK_T m
 have hm0 : ¬ m.length = 0 := by omega
 have hro : roomy (st.length + m.length) 8 = true := by simp [roomy]; omega
 obtain ⟨zz, hzz, hzl⟩ := rowK.zero
 have h80 : ∀ v : Nat, (v : Nat) % 4 = 0 → (v + 4) % 4 = 0 := fun v h => by omega
 rw [cellsK] at hx hlf
 cases ex with
 | true =>
   obtain ⟨rfl, hst⟩ := he rfl
   have hc : ¬ st.length + m.length ≤ 1 := by omega
   refine ⟨.bs ⟨H.length, 0, 0, st.length + m.length, 0, 1, false, false⟩, H ++ [Blk.cells 0 (st.map encK ++ m.map encK)], H.length, ?_, ⟨0, 0, false, _, by rw [List.length_append], by rw [hget_new rfl, if_pos rfl], hwin, rfl, by simp⟩, by simp, .inr rfl, fun z ver cs _ h => hget_mono h _, fun r es _ h => hmap_mono h _⟩
   unfold aAppend
   simp only [List.getElem?_toArray, List.getElem?_cons_zero, List.getElem?_cons_succ, Option.bind_some, rowK.elem, rowK.size, rowK.bytes, rowK.agg, Tryz.underlying145, hzz, hzl, ne_eq, not_true_eq_false, if_false, hx, hlf, if_true, hm0, hg, hw, hro, hc]
 | false =>
   have hlt := hget_lt hg
   refine ⟨.bs ⟨b, ver + 4, 0, st.length + m.length, 0, 1, false, false⟩, H.set b (Blk.cells (ver + 4) (st.map encK ++ m.map encK)), b, ?_, ⟨ver + 4, 0, false, _, by rw [List.length_append], by rw [hget_set_same hlt, if_pos rfl], hwin, by omega, by simp⟩, by simp, .inl rfl, fun z ver cs hz h => by rw [hget_set_ne hz]; exact h, fun r es hr h => by rw [hmap_set_ne hr]; exact h⟩
   unfold aAppend
   simp only [List.getElem?_toArray, List.getElem?_cons_zero, List.getElem?_cons_succ, Option.bind_some, rowK.elem, rowK.size, rowK.bytes, rowK.agg, Tryz.underlying145, hzz, hzl, ne_eq, not_true_eq_false, if_false, hx, hlf, if_true, hm0, hg, hw, hro, Bool.false_eq_true, hp, rowOk_zero hv, and_self]
def SetAt (H : Heap) (s r : Nat) (v : AV) (o : List Nat) : Prop := hget H s 0 = some [.map r, v] ∧ hmap H r = some (o.map ent) ∧ Row encK 1 false (s + 1) H v o
structure Frs (H H' : Heap) (s r : Nat) (v v' : AV) : Prop where
 len : H.length ≤ H'.length
 keep : ∀ z ver cs, z ≠ s → z ≠ r → (∀ b, v = .bs b → b.b ≠ z) → hget H z ver = some cs → hget H' z ver = some cs
 blk : ∀ b', v' = .bs b' → (∃ b, v = .bs b ∧ b'.b = b.b) ∨ H.length ≤ b'.b
theorem Frs.refl (H : Heap) (s r : Nat) (v : AV) : Frs H H s r v v := ⟨Nat.le_refl _, fun _ _ _ _ _ _ h => h, fun b' h => .inl ⟨b', h, rfl⟩⟩
theorem Frs.trans {H K L : Heap} {s r : Nat} {v w x : AV} (h : Frs H K s r v w) (k : Frs K L s r w x) : Frs H L s r v x := by
 refine ⟨Nat.le_trans h.len k.len, fun z ver cs h1 h2 h3 h4 => k.keep z ver cs h1 h2 (fun b hb => ?_) (h.keep z ver cs h1 h2 h3 h4), fun b' hb' => ?_⟩
 · rcases h.blk b hb with ⟨b0, e1, e2⟩ | h5
   · rw [e2]; exact h3 b0 e1
   · have := hget_lt h4; omega
 · rcases k.blk b' hb' with ⟨b, e1, e2⟩ | h5
   · rcases h.blk b e1 with ⟨b0, e3, e4⟩ | h6
     · exact .inl ⟨b0, e3, by rw [e2, e4]⟩
     · exact .inr (by omega)
   · exact .inr (Nat.le_trans h.len h5)
def nxt (l : List St) (k j : Nat) : Prop := ∃ s, l[k]? = some s ∧ s.kind = 2 ∧ (s.one = (j : Nat) ∨ s.two = (j : Nat))
inductive Rch (l : List St) (k : Nat) : Nat → Prop where
 | refl : Rch l k k
 | step {a b : Nat} (h : Rch l k a) (n : nxt l a b) : Rch l k b
def Closed (l : List St) (o : List Nat) : Prop := ∀ x ∈ o, ∀ y, nxt l x y → y ∈ o
theorem Rch.closed {l : List St} {o : List Nat} (hc : Closed l o) {k x : Nat} (h : Rch l k x) (hk : k ∈ o) : x ∈ o := by
 induction h with
 | refl => exact hk
 | step _ n ih => exact hc _ ih _ n
def RightM (l : List St) : Prop := ∀ s ∈ l, (s.kind = 3 ∨ s.kind = 1 ∨ s.kind = 2) ∧ (s.kind < 3 → 0 ≤ s.one ∧ s.one < l.length) ∧ (s.kind = 2 → 0 ≤ s.two ∧ s.two < l.length)
def encM (l : List St) (a : Nat) : AV := .vptr [slv encSt l, .int .i64 (a : Nat)] 0
theorem nodup_len : ∀ (n : Nat) (o : List Nat), o.Nodup → (∀ x ∈ o, x < n) → o.length ≤ n
 | 0, o, _, h2 => by
   cases o with
   | nil => simp
   | cons x r => have := h2 x (by simp); omega
 | n + 1, o, h1, h2 => by
   by_cases h : n ∈ o
   · have h3 := nodup_len n (o.erase n) (h1.erase n) fun x hx => by
       rw [h1.mem_erase_iff] at hx
       have := h2 x hx.2
       omega
     rw [List.length_erase_of_mem h] at h3
     omega
   · have h3 := nodup_len n o h1 fun x hx => by
       have := h2 x hx
       have : x ≠ n := fun e => h (e ▸ hx)
       omega
     omega
theorem rowK_app {base : Nat} {H : Heap} {v : AV} {o : List Nat} (h : Row encK 1 false base H v o) {prot : Nat} {x : AV} {m : List Nat} (hx : elemCells H 1 x = some (m.length, cellsOf encK m)) (hm : 0 < m.length) (hr : o.length + m.length ≤ 1000000) (hp : prot ≤ base) (hb : base ≤ H.length) :
   ∃ v' H', aAppend Tryz.prog prot H #[145, 145] v x = some (v', some H') ∧ Row encK 1 false base H' v' (o ++ m) ∧ H.length ≤ H'.length ∧ (∀ z ver cs, (∀ s, v = .bs s → s.b ≠ z) → hget H z ver = some cs → hget H' z ver = some cs) ∧ (∀ r es, r < base → hmap H r = some es → hmap H' r = some es) ∧
     ∀ s', v' = .bs s' → (∃ s, v = .bs s ∧ s'.b = s.b) ∨ s'.b = H.length := by
 have hL : EncL encK 1 := ⟨encK_T.len, encK_T.leaf⟩
 rcases h with ⟨rfl, rfl⟩ | ⟨b, ver, rfl, h2, h3, hv4⟩
 · refine ⟨_, _, hL.app0 rowK hxtK hx hm (by simp [roomy]; simp at hr; omega), .inr ⟨H.length, 0, by simp, hb, by rw [hget_new rfl]; rfl, rfl⟩, by simp, fun z ver cs _ h => hget_mono h _, fun r es _ h => hmap_mono h _, fun s' h => .inr (by cases h; rfl)⟩
 · refine ⟨_, _, hL.app rowK hxtK h3 hv4 hx hm (by simp [roomy]; omega) (by omega), .inr ⟨b, ver + 4, by simp, h2, by rw [hget_set_same (hget_lt h3), if_pos rfl], by omega⟩, by simp, fun z ver cs hz h => by rw [hget_set_ne (Ne.symm (hz _ rfl))]; exact h, fun r es hr h => by rw [hmap_set_ne (by omega)]; exact h, fun s' h => .inl ⟨_, rfl, by cases h; rfl⟩⟩
theorem SetAt.keep {H K : Heap} {s r q : Nat} {v : AV} {o : List Nat} (h : SetAt H s r v o) (k1 : ∀ z ver cs, z ≠ q → hget H z ver = some cs → hget K z ver = some cs) (k2 : ∀ r es, r ≠ q → hmap H r = some es → hmap K r = some es) (hs : s ≠ q) (hr : r ≠ q) (hv : ∀ b, v = .bs b → b.b ≠ q) : SetAt K s r v o := by
 obtain ⟨h1, h2, h3⟩ := h
 refine ⟨k1 _ _ _ hs h1, k2 _ _ hr h2, ?_⟩
 rcases h3 with h3 | ⟨b, ver, rfl, g2, g3, g4⟩
 · exact .inl h3
 · exact .inr ⟨b, ver, rfl, g2, k1 _ _ _ (hv _ rfl) g3, g4⟩
theorem SetAt.more {H : Heap} {s r : Nat} {v : AV} {o : List Nat} (h : SetAt H s r v o) (x : List Blk) : SetAt (H ++ x) s r v o := ⟨hget_mono h.1 x, hmap_mono h.2.1 x, h.2.2.more x⟩
theorem SetAt.blk {H : Heap} {s r : Nat} {v : AV} {o : List Nat} (h : SetAt H s r v o) : ∀ b, v = .bs b → s + 1 ≤ b.b ∧ b.b < H.length := by
 intro b hb
 rcases h.2.2 with ⟨q, _⟩ | ⟨c, ver, q, g2, g3, _⟩
 · rw [q] at hb; cases hb
 · rw [q] at hb; cases hb; exact ⟨g2, hget_lt g3⟩
theorem Frs.more (H : Heap) (s r : Nat) (v : AV) (x : List Blk) : Frs H (H ++ x) s r v v := ⟨by simp, fun _ _ _ _ _ _ h => hget_mono h x, fun b' h => .inl ⟨b', h, rfl⟩⟩
theorem set_add {H : Heap} {s r prot j : Nat} {v : AV} {o : List Nat} (h : SetAt H s r v o) (hj : j ∉ o) (hp : prot ≤ r) (hrs : r < s) (hl : o.length ≤ 100000) :
   ∃ K1 K3 K4 v', aMapPut Tryz.prog prot H 227 (.map r) (.int .i64 (j : Nat)) (.int .i64 1) = some K1 ∧ hget K1 s 0 = some [.map r, v] ∧ aAppend Tryz.prog prot (K1 ++ [Blk.cells 0 ([j].map encK)]) #[145, 145] v (.bs ⟨K1.length, 0, 0, 1, 1, 1, false, true⟩) = some (v', some K3) ∧
     (v'.leaf = true ∧ v'.cells = [v']) ∧ hput prot K3 s 0 1 [v'] = some K4 ∧ SetAt K4 s r v' (o ++ [j]) ∧ Frs H K4 s r v v' := by
 obtain ⟨h1, h2, h3⟩ := h
 have hb := SetAt.blk ⟨h1, h2, h3⟩
 have hm := hmap_lt h2
 have hs := hget_lt h1
 have hp1 := put_new h2 hj hp
 have k1s : hget (H.set r (Blk.map ((o ++ [j]).map ent))) s 0 = some [.map r, v] := by rw [hget_set_ne (by omega)]; exact h1
 have k1m := hmap_set (es' := (o ++ [j]).map ent) h2
 have k1r := h3.setne (b' := r) (by omega) (Blk.map ((o ++ [j]).map ent))
 have k1k : ∀ z ver cs, z ≠ r → hget H z ver = some cs → hget (H.set r (Blk.map ((o ++ [j]).map ent))) z ver = some cs := fun z ver cs hz hg => by rw [hget_set_ne hz]; exact hg
 have k1l : (H.set r (Blk.map ((o ++ [j]).map ent))).length = H.length := by simp
 generalize H.set r (Blk.map ((o ++ [j]).map ent)) = K1 at *
 obtain ⟨v', K3, happ, hrow3, hle3, hk3, hm3, hb3⟩ := rowK_app (prot := prot) (k1r.more [Blk.cells 0 ([j].map encK)]) (elemK [j] K1 []) (by simp) (by simp; omega) (by omega) (by simp; omega)
 have k3s := hk3 s 0 _ (fun b hbb => by have := hb b hbb; omega) (hget_mono k1s [Blk.cells 0 ([j].map encK)])
 have hvl : v'.leaf = true ∧ v'.cells = [v'] := by rcases hrow3 with ⟨q, _⟩ | ⟨b, ver, q, _⟩ <;> rw [q] <;> exact ⟨rfl, rfl⟩
 have hput1 : hput prot K3 s 0 1 [v'] = some (K3.set s (.cells 0 [.map r, v'])) := by
   rw [hput_eq k3s (by omega) (by simp) (by simp [hvl.1])]; rfl
 refine ⟨K1, K3, _, v', hp1, k1s, happ, hvl, hput1, ⟨hget_set_at (hget_lt k3s), ?_, hrow3.setne (by omega) _⟩, ?_, ?_, ?_⟩
 · rw [hmap_set_ne (by omega)]; exact hm3 _ _ (by omega) (hmap_mono k1m _)
 · simp at hle3 ⊢; omega
 · intro z ver cs h1 h2 h3 h4
   rw [hget_set_ne h1]
   exact hk3 z ver cs h3 (hget_mono (k1k z ver cs h2 h4) _)
 · intro b' hb'
   rcases hb3 b' hb' with h5 | h5
   · exact .inl h5
   · right; rw [h5]; simp; omega
theorem u163 : type_of% (And.intro (show tagT Tryz.prog 219 = 0 from by kernel_rfl) (And.intro (show tagT Tryz.prog 229 = 0 from by kernel_rfl) (And.intro (show tagT Tryz.prog 98 = 0 from by kernel_rfl) (And.intro (show tagT Tryz.prog 9 = 0 from by kernel_rfl) (And.intro (show tagT Tryz.prog 4 = 0 from by kernel_rfl) (And.intro (fun (xo yo : Operand) (b v o : Nat) => ptr_nil_eq (xo := xo) (yo := yo) Tryz.underlying98 b v o) (And.intro (fun (xo yo : Operand)  => nil_nil_eq (xo := xo) (yo := yo) Tryz.underlying98 ) (And.intro (show tagT Tryz.prog 223 = 0 from by kernel_rfl) (And.intro (show tagT Tryz.prog 176 = 0 from by kernel_rfl) (And.intro ag1 (And.intro sz1 (And.intro by1 (And.intro ze1 (And.intro Tryz.underlying1 (And.intro ag2 (And.intro sz2 (And.intro by2 (And.intro ze2 (And.intro Tryz.underlying2 (And.intro ag3 (And.intro sz3 (And.intro by3 (And.intro ze3 (And.intro Tryz.underlying3 (And.intro ag4 (And.intro sz4 (And.intro by4 (And.intro ze4 (And.intro Tryz.underlying4 (And.intro ag5 (And.intro sz5 (And.intro by5 (And.intro ze5 (And.intro Tryz.underlying5 (And.intro ag9 (And.intro sz9 (And.intro by9 (And.intro ze9 (And.intro Tryz.underlying9 (And.intro ag21 (And.intro sz21 (And.intro by21 (And.intro ze21 (And.intro Tryz.underlying21 (And.intro ag28 (And.intro sz28 (And.intro by28 (And.intro ze28 (And.intro Tryz.underlying28 (And.intro ag72 (And.intro sz72 (And.intro by72 (And.intro se72 (And.intro ze72 (And.intro Tryz.underlying72 (And.intro ag98 (And.intro sz98 (And.intro by98 (And.intro ze98 (And.intro Tryz.underlying98 (And.intro ag145 (And.intro sz145 (And.intro by145 (And.intro se145 (And.intro ze145 (And.intro Tryz.underlying145 (And.intro ag173 (And.intro sz173 (And.intro by173 (And.intro se173 (And.intro ze173 (And.intro Tryz.underlying173 (And.intro ag176 (And.intro sz176 (And.intro by176 (And.intro ze176 (And.intro bu176 (And.intro Tryz.underlying176 (And.intro ag179 (And.intro sz179 (And.intro by179 (And.intro se179 (And.intro ze179 (And.intro Tryz.underlying179 (And.intro ag186 (And.intro sz186 (And.intro by186 (And.intro ze186 (And.intro Tryz.underlying186 (And.intro ag188 (And.intro sz188 (And.intro by188 (And.intro ze188 (And.intro Tryz.underlying188 (And.intro ag219 (And.intro sz219 (And.intro by219 (And.intro ze219 (And.intro bu219 (And.intro Tryz.underlying219 (And.intro ag223 (And.intro sz223 (And.intro by223 (And.intro ze223 (And.intro bu223 (And.intro Tryz.underlying223 (And.intro ag227 (And.intro sz227 (And.intro by227 (And.intro ze227 (And.intro Tryz.underlying227 (And.intro ag229 (And.intro sz229 (And.intro by229 (And.intro ze229 (And.intro bu229 (And.intro Tryz.underlying229 (And.intro ag276 (And.intro sz276 (And.intro by276 (And.intro ze276 (And.intro bu276 (And.intro Tryz.underlying276 (And.intro fa219_0 (And.intro fd219_0 (And.intro fa219_1 (And.intro fd219_1 (And.intro fa219_2 (And.intro fd219_2 (And.intro fa219_3 (And.intro fd219_3 (And.intro fa219_4 (And.intro fd219_4 (And.intro fa223_0 (And.intro fd223_0 (And.intro fa223_1 (And.intro fd223_1 (And.intro fa229_0 (And.intro fd229_0 (And.intro fa229_1 fd229_1)))))))))))))))))))))))))))))))))))))))))))))))))))))))))))))))))))))))))))))))))))))))))))))))))))))))))))))))))))))))))))))))))))))))))))) := And.intro (show tagT Tryz.prog 219 = 0 from by kernel_rfl) (And.intro (show tagT Tryz.prog 229 = 0 from by kernel_rfl) (And.intro (show tagT Tryz.prog 98 = 0 from by kernel_rfl) (And.intro (show tagT Tryz.prog 9 = 0 from by kernel_rfl) (And.intro (show tagT Tryz.prog 4 = 0 from by kernel_rfl) (And.intro (fun (xo yo : Operand) (b v o : Nat) => ptr_nil_eq (xo := xo) (yo := yo) Tryz.underlying98 b v o) (And.intro (fun (xo yo : Operand)  => nil_nil_eq (xo := xo) (yo := yo) Tryz.underlying98 ) (And.intro (show tagT Tryz.prog 223 = 0 from by kernel_rfl) (And.intro (show tagT Tryz.prog 176 = 0 from by kernel_rfl) (And.intro ag1 (And.intro sz1 (And.intro by1 (And.intro ze1 (And.intro Tryz.underlying1 (And.intro ag2 (And.intro sz2 (And.intro by2 (And.intro ze2 (And.intro Tryz.underlying2 (And.intro ag3 (And.intro sz3 (And.intro by3 (And.intro ze3 (And.intro Tryz.underlying3 (And.intro ag4 (And.intro sz4 (And.intro by4 (And.intro ze4 (And.intro Tryz.underlying4 (And.intro ag5 (And.intro sz5 (And.intro by5 (And.intro ze5 (And.intro Tryz.underlying5 (And.intro ag9 (And.intro sz9 (And.intro by9 (And.intro ze9 (And.intro Tryz.underlying9 (And.intro ag21 (And.intro sz21 (And.intro by21 (And.intro ze21 (And.intro Tryz.underlying21 (And.intro ag28 (And.intro sz28 (And.intro by28 (And.intro ze28 (And.intro Tryz.underlying28 (And.intro ag72 (And.intro sz72 (And.intro by72 (And.intro se72 (And.intro ze72 (And.intro Tryz.underlying72 (And.intro ag98 (And.intro sz98 (And.intro by98 (And.intro ze98 (And.intro Tryz.underlying98 (And.intro ag145 (And.intro sz145 (And.intro by145 (And.intro se145 (And.intro ze145 (And.intro Tryz.underlying145 (And.intro ag173 (And.intro sz173 (And.intro by173 (And.intro se173 (And.intro ze173 (And.intro Tryz.underlying173 (And.intro ag176 (And.intro sz176 (And.intro by176 (And.intro ze176 (And.intro bu176 (And.intro Tryz.underlying176 (And.intro ag179 (And.intro sz179 (And.intro by179 (And.intro se179 (And.intro ze179 (And.intro Tryz.underlying179 (And.intro ag186 (And.intro sz186 (And.intro by186 (And.intro ze186 (And.intro Tryz.underlying186 (And.intro ag188 (And.intro sz188 (And.intro by188 (And.intro ze188 (And.intro Tryz.underlying188 (And.intro ag219 (And.intro sz219 (And.intro by219 (And.intro ze219 (And.intro bu219 (And.intro Tryz.underlying219 (And.intro ag223 (And.intro sz223 (And.intro by223 (And.intro ze223 (And.intro bu223 (And.intro Tryz.underlying223 (And.intro ag227 (And.intro sz227 (And.intro by227 (And.intro ze227 (And.intro Tryz.underlying227 (And.intro ag229 (And.intro sz229 (And.intro by229 (And.intro ze229 (And.intro bu229 (And.intro Tryz.underlying229 (And.intro ag276 (And.intro sz276 (And.intro by276 (And.intro ze276 (And.intro bu276 (And.intro Tryz.underlying276 (And.intro fa219_0 (And.intro fd219_0 (And.intro fa219_1 (And.intro fd219_1 (And.intro fa219_2 (And.intro fd219_2 (And.intro fa219_3 (And.intro fd219_3 (And.intro fa219_4 (And.intro fd219_4 (And.intro fa223_0 (And.intro fd223_0 (And.intro fa223_1 (And.intro fd223_1 (And.intro fa229_0 (And.intro fd229_0 (And.intro fa229_1 fd229_1)))))))))))))))))))))))))))))))))))))))))))))))))))))))))))))))))))))))))))))))))))))))))))))))))))))))))))))))))))))))))))))))))))))))))))
def g163 : Code :=
 .seq (.region 0 #[q 8 (.move (.tmp 2)) 3, q 9 (.buildSlice 145 1 #[(0, .tmp 8)]) 145, q 6 (.assign (.tmp 9)) 145] false) (.block 0 (.loop (.seq (.seq (.region 1 #[q 10 (.move (.tmp 6)) 145, q 11 (bi .len #[.tmp 10] #[145]) 3, q 12 (.binOp .gtr 3 (.tmp 11) (ik 0) 3) 4] false) (.cond (.tmp 12) .skip (.exit 0))) (.block 1 (.seq (.region 2 #[q 13 (.move (.tmp 6)) 145, q 14 (.move (.tmp 6)) 145, q 15 (bi .len #[.tmp 14] #[145]) 3, q 16 (.binOp .sub 3 (.tmp 15) (ik 1) 3) 3, q 17 (.indexAddr 145 (.tmp 13) (.tmp 16)) 0, q 18 (.load 3 (.tmp 17)) 3, q 2 (.assign (.tmp 18)) 3] false) (.seq (.region 3 #[q 19 (.move (.tmp 6)) 145, q 20 (.move (.tmp 6)) 145, q 21 (bi .len #[.tmp 20] #[145]) 3, q 22 (.binOp .sub 3 (.tmp 21) (ik 1) 3) 3, q 23 (.slice 145 (.tmp 19) none (some (.tmp 22)) none) 145, q 6 (.assign (.tmp 23)) 145] false) (.seq (.seq (.region 4 #[q 24 (.move (.tmp 0)) 186, q 25 (.nilCheck (.tmp 24)) 0, q 26 (.fieldAddr 229 (.tmp 25) 0) 0, q 27 (.load 227 (.tmp 26)) 227, q 28 (.move (.tmp 2)) 3, q 29 (.lookup 227 (.tmp 27) (.tmp 28) false) 3, q 30 (.binOp .gtr 3 (.tmp 29) (ik 0) 3) 4] false) (.cond (.tmp 30) (.exit 1) .skip)) (.seq (.region 5 #[q 31 (.move (.tmp 0)) 186, q 32 (.nilCheck (.tmp 31)) 0, q 33 (.fieldAddr 229 (.tmp 32) 0) 0, q 34 (.load 227 (.tmp 33)) 227, q 35 (.move (.tmp 2)) 3, qn (.mapUpdate 227 (.tmp 34) (.tmp 35) (ik 1)) 0] false) (.seq (.region 6 #[q 36 (.move (.tmp 0)) 186, q 37 (.move (.tmp 0)) 186, q 38 (.nilCheck (.tmp 37)) 0, q 39 (.fieldAddr 229 (.tmp 38) 1) 0, q 40 (.load 145 (.tmp 39)) 145, q 41 (.move (.tmp 2)) 3, q 42 (.buildSlice 145 1 #[(0, .tmp 41)]) 145, q 43 (bi .append #[.tmp 40, .tmp 42] #[145, 145]) 145, q 44 (.nilCheck (.tmp 36)) 0, q 45 (.fieldAddr 229 (.tmp 44) 1) 0, qn (.store 145 (.tmp 45) (.tmp 43)) 0] false) (.seq (.region 7 #[q 46 (.move (.tmp 1)) 98, q 47 (.nilCheck (.tmp 46)) 0, q 48 (.fieldAddr 223 (.tmp 47) 0) 0, q 49 (.load 179 (.tmp 48)) 179, q 50 (.move (.tmp 2)) 3, q 51 (.indexAddr 179 (.tmp 49) (.tmp 50)) 0, q 52 (.load 219 (.tmp 51)) 219, q 7 (.alloc 219) 0, qn (.store 219 (.tmp 7) (.tmp 52)) 0] false) (.seq (.region 8 #[q 53 (.fieldAddr 219 (.tmp 7) 0) 0, q 54 (.load 3 (.tmp 53)) 3, q 55 (.binOp .eql 3 (.tmp 54) (ik 2) 3) 4] false) (.cond (.tmp 55) (.region 9 #[q 56 (.move (.tmp 6)) 145, q 57 (.fieldAddr 219 (.tmp 7) 4) 0, q 58 (.load 3 (.tmp 57)) 3, q 59 (.fieldAddr 219 (.tmp 7) 3) 0, q 60 (.load 3 (.tmp 59)) 3, q 61 (.buildSlice 145 2 #[(0, .tmp 58), (1, .tmp 60)]) 145, q 62 (bi .append #[.tmp 56, .tmp 61] #[145, 145]) 145, q 6 (.assign (.tmp 62)) 145] false) .skip))))))))))))
theorem s163 : Tryz.f163.body.map (slim cfg) = some g163 := by kernel_rfl
def g164 : Code :=
 .seq (.region 0 #[q 10 (.move (.tmp 0)) 186, q 11 (.nilCheck (.tmp 10)) 0, q 12 (.fieldAddr 229 (.tmp 11) 1) 0, q 13 (.load 145 (.tmp 12)) 145, q 6 (.assign (.tmp 13)) 145] false) (.seq (.region 1 #[q 14 (.move (.tmp 0)) 186, q 15 (.nilCheck (.tmp 14)) 0, q 16 (.fieldAddr 229 (.tmp 15) 1) 0, qn (.store 145 (.tmp 16) (.const (.slice none 0 0))) 0] false) (.seq (.region 2 #[q 17 (.move (.tmp 0)) 186, q 18 (.nilCheck (.tmp 17)) 0, q 19 (.fieldAddr 229 (.tmp 18) 0) 0, q 20 (.load 227 (.tmp 19)) 227, qn (bi .clear #[.tmp 20] #[227]) 0] false) (.seq (.region 3 #[q 21 (.move (.tmp 6)) 145, q 22 (bi .len #[.tmp 21] #[145]) 3, q 23 (.move (ik 0)) 3] false) (.block 0 (.loop (.seq (.region 4 #[q 24 (.binOp .lss 3 (.tmp 23) (.tmp 22) 3) 0] false) (.seq (.cond (.tmp 24) .skip (.exit 0)) (.seq (.block 1 (.seq (.region 5 #[q 25 (.indexAddr 145 (.tmp 21) (.tmp 23)) 0, q 26 (.load 3 (.tmp 25)) 3, q 8 (.assign (.tmp 26)) 3] false) (.seq (.region 6 #[q 27 (.move (.tmp 1)) 98, q 28 (.nilCheck (.tmp 27)) 0, q 29 (.fieldAddr 223 (.tmp 28) 0) 0, q 30 (.load 179 (.tmp 29)) 179, q 31 (.move (.tmp 8)) 3, q 32 (.indexAddr 179 (.tmp 30) (.tmp 31)) 0, q 33 (.load 219 (.tmp 32)) 219, q 9 (.alloc 219) 0, qn (.store 219 (.tmp 9) (.tmp 33)) 0] false) (.seq (.region 7 #[q 34 (.fieldAddr 219 (.tmp 9) 0) 0, q 35 (.load 3 (.tmp 34)) 3, q 36 (.binOp .eql 3 (.tmp 35) (ik 1) 3) 4, q 37 (.move (.tmp 36)) 4, qg 38 (.move (.tmp 2)) 21 3 true, qg 39 (.fieldAddr 219 (.tmp 9) 1) 0 3 true, qg 40 (.load 4 (.tmp 39)) 4 3 true, qg 41 (.fieldAddr 219 (.tmp 9) 2) 0 3 true, qg 42 (.load 173 (.tmp 41)) 173 3 true, qg 43 (cl 179 #[.tmp 38, .tmp 40, .tmp 42] #[21, 4, 173]) 4 3 true, q 44 (.pick (.tmp 37) (.tmp 43) (.const (.bool false))) 4] false) (.cond (.tmp 44) (.region 8 #[q 45 (.move (.tmp 0)) 186, q 46 (.move (.tmp 1)) 98, q 47 (.fieldAddr 219 (.tmp 9) 3) 0, q 48 (.load 3 (.tmp 47)) 3, q 49 (cl 163 #[.tmp 45, .tmp 46, .tmp 48] #[186, 98, 3]) 0] false) .skip))))) (.region 9 #[q 50 (.binOp .add 3 (.tmp 23) (ik 1) 3) 3, q 23 (.move (.tmp 50)) 3] false)))))))))
theorem s164 : Tryz.f164.body.map (slim cfg) = some g164 := by kernel_rfl
def g131 : Code :=
 .seq (.region 0 #[q 4 (.assign (.const (.bool false))) 4] false) (.seq (.seq (.region 1 #[q 7 (.move (.tmp 0)) 186, q 8 (.nilCheck (.tmp 7)) 0, q 9 (.fieldAddr 229 (.tmp 8) 1) 0, q 10 (.load 145 (.tmp 9)) 145, q 11 (bi .len #[.tmp 10] #[145]) 3, q 12 (.move (ik 0)) 3] false) (.block 0 (.loop (.seq (.region 2 #[q 13 (.binOp .lss 3 (.tmp 12) (.tmp 11) 3) 0] false) (.seq (.cond (.tmp 13) .skip (.exit 0)) (.seq (.block 1 (.seq (.region 3 #[q 14 (.indexAddr 145 (.tmp 10) (.tmp 12)) 0, q 15 (.load 3 (.tmp 14)) 3, q 6 (.assign (.tmp 15)) 3] false) (.seq (.region 4 #[q 16 (.move (.tmp 1)) 98, q 17 (.nilCheck (.tmp 16)) 0, q 18 (.fieldAddr 223 (.tmp 17) 0) 0, q 19 (.load 179 (.tmp 18)) 179, q 20 (.move (.tmp 6)) 3, q 21 (.indexAddr 179 (.tmp 19) (.tmp 20)) 0, q 22 (.fieldAddr 219 (.tmp 21) 0) 0, q 23 (.load 3 (.tmp 22)) 3, q 24 (.binOp .eql 3 (.tmp 23) (ik 3) 3) 4] false) (.cond (.tmp 24) (.seq (.region 5 #[q 4 (.assign (.const (.bool true))) 4] false) .ret) .skip)))) (.region 6 #[q 25 (.binOp .add 3 (.tmp 12) (ik 1) 3) 3, q 12 (.move (.tmp 25)) 3] false))))))) (.seq (.region 7 #[q 4 (.assign (.const (.bool false))) 4] false) .ret))
theorem s131 : Tryz.f131.body.map (slim cfg) = some g131 := by kernel_rfl
def g129 : Code :=
 .seq (.region 0 #[q 6 (.assign (.const (.bool false))) 4] false) (.seq (.region 1 #[q 13 (.makeMap 227 none) 227, q 14 (.build 229 #[(0, .tmp 13)]) 229, q 15 (.box 229 (.tmp 14)) 186, q 7 (.assign (.tmp 15)) 186] false) (.seq (.region 2 #[q 16 (.move (.tmp 7)) 186, q 17 (.move (.tmp 0)) 98, q 18 (.move (.tmp 0)) 98, q 19 (.nilCheck (.tmp 18)) 0, q 20 (.fieldAddr 223 (.tmp 19) 1) 0, q 21 (.load 3 (.tmp 20)) 3, q 22 (cl 163 #[.tmp 16, .tmp 17, .tmp 21] #[186, 98, 3]) 0] false) (.seq (.region 3 #[q 23 (.move (.tmp 2)) 188, q 24 (.move (.tmp 7)) 186, q 25 (cv (.tmp 23) #[ik 0, .tmp 24] #[3, 186]) 0] false) (.seq (.region 4 #[q 26 (.move (.tmp 1)) 9, q 27 (.convert 9 72 (.tmp 26)) 72, q 8 (.assign (.tmp 27)) 72] false) (.seq (.seq (.region 5 #[q 9 (.assign (ik 0)) 3] false) (.block 0 (.loop (.seq (.seq (.region 6 #[q 28 (.move (.tmp 9)) 3, q 29 (.move (.tmp 8)) 72, q 30 (bi .len #[.tmp 29] #[72]) 3, q 31 (.binOp .lss 3 (.tmp 28) (.tmp 30) 3) 4] false) (.cond (.tmp 31) .skip (.exit 0))) (.block 1 (.seq (.region 7 #[q 33 (.move (.tmp 8)) 72, q 34 (.move (.tmp 9)) 3, q 35 (.slice 72 (.tmp 33) (some (.tmp 34)) none none) 72, q 36 (cl 94 #[.tmp 35] #[72]) 147, q 32 (.move (.tmp 36)) 147, q 37 (.extract (.tmp 32) 0) 21, q 38 (.extract (.tmp 32) 1) 3, q 39 (.extract (.tmp 32) 2) 28, q 10 (.assign (.tmp 37)) 21, q 11 (.assign (.tmp 38)) 3, q 12 (.assign (.tmp 39)) 28] false) (.seq (.seq (.region 8 #[q 40 (.move (.tmp 12)) 28, q 41 (.binOp .neq 28 (.tmp 40) (ik 0) 28) 4] false) (.cond (.tmp 41) (.seq (.region 9 #[q 6 (.assign (.const (.bool false))) 4] false) .ret) .skip)) (.seq (.region 10 #[q 42 (.move (.tmp 9)) 3, q 43 (.move (.tmp 11)) 3, q 44 (.binOp .add 3 (.tmp 42) (.tmp 43) 3) 3, q 9 (.assign (.tmp 44)) 3] false) (.seq (.region 11 #[q 45 (.move (.tmp 7)) 186, q 46 (.move (.tmp 0)) 98, q 47 (.move (.tmp 10)) 21, q 48 (cl 164 #[.tmp 45, .tmp 46, .tmp 47] #[186, 98, 21]) 0] false) (.region 12 #[q 49 (.move (.tmp 2)) 188, q 50 (.move (.tmp 9)) 3, q 51 (.move (.tmp 7)) 186, q 52 (cv (.tmp 49) #[.tmp 50, .tmp 51] #[3, 186]) 0] false)))))))))) (.seq (.region 13 #[q 6 (.assign (.const (.bool true))) 4] false) .ret))))))
theorem s129 : Tryz.f129.body.map (slim cfg) = some g129 := by kernel_rfl
def g92 : Code :=
 .seq (.region 0 #[q 2 (.box 98 (.tmp 0)) 0, q 3 (.box 9 (.tmp 1)) 0, q 4 (.assign (.const (.bool false))) 4] false) (.seq (.region 1 #[q 5 (.alloc 4) 0, qn (.store 4 (.tmp 5) (.const (.bool false))) 0] false) (.seq (.seq (.region 2 #[q 7 (.load 98 (.tmp 2)) 98, q 8 (.binOp .eql 98 (.tmp 7) (.const (.pointer none)) 98) 4] false) (.cond (.tmp 8) (.seq (.region 3 #[q 4 (.assign (.const (.bool false))) 4] false) .ret) .skip)) (.seq (.region 4 #[q 9 (.load 98 (.tmp 2)) 98, q 10 (.load 9 (.tmp 3)) 9, q 11 (.makeFunc (.func 130) #[] #[.tmp 3, .tmp 2, .tmp 5]) 188, q 12 (cl 129 #[.tmp 9, .tmp 10, .tmp 11] #[98, 9, 188]) 4, q 6 (.assign (.tmp 12)) 4] false) (.seq (.region 5 #[q 13 (.move (.tmp 6)) 4, q 14 (.move (.tmp 13)) 4, qg 15 (.load 4 (.tmp 5)) 4 1 true, q 16 (.pick (.tmp 14) (.tmp 15) (.const (.bool false))) 4, q 4 (.assign (.tmp 16)) 4] false) .ret))))
theorem s92 : Tryz.f92.body.map (slim cfg) = some g92 := by kernel_rfl
def g130 : Code :=
 .region 0 #[q 7 (.move (.tmp 0)) 3, q 8 (.load 9 (.tmp 2)) 9, q 9 (bi .len #[.tmp 8] #[9]) 3, q 10 (.binOp .eql 3 (.tmp 7) (.tmp 9) 3) 4, q 11 (.move (.tmp 10)) 4, qg 12 (.move (.tmp 1)) 186 4 true, qg 13 (.load 98 (.tmp 3)) 98 4 true, qg 14 (cl 131 #[.tmp 12, .tmp 13] #[186, 98]) 4 4 true, q 15 (.pick (.tmp 11) (.tmp 14) (.const (.bool false))) 4, qn (.store 4 (.tmp 4) (.tmp 15)) 0] false
theorem s130 : Tryz.f130.body.map (slim cfg) = some g130 := by kernel_rfl
def g122 : Code :=
 .seq (.region 0 #[q 4 (.assign (.const (.pointer none))) 98, q 5 (.assign (ik 0)) 28] false) (.seq (.seq (.region 1 #[q 9 (.move (.tmp 0)) 179, q 10 (bi .len #[.tmp 9] #[179]) 3, q 11 (.binOp .gtr 3 (.tmp 10) (ik 401) 3) 4, q 12 (.move (.tmp 11)) 4, qg 13 (.move (.tmp 0)) 179 3 false, qg 14 (.move (.tmp 1)) 3 3 false, qg 15 (cl 157 #[.tmp 13, .tmp 14] #[179, 3]) 4 3 false, qg 16 (.unOp .not 4 (.tmp 15)) 4 3 false, q 17 (.pick (.tmp 12) (.const (.bool true)) (.tmp 16)) 4] false) (.cond (.tmp 17) (.seq (.region 2 #[q 4 (.assign (.const (.pointer none))) 98, q 5 (.assign (ik 1)) 28] false) .ret) .skip)) (.seq (.region 3 #[q 18 (.move (.tmp 1)) 3, q 19 (.build 223 #[(1, .tmp 18)]) 223, q 20 (.box 223 (.tmp 19)) 98, q 6 (.assign (.tmp 20)) 98] false) (.seq (.seq (.region 4 #[q 21 (.move (.tmp 0)) 179, q 22 (bi .len #[.tmp 21] #[179]) 3, q 23 (.move (ik 0)) 3] false) (.block 0 (.loop (.seq (.region 5 #[q 24 (.binOp .lss 3 (.tmp 23) (.tmp 22) 3) 0] false) (.seq (.cond (.tmp 24) .skip (.exit 0)) (.seq (.block 1 (.seq (.region 6 #[q 25 (.indexAddr 179 (.tmp 21) (.tmp 23)) 0, q 26 (.load 219 (.tmp 25)) 219, q 8 (.alloc 219) 0, qn (.store 219 (.tmp 8) (.tmp 26)) 0] false) (.seq (.seq (.region 7 #[q 27 (.move (.tmp 0)) 179, q 28 (.load 219 (.tmp 8)) 219, q 29 (cl 158 #[.tmp 27, .tmp 28] #[179, 219]) 4, q 30 (.unOp .not 4 (.tmp 29)) 4] false) (.cond (.tmp 30) (.seq (.region 8 #[q 4 (.assign (.const (.pointer none))) 98, q 5 (.assign (ik 1)) 28] false) .ret) .skip)) (.seq (.region 9 #[q 31 (.fieldAddr 219 (.tmp 8) 2) 0, q 32 (.load 173 (.tmp 31)) 173, q 33 (bi .append #[.const (.slice none 0 0), .tmp 32] #[173, 173]) 173, q 34 (.fieldAddr 219 (.tmp 8) 2) 0, qn (.store 173 (.tmp 34) (.tmp 33)) 0] false) (.region 10 #[{ dst := some 35, op := .move (.tmp 6), type := 98, pos := "nfa.go:44", after := #[], guard := none }, { dst := some 36, op := .move (.tmp 6), type := 98, pos := "nfa.go:44", after := #[], guard := none }, { dst := some 37, op := .nilCheck (.tmp 36), type := 0, pos := "nfa.go:44", after := #[{ on := 1, ground := .data }], guard := none }, { dst := some 38, op := .fieldAddr 223 (.tmp 37) 0, type := 0, pos := "nfa.go:44", after := #[{ on := 2, ground := .data }], guard := none }, { dst := some 39, op := .load 179 (.tmp 38), type := 179, pos := "nfa.go:44", after := #[{ on := 3, ground := .data }], guard := none }, { dst := some 40, op := .load 219 (.tmp 8), type := 219, pos := "nfa.go:44", after := #[], guard := none }, { dst := some 41, op := .buildSlice 179 1 #[(0, .tmp 40)], type := 179, pos := "nfa.go:44", after := #[{ on := 5, ground := .data }], guard := none }, { dst := some 42, op := bi .append #[.tmp 39, .tmp 41] #[179, 179], type := 179, pos := "nfa.go:44", after := #[{ on := 4, ground := .data }, { on := 6, ground := .data }], guard := none }, { dst := some 43, op := .nilCheck (.tmp 35), type := 0, pos := "nfa.go:44", after := #[{ on := 0, ground := .data }, { on := 0, ground := .phase }, { on := 1, ground := .phase }, { on := 2, ground := .phase }, { on := 3, ground := .phase }, { on := 4, ground := .phase }, { on := 5, ground := .phase }, { on := 6, ground := .phase }, { on := 7, ground := .phase }], guard := none }, { dst := some 44, op := .fieldAddr 223 (.tmp 43) 0, type := 0, pos := "nfa.go:44", after := #[{ on := 8, ground := .data }, { on := 0, ground := .phase }, { on := 1, ground := .phase }, { on := 2, ground := .phase }, { on := 3, ground := .phase }, { on := 4, ground := .phase }, { on := 5, ground := .phase }, { on := 6, ground := .phase }, { on := 7, ground := .phase }], guard := none }, { dst := none, op := .store 179 (.tmp 44) (.tmp 42), type := 0, pos := "nfa.go:44", after := #[{ on := 9, ground := .data }, { on := 7, ground := .data }, { on := 7, ground := .chain }, { on := 0, ground := .phase }, { on := 1, ground := .phase }, { on := 2, ground := .phase }, { on := 3, ground := .phase }, { on := 4, ground := .phase }, { on := 5, ground := .phase }, { on := 6, ground := .phase }, { on := 7, ground := .phase }], guard := none }] true))))) (.region 11 #[q 45 (.binOp .add 3 (.tmp 23) (ik 1) 3) 3, q 23 (.move (.tmp 45)) 3] false))))))) (.seq (.region 12 #[q 46 (.move (.tmp 6)) 98, q 4 (.assign (.tmp 46)) 98, q 5 (.assign (ik 0)) 28] false) .ret))))
theorem s122 : Tryz.f122.body.map (slim cfg) = some g122 := by kernel_rfl
def g158 : Code :=
 .seq (.region 0 #[q 3 (.box 219 (.tmp 1)) 0, q 4 (.assign (.const (.bool false))) 4] false) (.seq (.seq (.region 1 #[q 5 (.fieldAddr 219 (.tmp 3) 0) 0, q 6 (.load 3 (.tmp 5)) 3] false) (.block 0 (.seq (.block 2 (.seq (.block 1 (.seq (.seq (.seq (.region 2 #[q 8 (.binOp .eql 3 (.tmp 6) (ik 2) 3) 4, q 7 (.assign (.tmp 8)) 4] false) (.cond (.tmp 7) (.exit 1) .skip)) (.seq (.region 3 #[q 10 (.binOp .eql 3 (.tmp 6) (ik 1) 3) 4, q 9 (.assign (.tmp 10)) 4] false) (.cond (.tmp 9) (.exit 2) .skip))) (.exit 0))) (.seq (.region 4 #[q 11 (.move (.tmp 0)) 179, q 12 (.fieldAddr 219 (.tmp 3) 4) 0, q 13 (.load 3 (.tmp 12)) 3, q 14 (cl 157 #[.tmp 11, .tmp 13] #[179, 3]) 4, q 15 (.unOp .not 4 (.tmp 14)) 4] false) (.cond (.tmp 15) (.seq (.region 5 #[q 4 (.assign (.const (.bool false))) 4] false) .ret) .skip)))) (.seq (.seq (.region 6 #[q 16 (.move (.tmp 0)) 179, q 17 (.fieldAddr 219 (.tmp 3) 3) 0, q 18 (.load 3 (.tmp 17)) 3, q 19 (cl 157 #[.tmp 16, .tmp 18] #[179, 3]) 4, q 4 (.assign (.tmp 19)) 4] false) .ret) (.exit 0))))) (.seq (.region 7 #[q 20 (.fieldAddr 219 (.tmp 3) 0) 0, q 21 (.load 3 (.tmp 20)) 3, q 22 (.binOp .eql 3 (.tmp 21) (ik 3) 3) 4, q 4 (.assign (.tmp 22)) 4] false) .ret))
theorem s158 : Tryz.f158.body.map (slim cfg) = some g158 := by kernel_rfl
def g157 : Code :=
 .seq (.region 0 #[q 4 (.assign (.const (.bool false))) 4] false) (.seq (.region 1 #[q 5 (.move (.tmp 1)) 3, q 6 (.binOp .geq 3 (.tmp 5) (ik 0) 3) 4, q 7 (.move (.tmp 6)) 4, qg 8 (.move (.tmp 1)) 3 2 true, qg 9 (.move (.tmp 0)) 179 2 true, qg 10 (bi .len #[.tmp 9] #[179]) 3 2 true, qg 11 (.binOp .lss 3 (.tmp 8) (.tmp 10) 3) 4 2 true, q 12 (.pick (.tmp 7) (.tmp 11) (.const (.bool false))) 4, q 4 (.assign (.tmp 12)) 4] false) .ret)
theorem s157 : Tryz.f157.body.map (slim cfg) = some g157 := by kernel_rfl
def g88 : Code :=
 .seq (.region 0 #[q 2 (.assign (.const (.pointer none))) 98, q 3 (.assign (ik 0)) 28] false) (.seq (.region 1 #[q 9 (.move (.tmp 0)) 9, q 10 (cl 120 #[.tmp 9] #[9]) 177, q 8 (.move (.tmp 10)) 177, q 11 (.extract (.tmp 8) 0) 176, q 12 (.extract (.tmp 8) 1) 28, q 4 (.alloc 176) 0, qn (.store 176 (.tmp 4) (.tmp 11)) 0, q 5 (.assign (.tmp 12)) 28] false) (.seq (.seq (.region 2 #[q 13 (.move (.tmp 5)) 28, q 14 (.binOp .neq 28 (.tmp 13) (ik 0) 28) 4] false) (.cond (.tmp 14) (.seq (.region 3 #[q 15 (.move (.tmp 5)) 28, q 2 (.assign (.const (.pointer none))) 98, q 3 (.assign (.tmp 15)) 28] false) .ret) .skip)) (.seq (.region 4 #[q 17 (.load 176 (.tmp 4)) 176, q 18 (cl 121 #[.tmp 17] #[176]) 180, q 16 (.move (.tmp 18)) 180, q 19 (.extract (.tmp 16) 0) 179, q 20 (.extract (.tmp 16) 1) 3, q 21 (.extract (.tmp 16) 2) 28, q 6 (.assign (.tmp 19)) 179, q 7 (.assign (.tmp 20)) 3, q 5 (.assign (.tmp 21)) 28] false) (.seq (.seq (.region 5 #[q 22 (.move (.tmp 5)) 28, q 23 (.binOp .neq 28 (.tmp 22) (ik 0) 28) 4] false) (.cond (.tmp 23) (.seq (.region 6 #[q 24 (.move (.tmp 5)) 28, q 2 (.assign (.const (.pointer none))) 98, q 3 (.assign (.tmp 24)) 28] false) .ret) .skip)) (.seq (.region 7 #[q 25 (.move (.tmp 6)) 179, q 26 (.move (.tmp 7)) 3, q 27 (cl 122 #[.tmp 25, .tmp 26] #[179, 3]) 143, q 28 (.extract (.tmp 27) 0) 98, q 29 (.extract (.tmp 27) 1) 28, q 2 (.assign (.tmp 28)) 98, q 3 (.assign (.tmp 29)) 28] false) .ret)))))
theorem s88 : Tryz.f88.body.map (slim cfg) = some g88 := by kernel_rfl
theorem enter_ok (l : List St) (hr : RightM l) (a k : Nat) (hk : k < l.length) (hln : l.length ≤ 100000) (s r prot : Nat) (v : AV) (o : List Nat) (H : Heap) (hp : prot ≤ r) (hrs : r < s) (hset : SetAt H s r v o) (hnd : o.Nodup) (hlt : ∀ x ∈ o, x < l.length) (hcl : Closed l o) :
   ∃ H', (∃ v' o', SetAt H' s r v' o' ∧ o'.Nodup ∧ (∀ x ∈ o', x < l.length) ∧ (∀ x, x ∈ o' ↔ x ∈ o ∨ Rch l k x) ∧ Frs H H' s r v v') ∧ aLim cfg prot 163 [.ptr s 0 0, encM l a, .int .i64 (k : Nat)] H = some (.tup [], some H') := by
 have hsl := hget_lt hset.1
 have hvS := slv_sl encSt l
 have hlit := litK1 k H
 refine raw_slimE rfl (by kernel_rfl) (by kernel_rfl) (by kernel_rfl) Tryz.func163 s163 (by simp [Tryz.f163]) fun fr hlen h => ?_
 simp only [Has, Nat.zero_add] at h
 obtain ⟨a0, a1, a2, -⟩ := h
 simp only [Tryz.f163] at hlen ⊢
 unfold g163
 unfold encM at a1
 simp only [w9, AV.cells, AV.leaf, reduceEqDiff, reduceLT, reduceAdd, reduceLeDiff, reduceCtorEq, reduceMul, reduceMod, u163, hlen, a0, a1, a2, hlit]
 refine loop_ruleE (fun m fr H' => ∃ (st : List Nat) (w v' : AV) (o' : List Nat) (sb : Nat), m = 3 * (l.length - o'.length) + st.length ∧ fr.length = 63 ∧ fget fr 0 = .ptr s 0 0 ∧ fget fr 1 = .vptr [slv encSt l, .int .i64 (a : Nat)] 0 ∧ fget fr 6 = w ∧
   StkAt sb H' w st ∧ st.length ≤ 2 * o'.length + 1 ∧ H.length ≤ sb ∧ (∀ b, v' = .bs b → b.b ≠ sb) ∧ SetAt H' s r v' o' ∧ o'.Nodup ∧ (∀ x ∈ o', x < l.length) ∧ (∀ x ∈ st, x < l.length) ∧ (∀ x ∈ o, x ∈ o') ∧ (∀ x ∈ o', x ∈ o ∨ Rch l k x) ∧ (∀ x ∈ st, Rch l k x) ∧
   (k ∈ o' ∨ k ∈ st) ∧ (∀ x ∈ o', ∀ y, nxt l x y → y ∈ o' ∨ y ∈ st) ∧ Frs H H' s r v v') ?_ (3 * (l.length - o.length) + 1) _ _
   ⟨[k], .bs ⟨H.length, 0, 0, 1, 1, 1, false, true⟩, v, o, H.length, rfl, by simp [w9, AV.cells, AV.leaf, reduceEqDiff, reduceLT, reduceAdd, reduceLeDiff, reduceCtorEq, reduceMul, reduceMod, u163, hlen], by simp [w9, AV.cells, AV.leaf, reduceEqDiff, reduceLT, reduceAdd, reduceLeDiff, reduceCtorEq, reduceMul, reduceMod, u163, hlen, a0], by simp [w9, AV.cells, AV.leaf, reduceEqDiff, reduceLT, reduceAdd, reduceLeDiff, reduceCtorEq, reduceMul, reduceMod, u163, hlen, a1], by simp [w9, AV.cells, AV.leaf, reduceEqDiff, reduceLT, reduceAdd, reduceLeDiff, reduceCtorEq, reduceMul, reduceMod, u163, hlen], ⟨0, 1, true, [k].map encK, rfl, by rw [hget_new rfl, if_pos rfl], rfl, rfl, by simp⟩, by simp, Nat.le_refl _, fun b hb => by have := hset.blk b hb; omega, hset.more _, hnd, hlt, by simpa using hk, fun x h => h, fun x h => .inl h, fun x hx => by rw [List.mem_singleton.1 hx]; exact .refl, .inr (by simp), fun x hx y hy => .inl (hcl x hx y hy), Frs.more _ _ _ _ _⟩
 clear a0 a1 a2 hlen fr
 rintro m fr H' ⟨st, w, v', o', sb, rfl, hlen, b0, b1, b6, hst, hsl2, hsb, hvb, hse, hnd', hlt', hst', hsub, hor, hsr, hki, hcl', f⟩ ih
 have hlenw := fun K => hst.len' K
 have hol := nodup_len l.length o' hnd' hlt'
 by_cases h0 : st = []
 · subst h0
   have d1 : decide ((0 : Int) < ((0 : Nat) : Int)) = false := rfl
   simp only [List.length_nil] at hlenw
   simp only [w9, AV.cells, AV.leaf, reduceEqDiff, reduceLT, reduceAdd, reduceLeDiff, reduceCtorEq, reduceMul, reduceMod, u163, hlen, b0, b1, b6, hlenw, d1]
   refine ⟨_, ⟨v', o', hse, hnd', hlt', fun x => ⟨hor x, fun h => ?_⟩, f⟩, Fin_raw (l := []) (by simp [w9, AV.cells, AV.leaf, reduceEqDiff, reduceLT, reduceAdd, reduceLeDiff, reduceCtorEq, reduceMul, reduceMod, u163, hlen, aResults, aResult])⟩
   rcases h with h | h
   · exact hsub x h
   · refine h.closed (fun y hy z hz => ?_) ?_
     · rcases hcl' y hy z hz with h | h
       · exact h
       · cases h
     · rcases hki with h | h
       · exact h
       · cases h
 · obtain ⟨st0, j, rfl⟩ : ∃ st0 j, st = st0 ++ [j] := ⟨st.dropLast, st.getLast h0, (List.dropLast_concat_getLast h0).symm⟩
   clear h0
   simp only [List.length_append, List.length_singleton] at hsl2 ih hlenw ⊢
   have d1 : decide ((0 : Int) < ((st0.length + 1 : Nat) : Int)) = true := decide_eq_true (by omega)
   have hw1 : IntKind.i64.wrap (((st0.length + 1 : Nat) : Int) - 1) = (st0.length : Nat) := by rw [wrap64 (by omega) (by omega)]; omega
   obtain ⟨ver, cs, w', eI, eg, ec, es, hst1⟩ := hst.pop
   have hlook := look_ok hse.2.1 j
   have hj0 : j < l.length := hst' j (by simp)
   by_cases hj : j ∈ o'
   · rw [if_pos hj] at hlook
     have d2 : decide ((0 : Int) < 1) = true := rfl
     simp only [w9, AV.cells, AV.leaf, reduceEqDiff, reduceLT, reduceAdd, reduceLeDiff, reduceCtorEq, reduceMul, reduceMod, u163, hlen, b0, b1, b6, hlenw, d1, hw1, eI, eg, ec, es, hse.1, hlook, d2]
     refine ih _ _ (3 * (l.length - o'.length) + st0.length) (by omega) ⟨st0, w', v', o', sb, rfl, by simp [w9, AV.cells, AV.leaf, reduceEqDiff, reduceLT, reduceAdd, reduceLeDiff, reduceCtorEq, reduceMul, reduceMod, u163, hlen], by simp [w9, AV.cells, AV.leaf, reduceEqDiff, reduceLT, reduceAdd, reduceLeDiff, reduceCtorEq, reduceMul, reduceMod, u163, hlen, b0], by simp [w9, AV.cells, AV.leaf, reduceEqDiff, reduceLT, reduceAdd, reduceLeDiff, reduceCtorEq, reduceMul, reduceMod, u163, hlen, b1], by simp [w9, AV.cells, AV.leaf, reduceEqDiff, reduceLT, reduceAdd, reduceLeDiff, reduceCtorEq, reduceMul, reduceMod, u163, hlen], hst1, by omega, hsb, hvb, hse, hnd', hlt', fun x hx => hst' x (by simp [hx]), hsub, hor, fun x hx => hsr x (by simp [hx]), ?_, fun x hx y hy => ?_, f⟩
     · rcases hki with h | h
       · exact .inl h
       · rcases List.mem_append.1 h with h | h
         · exact .inr h
         · rw [List.mem_singleton.1 h]; exact .inl hj
     · rcases hcl' x hx y hy with h | h
       · exact .inl h
       · rcases List.mem_append.1 h with h | h
         · exact .inr h
         · rw [List.mem_singleton.1 h]; exact .inl hj
   · rw [if_neg hj] at hlook
     have d2 : decide ((0 : Int) < 0) = false := rfl
     obtain ⟨K1, K3, K4, v2, hp1, k1s, happ, ⟨hvl, hvc⟩, hput1, hse4, f4⟩ := set_add hse hj hp hrs (by omega)
     have hlit1 := litK1 j K1
     have e1 := hvS.at (P := Tryz.prog) (k := .i64) (i := j) Tryz.underlying179 sz219 encSt_T.len hj0
     have hrj := hr l[j] (List.getElem_mem _)
     have hlj : l[j]? = some l[j] := List.getElem?_eq_getElem hj0
     generalize l[j] = sj at *
     have hspl := slvG_leaf sj.sp
     simp only [encSt, AV.cells] at e1
     unfold AV.leaf at hvl hspl; unfold AV.cells at hvc
     have hsl := hget_lt hse.1
     have hml := hmap_lt hse.2.1
     have hsbl := hget_lt eg
     have hle4 := f4.len
     have hp4 : prot ≤ K4.length := by omega
     have hnd2 : (o' ++ [j]).Nodup := List.nodup_append.2 ⟨hnd', by simp, fun a ha b hb => by simp at hb; subst hb; exact fun e => hj (e ▸ ha)⟩
     have hlt2 : ∀ x ∈ o' ++ [j], x < l.length := fun x hx => by
       rcases List.mem_append.1 hx with h | h
       · exact hlt' x h
       · rw [List.mem_singleton.1 h]; exact hj0
     have hol2 := nodup_len l.length _ hnd2 hlt2
     rw [List.length_append, List.length_singleton] at hol2
     have hst2 : StkAt sb K4 w' st0 := hst1.keep fun ver cs h => f4.keep sb ver cs (by omega) (by omega) hvb h
     have hvb2 : ∀ b, v2 = .bs b → b.b ≠ sb := fun b hb => by
       rcases f4.blk b hb with ⟨b0', e3, e4⟩ | h
       · rw [e4]; exact hvb b0' e3
       · omega
     have g4 := f.trans f4
     have hrj2 : Rch l k j := hsr j (by simp)
     have hor2 : ∀ x ∈ o' ++ [j], x ∈ o ∨ Rch l k x := fun x hx => by
       rcases List.mem_append.1 hx with h | h
       · exact hor x h
       · rw [List.mem_singleton.1 h]; exact .inr hrj2
     have hmv : ∀ y, y ∈ o' ∨ y ∈ st0 ++ [j] → y ∈ o' ++ [j] ∨ y ∈ st0 := fun y h => by
       rcases h with h | h
       · exact .inl (by simp [h])
       · rcases List.mem_append.1 h with h | h
         · exact .inr h
         · exact .inl (by simp [List.mem_singleton.1 h])
     by_cases hk2 : sj.kind = 2
     · have d3 : decide (sj.kind = 2) = true := decide_eq_true hk2
       have hn1 : ∃ x1 : Nat, sj.one = (x1 : Nat) := ⟨sj.one.toNat, by have := hrj.2.1 (by omega); omega⟩
       have hn2 : ∃ x2 : Nat, sj.two = (x2 : Nat) := ⟨sj.two.toNat, by have := hrj.2.2 hk2; omega⟩
       obtain ⟨x1, hx1⟩ := hn1
       obtain ⟨x2, hx2⟩ := hn2
       have hb1 := hrj.2.1 (by omega)
       have hb2 := hrj.2.2 hk2
       have hnj : ∀ y, nxt l j y → y = x1 ∨ y = x2 := fun y ⟨s', h1, h2, h3⟩ => by
         rw [hlj] at h1; cases h1
         rcases h3 with h3 | h3
         · left; omega
         · right; omega
       have hr1 : Rch l k x1 := hrj2.step ⟨sj, hlj, hk2, .inl hx1⟩
       have hr2 : Rch l k x2 := hrj2.step ⟨sj, hlj, hk2, .inr hx2⟩
       have hlit2 := litK2 x2 x1 (K4 ++ [Blk.cells 0 [.int .i64 sj.kind, .bool sj.no, slv encG sj.sp, .int .i64 (x1 : Nat), .int .i64 (x2 : Nat)]])
       have hel2 : elemCells ((K4 ++ [Blk.cells 0 [.int .i64 sj.kind, .bool sj.no, slv encG sj.sp, .int .i64 (x1 : Nat), .int .i64 (x2 : Nat)]]) ++ [Blk.cells 0 ([x2, x1].map encK)]) 1 (.bs ⟨(K4 ++ [Blk.cells 0 [.int .i64 sj.kind, .bool sj.no, slv encG sj.sp, .int .i64 (x1 : Nat), .int .i64 (x2 : Nat)]]).length, 0, 0, 2, 2, 1, false, true⟩) = some ([x2, x1].length, cellsOf encK [x2, x1]) := elemK [x2, x1] (K4 ++ [Blk.cells 0 [.int .i64 sj.kind, .bool sj.no, slv encG sj.sp, .int .i64 (x1 : Nat), .int .i64 (x2 : Nat)]]) []
       have hst3 := hst2.keep fun ver cs h => hget_mono (hget_mono h [Blk.cells 0 [.int .i64 sj.kind, .bool sj.no, slv encG sj.sp, .int .i64 (x1 : Nat), .int .i64 (x2 : Nat)]]) [Blk.cells 0 ([x2, x1].map encK)]
       have hse5 := (hse4.more [Blk.cells 0 [.int .i64 sj.kind, .bool sj.no, slv encG sj.sp, .int .i64 (x1 : Nat), .int .i64 (x2 : Nat)]]).more [Blk.cells 0 ([x2, x1].map encK)]
       obtain ⟨w2, K7, sb', hpush, hst4, hle7, hsb', hk7, hm7⟩ := hst3.push (prot := prot) (by omega) (by omega) rfl hel2
       have hse7 := hse5.keep hk7 hm7 (by omega) (by omega) hvb2
       simp only [List.length_append, List.length_singleton] at hle7 hsb'
       simp only [w9, AV.cells, AV.leaf, reduceEqDiff, reduceLT, reduceAdd, reduceLeDiff, reduceCtorEq, reduceMul, reduceMod, u163, hlen, b0, b1, b6, hlenw, d1, hw1, eI, eg, ec, es, hse.1, hlook, d2, hp1, k1s, hlit1, happ, hvl, hvc, hput1, e1, hspl, hp4, d3, hx1, hx2, hlit2, hpush, none_beq]
       refine ih _ _ (3 * (l.length - (o' ++ [j]).length) + (st0 ++ [x2, x1]).length) (by simp; omega) ⟨st0 ++ [x2, x1], w2, v2, o' ++ [j], sb', rfl, by simp [w9, AV.cells, AV.leaf, reduceEqDiff, reduceLT, reduceAdd, reduceLeDiff, reduceCtorEq, reduceMul, reduceMod, u163, hlen], by simp [w9, AV.cells, AV.leaf, reduceEqDiff, reduceLT, reduceAdd, reduceLeDiff, reduceCtorEq, reduceMul, reduceMod, u163, hlen, b0], by simp [w9, AV.cells, AV.leaf, reduceEqDiff, reduceLT, reduceAdd, reduceLeDiff, reduceCtorEq, reduceMul, reduceMod, u163, hlen, b1], by simp [w9, AV.cells, AV.leaf, reduceEqDiff, reduceLT, reduceAdd, reduceLeDiff, reduceCtorEq, reduceMul, reduceMod, u163, hlen], hst4, by simp; omega, by omega, fun b hb => ?_, hse7, hnd2, hlt2, fun x hx => ?_, fun x hx => by simp [hsub x hx], hor2, fun x hx => ?_, ?_, fun x hx y hy => ?_, ⟨by have := g4.len; omega, fun z ver cs h1 h2 h3 h4 => hk7 z ver cs (by have := hget_lt h4; omega) (hget_mono (hget_mono (g4.keep z ver cs h1 h2 h3 h4) _) _), g4.blk⟩⟩
       · rcases hsb' with h | h
         · rw [h]; exact hvb2 b hb
         · have := hse4.blk b hb
           omega
       · simp only [List.mem_append, List.mem_cons, List.not_mem_nil, or_false] at hx
         rcases hx with h | h | h
         · exact hst' x (by simp [h])
         · omega
         · omega
       · simp only [List.mem_append, List.mem_cons, List.not_mem_nil, or_false] at hx
         rcases hx with h | rfl | rfl
         · exact hsr x (by simp [h])
         · exact hr2
         · exact hr1
       · rcases hmv k hki with h | h
         · exact .inl h
         · exact .inr (by simp [h])
       · rcases List.mem_append.1 hx with h | h
         · rcases hmv y (hcl' x h y hy) with h | h
           · exact .inl h
           · exact .inr (by simp [h])
         · rw [List.mem_singleton.1 h] at hy
           rcases hnj y hy with h | h <;> exact .inr (by simp [h])
     · have d3 : decide (sj.kind = 2) = false := decide_eq_false hk2
       simp only [w9, AV.cells, AV.leaf, reduceEqDiff, reduceLT, reduceAdd, reduceLeDiff, reduceCtorEq, reduceMul, reduceMod, u163, hlen, b0, b1, b6, hlenw, d1, hw1, eI, eg, ec, es, hse.1, hlook, d2, hp1, k1s, hlit1, happ, hvl, hvc, hput1, e1, hspl, hp4, d3, none_beq]
       refine ih _ _ (3 * (l.length - (o' ++ [j]).length) + st0.length) (by simp; omega) ⟨st0, w', v2, o' ++ [j], sb, rfl, by simp [w9, AV.cells, AV.leaf, reduceEqDiff, reduceLT, reduceAdd, reduceLeDiff, reduceCtorEq, reduceMul, reduceMod, u163, hlen], by simp [w9, AV.cells, AV.leaf, reduceEqDiff, reduceLT, reduceAdd, reduceLeDiff, reduceCtorEq, reduceMul, reduceMod, u163, hlen, b0], by simp [w9, AV.cells, AV.leaf, reduceEqDiff, reduceLT, reduceAdd, reduceLeDiff, reduceCtorEq, reduceMul, reduceMod, u163, hlen, b1], by simp [w9, AV.cells, AV.leaf, reduceEqDiff, reduceLT, reduceAdd, reduceLeDiff, reduceCtorEq, reduceMul, reduceMod, u163, hlen], hst2.keep fun ver cs h => hget_mono h _, by simp; omega, hsb, hvb2, hse4.more _, hnd2, hlt2, fun x hx => hst' x (by simp [hx]), fun x hx => by simp [hsub x hx], hor2, fun x hx => hsr x (by simp [hx]), hmv k hki, fun x hx y hy => ?_, g4.trans (Frs.more _ _ _ _ _)⟩
       rcases List.mem_append.1 hx with h | h
       · exact hmv y (hcl' x h y hy)
       · rw [List.mem_singleton.1 h] at hy
         obtain ⟨s', h1, h2, h3⟩ := hy
         rw [hlj] at h1; cases h1
         exact absurd h2 hk2
end Go.Proofs.YtnipaiklandliaaGreatDoor
namespace Go.Proofs.YtnipaiklandliaaGreatDoor
open Go Go.Abs AbsSeat Ty
open Nat (reduceEqDiff reduceLT reduceAdd reduceLeDiff reduceMul reduceMod)
theorem rowK_at {base : Nat} {H : Heap} {v : AV} {o : List Nat} (h : Row encK 1 false base H v o) {i : Nat} (hi : i < o.length) : ∃ b ver, aIndexAddr Tryz.prog 145 v (.int .i64 (i : Nat)) = some (.ptr b ver i) ∧ hget H b ver = some (o.map encK) ∧ (o.map encK)[i]? = some (.int .i64 (o[i] : Nat)) := by
 rcases h with ⟨rfl, rfl⟩ | ⟨b, ver, rfl, h2, h3, hv4⟩
 · simp at hi
 · rw [cellsK] at h3
   exact ⟨b, ver, by simp [aIndexAddr, asNat, Tryz.underlying145, sz3, hi], h3, by simp [hi, encK]⟩
def tk (l : List St) (c : Int) (k y : Nat) : Prop := ∃ s, l[k]? = some s ∧ s.kind = 1 ∧ inS c s.no s.sp = true ∧ s.one = (y : Nat)
theorem step_ok (l : List St) (hr : RightM l) (hsp : ∀ s ∈ l, s.sp.length < 1000000000) (a : Nat) (c : Int) (hln : l.length ≤ 100000) (s r prot : Nat) (v : AV) (o : List Nat) (H : Heap) (hp : prot ≤ r) (hrs : r < s) (hset : SetAt H s r v o) (hnd : o.Nodup) (hlt : ∀ x ∈ o, x < l.length) :
   ∃ H', (∃ v' o', SetAt H' s r v' o' ∧ o'.Nodup ∧ (∀ x ∈ o', x < l.length) ∧ Closed l o' ∧ (∀ x, x ∈ o' ↔ ∃ k ∈ o, ∃ y, tk l c k y ∧ Rch l y x) ∧ Frs H H' s r v v') ∧ aLim cfg prot 164 [.ptr s 0 0, encM l a, .int .i32 c] H = some (.tup [], some H') := by
 have hblk := hset.blk
 obtain ⟨h1, h2, h3⟩ := hset
 have hsl := hget_lt h1
 have hml := hmap_lt h2
 have hvS := slv_sl encSt l
 have hol := nodup_len l.length o hnd hlt
 have hput1 : hput prot H s 0 1 [.nilS] = some (H.set s (.cells 0 [.map r, .nilS])) := by
   rw [hput_eq h1 (by omega) (by simp) (by simp [AV.leaf])]; rfl
 have k1s : hget (H.set s (.cells 0 [.map r, .nilS])) s 0 = some [.map r, .nilS] := hget_set_at hsl
 have k1m : hmap (H.set s (.cells 0 [.map r, .nilS])) r = some (o.map ent) := by rw [hmap_set_ne (by omega)]; exact h2
 have k1k : ∀ z ver cs, z ≠ s → hget H z ver = some cs → hget (H.set s (.cells 0 [.map r, .nilS])) z ver = some cs := fun z ver cs hz hg => by rw [hget_set_ne hz]; exact hg
 have k1l : (H.set s (.cells 0 [.map r, .nilS])).length = H.length := by simp
 generalize H.set s (.cells 0 [.map r, .nilS]) = K1 at *
 have hclr : aClear prot K1 (.map r) = some (K1.set r (.map [])) := by simp [aClear, hp, k1m, mfit_ent]
 have k2s : hget (K1.set r (.map [])) s 0 = some [.map r, .nilS] := by rw [hget_set_ne (by omega)]; exact k1s
 have k2m := hmap_set (es' := []) k1m
 have k2k : ∀ z ver cs, z ≠ s → z ≠ r → hget H z ver = some cs → hget (K1.set r (.map [])) z ver = some cs := fun z ver cs hz hz2 hg => by rw [hget_set_ne hz2]; exact k1k z ver cs hz hg
 have k2l : (K1.set r (.map [])).length = H.length := by simp [k1l]
 generalize K1.set r (.map []) = K2 at *
 have hse0 : SetAt K2 s r .nilS [] := ⟨k2s, k2m, Row.nil⟩
 have hrow : Row encK 1 false (s + 1) K2 v o := by
   rcases h3 with h | ⟨b, ver, rfl, g2, g3, g4⟩
   · exact .inl h
   · exact .inr ⟨b, ver, rfl, g2, k2k _ _ _ (by omega) (by omega) g3, g4⟩
 have hvl := hrow.len (P := Tryz.prog) Tryz.underlying145
 refine raw_slimE rfl (by kernel_rfl) (by kernel_rfl) (by kernel_rfl) Tryz.func164 s164 (by simp [Tryz.f164]) fun fr hlen h => ?_
 simp only [Has, Nat.zero_add] at h
 obtain ⟨a0, a1, a2, -⟩ := h
 simp only [Tryz.f164] at hlen ⊢
 unfold g164
 unfold encM at a1
 simp only [w9, AV.cells, AV.leaf, reduceEqDiff, reduceLT, reduceAdd, reduceLeDiff, reduceCtorEq, reduceMul, reduceMod, u163, hlen, a0, a1, a2, h1, hput1, k1s, hclr, hvl]
 refine loop_ruleE (fun m fr H' => ∃ (i : Nat) (vc : AV) (oc : List Nat), m = o.length - i ∧ i ≤ o.length ∧ fr.length = 51 ∧ fget fr 0 = .ptr s 0 0 ∧ fget fr 1 = .vptr [slv encSt l, .int .i64 (a : Nat)] 0 ∧ fget fr 2 = .int .i32 c ∧ fget fr 21 = v ∧ fget fr 22 = .int .i64 (o.length : Nat) ∧ fget fr 23 = .int .i64 (i : Nat) ∧
   SetAt H' s r vc oc ∧ oc.Nodup ∧ (∀ x ∈ oc, x < l.length) ∧ Closed l oc ∧ (∀ x, x ∈ oc ↔ ∃ k ∈ o.take i, ∃ y, tk l c k y ∧ Rch l y x) ∧ Frs K2 H' s r .nilS vc) ?_ o.length _ _
   ⟨0, .nilS, [], by omega, by omega, by simp [w9, AV.cells, AV.leaf, reduceEqDiff, reduceLT, reduceAdd, reduceLeDiff, reduceCtorEq, reduceMul, reduceMod, u163, hlen], by simp [w9, AV.cells, AV.leaf, reduceEqDiff, reduceLT, reduceAdd, reduceLeDiff, reduceCtorEq, reduceMul, reduceMod, u163, hlen, a0], by simp [w9, AV.cells, AV.leaf, reduceEqDiff, reduceLT, reduceAdd, reduceLeDiff, reduceCtorEq, reduceMul, reduceMod, u163, hlen, a1], by simp [w9, AV.cells, AV.leaf, reduceEqDiff, reduceLT, reduceAdd, reduceLeDiff, reduceCtorEq, reduceMul, reduceMod, u163, hlen, a2], by simp [w9, AV.cells, AV.leaf, reduceEqDiff, reduceLT, reduceAdd, reduceLeDiff, reduceCtorEq, reduceMul, reduceMod, u163, hlen], by simp [w9, AV.cells, AV.leaf, reduceEqDiff, reduceLT, reduceAdd, reduceLeDiff, reduceCtorEq, reduceMul, reduceMod, u163, hlen], by simp [w9, AV.cells, AV.leaf, reduceEqDiff, reduceLT, reduceAdd, reduceLeDiff, reduceCtorEq, reduceMul, reduceMod, u163, hlen], hse0, .nil, by simp, (fun x hx => nomatch hx), by simp, Frs.refl _ _ _ _⟩
 clear a0 a1 a2 hlen fr
 rintro m fr H' ⟨i, vc, oc, rfl, hi, hlen, b0, b1, b2, b21, b22, b23, hse, hndc, hltc, hclc, hmem, f⟩ ih
 by_cases hil : i < o.length
 · have d1 : decide (((i : Nat) : Int) < (o.length : Nat)) = true := decide_eq_true (by omega)
   have hw : IntKind.i64.wrap ((i : Int) + 1) = ((i + 1 : Nat) : Int) := by rw [wrap64 (by omega) (by omega)]; simp
   have hrow' : Row encK 1 false (s + 1) H' v o := by
     rcases hrow with h | ⟨b, ver, rfl, g2, g3, g4⟩
     · exact .inl h
     · exact .inr ⟨b, ver, rfl, g2, f.keep _ _ _ (by omega) (by omega) (fun _ h => by cases h) g3, g4⟩
   obtain ⟨vb, ver, eI, eg, ec⟩ := rowK_at hrow' hil
   have hj0 := hlt o[i] (List.getElem_mem hil)
   have htk : o.take (i + 1) = o.take i ++ [o[i]] := by simp
   generalize o[i] = j at *
   have e1 := hvS.at (P := Tryz.prog) (k := .i64) (i := j) Tryz.underlying179 sz219 encSt_T.len hj0
   have hrj := hr l[j] (List.getElem_mem _)
   have hspj := hsp l[j] (List.getElem_mem _)
   have hlj : l[j]? = some l[j] := List.getElem?_eq_getElem hj0
   generalize l[j] = sj at *
   have hspl := slvG_leaf sj.sp
   simp only [encSt, AV.cells] at e1
   unfold AV.leaf at hspl
   have hml' := hmap_lt hse.2.1
   have hpl : prot ≤ H'.length := by omega
   have hpl1 : prot ≤ H'.length + 1 := by omega
   have hl1 : ∀ Z, (H' ++ [Blk.cells 0 Z]).length = H'.length + 1 := fun Z => by simp
   have hns : ∀ (hno : ∀ y, ¬ tk l c j y) (x : Nat), x ∈ oc ↔ ∃ k ∈ o.take (i + 1), ∃ y, tk l c k y ∧ Rch l y x := fun hno x => by
     rw [hmem x, htk]
     constructor
     · rintro ⟨k, hk, h⟩; exact ⟨k, by simp [hk], h⟩
     · rintro ⟨k, hk, y, h1, h2⟩
       rcases List.mem_append.1 hk with h | h
       · exact ⟨k, h, y, h1, h2⟩
       · rw [List.mem_singleton.1 h] at h1; exact absurd h1 (hno y)
   by_cases hk1 : sj.kind = 1
   · have d2 : decide (sj.kind = 1) = true := decide_eq_true hk1
     have n1 := fun (K : Heap) (hK : prot ≤ K.length) => inG_ok sj.sp c sj.no (slv encG sj.sp) (slv_sl encG sj.sp) hspj prot K hK
     by_cases hin : inS c sj.no sj.sp = true
     · rw [hin] at n1
       obtain ⟨y, hy⟩ : ∃ y : Nat, sj.one = (y : Nat) := ⟨sj.one.toNat, by have := hrj.2.1 (by omega); omega⟩
       have hy1 := hrj.2.1 (by omega)
       have htj : tk l c j y := ⟨sj, hlj, hk1, hin, hy⟩
       obtain ⟨H2, ⟨v2, o2, hse2, hnd2, hlt2, hmem2, f2⟩, n2⟩ := enter_ok l hr a y (by omega) hln s r prot vc oc (H' ++ [Blk.cells 0 [.int .i64 sj.kind, .bool sj.no, slv encG sj.sp, .int .i64 (y : Nat), .int .i64 sj.two]]) hp hrs (hse.more _) hndc hltc hclc
       unfold encM at n2
       simp only [w9, AV.cells, AV.leaf, reduceEqDiff, reduceLT, reduceAdd, reduceLeDiff, reduceCtorEq, reduceMul, reduceMod, u163, hlen, b0, b1, b2, b21, b22, b23, d1, eI, eg, ec, e1, hspl, hpl, hpl1, hl1, d2, n1, hy, n2, hw]
       refine ih _ _ (o.length - (i + 1)) (by omega) ⟨i + 1, v2, o2, rfl, by omega, by simp [w9, AV.cells, AV.leaf, reduceEqDiff, reduceLT, reduceAdd, reduceLeDiff, reduceCtorEq, reduceMul, reduceMod, u163, hlen], by simp [w9, AV.cells, AV.leaf, reduceEqDiff, reduceLT, reduceAdd, reduceLeDiff, reduceCtorEq, reduceMul, reduceMod, u163, hlen, b0], by simp [w9, AV.cells, AV.leaf, reduceEqDiff, reduceLT, reduceAdd, reduceLeDiff, reduceCtorEq, reduceMul, reduceMod, u163, hlen, b1], by simp [w9, AV.cells, AV.leaf, reduceEqDiff, reduceLT, reduceAdd, reduceLeDiff, reduceCtorEq, reduceMul, reduceMod, u163, hlen, b2], by simp [w9, AV.cells, AV.leaf, reduceEqDiff, reduceLT, reduceAdd, reduceLeDiff, reduceCtorEq, reduceMul, reduceMod, u163, hlen, b21], by simp [w9, AV.cells, AV.leaf, reduceEqDiff, reduceLT, reduceAdd, reduceLeDiff, reduceCtorEq, reduceMul, reduceMod, u163, hlen, b22], by simp [w9, AV.cells, AV.leaf, reduceEqDiff, reduceLT, reduceAdd, reduceLeDiff, reduceCtorEq, reduceMul, reduceMod, u163, hlen], hse2, hnd2, hlt2, ?_, ?_, (f.trans (Frs.more _ _ _ _ _)).trans f2⟩
       · intro x hx z hz
         rw [hmem2] at hx ⊢
         rcases hx with h | h
         · exact .inl (hclc x h z hz)
         · exact .inr (h.step hz)
       · intro x
         rw [hmem2, hmem x, htk]
         constructor
         · rintro (⟨k, hk, h⟩ | h)
           · exact ⟨k, by simp [hk], h⟩
           · exact ⟨j, by simp, y, htj, h⟩
         · rintro ⟨k, hk, z, h1, h2⟩
           rcases List.mem_append.1 hk with h | h
           · exact .inl ⟨k, h, z, h1, h2⟩
           · rw [List.mem_singleton.1 h] at h1
             obtain ⟨s', q1, q2, q3, q4⟩ := h1
             rw [hlj] at q1; cases q1
             have : z = y := by omega
             subst this
             exact .inr h2
     · have hin := Bool.eq_false_iff.2 hin
       rw [hin] at n1
       have hno : ∀ y, ¬ tk l c j y := fun y ⟨s', q1, q2, q3, q4⟩ => by
         rw [hlj] at q1; cases q1
         rw [hin] at q3; cases q3
       simp only [w9, AV.cells, AV.leaf, reduceEqDiff, reduceLT, reduceAdd, reduceLeDiff, reduceCtorEq, reduceMul, reduceMod, u163, hlen, b0, b1, b2, b21, b22, b23, d1, eI, eg, ec, e1, hspl, hpl, hpl1, hl1, d2, n1, hw]
       exact ih _ _ (o.length - (i + 1)) (by omega) ⟨i + 1, vc, oc, rfl, by omega, by simp [w9, AV.cells, AV.leaf, reduceEqDiff, reduceLT, reduceAdd, reduceLeDiff, reduceCtorEq, reduceMul, reduceMod, u163, hlen], by simp [w9, AV.cells, AV.leaf, reduceEqDiff, reduceLT, reduceAdd, reduceLeDiff, reduceCtorEq, reduceMul, reduceMod, u163, hlen, b0], by simp [w9, AV.cells, AV.leaf, reduceEqDiff, reduceLT, reduceAdd, reduceLeDiff, reduceCtorEq, reduceMul, reduceMod, u163, hlen, b1], by simp [w9, AV.cells, AV.leaf, reduceEqDiff, reduceLT, reduceAdd, reduceLeDiff, reduceCtorEq, reduceMul, reduceMod, u163, hlen, b2], by simp [w9, AV.cells, AV.leaf, reduceEqDiff, reduceLT, reduceAdd, reduceLeDiff, reduceCtorEq, reduceMul, reduceMod, u163, hlen, b21], by simp [w9, AV.cells, AV.leaf, reduceEqDiff, reduceLT, reduceAdd, reduceLeDiff, reduceCtorEq, reduceMul, reduceMod, u163, hlen, b22], by simp [w9, AV.cells, AV.leaf, reduceEqDiff, reduceLT, reduceAdd, reduceLeDiff, reduceCtorEq, reduceMul, reduceMod, u163, hlen], hse.more _, hndc, hltc, hclc, hns hno, f.trans (Frs.more _ _ _ _ _)⟩
   · have d2 : decide (sj.kind = 1) = false := decide_eq_false hk1
     have hno : ∀ y, ¬ tk l c j y := fun y ⟨s', q1, q2, q3, q4⟩ => by
       rw [hlj] at q1; cases q1
       exact hk1 q2
     simp only [w9, AV.cells, AV.leaf, reduceEqDiff, reduceLT, reduceAdd, reduceLeDiff, reduceCtorEq, reduceMul, reduceMod, u163, hlen, b0, b1, b2, b21, b22, b23, d1, eI, eg, ec, e1, hspl, hpl, hpl1, hl1, d2, hw, none_beq]
     exact ih _ _ (o.length - (i + 1)) (by omega) ⟨i + 1, vc, oc, rfl, by omega, by simp [w9, AV.cells, AV.leaf, reduceEqDiff, reduceLT, reduceAdd, reduceLeDiff, reduceCtorEq, reduceMul, reduceMod, u163, hlen], by simp [w9, AV.cells, AV.leaf, reduceEqDiff, reduceLT, reduceAdd, reduceLeDiff, reduceCtorEq, reduceMul, reduceMod, u163, hlen, b0], by simp [w9, AV.cells, AV.leaf, reduceEqDiff, reduceLT, reduceAdd, reduceLeDiff, reduceCtorEq, reduceMul, reduceMod, u163, hlen, b1], by simp [w9, AV.cells, AV.leaf, reduceEqDiff, reduceLT, reduceAdd, reduceLeDiff, reduceCtorEq, reduceMul, reduceMod, u163, hlen, b2], by simp [w9, AV.cells, AV.leaf, reduceEqDiff, reduceLT, reduceAdd, reduceLeDiff, reduceCtorEq, reduceMul, reduceMod, u163, hlen, b21], by simp [w9, AV.cells, AV.leaf, reduceEqDiff, reduceLT, reduceAdd, reduceLeDiff, reduceCtorEq, reduceMul, reduceMod, u163, hlen, b22], by simp [w9, AV.cells, AV.leaf, reduceEqDiff, reduceLT, reduceAdd, reduceLeDiff, reduceCtorEq, reduceMul, reduceMod, u163, hlen], hse.more _, hndc, hltc, hclc, hns hno, f.trans (Frs.more _ _ _ _ _)⟩
 · have d1 : decide (((i : Nat) : Int) < (o.length : Nat)) = false := decide_eq_false (by omega)
   rw [List.take_of_length_le (by omega)] at hmem
   simp only [w9, AV.cells, AV.leaf, reduceEqDiff, reduceLT, reduceAdd, reduceLeDiff, reduceCtorEq, reduceMul, reduceMod, u163, hlen, b0, b1, b2, b21, b22, b23, d1]
   refine ⟨_, ⟨vc, oc, hse, hndc, hltc, hclc, hmem, ⟨by have := f.len; omega, fun z ver cs g1 g2 g3 g4 => f.keep z ver cs g1 g2 (fun _ h => by cases h) (k2k z ver cs g1 g2 g4), fun b' hb' => ?_⟩⟩, Fin_raw (l := []) (by simp [w9, AV.cells, AV.leaf, reduceEqDiff, reduceLT, reduceAdd, reduceLeDiff, reduceCtorEq, reduceMul, reduceMod, u163, hlen, aResults, aResult])⟩
   rcases f.blk b' hb' with ⟨_, h, _⟩ | h
   · cases h
   · right; omega
end Go.Proofs.YtnipaiklandliaaGreatDoor
/- The document's decoder of runes (by trying all lengths) is the program's: no program in sight. -/
namespace Go.Proofs.YtnipaiklandliaaGreatDoor
open Go Go.Abs
open Nat (reduceEqDiff reduceLT reduceAdd reduceLeDiff reduceMul reduceMod)
def leadI (n : Nat) : Int := if n = 2 then 192 else if n = 3 then 224 else if n = 4 then 240 else 0
def valGo : Int → List UInt8 → Int
 | v, [] => v
 | v, c :: r => valGo (64 * v + c.toNat - 128) r
def valueU (b : List UInt8) (n : Nat) : Int := match b with
 | [] => 0
 | c :: r => valGo (c.toNat - leadI n) (r.take (n - 1))
def isI (v : Int) : Bool := decide (0 ≤ v) && (decide (v ≤ 1114111) && (decide (v < 55296) || decide (57343 < v)))
def putUX (v : Int) : List UInt8 :=
 if isI v = false then [] else
 if v < 128 then [UInt8.ofNat v.toNat] else
 if v < 2048 then [UInt8.ofNat (192 + v.toNat / 64), UInt8.ofNat (128 + v.toNat % 64)] else
 if v < 65536 then [UInt8.ofNat (224 + v.toNat / 4096), UInt8.ofNat (128 + v.toNat / 64 % 64), UInt8.ofNat (128 + v.toNat % 64)] else
 [UInt8.ofNat (240 + v.toNat / 262144), UInt8.ofNat (128 + v.toNat / 4096 % 64), UInt8.ofNat (128 + v.toNat / 64 % 64), UInt8.ofNat (128 + v.toNat % 64)]
def matchN (b : List UInt8) (n : Nat) : Bool := isI (valueU b n) && putUX (valueU b n) == b.take n
theorem isI_iff (v : Int) : isI v = true ↔ 0 ≤ v ∧ v ≤ 1114111 ∧ (v < 55296 ∨ 57343 < v) := by simp [isI]
theorem of_eq (n : Nat) (c : UInt8) (h : n < 256) : UInt8.ofNat n = c ↔ n = c.toNat := by
 rw [← UInt8.toNat_inj]
 have : (UInt8.ofNat n).toNat = n := by simp; omega
 rw [this]
theorem put_one {v : Int} (h : isI v = true) (h1 : v < 128) : putUX v = [UInt8.ofNat v.toNat] := by simp [putUX, h, h1]
theorem put_two {v : Int} (h : isI v = true) (h0 : 128 ≤ v) (h1 : v < 2048) : putUX v = [UInt8.ofNat (192 + v.toNat / 64), UInt8.ofNat (128 + v.toNat % 64)] := by
 have : ¬ v < 128 := by omega
 simp [putUX, h, h1, this]
theorem put_three {v : Int} (h : isI v = true) (h0 : 2048 ≤ v) (h1 : v < 65536) : putUX v = [UInt8.ofNat (224 + v.toNat / 4096), UInt8.ofNat (128 + v.toNat / 64 % 64), UInt8.ofNat (128 + v.toNat % 64)] := by
 have h2 : ¬ v < 128 := by omega
 have h3 : ¬ v < 2048 := by omega
 simp [putUX, h, h1, h2, h3]
theorem put_four {v : Int} (h : isI v = true) (h0 : 65536 ≤ v) : putUX v = [UInt8.ofNat (240 + v.toNat / 262144), UInt8.ofNat (128 + v.toNat / 4096 % 64), UInt8.ofNat (128 + v.toNat / 64 % 64), UInt8.ofNat (128 + v.toNat % 64)] := by
 have h2 : ¬ v < 128 := by omega
 have h3 : ¬ v < 2048 := by omega
 have h4 : ¬ v < 65536 := by omega
 simp [putUX, h, h2, h3, h4]
theorem put_len {v : Int} (h : isI v = true) : (putUX v).length = if v < 128 then 1 else if v < 2048 then 2 else if v < 65536 then 3 else 4 := by
 simp only [putUX, h, Bool.true_eq_false, if_false]
 repeat' split
 all_goals rfl
theorem match_one (c : UInt8) (r : List UInt8) : matchN (c :: r) 1 = true ↔ c.toNat < 128 := by
 have hv : valueU (c :: r) 1 = c.toNat := by simp [valueU, leadI, valGo]
 have hc := c.toNat_lt
 unfold matchN
 rw [hv]
 simp only [Bool.and_eq_true, beq_iff_eq, isI_iff, List.take_succ_cons, List.take_zero]
 constructor
 · rintro ⟨h1, h2⟩
   have hi : isI (c.toNat : Int) = true := (isI_iff _).2 h1
   have := congrArg List.length h2
   rw [put_len hi] at this
   split at this
   · omega
   · split at this <;> simp at this
     split at this <;> omega
 · intro h
   have hi : isI (c.toNat : Int) = true := (isI_iff _).2 (by omega)
   refine ⟨by omega, ?_⟩
   rw [put_one hi (by omega)]
   simp
theorem match_two (c d : UInt8) (r : List UInt8) : matchN (c :: d :: r) 2 = true ↔ (194 ≤ c.toNat ∧ c.toNat < 224) ∧ 128 ≤ d.toNat ∧ d.toNat < 192 := by
 have hv : valueU (c :: d :: r) 2 = 64 * ((c.toNat : Int) - 192) + d.toNat - 128 := by simp [valueU, leadI, valGo]
 have hc := c.toNat_lt
 have hd := d.toNat_lt
 unfold matchN
 rw [hv]
 generalize hx : 64 * ((c.toNat : Int) - 192) + d.toNat - 128 = v
 simp only [Bool.and_eq_true, beq_iff_eq, List.take_succ_cons, List.take_zero]
 constructor
 · rintro ⟨hi, h2⟩
   have h1 := (isI_iff _).1 hi
   have := congrArg List.length h2
   rw [put_len hi] at this
   have hr : 128 ≤ v ∧ v < 2048 := by
     split at this
     · simp at this
     · split at this
       · omega
       · split at this <;> simp at this
   rw [put_two hi hr.1 hr.2] at h2
   simp only [List.cons.injEq, and_true] at h2
   rw [of_eq _ _ (by omega), of_eq _ _ (by omega)] at h2
   omega
 · rintro ⟨h1, h2⟩
   have hi : isI v = true := (isI_iff _).2 (by omega)
   refine ⟨hi, ?_⟩
   rw [put_two hi (by omega) (by omega)]
   simp only [List.cons.injEq, and_true]
   rw [of_eq _ _ (by omega), of_eq _ _ (by omega)]
   omega
theorem match_three (c d e : UInt8) (r : List UInt8) : matchN (c :: d :: e :: r) 3 = true ↔
   (224 ≤ c.toNat ∧ c.toNat < 240) ∧ (lowU c.toNat ≤ d.toNat ∧ d.toNat ≤ highU c.toNat) ∧ 128 ≤ e.toNat ∧ e.toNat < 192 := by
 have hv : valueU (c :: d :: e :: r) 3 = 64 * (64 * ((c.toNat : Int) - 224) + d.toNat - 128) + e.toNat - 128 := by simp [valueU, leadI, valGo]
 have hc := c.toNat_lt
 have hd := d.toNat_lt
 have he := e.toNat_lt
 unfold matchN
 rw [hv]
 generalize hx : 64 * (64 * ((c.toNat : Int) - 224) + d.toNat - 128) + e.toNat - 128 = v
 simp only [Bool.and_eq_true, beq_iff_eq, List.take_succ_cons, List.take_zero, lowU, highU]
 constructor
 · rintro ⟨hi, h2⟩
   have h1 := (isI_iff _).1 hi
   have := congrArg List.length h2
   rw [put_len hi] at this
   have hr : 2048 ≤ v ∧ v < 65536 := by
     split at this
     · simp at this
     · split at this
       · simp at this
       · split at this
         · omega
         · simp at this
   rw [put_three hi hr.1 hr.2] at h2
   simp only [List.cons.injEq, and_true] at h2
   rw [of_eq _ _ (by omega), of_eq _ _ (by omega), of_eq _ _ (by omega)] at h2
   refine ⟨by omega, ⟨?_, ?_⟩, by omega⟩
   · split
     · omega
     · split <;> omega
   · split
     · omega
     · split <;> omega
 · rintro ⟨h1, ⟨h3, h4⟩, h2⟩
   have hr : 128 ≤ d.toNat ∧ d.toNat < 192 ∧ (c.toNat = 224 → 160 ≤ d.toNat) ∧ (c.toNat = 237 → d.toNat ≤ 159) := by
     split at h3 <;> split at h4 <;> (try split at h3) <;> (try split at h4) <;> omega
   have hi : isI v = true := (isI_iff _).2 (by omega)
   refine ⟨hi, ?_⟩
   rw [put_three hi (by omega) (by omega)]
   simp only [List.cons.injEq, and_true]
   rw [of_eq _ _ (by omega), of_eq _ _ (by omega), of_eq _ _ (by omega)]
   omega
theorem match_four (c d e f : UInt8) (r : List UInt8) : matchN (c :: d :: e :: f :: r) 4 = true ↔
   (240 ≤ c.toNat ∧ c.toNat < 245) ∧ (lowU c.toNat ≤ d.toNat ∧ d.toNat ≤ highU c.toNat) ∧ (128 ≤ e.toNat ∧ e.toNat < 192) ∧ 128 ≤ f.toNat ∧ f.toNat < 192 := by
 have hv : valueU (c :: d :: e :: f :: r) 4 = 64 * (64 * (64 * ((c.toNat : Int) - 240) + d.toNat - 128) + e.toNat - 128) + f.toNat - 128 := by simp [valueU, leadI, valGo]
 have hc := c.toNat_lt
 have hd := d.toNat_lt
 have he := e.toNat_lt
 have hf := f.toNat_lt
 unfold matchN
 rw [hv]
 generalize hx : 64 * (64 * (64 * ((c.toNat : Int) - 240) + d.toNat - 128) + e.toNat - 128) + f.toNat - 128 = v
 simp only [Bool.and_eq_true, beq_iff_eq, List.take_succ_cons, List.take_zero, lowU, highU]
 constructor
 · rintro ⟨hi, h2⟩
   have h1 := (isI_iff _).1 hi
   have := congrArg List.length h2
   rw [put_len hi] at this
   have hr : 65536 ≤ v := by
     split at this
     · simp at this
     · split at this
       · simp at this
       · split at this
         · simp at this
         · omega
   rw [put_four hi hr] at h2
   simp only [List.cons.injEq, and_true] at h2
   rw [of_eq _ _ (by omega), of_eq _ _ (by omega), of_eq _ _ (by omega), of_eq _ _ (by omega)] at h2
   refine ⟨by omega, ⟨?_, ?_⟩, by omega⟩
   · split
     · omega
     · split <;> omega
   · split
     · omega
     · split <;> omega
 · rintro ⟨h1, ⟨h3, h4⟩, h2⟩
   have hr : 128 ≤ d.toNat ∧ d.toNat < 192 ∧ (c.toNat = 240 → 144 ≤ d.toNat) ∧ (c.toNat = 244 → d.toNat ≤ 143) := by
     split at h3 <;> split at h4 <;> (try split at h3) <;> (try split at h4) <;> omega
   have hi : isI v = true := (isI_iff _).2 (by omega)
   refine ⟨hi, ?_⟩
   rw [put_four hi (by omega)]
   simp only [List.cons.injEq, and_true]
   rw [of_eq _ _ (by omega), of_eq _ _ (by omega), of_eq _ _ (by omega), of_eq _ _ (by omega)]
   omega
theorem first_bits : ∀ c : Fin 256, (c.val < 128 → runeFirst c.val 1 = c.val) ∧ (192 ≤ c.val → c.val < 224 → runeFirst c.val 2 = c.val - 192) ∧ (224 ≤ c.val → c.val < 240 → runeFirst c.val 3 = c.val - 224) ∧ (240 ≤ c.val → c.val < 248 → runeFirst c.val 4 = c.val - 240) := by
 decide +kernel
theorem and63 : ∀ c : Fin 256, 128 ≤ c.val → c.val < 192 → IntKind.i32.wrap (BitVec.ofInt IntKind.i32.bits (IntKind.i32.wrap (c.val : Int)) &&& BitVec.ofInt IntKind.i32.bits 63).toNat = (c.val : Int) - 128 := by decide +kernel
theorem wrap32X {n : Int} (h1 : 0 ≤ n) (h2 : n < 2147483648) : IntKind.i32.wrap n = n := by
 simp [IntKind.wrap, IntKind.bits, IntKind.signed]
 split <;> omega
theorem step_bits {r : Nat} (hr : r < 1048576) (c : UInt8) (h1 : 128 ≤ c.toNat) (h2 : c.toNat < 192) : runeStep r c.toNat = 64 * r + c.toNat - 128 := by
 have h3 := and63 ⟨c.toNat, c.toNat_lt⟩ h1 h2
 simp only at h3
 unfold runeStep shl6
 rw [h3]
 have e1 : (r : Int) * 2 ^ min (6 : Int).toNat IntKind.i32.bits = (r : Int) * 64 := by congr 1
 have e0 : IntKind.i32.wrap ((r : Int) * 64) = (r : Int) * 64 := wrap32X (by omega) (by omega)
 rw [e1, e0]
 obtain ⟨x, hx⟩ : ∃ x : Nat, (c.toNat : Int) - 128 = x := ⟨c.toNat - 128, by omega⟩
 have hx64 : x < 64 := by omega
 rw [hx, show (r : Int) * 64 = ((r * 64 : Nat) : Int) by simp]
 have e2 : (BitVec.ofInt IntKind.i32.bits ((r * 64 : Nat) : Int) ||| BitVec.ofInt IntKind.i32.bits (x : Int)).toNat = r * 64 + x := by
   have e3 : 2 ^ IntKind.i32.bits = 4294967296 := rfl
   simp only [BitVec.ofInt_natCast, BitVec.toNat_or, BitVec.toNat_ofNat, e3]
   rw [Nat.mod_eq_of_lt (by omega), Nat.mod_eq_of_lt (by omega)]
   have := Nat.two_pow_add_eq_or_of_lt (i := 6) (b := x) (by omega) r
   rw [show 2 ^ 6 * r = r * 64 by omega] at this
   exact this.symm
 rw [e2, wrap32X (by omega) (by omega)]
 omega
theorem fits1 (lo hi : Int) (d : UInt8) : fitsGo lo hi [d] = true ↔ lo ≤ d.toNat ∧ (d.toNat : Int) ≤ hi := by
 rw [fitsGo, fitsGo]
 split
 · constructor
   · intro h; cases h
   · intro h; omega
 · constructor
   · intro _; omega
   · intro _; rfl
theorem fitsC (lo hi : Int) (d e : UInt8) (r : List UInt8) : fitsGo lo hi (d :: e :: r) = true ↔ (lo ≤ d.toNat ∧ (d.toNat : Int) ≤ hi) ∧ fitsGo 128 191 (e :: r) = true := by
 rw [fitsGo]
 split
 · constructor
   · intro h; cases h
   · intro h; omega
 · constructor
   · intro h; exact ⟨by omega, h⟩
   · intro h; exact h.2
theorem nextU_match (b : List UInt8) : ((nextU b).2.2 = 0 → matchN b (nextU b).2.1 = true ∧ valueU b (nextU b).2.1 = (nextU b).1 ∧ ∀ n, 1 ≤ n → n < (nextU b).2.1 → matchN b n = false) ∧
   ((nextU b).2.2 ≠ 0 → ∀ n, 1 ≤ n → n ≤ 4 → n ≤ b.length → matchN b n = false) := by
 cases b with
 | nil => exact ⟨fun h => by simp [nextU] at h, fun _ n h1 _ h3 => by simp at h3; omega⟩
 | cons c r =>
   have hc := c.toNat_lt
   have ff := first_bits ⟨c.toNat, hc⟩
   simp only at ff
   -- how many bytes it would be
   have nm : ∀ n, 1 ≤ n → n ≤ 4 → n ≤ (c :: r).length → matchN (c :: r) n = true → wantedU c.toNat = n ∧ fitsU c (c :: r) n = true := by
     intro n h1 h4 hl hm
     match n, h1, h4, r, hl with
     | 1, _, _, r, _ =>
       have := (match_one c r).1 hm
       exact ⟨by simp [wantedU]; omega, by simp [fitsU, fitsGo]⟩
     | 2, _, _, d :: r, _ =>
       obtain ⟨⟨g1, g2⟩, g3, g4⟩ := (match_two c d r).1 hm
       refine ⟨by simp [wantedU]; split <;> (try split) <;> omega, ?_⟩
       have e1 : lowU c.toNat = 128 := by unfold lowU; split <;> (try split) <;> omega
       have e2 : highU c.toNat = 191 := by unfold highU; split <;> (try split) <;> omega
       show fitsGo (lowU c.toNat) (highU c.toNat) [d] = true
       rw [fits1, e1, e2]; omega
     | 3, _, _, d :: e :: r, _ =>
       obtain ⟨⟨g1, g2⟩, ⟨g3, g4⟩, g5, g6⟩ := (match_three c d e r).1 hm
       refine ⟨by simp [wantedU]; repeat' split
                  all_goals omega, ?_⟩
       show fitsGo (lowU c.toNat) (highU c.toNat) [d, e] = true
       rw [fitsC, fits1]; omega
     | 4, _, _, d :: e :: f :: r, _ =>
       obtain ⟨⟨g1, g2⟩, ⟨g3, g4⟩, ⟨g5, g6⟩, g7, g8⟩ := (match_four c d e f r).1 hm
       refine ⟨by simp [wantedU]; repeat' split
                  all_goals omega, ?_⟩
       show fitsGo (lowU c.toNat) (highU c.toNat) [d, e, f] = true
       rw [fitsC, fitsC, fits1]; omega
     | 2, _, _, [], h => simp at h
     | 3, _, _, [], h => simp at h
     | 3, _, _, [_], h => simp at h
     | 4, _, _, [], h => simp at h
     | 4, _, _, [_], h => simp at h
     | 4, _, _, [_, _], h => simp at h
     | n + 5, _, h, _, _ => omega
   have mn : ∀ n, wantedU c.toNat = n → 1 ≤ n → fitsU c (c :: r) n = true → n ≤ (c :: r).length → matchN (c :: r) n = true ∧ valueU (c :: r) n = runeGo (runeFirst c.toNat n) (r.take (n - 1)) := by
     intro n hw h1 hf hl
     have h4 := wantedU_le c.toNat
     rw [hw] at h4
     match n, h1, h4, r, hl with
     | 1, _, _, r, _ =>
       have : c.toNat < 128 := by unfold wantedU at hw; split at hw <;> (try split at hw) <;> (try split at hw) <;> (try split at hw) <;> omega
       refine ⟨(match_one c r).2 this, ?_⟩
       simp [valueU, leadI, valGo, runeGo, ff.1 this]
     | 2, _, _, d :: r, _ =>
       have hcr : 194 ≤ c.toNat ∧ c.toNat < 224 := by unfold wantedU at hw; split at hw <;> (try split at hw) <;> (try split at hw) <;> (try split at hw) <;> omega
       have e1 : lowU c.toNat = 128 := by unfold lowU; split <;> (try split) <;> omega
       have e2 : highU c.toNat = 191 := by unfold highU; split <;> (try split) <;> omega
       have hd : 128 ≤ d.toNat ∧ d.toNat < 192 := by
         have hf : fitsGo (lowU c.toNat) (highU c.toNat) [d] = true := hf
         rw [fits1, e1, e2] at hf; omega
       refine ⟨(match_two c d r).2 ⟨hcr, hd⟩, ?_⟩
       simp only [valueU, leadI, valGo, runeGo, List.take_succ_cons, List.take_zero, ff.2.1 (by omega) (by omega), if_true, Nat.add_one_sub_one]
       rw [show (c.toNat : Int) - 192 = ((c.toNat - 192 : Nat) : Int) by omega, step_bits (by omega) d hd.1 hd.2]
     | 3, _, _, d :: e :: r, _ =>
       have hcr : 224 ≤ c.toNat ∧ c.toNat < 240 := by unfold wantedU at hw; split at hw <;> (try split at hw) <;> (try split at hw) <;> (try split at hw) <;> omega
       have hd : (lowU c.toNat ≤ d.toNat ∧ d.toNat ≤ highU c.toNat) ∧ 128 ≤ e.toNat ∧ e.toNat < 192 := by
         have hf : fitsGo (lowU c.toNat) (highU c.toNat) [d, e] = true := hf
         rw [fitsC, fits1] at hf; omega
       refine ⟨(match_three c d e r).2 ⟨hcr, hd⟩, ?_⟩
       have hd2 : 128 ≤ d.toNat ∧ d.toNat < 192 := by
         have h3 := hd.1.1
         have h4 := hd.1.2
         unfold lowU at h3
         unfold highU at h4
         split at h3 <;> split at h4 <;> (try split at h3) <;> (try split at h4) <;> omega
       simp only [valueU, leadI, valGo, runeGo, List.take_succ_cons, List.take_zero, ff.2.2.1 (by omega) (by omega), if_true, Nat.add_one_sub_one]
       rw [show (c.toNat : Int) - 224 = ((c.toNat - 224 : Nat) : Int) by omega, step_bits (by omega) d hd2.1 hd2.2,
         show 64 * ((c.toNat - 224 : Nat) : Int) + d.toNat - 128 = ((64 * (c.toNat - 224) + d.toNat - 128 : Nat) : Int) by omega, step_bits (by omega) e hd.2.1 hd.2.2]
       simp
       omega
     | 4, _, _, d :: e :: f :: r, _ =>
       have hcr : 240 ≤ c.toNat ∧ c.toNat < 245 := by unfold wantedU at hw; split at hw <;> (try split at hw) <;> (try split at hw) <;> (try split at hw) <;> omega
       have hd : (lowU c.toNat ≤ d.toNat ∧ d.toNat ≤ highU c.toNat) ∧ (128 ≤ e.toNat ∧ e.toNat < 192) ∧ 128 ≤ f.toNat ∧ f.toNat < 192 := by
         have hf : fitsGo (lowU c.toNat) (highU c.toNat) [d, e, f] = true := hf
         rw [fitsC, fitsC, fits1] at hf; omega
       refine ⟨(match_four c d e f r).2 ⟨hcr, hd⟩, ?_⟩
       have hd2 : 128 ≤ d.toNat ∧ d.toNat < 192 := by
         have h3 := hd.1.1
         have h4 := hd.1.2
         unfold lowU at h3
         unfold highU at h4
         split at h3 <;> split at h4 <;> (try split at h3) <;> (try split at h4) <;> omega
       simp only [valueU, leadI, valGo, runeGo, List.take_succ_cons, List.take_zero, ff.2.2.2 (by omega) (by omega), if_true, Nat.add_one_sub_one]
       rw [show (c.toNat : Int) - 240 = ((c.toNat - 240 : Nat) : Int) by omega, step_bits (by omega) d hd2.1 hd2.2,
         show 64 * ((c.toNat - 240 : Nat) : Int) + d.toNat - 128 = ((64 * (c.toNat - 240) + d.toNat - 128 : Nat) : Int) by omega, step_bits (by omega) e hd.2.1.1 hd.2.1.2,
         show 64 * ((64 * (c.toNat - 240) + d.toNat - 128 : Nat) : Int) + e.toNat - 128 = ((64 * (64 * (c.toNat - 240) + d.toNat - 128) + e.toNat - 128 : Nat) : Int) by omega, step_bits (by omega) f hd.2.2.1 hd.2.2.2]
       simp
       omega
     | 2, _, _, [], h => simp at h
     | 3, _, _, [], h => simp at h
     | 3, _, _, [_], h => simp at h
     | 4, _, _, [], h => simp at h
     | 4, _, _, [_], h => simp at h
     | 4, _, _, [_, _], h => simp at h
     | n + 5, _, h, _, _ => omega
   rw [nextU_eq rfl]
   split
   · rename_i h0
     refine ⟨fun h => by simp at h, fun _ n h1 h4 hl => ?_⟩
     cases hm : matchN (c :: r) n with
     | false => rfl
     | true =>
       obtain ⟨g1, g2⟩ := nm n h1 h4 hl hm
       rw [g1] at h0
       rcases h0 with h0 | h0
       · omega
       · rw [g2] at h0; cases h0
   · rename_i h0
     split
     · rename_i hlt
       refine ⟨fun h => by simp at h, fun _ n h1 h4 hl => ?_⟩
       cases hm : matchN (c :: r) n with
       | false => rfl
       | true =>
         obtain ⟨g1, g2⟩ := nm n h1 h4 hl hm
         omega
     · rename_i hlt
       have hw1 : 1 ≤ wantedU c.toNat := by
         have : ¬ wantedU c.toNat = 0 := fun e => h0 (.inl e)
         omega
       have hfit : fitsU c (c :: r) (wantedU c.toNat) = true := by
         cases hf : fitsU c (c :: r) (wantedU c.toNat) with
         | true => rfl
         | false => exact absurd (.inr hf) h0
       obtain ⟨g1, g2⟩ := mn _ rfl hw1 hfit (by omega)
       generalize hq : wantedU c.toNat = q at *
       refine ⟨fun _ => ?_, fun h => absurd rfl h⟩
       dsimp only [List.drop_succ_cons, List.drop_zero]
       refine ⟨g1, g2, fun n h1 h2 => ?_⟩
       cases hm : matchN (c :: r) n with
       | false => rfl
       | true =>
         have h4 := wantedU_le c.toNat
         obtain ⟨k1, k2⟩ := nm n h1 (by omega) (by omega) hm
         omega
end Go.Proofs.YtnipaiklandliaaGreatDoor
/- Chapter 2 of the document, walked. -/
namespace Go.Proofs.YtnipaiklandliaaGreatDoor
open Go Go.Abs AbsSeat Ty
open Nat (reduceEqDiff reduceLT reduceAdd reduceLeDiff reduceMul reduceMod)
end Go.Proofs.YtnipaiklandliaaGreatDoor
/- Chapter 15: a text's runes, walked. -/
namespace Go.Proofs.YtnipaiklandliaaGreatDoor
open Go Go.Abs AbsSeat Ty
open Nat (reduceEqDiff reduceLT reduceAdd reduceLeDiff reduceMul reduceMod)
def runesU (b : List UInt8) : Option (List Int) := if b = [] then some [] else if _h : (nextU b).2.2 = 0 then (runesU (b.drop (nextU b).2.1)).map ((nextU b).1 :: ·) else none
termination_by b.length
decreasing_by have := nextU_pos _h; simp; omega
theorem walkU_le : ∀ (n : Nat) (b : List UInt8), b.length ≤ n → (walkU b).2 ≤ b.length ∧ ((walkU b).2 = b.length ↔ (runesU b).isSome = true)
 | 0, b, h => by
   have hb : b = [] := by simpa using h
   subst hb
   have hw0 : walkU [] = (0, 0) := by rw [walkU]; simp [nextU]
   rw [hw0, runesU]; simp
 | n + 1, b, h => by
   by_cases hb : b = []
   · subst hb
     have hw0 : walkU [] = (0, 0) := by rw [walkU]; simp [nextU]
     rw [hw0, runesU]; simp
   rw [walkU, runesU, if_neg hb]
   by_cases he : (nextU b).2.2 = 0
   · have hp := nextU_pos he
     obtain ⟨h1, h2⟩ := walkU_le n (b.drop (nextU b).2.1) (by simp; omega)
     rw [dif_pos he, dif_pos he]
     rw [List.length_drop] at h1 h2
     rw [Option.isSome_map, ← h2]
     dsimp only
     omega
   · rw [dif_neg he, dif_neg he]
     have : 0 < b.length := by cases b with
       | nil => exact absurd rfl hb
       | cons => simp
     simp
     exact fun h => hb (by simpa using h.symm)
theorem validU_runes (s : List UInt8) : validU s = (runesU s).isSome := by
 rw [Bool.eq_iff_iff, ← (walkU_le s.length s (Nat.le_refl _)).2]
 simp [validU]
theorem nextU_isI {b : List UInt8} (h : (nextU b).2.2 = 0) : 0 ≤ (nextU b).1 ∧ (nextU b).1 ≤ 1114111 := by
 obtain ⟨h1, h2, _⟩ := (nextU_match b).1 h
 unfold matchN at h1
 rw [h2] at h1
 simp [isI] at h1
 omega
theorem runesU_ok : ∀ (n : Nat) (b : List UInt8) (o : List Int), b.length ≤ n → runesU b = some o → o.length ≤ b.length ∧ ∀ r ∈ o, 0 ≤ r ∧ r < 2147483648
 | 0, b, o, h, ho => by
   have hb : b = [] := by simpa using h
   subst hb
   rw [runesU] at ho
   simp at ho; subst ho; simp
 | n + 1, b, o, h, ho => by
   by_cases hb : b = []
   · subst hb
     rw [runesU] at ho
     simp at ho; subst ho; simp
   rw [runesU, if_neg hb] at ho
   by_cases he : (nextU b).2.2 = 0
   · have hp := nextU_pos he
     rw [dif_pos he, Option.map_eq_some_iff] at ho
     obtain ⟨o', ho', rfl⟩ := ho
     obtain ⟨h1, h2⟩ := runesU_ok n _ o' (by simp; omega) ho'
     rw [List.length_drop] at h1
     refine ⟨by simp; omega, fun r hr => ?_⟩
     rcases List.mem_cons.1 hr with rfl | hr
     · have := nextU_isI he; omega
     · exact h2 r hr
   · rw [dif_neg he] at ho; cases ho
theorem runesU_step {s : List UInt8} {k : Nat} (hk : k < s.length) : runesU (s.drop k) = if _h : (nextU (s.drop k)).2.2 = 0 then (runesU (s.drop (k + (nextU (s.drop k)).2.1))).map ((nextU (s.drop k)).1 :: ·) else none := by
 have hne : s.drop k ≠ [] := fun h => by have := congrArg List.length h; simp at this; omega
 rw [runesU, if_neg hne, List.drop_drop]
theorem rowI : RowT Tryz.prog 206 21 1 4 false where
 un := Tryz.underlying206
 size := sz21
 bytes := by21
 agg := ag21
 zero := ⟨_, ze21, rfl⟩
 pos := by decide
 tree := rfl
theorem hxtI : (∃ e', Tryz.prog.underlying 206 = some (.slice e')) ∨ Tryz.prog.underlying 206 = some .string := .inl ⟨_, Tryz.underlying206⟩
theorem litI (n : Int) (H : Heap) : aBuildSlice Tryz.prog H 206 1 [(0, .int .i32 n)] = some (.vs ([n].map encI) true, none) :=
 lit1 rowI encI_T ze21 rfl (by decide) n rfl
theorem map_two (q : Option (List Int)) (acc : List Int) (r : Int) : (q.map (r :: ·)).map (acc ++ ·) = q.map ((acc ++ [r]) ++ ·) := by cases q <;> simp
theorem runesU_nil : runesU [] = some [] := by rw [runesU]; simp
theorem u151 : type_of% (And.intro ag1 (And.intro sz1 (And.intro by1 (And.intro ze1 (And.intro Tryz.underlying1 (And.intro ag3 (And.intro sz3 (And.intro by3 (And.intro ze3 (And.intro Tryz.underlying3 (And.intro ag5 (And.intro sz5 (And.intro by5 (And.intro ze5 (And.intro Tryz.underlying5 (And.intro ag9 (And.intro sz9 (And.intro by9 (And.intro ze9 (And.intro Tryz.underlying9 (And.intro ag21 (And.intro sz21 (And.intro by21 (And.intro ze21 (And.intro Tryz.underlying21 (And.intro ag28 (And.intro sz28 (And.intro by28 (And.intro ze28 (And.intro Tryz.underlying28 (And.intro ag72 (And.intro sz72 (And.intro by72 (And.intro se72 (And.intro ze72 (And.intro Tryz.underlying72 (And.intro ag206 (And.intro sz206 (And.intro by206 (And.intro se206 (And.intro ze206 Tryz.underlying206))))))))))))))))))))))))))))))))))))))))) := And.intro ag1 (And.intro sz1 (And.intro by1 (And.intro ze1 (And.intro Tryz.underlying1 (And.intro ag3 (And.intro sz3 (And.intro by3 (And.intro ze3 (And.intro Tryz.underlying3 (And.intro ag5 (And.intro sz5 (And.intro by5 (And.intro ze5 (And.intro Tryz.underlying5 (And.intro ag9 (And.intro sz9 (And.intro by9 (And.intro ze9 (And.intro Tryz.underlying9 (And.intro ag21 (And.intro sz21 (And.intro by21 (And.intro ze21 (And.intro Tryz.underlying21 (And.intro ag28 (And.intro sz28 (And.intro by28 (And.intro ze28 (And.intro Tryz.underlying28 (And.intro ag72 (And.intro sz72 (And.intro by72 (And.intro se72 (And.intro ze72 (And.intro Tryz.underlying72 (And.intro ag206 (And.intro sz206 (And.intro by206 (And.intro se206 (And.intro ze206 Tryz.underlying206))))))))))))))))))))))))))))))))))))))))
def g151 : Code :=
 .seq (.region 0 #[q 2 (.assign (.const (.slice none 0 0))) 206] false) (.seq (.region 1 #[q 3 (.assign (.const (.slice none 0 0))) 206] false) (.seq (.region 2 #[q 9 (.move (.tmp 0)) 9, q 10 (.convert 9 72 (.tmp 9)) 72, q 4 (.assign (.tmp 10)) 72] false) (.seq (.seq (.region 3 #[q 5 (.assign (ik 0)) 3] false) (.block 0 (.loop (.seq (.seq (.region 4 #[q 11 (.move (.tmp 5)) 3, q 12 (.move (.tmp 4)) 72, q 13 (bi .len #[.tmp 12] #[72]) 3, q 14 (.binOp .lss 3 (.tmp 11) (.tmp 13) 3) 4] false) (.cond (.tmp 14) .skip (.exit 0))) (.block 1 (.seq (.region 5 #[q 16 (.move (.tmp 4)) 72, q 17 (.move (.tmp 5)) 3, q 18 (.slice 72 (.tmp 16) (some (.tmp 17)) none none) 72, q 19 (cl 94 #[.tmp 18] #[72]) 147, q 15 (.move (.tmp 19)) 147, q 20 (.extract (.tmp 15) 0) 21, q 21 (.extract (.tmp 15) 1) 3, q 22 (.extract (.tmp 15) 2) 28, q 6 (.assign (.tmp 20)) 21, q 7 (.assign (.tmp 21)) 3, q 8 (.assign (.tmp 22)) 28] false) (.seq (.seq (.region 6 #[q 23 (.move (.tmp 8)) 28, q 24 (.binOp .neq 28 (.tmp 23) (ik 0) 28) 4] false) (.cond (.tmp 24) (.seq (.region 7 #[q 2 (.assign (.const (.slice none 0 0))) 206] false) .ret) .skip)) (.seq (.region 8 #[q 25 (.move (.tmp 3)) 206, q 26 (.move (.tmp 6)) 21, q 27 (.buildSlice 206 1 #[(0, .tmp 26)]) 206, q 28 (bi .append #[.tmp 25, .tmp 27] #[206, 206]) 206, q 3 (.assign (.tmp 28)) 206] false) (.region 9 #[q 29 (.move (.tmp 5)) 3, q 30 (.move (.tmp 7)) 3, q 31 (.binOp .add 3 (.tmp 29) (.tmp 30) 3) 3, q 5 (.assign (.tmp 31)) 3] false))))))))) (.seq (.region 10 #[q 32 (.move (.tmp 3)) 206, q 2 (.assign (.tmp 32)) 206] false) .ret))))
theorem s151 : Tryz.f151.body.map (slim cfg) = some g151 := by kernel_rfl
theorem runes_ok (s : List UInt8) (hl : s.length ≤ 100000) (o : List Int) (ho : runesU s = some o) (prot : Nat) (H : Heap) (hp : prot ≤ H.length) :
   aLim cfg prot 151 [.str s] H = some (slv encI o, none) := by
 have hsnap : snap H [.str s] = some ([.str s], false) := rfl
 have hol := (runesU_ok s.length s o (Nat.le_refl _) ho).1
 refine pure_slim rfl (by kernel_rfl) Tryz.func151 s151 hp hsnap (by simp [Tryz.f151]) fun fr hlen h => ?_
 simp only [Has, Nat.zero_add] at h
 obtain ⟨a0, -⟩ := h
 simp only [Tryz.f151] at hlen ⊢
 unfold g151
 have cv := fun K => conv_sb Tryz.underlying9 Tryz.underlying72 Tryz.underlying5 K s
 have hg0 : hget (H ++ [Blk.cells 0 (cellsOf encB s)]) H.length 0 = some (cellsOf encB s) := by rw [hget_new rfl]; rfl
 have hbl : ∀ K, aLen Tryz.prog K 72 (.bs ⟨H.length, 0, 0, s.length, 0, 1, false, false⟩) = some (.int .i64 s.length) := fun K => by simp [aLen, Tryz.underlying72]
 simp only [w9, AV.cells, AV.leaf, reduceEqDiff, reduceLT, reduceAdd, reduceLeDiff, reduceCtorEq, reduceMul, reduceMod, u151, hlen, a0, cv]
 refine loop_rule (fun m fr H' => ∃ (k : Nat) (acc : List Int) (v : AV), m = s.length - k ∧ k ≤ s.length ∧ acc.length ≤ k ∧ fr.length = 33 ∧ fget fr 4 = .bs ⟨H.length, 0, 0, s.length, 0, 1, false, false⟩ ∧ fget fr 5 = .int .i64 k ∧ fget fr 3 = v
   ∧ H.length + 1 ≤ H'.length ∧ hget H' H.length 0 = some (cellsOf encB s) ∧ Row encI 1 false (H.length + 1) H' v acc ∧ (v = .nilS ∨ acc ≠ []) ∧ some o = (runesU (s.drop k)).map (acc ++ ·)) ?_ s.length _ _ ⟨0, [], .nilS, by simp [w9, AV.cells, AV.leaf, reduceEqDiff, reduceLT, reduceAdd, reduceLeDiff, reduceCtorEq, reduceMul, reduceMod, u151, hlen, a0, hg0, Row.nil, ho]⟩
 rintro m fr H' ⟨k, acc, v, rfl, hk, hak, hlen, a4, a5, a3, hH, hg, hrow, hne, hc⟩ ih
 simp only [w9, AV.cells, AV.leaf, reduceEqDiff, reduceLT, reduceAdd, reduceLeDiff, reduceCtorEq, reduceMul, reduceMod, u151, hlen, a4, a5, a3, hbl]
 refine RC_split (fun h => ?_) (fun h => ?_)
 · have hlt : k < s.length := by simpa using h
   obtain ⟨b2, e1, e2⟩ := bytes_cut Tryz.underlying72 sz5 hg hlt
   have e3 := next_ok (s.drop k) b2 _ true (.vs _ _) (by simp; omega) H.length H' (by omega) e2
   have hpos := nextU_pos (b := s.drop k)
   have hst := runesU_step hlt
   rw [hst] at hc
   simp only [List.length_drop] at hpos
   generalize nextU (s.drop k) = q at *
   obtain ⟨r, w, e⟩ := q
   simp only at hpos e3 hc
   by_cases he : e = 0
   · subst he
     obtain ⟨hw0, hwl⟩ := hpos rfl
     rw [dif_pos rfl] at hc
     have w1 : IntKind.i64.wrap ((k : Int) + (w : Int)) = ((k + w : Nat) : Int) := by rw [wrap64 (by omega) (by omega)]; simp
     obtain ⟨v', H3, happ, hrow3, hle3, hno, hold⟩ := hrow.app (prot := H.length) (xt := 206) encI_T rowI hxtI (elem_vs encI_T [r] true) (by simp) (by simp [roomy]; omega) (by omega) (by omega)
     have hg3 := hold _ _ _ hg fun s' hs => by
       rcases hrow with ⟨q, _⟩ | ⟨b, ver, q, hb, _⟩
       · rw [q] at hs; cases hs
       · rw [q] at hs; cases hs; simp; omega
     have hlit := litI r
     simp only [w9, AV.cells, AV.leaf, reduceEqDiff, reduceLT, reduceAdd, reduceLeDiff, reduceCtorEq, reduceMul, reduceMod, u151, hlen, a4, a5, a3, e1, e3, hlit, happ, w1]
     refine ih _ _ (s.length - (k + w)) (by omega) ⟨k + w, acc ++ [r], v', rfl, by omega, by simp; omega, ?_⟩
     refine ⟨by simp [w9, AV.cells, AV.leaf, reduceEqDiff, reduceLT, reduceAdd, reduceLeDiff, reduceCtorEq, reduceMul, reduceMod, u151, hlen], by simp [w9, AV.cells, AV.leaf, reduceEqDiff, reduceLT, reduceAdd, reduceLeDiff, reduceCtorEq, reduceMul, reduceMod, u151, hlen, a4], by simp [w9, AV.cells, AV.leaf, reduceEqDiff, reduceLT, reduceAdd, reduceLeDiff, reduceCtorEq, reduceMul, reduceMod, u151, hlen], by simp [w9, AV.cells, AV.leaf, reduceEqDiff, reduceLT, reduceAdd, reduceLeDiff, reduceCtorEq, reduceMul, reduceMod, u151, hlen], by omega, hg3, hrow3, .inr (by simp), ?_⟩
     rw [hc, map_two]
   · rw [dif_neg he] at hc; cases hc
 · have hnl : ¬ k < s.length := by simpa using h
   have hd : s.drop k = [] := by simp; omega
   rw [hd, runesU_nil, Option.map_some, List.append_nil] at hc
   cases hc
   simp only [w9, AV.cells, AV.leaf, reduceEqDiff, reduceLT, reduceAdd, reduceLeDiff, reduceCtorEq, reduceMul, reduceMod, u151, hlen, a4, a5, a3]
   exact Fin_pure (l := [v]) (by simp [w9, AV.cells, AV.leaf, reduceEqDiff, reduceLT, reduceAdd, reduceLeDiff, reduceCtorEq, reduceMul, reduceMod, u151, hlen, aResults, aResult, a3]) ((hrow.low (by omega)).frozen encI_T (by decide) rfl hne) (by simp)
end Go.Proofs.YtnipaiklandliaaGreatDoor
