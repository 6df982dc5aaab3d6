import Derived.Test.YtnipaiklandliaaGreatDoorAbsSeat
import Derived.Test.YtnipaiklandliaaGreatDoorAbsTy
import Derived.Test.YtnipaiklandliaaGreatDoorAbsSet
import Derived.Test.YtnipaiklandliaaGreatDoorAbsMore
/-! Part 1 of the proof of MatchEither. -/
set_option linter.unusedSimpArgs false
/- Chapter 2: runes as bytes: the program's, walked. -/
namespace Go.Proofs.YtnipaiklandliaaGreatDoor
open Go Go.Abs AbsSeat Ty
open Nat (reduceEqDiff reduceLT reduceAdd reduceLeDiff reduceMul reduceMod)
theorem cfgP : cfg.P = Tryz.prog := rfl
theorem w9 : type_of% (And.intro @wk (And.intro @aBuiltin.eq_1 (And.intro @aBuiltin.eq_2 (And.intro @aBuiltin.eq_3 (And.intro @aBuiltin.eq_4 (And.intro @aBuiltin.eq_5 (And.intro @aBuiltin.eq_6 (And.intro @aBuiltin.eq_7 (And.intro @aBuiltin.eq_8 (And.intro @aBuiltin.eq_9 (And.intro @aBuiltin.eq_10 (And.intro @aBuiltin.eq_11 (And.intro @aBuiltin.eq_12 cfgP))))))))))))) := And.intro @wk (And.intro @aBuiltin.eq_1 (And.intro @aBuiltin.eq_2 (And.intro @aBuiltin.eq_3 (And.intro @aBuiltin.eq_4 (And.intro @aBuiltin.eq_5 (And.intro @aBuiltin.eq_6 (And.intro @aBuiltin.eq_7 (And.intro @aBuiltin.eq_8 (And.intro @aBuiltin.eq_9 (And.intro @aBuiltin.eq_10 (And.intro @aBuiltin.eq_11 (And.intro @aBuiltin.eq_12 cfgP))))))))))))
theorem none_beq (b : Bool) : ((none : Option Bool) == some b) = false := by cases b <;> rfl
theorem u133 : type_of% (And.intro (fun (K : Heap) (n : Int) => conv_int Tryz.underlying5 Tryz.underlying21 K n) (And.intro ag3 (And.intro sz3 (And.intro by3 (And.intro ze3 (And.intro Tryz.underlying3 (And.intro ag5 (And.intro sz5 (And.intro by5 (And.intro ze5 (And.intro Tryz.underlying5 (And.intro ag21 (And.intro sz21 (And.intro by21 (And.intro ze21 (And.intro Tryz.underlying21 (And.intro ag72 (And.intro sz72 (And.intro by72 (And.intro se72 (And.intro ze72 (And.intro Tryz.underlying72 (And.intro ag116 (And.intro sz116 (And.intro by116 (And.intro ze116 (And.intro Tryz.underlying116 (And.intro ag232 (And.intro sz232 (And.intro by232 (And.intro ze232 Tryz.underlying232))))))))))))))))))))))))))))))) := And.intro (fun (K : Heap) (n : Int) => conv_int Tryz.underlying5 Tryz.underlying21 K n) (And.intro ag3 (And.intro sz3 (And.intro by3 (And.intro ze3 (And.intro Tryz.underlying3 (And.intro ag5 (And.intro sz5 (And.intro by5 (And.intro ze5 (And.intro Tryz.underlying5 (And.intro ag21 (And.intro sz21 (And.intro by21 (And.intro ze21 (And.intro Tryz.underlying21 (And.intro ag72 (And.intro sz72 (And.intro by72 (And.intro se72 (And.intro ze72 (And.intro Tryz.underlying72 (And.intro ag116 (And.intro sz116 (And.intro by116 (And.intro ze116 (And.intro Tryz.underlying116 (And.intro ag232 (And.intro sz232 (And.intro by232 (And.intro ze232 Tryz.underlying232))))))))))))))))))))))))))))))
def g133 : Code :=
 .seq (.region 0 #[q 2 (.assign (ik 0)) 3] false) (.seq (.block 0 (.seq (.region 1 #[q 4 (.move (.tmp 0)) 5, q 5 (.binOp .lss 5 (.tmp 4) (.const (.int .u8 128)) 5) 4, q 3 (.assign (.tmp 5)) 4] false) (.cond (.tmp 3) (.seq (.region 2 #[q 2 (.assign (ik 1)) 3] false) .ret) (.seq (.region 3 #[q 7 (.move (.tmp 0)) 5, q 8 (.binOp .geq 5 (.tmp 7) (.const (.int .u8 194)) 5) 4, q 9 (.move (.tmp 8)) 4, qg 10 (.move (.tmp 0)) 5 2 true, qg 11 (.binOp .lss 5 (.tmp 10) (.const (.int .u8 224)) 5) 4 2 true, q 12 (.pick (.tmp 9) (.tmp 11) (.const (.bool false))) 4, q 6 (.assign (.tmp 12)) 4] false) (.cond (.tmp 6) (.seq (.region 4 #[q 2 (.assign (ik 2)) 3] false) .ret) (.seq (.region 5 #[q 14 (.move (.tmp 0)) 5, q 15 (.binOp .geq 5 (.tmp 14) (.const (.int .u8 224)) 5) 4, q 16 (.move (.tmp 15)) 4, qg 17 (.move (.tmp 0)) 5 2 true, qg 18 (.binOp .lss 5 (.tmp 17) (.const (.int .u8 240)) 5) 4 2 true, q 19 (.pick (.tmp 16) (.tmp 18) (.const (.bool false))) 4, q 13 (.assign (.tmp 19)) 4] false) (.cond (.tmp 13) (.seq (.region 6 #[q 2 (.assign (ik 3)) 3] false) .ret) (.seq (.region 7 #[q 21 (.move (.tmp 0)) 5, q 22 (.binOp .geq 5 (.tmp 21) (.const (.int .u8 240)) 5) 4, q 23 (.move (.tmp 22)) 4, qg 24 (.move (.tmp 0)) 5 2 true, qg 25 (.binOp .lss 5 (.tmp 24) (.const (.int .u8 245)) 5) 4 2 true, q 26 (.pick (.tmp 23) (.tmp 25) (.const (.bool false))) 4, q 20 (.assign (.tmp 26)) 4] false) (.cond (.tmp 20) (.seq (.region 8 #[q 2 (.assign (ik 4)) 3] false) .ret) .skip))))))))) (.seq (.region 9 #[q 2 (.assign (ik 0)) 3] false) .ret))
theorem s133 : Tryz.f133.body.map (slim cfg) = some g133 := by kernel_rfl
def g134 : Code :=
 .seq (.region 0 #[q 4 (.assign (.const (.bool false))) 4] false) (.seq (.region 1 #[q 5 (.assign (.const (.int .u8 128))) 5, q 6 (.assign (.const (.int .u8 191))) 5] false) (.seq (.seq (.region 2 #[q 8 (.move (.tmp 0)) 72, q 9 (.indexAddr 72 (.tmp 8) (ik 0)) 0, q 10 (.load 5 (.tmp 9)) 5] false) (.block 0 (.seq (.region 3 #[q 12 (.binOp .eql 5 (.tmp 10) (.const (.int .u8 224)) 5) 4, q 11 (.assign (.tmp 12)) 4] false) (.cond (.tmp 11) (.region 4 #[q 5 (.assign (.const (.int .u8 160))) 5] false) (.seq (.region 5 #[q 14 (.binOp .eql 5 (.tmp 10) (.const (.int .u8 237)) 5) 4, q 13 (.assign (.tmp 14)) 4] false) (.cond (.tmp 13) (.region 6 #[q 6 (.assign (.const (.int .u8 159))) 5] false) (.seq (.region 7 #[q 16 (.binOp .eql 5 (.tmp 10) (.const (.int .u8 240)) 5) 4, q 15 (.assign (.tmp 16)) 4] false) (.cond (.tmp 15) (.region 8 #[q 5 (.assign (.const (.int .u8 144))) 5] false) (.seq (.region 9 #[q 18 (.binOp .eql 5 (.tmp 10) (.const (.int .u8 244)) 5) 4, q 17 (.assign (.tmp 18)) 4] false) (.cond (.tmp 17) (.region 10 #[q 6 (.assign (.const (.int .u8 143))) 5] false) .skip)))))))))) (.seq (.seq (.region 11 #[q 7 (.assign (ik 1)) 3] false) (.block 1 (.loop (.seq (.seq (.region 12 #[q 19 (.move (.tmp 7)) 3, q 20 (.move (.tmp 1)) 3, q 21 (.move (.tmp 0)) 72, q 22 (bi .len #[.tmp 21] #[72]) 3, q 23 (bi .min #[.tmp 20, .tmp 22] #[3, 3]) 3, q 24 (.binOp .lss 3 (.tmp 19) (.tmp 23) 3) 4] false) (.cond (.tmp 24) .skip (.exit 1))) (.seq (.block 2 (.seq (.seq (.region 14 #[q 27 (.move (.tmp 0)) 72, q 28 (.move (.tmp 7)) 3, q 29 (.indexAddr 72 (.tmp 27) (.tmp 28)) 0, q 30 (.load 5 (.tmp 29)) 5, q 31 (.move (.tmp 5)) 5, q 32 (.binOp .lss 5 (.tmp 30) (.tmp 31) 5) 4, q 33 (.move (.tmp 32)) 4, qg 34 (.move (.tmp 0)) 72 6 false, qg 35 (.move (.tmp 7)) 3 6 false, qg 36 (.indexAddr 72 (.tmp 34) (.tmp 35)) 0 6 false, qg 37 (.load 5 (.tmp 36)) 5 6 false, qg 38 (.move (.tmp 6)) 5 6 false, qg 39 (.binOp .gtr 5 (.tmp 37) (.tmp 38) 5) 4 6 false, q 40 (.pick (.tmp 33) (.const (.bool true)) (.tmp 39)) 4] false) (.cond (.tmp 40) (.seq (.region 15 #[q 4 (.assign (.const (.bool false))) 4] false) .ret) .skip)) (.region 16 #[q 5 (.assign (.const (.int .u8 128))) 5, q 6 (.assign (.const (.int .u8 191))) 5] false))) (.region 13 #[q 25 (.move (.tmp 7)) 3, q 26 (.binOp .add 3 (.tmp 25) (ik 1) 3) 3, q 7 (.assign (.tmp 26)) 3] false)))))) (.seq (.region 17 #[q 4 (.assign (.const (.bool true))) 4] false) .ret))))
theorem s134 : Tryz.f134.body.map (slim cfg) = some g134 := by kernel_rfl
def g135 : Code :=
 .seq (.region 0 #[q 2 (.assign (.const (.int .i32 0))) 21] false) (.seq (.region 1 #[q 3 (.build 232 #[(0, .const (.int .i32 0)), (1, .const (.int .i32 0)), (2, .const (.int .i32 192)), (3, .const (.int .i32 224)), (4, .const (.int .i32 240))]) 232, q 4 (.move (.tmp 0)) 3, q 5 (.index 232 (.tmp 3) (.tmp 4)) 21, q 2 (.assign (.tmp 5)) 21] false) .ret)
theorem s135 : Tryz.f135.body.map (slim cfg) = some g135 := by kernel_rfl
def g94 : Code :=
 .seq (.region 0 #[q 2 (.assign (.const (.int .i32 0))) 21, q 3 (.assign (ik 0)) 3, q 4 (.assign (ik 0)) 28] false) (.seq (.seq (.region 1 #[q 9 (.move (.tmp 0)) 72, q 10 (bi .len #[.tmp 9] #[72]) 3, q 11 (.binOp .eql 3 (.tmp 10) (ik 0) 3) 4] false) (.cond (.tmp 11) (.seq (.region 2 #[q 2 (.assign (.const (.int .i32 0))) 21, q 3 (.assign (ik 0)) 3, q 4 (.assign (ik 6)) 28] false) .ret) .skip)) (.seq (.region 3 #[q 12 (.move (.tmp 0)) 72, q 13 (.indexAddr 72 (.tmp 12) (ik 0)) 0, q 14 (.load 5 (.tmp 13)) 5, q 15 (cl 133 #[.tmp 14] #[5]) 3, q 5 (.assign (.tmp 15)) 3] false) (.seq (.block 0 (.seq (.region 4 #[q 17 (.move (.tmp 5)) 3, q 18 (.binOp .eql 3 (.tmp 17) (ik 0) 3) 4, q 19 (.move (.tmp 18)) 4, qg 20 (.move (.tmp 0)) 72 2 false, qg 21 (.move (.tmp 5)) 3 2 false, qg 22 (cl 134 #[.tmp 20, .tmp 21] #[72, 3]) 4 2 false, qg 23 (.unOp .not 4 (.tmp 22)) 4 2 false, q 24 (.pick (.tmp 19) (.const (.bool true)) (.tmp 23)) 4, q 16 (.assign (.tmp 24)) 4] false) (.cond (.tmp 16) (.seq (.region 5 #[q 2 (.assign (.const (.int .i32 0))) 21, q 3 (.assign (ik 0)) 3, q 4 (.assign (ik 3)) 28] false) .ret) (.seq (.region 6 #[q 26 (.move (.tmp 0)) 72, q 27 (bi .len #[.tmp 26] #[72]) 3, q 28 (.move (.tmp 5)) 3, q 29 (.binOp .lss 3 (.tmp 27) (.tmp 28) 3) 4, q 25 (.assign (.tmp 29)) 4] false) (.cond (.tmp 25) (.seq (.region 7 #[q 2 (.assign (.const (.int .i32 0))) 21, q 3 (.assign (ik 0)) 3, q 4 (.assign (ik 11)) 28] false) .ret) .skip))))) (.seq (.region 8 #[q 30 (.move (.tmp 0)) 72, q 31 (.indexAddr 72 (.tmp 30) (ik 0)) 0, q 32 (.load 5 (.tmp 31)) 5, q 33 (.convert 5 21 (.tmp 32)) 21, q 34 (.move (.tmp 5)) 3, q 35 (cl 135 #[.tmp 34] #[3]) 21, q 36 (.binOp .andNot 21 (.tmp 33) (.tmp 35) 21) 21, q 6 (.assign (.tmp 36)) 21] false) (.seq (.seq (.region 9 #[q 37 (.move (.tmp 0)) 72, q 38 (.move (.tmp 5)) 3, q 39 (.slice 72 (.tmp 37) (some (ik 1)) (some (.tmp 38)) none) 72, q 40 (bi .len #[.tmp 39] #[72]) 3, q 41 (.move (ik 0)) 3] false) (.block 1 (.loop (.seq (.region 10 #[q 42 (.binOp .lss 3 (.tmp 41) (.tmp 40) 3) 0] false) (.seq (.cond (.tmp 42) .skip (.exit 1)) (.seq (.block 2 (.seq (.region 11 #[q 43 (.indexAddr 72 (.tmp 39) (.tmp 41)) 0, q 44 (.load 5 (.tmp 43)) 5, q 8 (.assign (.tmp 44)) 5] false) (.region 12 #[q 45 (.move (.tmp 6)) 21, q 46 (.binOp .shl 21 (.tmp 45) (.const (.int .u64 6)) 116) 21, q 47 (.move (.tmp 8)) 5, q 48 (.convert 5 21 (.tmp 47)) 21, q 49 (.binOp .and 21 (.tmp 48) (.const (.int .i32 63)) 21) 21, q 50 (.binOp .or 21 (.tmp 46) (.tmp 49) 21) 21, q 6 (.assign (.tmp 50)) 21] false))) (.region 13 #[q 51 (.binOp .add 3 (.tmp 41) (ik 1) 3) 3, q 41 (.move (.tmp 51)) 3] false))))))) (.seq (.region 14 #[q 52 (.move (.tmp 6)) 21, q 53 (.move (.tmp 5)) 3, q 2 (.assign (.tmp 52)) 21, q 3 (.assign (.tmp 53)) 3, q 4 (.assign (ik 0)) 28] false) .ret))))))
theorem s94 : Tryz.f94.body.map (slim cfg) = some g94 := by kernel_rfl
def wantedU (c : Int) : Nat := if c < 128 then 1 else if 194 ≤ c ∧ c < 224 then 2 else if 224 ≤ c ∧ c < 240 then 3 else if 240 ≤ c ∧ c < 245 then 4 else 0
theorem wanted_ok (c : Int) (prot : Nat) (H : Heap) (hp : prot ≤ H.length) : aLim cfg prot 133 [.int .u8 c] H = some (.int .i64 (wantedU c), none) := by
 have hsnap : snap H [.int .u8 c] = some ([.int .u8 c], false) := rfl
 unfold wantedU
 refine pure_slim rfl (by kernel_rfl) Tryz.func133 s133 hp hsnap (by simp [Tryz.f133]) fun fr hlen h => ?_
 simp only [Has, Nat.zero_add] at h
 obtain ⟨a0, -⟩ := h
 simp only [Tryz.f133] at hlen ⊢
 unfold g133
 by_cases h1 : c < 128
 · simp only [w9, AV.cells, AV.leaf, reduceEqDiff, reduceLT, reduceAdd, reduceLeDiff, reduceCtorEq, reduceMul, reduceMod, u133, hlen, a0, h1]
   exact Fin_pure (l := [.int .i64 1]) (by simp [w9, AV.cells, AV.leaf, reduceEqDiff, reduceLT, reduceAdd, reduceLeDiff, reduceCtorEq, reduceMul, reduceMod, u133, aResults, aResult, hlen]) (.still rfl) (by simp)
 · by_cases h2 : 194 ≤ c
   · by_cases h3 : c < 224
     · simp only [w9, AV.cells, AV.leaf, reduceEqDiff, reduceLT, reduceAdd, reduceLeDiff, reduceCtorEq, reduceMul, reduceMod, u133, hlen, a0, h1, h2, h3, none_beq]
       exact Fin_pure (l := [.int .i64 2]) (by simp [w9, AV.cells, AV.leaf, reduceEqDiff, reduceLT, reduceAdd, reduceLeDiff, reduceCtorEq, reduceMul, reduceMod, u133, aResults, aResult, hlen]) (.still rfl) (by simp)
     · have h4 : 224 ≤ c := by omega
       by_cases h5 : c < 240
       · simp only [w9, AV.cells, AV.leaf, reduceEqDiff, reduceLT, reduceAdd, reduceLeDiff, reduceCtorEq, reduceMul, reduceMod, u133, hlen, a0, h1, h2, h3, h4, h5, none_beq]
         exact Fin_pure (l := [.int .i64 3]) (by simp [w9, AV.cells, AV.leaf, reduceEqDiff, reduceLT, reduceAdd, reduceLeDiff, reduceCtorEq, reduceMul, reduceMod, u133, aResults, aResult, hlen]) (.still rfl) (by simp)
       · have h6 : 240 ≤ c := by omega
         by_cases h7 : c < 245
         · simp only [w9, AV.cells, AV.leaf, reduceEqDiff, reduceLT, reduceAdd, reduceLeDiff, reduceCtorEq, reduceMul, reduceMod, u133, hlen, a0, h1, h2, h3, h4, h5, h6, h7, none_beq]
           exact Fin_pure (l := [.int .i64 4]) (by simp [w9, AV.cells, AV.leaf, reduceEqDiff, reduceLT, reduceAdd, reduceLeDiff, reduceCtorEq, reduceMul, reduceMod, u133, aResults, aResult, hlen]) (.still rfl) (by simp)
         · simp only [w9, AV.cells, AV.leaf, reduceEqDiff, reduceLT, reduceAdd, reduceLeDiff, reduceCtorEq, reduceMul, reduceMod, u133, hlen, a0, h1, h2, h3, h4, h5, h6, h7, none_beq]
           exact Fin_pure (l := [.int .i64 0]) (by simp [w9, AV.cells, AV.leaf, reduceEqDiff, reduceLT, reduceAdd, reduceLeDiff, reduceCtorEq, reduceMul, reduceMod, u133, aResults, aResult, hlen]) (.still rfl) (by simp)
   · have h4 : ¬ 224 ≤ c := by omega
     have h6 : ¬ 240 ≤ c := by omega
     simp only [w9, AV.cells, AV.leaf, reduceEqDiff, reduceLT, reduceAdd, reduceLeDiff, reduceCtorEq, reduceMul, reduceMod, u133, hlen, a0, h1, h2, h4, h6, none_beq]
     exact Fin_pure (l := [.int .i64 0]) (by simp [w9, AV.cells, AV.leaf, reduceEqDiff, reduceLT, reduceAdd, reduceLeDiff, reduceCtorEq, reduceMul, reduceMod, u133, aResults, aResult, hlen]) (.still rfl) (by simp)
def leadU (n : Nat) : Int := if n = 2 then 192 else if n = 3 then 224 else if n = 4 then 240 else 0
theorem lead_ok (n : Nat) (hn : n ≤ 4) (prot : Nat) (H : Heap) (hp : prot ≤ H.length) : aLim cfg prot 135 [.int .i64 n] H = some (.int .i32 (leadU n), none) := by
 have hsnap : snap H [.int .i64 n] = some ([.int .i64 n], false) := rfl
 have bu : aBuild Tryz.prog 232 [(0, .int .i32 0), (1, .int .i32 0), (2, .int .i32 192), (3, .int .i32 224), (4, .int .i32 240)] = some (.agg [.int .i32 0, .int .i32 0, .int .i32 192, .int .i32 224, .int .i32 240]) := by kernel_rfl
 have i0 : aIndex Tryz.prog 232 (.agg [.int .i32 0, .int .i32 0, .int .i32 192, .int .i32 224, .int .i32 240]) (.int .i64 0) = some (.int .i32 0) := by kernel_rfl
 have i1 : aIndex Tryz.prog 232 (.agg [.int .i32 0, .int .i32 0, .int .i32 192, .int .i32 224, .int .i32 240]) (.int .i64 1) = some (.int .i32 0) := by kernel_rfl
 have i2 : aIndex Tryz.prog 232 (.agg [.int .i32 0, .int .i32 0, .int .i32 192, .int .i32 224, .int .i32 240]) (.int .i64 2) = some (.int .i32 192) := by kernel_rfl
 have i3 : aIndex Tryz.prog 232 (.agg [.int .i32 0, .int .i32 0, .int .i32 192, .int .i32 224, .int .i32 240]) (.int .i64 3) = some (.int .i32 224) := by kernel_rfl
 have i4 : aIndex Tryz.prog 232 (.agg [.int .i32 0, .int .i32 0, .int .i32 192, .int .i32 224, .int .i32 240]) (.int .i64 4) = some (.int .i32 240) := by kernel_rfl
 have ix : aIndex Tryz.prog 232 (.agg [.int .i32 0, .int .i32 0, .int .i32 192, .int .i32 224, .int .i32 240]) (.int .i64 n) = some (.int .i32 (leadU n)) := by
   have : n = 0 ∨ n = 1 ∨ n = 2 ∨ n = 3 ∨ n = 4 := by omega
   rcases this with rfl | rfl | rfl | rfl | rfl
   · exact i0
   · exact i1
   · exact i2
   · exact i3
   · exact i4
 refine pure_slim rfl (by kernel_rfl) Tryz.func135 s135 hp hsnap (by simp [Tryz.f135]) fun fr hlen h => ?_
 simp only [Has, Nat.zero_add] at h
 obtain ⟨a0, -⟩ := h
 simp only [Tryz.f135] at hlen ⊢
 unfold g135
 simp only [w9, AV.cells, AV.leaf, reduceEqDiff, reduceLT, reduceAdd, reduceLeDiff, reduceCtorEq, reduceMul, reduceMod, u133, hlen, a0, bu, ix]
 exact Fin_pure (l := [.int .i32 (leadU n)]) (by simp [w9, AV.cells, AV.leaf, reduceEqDiff, reduceLT, reduceAdd, reduceLeDiff, reduceCtorEq, reduceMul, reduceMod, u133, aResults, aResult, hlen]) (.still rfl) (by simp)
def fitsGo : Int → Int → List UInt8 → Bool
 | _, _, [] => true
 | lo, hi, c :: r => if (c.toNat : Int) < lo ∨ hi < (c.toNat : Int) then false else fitsGo 128 191 r
def lowU (c : Int) : Int := if c = 224 then 160 else if c = 240 then 144 else 128
def highU (c : Int) : Int := if c = 237 then 159 else if c = 244 then 143 else 191
def fitsU (c : UInt8) (b : List UInt8) (n : Nat) : Bool := fitsGo (lowU c.toNat) (highU c.toNat) ((b.take n).drop 1)
theorem fits_ok (c : UInt8) (r : List UInt8) (n : Nat) (hn : n ≤ 4) (v : AV) (hv : Sl encB v (c :: r)) (hl : (c :: r).length ≤ 9223372036854775807) (prot : Nat) (H : Heap) (hp : prot ≤ H.length) :
   aLim cfg prot 134 [v, .int .i64 n] H = some (.bool (fitsU c (c :: r) n), none) := by
 have hsnap : snap H [v, .int .i64 n] = some ([v, .int .i64 n], false) := by cases hv <;> rfl
 have e0 : aIndexAddr Tryz.prog 72 v (.int .i64 0) = some (.vptr [.int .u8 (c.toNat : Int)] 0) := hv.at (k := .i64) (i := 0) Tryz.underlying72 sz5 encB_len (by simp)
 generalize hb : c :: r = b at *
 have hpos : 0 < b.length := by rw [← hb]; simp
 unfold fitsU
 generalize hc : (c.toNat : Int) = cn at *
 have hmin : ((min (n : Int) (b.length : Int)) : Int) = ((min n b.length : Nat) : Int) := by omega
 have hlen2 : (b.take n).length = min n b.length := by simp
 refine pure_slim rfl (by kernel_rfl) Tryz.func134 s134 hp hsnap (by simp [Tryz.f134]) fun fr hlen h => ?_
 simp only [Has, Nat.zero_add] at h
 obtain ⟨a0, a1, -⟩ := h
 simp only [Tryz.f134] at hlen ⊢
 unfold g134
 have hcase : (decide (cn = 224) = true ∧ decide (cn = 237) = false ∧ decide (cn = 240) = false ∧ decide (cn = 244) = false ∧ lowU cn = 160 ∧ highU cn = 191) ∨
     (decide (cn = 224) = false ∧ decide (cn = 237) = true ∧ decide (cn = 240) = false ∧ decide (cn = 244) = false ∧ lowU cn = 128 ∧ highU cn = 159) ∨
     (decide (cn = 224) = false ∧ decide (cn = 237) = false ∧ decide (cn = 240) = true ∧ decide (cn = 244) = false ∧ lowU cn = 144 ∧ highU cn = 191) ∨
     (decide (cn = 224) = false ∧ decide (cn = 237) = false ∧ decide (cn = 240) = false ∧ decide (cn = 244) = true ∧ lowU cn = 128 ∧ highU cn = 143) ∨
     (decide (cn = 224) = false ∧ decide (cn = 237) = false ∧ decide (cn = 240) = false ∧ decide (cn = 244) = false ∧ lowU cn = 128 ∧ highU cn = 191) := by
   unfold lowU highU
   by_cases k1 : cn = 224
   · subst k1; decide
   · by_cases k2 : cn = 237
     · subst k2; decide
     · by_cases k3 : cn = 240
       · subst k3; decide
       · by_cases k4 : cn = 244
         · subst k4; decide
         · simp [k1, k2, k3, k4]
 generalize lowU cn = lo0 at *
 generalize highU cn = hi0 at *
 generalize hg : fitsGo lo0 hi0 ((b.take n).drop 1) = g
 rcases hcase with ⟨d1, d2, d3, d4, hl0, hh0⟩ | ⟨d1, d2, d3, d4, hl0, hh0⟩ | ⟨d1, d2, d3, d4, hl0, hh0⟩ | ⟨d1, d2, d3, d4, hl0, hh0⟩ | ⟨d1, d2, d3, d4, hl0, hh0⟩
 all_goals
   simp only [w9, AV.cells, AV.leaf, reduceEqDiff, reduceLT, reduceAdd, reduceLeDiff, reduceCtorEq, reduceMul, reduceMod, u133, hlen, a0, a1, e0, d1, d2, d3, d4]
   refine loop_rule (fun m fr H' => ∃ (i : Nat) (lo hi : Int), m = b.length - i ∧ 1 ≤ i ∧ i ≤ b.length ∧ fr.length = 41 ∧ fget fr 0 = v ∧ fget fr 1 = .int .i64 n ∧ fget fr 5 = .int .u8 lo ∧ fget fr 6 = .int .u8 hi ∧ fget fr 7 = .int .i64 i
     ∧ H' = H ∧ g = fitsGo lo hi ((b.take n).drop i)) ?_ (b.length - 1) _ _ ⟨1, lo0, hi0, by simp [w9, AV.cells, AV.leaf, reduceEqDiff, reduceLT, reduceAdd, reduceLeDiff, reduceCtorEq, reduceMul, reduceMod, u133, hlen, a0, a1, hl0, hh0]; refine ⟨by omega, ?_⟩; rw [← hg, hl0, hh0]; simp⟩
   rintro m fr H' ⟨i, lo, hi, rfl, h1i, hi', hlen, a0, a1, a5, a6, a7, hHe, hc⟩ ih
   subst hHe
   simp only [w9, AV.cells, AV.leaf, reduceEqDiff, reduceLT, reduceAdd, reduceLeDiff, reduceCtorEq, reduceMul, reduceMod, u133, hlen, a0, a1, a5, a6, a7, hv.len Tryz.underlying72, hmin]
   refine RC_split (fun h => ?_) (fun h => ?_)
   · have hlt : i < min n b.length := by simpa using h
     have hw : IntKind.i64.wrap ((i : Int) + 1) = ((i + 1 : Nat) : Int) := by rw [wrap64 (by omega) (by omega)]; simp
     have hib : i < b.length := by omega
     have e1 := hv.at (k := .i64) Tryz.underlying72 sz5 encB_len hib
     have hit : i < (b.take n).length := by omega
     have hd : (b.take n).drop i = b[i] :: (b.take n).drop (i + 1) := by
       rw [List.drop_eq_getElem_cons hit]; simp
     rw [hd] at hc
     generalize b[i] = x at *
     rw [fitsGo] at hc
     simp only [encB, AV.cells] at e1
     by_cases q1 : (x.toNat : Int) < lo
     · simp only [w9, AV.cells, AV.leaf, reduceEqDiff, reduceLT, reduceAdd, reduceLeDiff, reduceCtorEq, reduceMul, reduceMod, u133, hlen, a0, a1, a5, a6, a7, e1, q1, none_beq]
       rw [hc, if_pos (.inl q1)]
       exact Fin_pure (l := [.bool false]) (by simp [w9, AV.cells, AV.leaf, reduceEqDiff, reduceLT, reduceAdd, reduceLeDiff, reduceCtorEq, reduceMul, reduceMod, u133, aResults, aResult, hlen]) (.still rfl) (by simp)
     · by_cases q2 : hi < (x.toNat : Int)
       · simp only [w9, AV.cells, AV.leaf, reduceEqDiff, reduceLT, reduceAdd, reduceLeDiff, reduceCtorEq, reduceMul, reduceMod, u133, hlen, a0, a1, a5, a6, a7, e1, q1, q2, none_beq]
         rw [hc, if_pos (.inr q2)]
         exact Fin_pure (l := [.bool false]) (by simp [w9, AV.cells, AV.leaf, reduceEqDiff, reduceLT, reduceAdd, reduceLeDiff, reduceCtorEq, reduceMul, reduceMod, u133, aResults, aResult, hlen]) (.still rfl) (by simp)
       · simp only [w9, AV.cells, AV.leaf, reduceEqDiff, reduceLT, reduceAdd, reduceLeDiff, reduceCtorEq, reduceMul, reduceMod, u133, hlen, a0, a1, a5, a6, a7, e1, q1, q2, none_beq, hw]
         rw [if_neg (by omega)] at hc
         refine ih _ _ (b.length - (i + 1)) (by omega) ⟨i + 1, 128, 191, rfl, by omega, by omega, ?_⟩
         simp [w9, AV.cells, AV.leaf, reduceEqDiff, reduceLT, reduceAdd, reduceLeDiff, reduceCtorEq, reduceMul, reduceMod, u133, hlen, a0, a1, hc]
   · have hnl : ¬ i < min n b.length := by simpa using h
     have he : (b.take n).drop i = [] := by rw [List.drop_eq_nil_iff]; omega
     rw [he, fitsGo] at hc
     rw [hc]
     simp only [w9, AV.cells, AV.leaf, reduceEqDiff, reduceLT, reduceAdd, reduceLeDiff, reduceCtorEq, reduceMul, reduceMod, u133, hlen, a0, a1]
     exact Fin_pure (l := [.bool true]) (by simp [w9, AV.cells, AV.leaf, reduceEqDiff, reduceLT, reduceAdd, reduceLeDiff, reduceCtorEq, reduceMul, reduceMod, u133, aResults, aResult, hlen]) (.still rfl) (by simp)
theorem Sl_mid {α : Type} {enc : α → AV} {v : AV} {l : List α} (h : Sl enc v l) {P : Program} {t e : TypeId} {sz lo hi : Nat} (hu : P.underlying t = some (.slice e)) (hsz : sizeT P e = some sz)
   (he : ∀ x, (enc x).cells.length = sz) (h1 : lo ≤ hi) (h2 : hi ≤ l.length) : ∃ v', aSlice P t v (some (.int .i64 (lo : Nat))) (some (.int .i64 (hi : Nat))) none = some v' ∧ Sl enc v' ((l.drop lo).take (hi - lo)) := by
 cases h with
 | nil =>
   have : hi = 0 := by simpa using h2
   subst this
   have : lo = 0 := by omega
   subst this
   exact ⟨.nilS, by simp [aSlice, hu, hsz, aBounds, asNat, optInt], .nil⟩
 | vs l full =>
   have h3 : ((l.map enc).all fun v => v.cells.length == sz) = true := by simp [he]
   refine ⟨.vs (((l.drop lo).take (hi - lo)).map enc) (fullOf full hi l.length none), ?_, .vs _ _⟩
   simp only [aSlice, hu, hsz, Option.bind_some, h3, if_true]
   simp [aBounds, asNat, optInt, h1, h2, List.map_take, List.map_drop]
def shl6 (r : Int) : Int := IntKind.i32.wrap (r * 2 ^ min (6 : Int).toNat IntKind.i32.bits)
def runeStep (r : Int) (c : Int) : Int := IntKind.i32.wrap (BitVec.ofInt IntKind.i32.bits (shl6 r) ||| BitVec.ofInt IntKind.i32.bits (IntKind.i32.wrap (BitVec.ofInt IntKind.i32.bits (IntKind.i32.wrap c) &&& BitVec.ofInt IntKind.i32.bits 63).toNat)).toNat
def runeFirst (c : Int) (n : Nat) : Int := IntKind.i32.wrap (BitVec.ofInt IntKind.i32.bits (IntKind.i32.wrap c) &&& ~~~ BitVec.ofInt IntKind.i32.bits (leadU n)).toNat
def runeGo : Int → List UInt8 → Int
 | r, [] => r
 | r, c :: m => runeGo (runeStep r c.toNat) m
def nextU : List UInt8 → Int × Nat × Int
 | [] => (0, 0, 6)
 | c :: r =>
   let n := wantedU c.toNat
   if n = 0 ∨ fitsU c (c :: r) n = false then (0, 0, 3)
   else if (c :: r).length < n then (0, 0, 11)
   else (runeGo (runeFirst c.toNat n) (((c :: r).drop 1).take (n - 1)), n, 0)
theorem nextU_eq {b : List UInt8} {c : UInt8} {r : List UInt8} (hb : b = c :: r) : nextU b = if wantedU c.toNat = 0 ∨ fitsU c b (wantedU c.toNat) = false then (0, 0, 3) else if b.length < wantedU c.toNat then (0, 0, 11)
   else (runeGo (runeFirst c.toNat (wantedU c.toNat)) ((b.drop 1).take (wantedU c.toNat - 1)), wantedU c.toNat, 0) := by subst hb; rfl
theorem wantedU_le (c : Int) : wantedU c ≤ 4 := by unfold wantedU; split <;> (try split) <;> (try split) <;> (try split) <;> omega
theorem next_ok (b : List UInt8) (o v : AV) (sn : Bool) (hv : Sl encB v b) (hl : b.length ≤ 9223372036854775807) (prot : Nat) (H : Heap) (hp : prot ≤ H.length) (hsnap : snap H [o] = some ([v], sn)) :
   aLim cfg prot 94 [o] H = some (.tup [.int .i32 (nextU b).1, .int .i64 (nextU b).2.1, .int .i64 (nextU b).2.2], none) := by
 refine pure_slim rfl (by kernel_rfl) Tryz.func94 s94 hp hsnap (by simp [Tryz.f94]) fun fr hlen h => ?_
 simp only [Has, Nat.zero_add] at h
 obtain ⟨a0, -⟩ := h
 simp only [Tryz.f94] at hlen ⊢
 unfold g94
 have hfz : ∀ (K : Heap) (x y z : AV), still x = true → still y = true → still z = true → Frz K H.length (packR [x, y, z]) (.tup [x, y, z]) := fun K x y z h1 h2 h3 => .tup (.cons (.still h1) (.cons (.still h2) (.cons (.still h3) .nil)))
 by_cases hb : b = []
 · subst hb
   have hn : ∀ K, aLen Tryz.prog K 72 v = some (.int .i64 0) := fun K => hv.len Tryz.underlying72
   simp only [w9, AV.cells, AV.leaf, reduceEqDiff, reduceLT, reduceAdd, reduceLeDiff, reduceCtorEq, reduceMul, reduceMod, u133, hlen, a0, hn]
   exact Fin_pure (l := [.int .i32 0, .int .i64 0, .int .i64 6]) (by simp [w9, AV.cells, AV.leaf, reduceEqDiff, reduceLT, reduceAdd, reduceLeDiff, reduceCtorEq, reduceMul, reduceMod, u133, hlen, aResults, aResult]) (hfz _ _ _ _ rfl rfl rfl) (by intro _; rfl)
 · obtain ⟨c, r, hb⟩ := List.exists_cons_of_ne_nil hb
   have hz : decide ((b.length : Int) = 0) = false := by rw [hb]; simp; omega
   have e0 : aIndexAddr Tryz.prog 72 v (.int .i64 0) = some (.vptr [.int .u8 (c.toNat : Int)] 0) := by
     subst hb
     exact hv.at (k := .i64) (i := 0) Tryz.underlying72 sz5 encB_len (by simp)
   have hw := fun K (hK : H.length ≤ K.length) => wanted_ok (c.toNat : Int) H.length K hK
   have hn4 := wantedU_le (c.toNat : Int)
   have hf := fun K (hK : H.length ≤ K.length) => fits_ok c r (wantedU (c.toNat : Int)) hn4 v (by rw [← hb]; exact hv) (by rw [← hb]; exact hl) H.length K hK
   have hld := fun K (hK : H.length ≤ K.length) => lead_ok (wantedU (c.toNat : Int)) hn4 H.length K hK
   rw [nextU_eq hb]
   rw [← hb] at hf
   generalize hn : wantedU (c.toNat : Int) = n at *
   by_cases hn0 : n = 0
   · subst hn0
     have hw : ∀ K, H.length ≤ K.length → aLim cfg H.length 133 [.int .u8 (c.toNat : Int)] K = some (.int .i64 0, none) := hw
     simp only [true_or, if_true]
     simp only [w9, AV.cells, AV.leaf, reduceEqDiff, reduceLT, reduceAdd, reduceLeDiff, reduceCtorEq, reduceMul, reduceMod, u133, hlen, a0, hv.len Tryz.underlying72, hz, e0, hw, none_beq]
     exact Fin_pure (l := [.int .i32 0, .int .i64 0, .int .i64 3]) (by simp [w9, AV.cells, AV.leaf, reduceEqDiff, reduceLT, reduceAdd, reduceLeDiff, reduceCtorEq, reduceMul, reduceMod, u133, hlen, aResults, aResult]) (hfz _ _ _ _ rfl rfl rfl) (by intro _; rfl)
   · have hnd : decide ((n : Int) = 0) = false := by simp; omega
     cases hfit : fitsU c b n with
     | false =>
       rw [hfit] at hf
       simp only [or_true, if_true]
       simp only [w9, AV.cells, AV.leaf, reduceEqDiff, reduceLT, reduceAdd, reduceLeDiff, reduceCtorEq, reduceMul, reduceMod, u133, hlen, a0, hv.len Tryz.underlying72, hz, e0, hw, hnd, hf, none_beq]
       exact Fin_pure (l := [.int .i32 0, .int .i64 0, .int .i64 3]) (by simp [w9, AV.cells, AV.leaf, reduceEqDiff, reduceLT, reduceAdd, reduceLeDiff, reduceCtorEq, reduceMul, reduceMod, u133, hlen, aResults, aResult]) (hfz _ _ _ _ rfl rfl rfl) (by intro _; rfl)
     | true =>
       rw [hfit] at hf
       rw [if_neg (by simp [hn0])]
       by_cases hlt : (b.length : Int) < n
       · rw [if_pos (by omega)]
         simp only [w9, AV.cells, AV.leaf, reduceEqDiff, reduceLT, reduceAdd, reduceLeDiff, reduceCtorEq, reduceMul, reduceMod, u133, hlen, a0, hv.len Tryz.underlying72, hz, e0, hw, hnd, hf, none_beq, hlt]
         exact Fin_pure (l := [.int .i32 0, .int .i64 0, .int .i64 11]) (by simp [w9, AV.cells, AV.leaf, reduceEqDiff, reduceLT, reduceAdd, reduceLeDiff, reduceCtorEq, reduceMul, reduceMod, u133, hlen, aResults, aResult]) (hfz _ _ _ _ rfl rfl rfl) (by intro _; rfl)
       · rw [if_neg (by omega)]
         obtain ⟨v2, e2, hv2⟩ := Sl_mid hv (lo := 1) (hi := n) Tryz.underlying72 sz5 encB_len (by omega) (by omega)
         have e2 : aSlice Tryz.prog 72 v (some (.int .i64 1)) (some (.int .i64 n)) none = some v2 := e2
         have hm : ((b.drop 1).take (n - 1)).length = n - 1 := by simp; omega
         generalize (b.drop 1).take (n - 1) = m at *
         simp only [w9, AV.cells, AV.leaf, reduceEqDiff, reduceLT, reduceAdd, reduceLeDiff, reduceCtorEq, reduceMul, reduceMod, u133, hlen, a0, hv.len Tryz.underlying72, hz, e0, hw, hnd, hf, none_beq, hlt, hld, e2, hv2.len Tryz.underlying72]
         refine loop_rule (fun k fr H' => ∃ (i : Nat) (x : Int), k = m.length - i ∧ i ≤ m.length ∧ fr.length = 54 ∧ fget fr 39 = v2 ∧ fget fr 40 = .int .i64 m.length ∧ fget fr 41 = .int .i64 i ∧ fget fr 6 = .int .i32 x ∧ fget fr 5 = .int .i64 n
           ∧ runeGo (runeFirst c.toNat n) m = runeGo x (m.drop i)) ?_ m.length _ _ ⟨0, runeFirst c.toNat n, by simp [w9, AV.cells, AV.leaf, reduceEqDiff, reduceLT, reduceAdd, reduceLeDiff, reduceCtorEq, reduceMul, reduceMod, u133, hlen, a0, runeFirst]⟩
         rintro k fr H' ⟨i, x, rfl, hi, hlen, a39, a40, a41, a6, a5, hc⟩ ih
         simp only [w9, AV.cells, AV.leaf, reduceEqDiff, reduceLT, reduceAdd, reduceLeDiff, reduceCtorEq, reduceMul, reduceMod, u133, hlen, a39, a40, a41, a6, a5]
         refine RC_split (fun h => ?_) (fun h => ?_)
         · have hlt : i < m.length := by simpa using h
           have hw : IntKind.i64.wrap ((i : Int) + 1) = ((i + 1 : Nat) : Int) := by rw [wrap64 (by omega) (by omega)]; simp
           have e1 := hv2.at (k := .i64) Tryz.underlying72 sz5 encB_len hlt
           have hd : m.drop i = m[i] :: m.drop (i + 1) := by simp
           have hs := fun (xo yo : Operand) => bin_shl (P := Tryz.prog) (t := 21) (xo := xo) (yo := yo) (k := .i32) (k' := .u64) (a := x) (b := 6) (by decide)
           rw [hd] at hc
           generalize m[i] = y at *
           simp only [encB, AV.cells] at e1
           simp only [w9, AV.cells, AV.leaf, reduceEqDiff, reduceLT, reduceAdd, reduceLeDiff, reduceCtorEq, reduceMul, reduceMod, u133, hlen, a39, a40, a41, a6, a5, e1, hs, hw]
           refine ih _ _ (m.length - (i + 1)) (by omega) ⟨i + 1, runeStep x y.toNat, rfl, hlt, ?_⟩
           rw [hc, runeGo]
           simp [w9, AV.cells, AV.leaf, reduceEqDiff, reduceLT, reduceAdd, reduceLeDiff, reduceCtorEq, reduceMul, reduceMod, u133, hlen, a39, a40, a5, runeStep, shl6]
         · have hnl : ¬ i < m.length := by simpa using h
           have he : m.drop i = [] := by simp; omega
           rw [he, runeGo] at hc
           rw [hc]
           simp only [w9, AV.cells, AV.leaf, reduceEqDiff, reduceLT, reduceAdd, reduceLeDiff, reduceCtorEq, reduceMul, reduceMod, u133, hlen, a6, a5]
           exact Fin_pure (l := [.int .i32 x, .int .i64 n, .int .i64 0]) (by simp [w9, AV.cells, AV.leaf, reduceEqDiff, reduceLT, reduceAdd, reduceLeDiff, reduceCtorEq, reduceMul, reduceMod, u133, hlen, aResults, aResult]) (hfz _ _ _ _ rfl rfl rfl) (by intro _; rfl)
end Go.Proofs.YtnipaiklandliaaGreatDoor
/- Chapter 2: what a rune's reading tells. -/
namespace Go.Proofs.YtnipaiklandliaaGreatDoor
open Go Go.Abs AbsSeat Ty
open Nat (reduceEqDiff reduceLT reduceAdd reduceLeDiff reduceMul reduceMod)
theorem nextU_pos {b : List UInt8} (h : (nextU b).2.2 = 0) : 0 < (nextU b).2.1 ∧ (nextU b).2.1 ≤ b.length := by
 by_cases hb : b = []
 · subst hb; simp [nextU] at h
 · obtain ⟨c, r, hb⟩ := List.exists_cons_of_ne_nil hb
   rw [nextU_eq hb] at h ⊢
   by_cases h1 : wantedU c.toNat = 0 ∨ fitsU c b (wantedU c.toNat) = false
   · rw [if_pos h1] at h; simp at h
   · rw [if_neg h1] at h ⊢
     by_cases h2 : b.length < wantedU c.toNat
     · rw [if_pos h2] at h; simp at h
     · rw [if_neg h2] at h ⊢
       simp only [not_or] at h1
       simp only
       omega
theorem conv_sb {P : Program} {s d e : TypeId} (h1 : P.underlying s = some .string) (h2 : P.underlying d = some (.slice e)) (h3 : P.underlying e = some (.int .u8)) (H : Heap) (x : List UInt8) :
   aConvert P H s d (.str x) = some (.bs ⟨H.length, 0, 0, x.length, 0, 1, false, false⟩, some (H ++ [Blk.cells 0 (cellsOf encB x)])) := by
 simp only [aConvert, h1, h2, h3, ← cellsB]
end Go.Proofs.YtnipaiklandliaaGreatDoor
/- Letters, digits. -/
namespace Go.Proofs.YtnipaiklandliaaGreatDoor
open Go Go.Abs
open Nat (reduceEqDiff reduceLT reduceAdd reduceLeDiff reduceMul reduceMod)
def digitC (c : Int) : Bool := decide (48 ≤ c) && decide (c ≤ 57)
def greatC (c : Int) : Bool := decide (65 ≤ c) && decide (c ≤ 90)
def letterC (c : Int) : Bool := greatC c || (decide (97 ≤ c) && decide (c ≤ 122))
end Go.Proofs.YtnipaiklandliaaGreatDoor
/- chars.Digit, walked. -/
namespace Go.Proofs.YtnipaiklandliaaGreatDoor
open Go Go.Abs AbsSeat Ty
open Nat (reduceEqDiff reduceLT reduceAdd reduceLeDiff reduceMul reduceMod)
theorem u62 : type_of% (And.intro ag5 (And.intro sz5 (And.intro by5 (And.intro ze5 Tryz.underlying5)))) := And.intro ag5 (And.intro sz5 (And.intro by5 (And.intro ze5 Tryz.underlying5)))
def g62 : Code :=
 .seq (.region 0 #[q 2 (.assign (.const (.bool false))) 4] false) (.seq (.region 1 #[q 3 (.move (.tmp 0)) 5, q 4 (.binOp .geq 5 (.tmp 3) (.const (.int .u8 48)) 5) 4, q 5 (.move (.tmp 4)) 4, qg 6 (.move (.tmp 0)) 5 2 true, qg 7 (.binOp .leq 5 (.tmp 6) (.const (.int .u8 57)) 5) 4 2 true, q 8 (.pick (.tmp 5) (.tmp 7) (.const (.bool false))) 4, q 2 (.assign (.tmp 8)) 4] false) .ret)
theorem s62 : Tryz.f62.body.map (slim cfg) = some g62 := by kernel_rfl
theorem digit_ok (c : Int) (prot : Nat) (H : Heap) (hp : prot ≤ H.length) : aLim cfg prot 62 [.int .u8 c] H = some (.bool (digitC c), none) := by
 have hsnap : snap H [.int .u8 c] = some ([.int .u8 c], false) := rfl
 unfold digitC
 refine pure_slim rfl (by kernel_rfl) Tryz.func62 s62 hp hsnap (by simp [Tryz.f62]) fun fr hlen h => ?_
 simp only [Has, Nat.zero_add] at h
 obtain ⟨a0, -⟩ := h
 simp only [Tryz.f62] at hlen ⊢
 unfold g62
 by_cases h1 : 48 ≤ c
 · simp only [w9, AV.cells, AV.leaf, reduceEqDiff, reduceLT, reduceAdd, reduceLeDiff, reduceCtorEq, reduceMul, reduceMod, u62, hlen, a0, h1]
   simp only [Bool.true_and, decide_true]
   exact Fin_pure (l := [.bool (decide (c ≤ 57))]) (by simp [w9, AV.cells, AV.leaf, reduceEqDiff, reduceLT, reduceAdd, reduceLeDiff, reduceCtorEq, reduceMul, reduceMod, u62, aResults, aResult, hlen]) (.still rfl) (by simp)
 · simp only [w9, AV.cells, AV.leaf, reduceEqDiff, reduceLT, reduceAdd, reduceLeDiff, reduceCtorEq, reduceMul, reduceMod, u62, hlen, a0, h1, none_beq]
   simp only [Bool.false_and, decide_false]
   exact Fin_pure (l := [.bool false]) (by simp [w9, AV.cells, AV.leaf, reduceEqDiff, reduceLT, reduceAdd, reduceLeDiff, reduceCtorEq, reduceMul, reduceMod, u62, aResults, aResult, hlen]) (.still rfl) (by simp)
end Go.Proofs.YtnipaiklandliaaGreatDoor
/- Letters, walked. -/
namespace Go.Proofs.YtnipaiklandliaaGreatDoor
open Go Go.Abs AbsSeat Ty
open Nat (reduceEqDiff reduceLT reduceAdd reduceLeDiff reduceMul reduceMod)
theorem u132 : type_of% (And.intro ag5 (And.intro sz5 (And.intro by5 (And.intro ze5 Tryz.underlying5)))) := And.intro ag5 (And.intro sz5 (And.intro by5 (And.intro ze5 Tryz.underlying5)))
def g132 : Code :=
 .seq (.region 0 #[q 2 (.assign (.const (.bool false))) 4] false) (.seq (.region 1 #[q 3 (.move (.tmp 0)) 5, q 4 (.binOp .geq 5 (.tmp 3) (.const (.int .u8 65)) 5) 4, q 5 (.move (.tmp 4)) 4, qg 6 (.move (.tmp 0)) 5 2 true, qg 7 (.binOp .leq 5 (.tmp 6) (.const (.int .u8 90)) 5) 4 2 true, q 8 (.pick (.tmp 5) (.tmp 7) (.const (.bool false))) 4, q 2 (.assign (.tmp 8)) 4] false) .ret)
theorem s132 : Tryz.f132.body.map (slim cfg) = some g132 := by kernel_rfl
def g93 : Code :=
 .seq (.region 0 #[q 2 (.assign (.const (.bool false))) 4] false) (.seq (.region 1 #[q 3 (.move (.tmp 0)) 5, q 4 (cl 132 #[.tmp 3] #[5]) 4, q 5 (.move (.tmp 4)) 4, qg 6 (.move (.tmp 0)) 5 2 false, qg 7 (.binOp .geq 5 (.tmp 6) (.const (.int .u8 97)) 5) 4 2 false, qg 8 (.move (.tmp 7)) 4 2 false, qg 9 (.move (.tmp 0)) 5 5 true, qg 10 (.binOp .leq 5 (.tmp 9) (.const (.int .u8 122)) 5) 4 5 true, qg 11 (.pick (.tmp 8) (.tmp 10) (.const (.bool false))) 4 2 false, q 12 (.pick (.tmp 5) (.const (.bool true)) (.tmp 11)) 4, q 2 (.assign (.tmp 12)) 4] false) .ret)
theorem s93 : Tryz.f93.body.map (slim cfg) = some g93 := by kernel_rfl
theorem great_ok (c : Int) (prot : Nat) (H : Heap) (hp : prot ≤ H.length) : aLim cfg prot 132 [.int .u8 c] H = some (.bool (greatC c), none) := by
 have hsnap : snap H [.int .u8 c] = some ([.int .u8 c], false) := rfl
 unfold greatC
 refine pure_slim rfl (by kernel_rfl) Tryz.func132 s132 hp hsnap (by simp [Tryz.f132]) fun fr hlen h => ?_
 simp only [Has, Nat.zero_add] at h
 obtain ⟨a0, -⟩ := h
 simp only [Tryz.f132] at hlen ⊢
 unfold g132
 by_cases h1 : 65 ≤ c
 · simp only [w9, AV.cells, AV.leaf, reduceEqDiff, reduceLT, reduceAdd, reduceLeDiff, reduceCtorEq, reduceMul, reduceMod, u132, hlen, a0, h1]
   simp only [Bool.true_and, decide_true]
   exact Fin_pure (l := [.bool (decide (c ≤ 90))]) (by simp [w9, AV.cells, AV.leaf, reduceEqDiff, reduceLT, reduceAdd, reduceLeDiff, reduceCtorEq, reduceMul, reduceMod, u132, aResults, aResult, hlen]) (.still rfl) (by simp)
 · simp only [w9, AV.cells, AV.leaf, reduceEqDiff, reduceLT, reduceAdd, reduceLeDiff, reduceCtorEq, reduceMul, reduceMod, u132, hlen, a0, h1, none_beq]
   simp only [Bool.false_and, decide_false]
   exact Fin_pure (l := [.bool false]) (by simp [w9, AV.cells, AV.leaf, reduceEqDiff, reduceLT, reduceAdd, reduceLeDiff, reduceCtorEq, reduceMul, reduceMod, u132, aResults, aResult, hlen]) (.still rfl) (by simp)
theorem letter_ok (c : Int) (prot : Nat) (H : Heap) (hp : prot ≤ H.length) : aLim cfg prot 93 [.int .u8 c] H = some (.bool (letterC c), none) := by
 have hsnap : snap H [.int .u8 c] = some ([.int .u8 c], false) := rfl
 have n1 := great_ok c H.length H (Nat.le_refl _)
 unfold letterC
 refine pure_slim rfl (by kernel_rfl) Tryz.func93 s93 hp hsnap (by simp [Tryz.f93]) fun fr hlen h => ?_
 simp only [Has, Nat.zero_add] at h
 obtain ⟨a0, -⟩ := h
 simp only [Tryz.f93] at hlen ⊢
 unfold g93
 generalize greatC c = g at *
 cases g with
 | true =>
   simp only [w9, AV.cells, AV.leaf, reduceEqDiff, reduceLT, reduceAdd, reduceLeDiff, reduceCtorEq, reduceMul, reduceMod, u132, hlen, a0, n1, none_beq]
   simp only [Bool.true_or]
   exact Fin_pure (l := [.bool true]) (by simp [w9, AV.cells, AV.leaf, reduceEqDiff, reduceLT, reduceAdd, reduceLeDiff, reduceCtorEq, reduceMul, reduceMod, u132, aResults, aResult, hlen]) (.still rfl) (by simp)
 | false =>
   simp only [Bool.false_or]
   by_cases h1 : 97 ≤ c
   · simp only [w9, AV.cells, AV.leaf, reduceEqDiff, reduceLT, reduceAdd, reduceLeDiff, reduceCtorEq, reduceMul, reduceMod, u132, hlen, a0, n1, h1, none_beq]
     simp only [Bool.true_and, decide_true]
     exact Fin_pure (l := [.bool (decide (c ≤ 122))]) (by simp [w9, AV.cells, AV.leaf, reduceEqDiff, reduceLT, reduceAdd, reduceLeDiff, reduceCtorEq, reduceMul, reduceMod, u132, aResults, aResult, hlen]) (.still rfl) (by simp)
   · simp only [w9, AV.cells, AV.leaf, reduceEqDiff, reduceLT, reduceAdd, reduceLeDiff, reduceCtorEq, reduceMul, reduceMod, u132, hlen, a0, n1, h1, none_beq]
     simp only [Bool.false_and, decide_false]
     exact Fin_pure (l := [.bool false]) (by simp [w9, AV.cells, AV.leaf, reduceEqDiff, reduceLT, reduceAdd, reduceLeDiff, reduceCtorEq, reduceMul, reduceMod, u132, aResults, aResult, hlen]) (.still rfl) (by simp)
end Go.Proofs.YtnipaiklandliaaGreatDoor
/- Chapter 2: valid texts, walked. -/
namespace Go.Proofs.YtnipaiklandliaaGreatDoor
open Go Go.Abs AbsSeat Ty
open Nat (reduceEqDiff reduceLT reduceAdd reduceLeDiff reduceMul reduceMod)
theorem u65 : type_of% (And.intro ag3 (And.intro sz3 (And.intro by3 (And.intro ze3 (And.intro Tryz.underlying3 (And.intro ag5 (And.intro sz5 (And.intro by5 (And.intro ze5 (And.intro Tryz.underlying5 (And.intro ag9 (And.intro sz9 (And.intro by9 (And.intro ze9 (And.intro Tryz.underlying9 (And.intro ag28 (And.intro sz28 (And.intro by28 (And.intro ze28 (And.intro Tryz.underlying28 (And.intro ag72 (And.intro sz72 (And.intro by72 (And.intro se72 (And.intro ze72 Tryz.underlying72))))))))))))))))))))))))) := And.intro ag3 (And.intro sz3 (And.intro by3 (And.intro ze3 (And.intro Tryz.underlying3 (And.intro ag5 (And.intro sz5 (And.intro by5 (And.intro ze5 (And.intro Tryz.underlying5 (And.intro ag9 (And.intro sz9 (And.intro by9 (And.intro ze9 (And.intro Tryz.underlying9 (And.intro ag28 (And.intro sz28 (And.intro by28 (And.intro ze28 (And.intro Tryz.underlying28 (And.intro ag72 (And.intro sz72 (And.intro by72 (And.intro se72 (And.intro ze72 Tryz.underlying72))))))))))))))))))))))))
def g65 : Code :=
 .seq (.region 0 #[q 2 (.assign (ik 0)) 3, q 3 (.assign (ik 0)) 3] false) (.seq (.region 1 #[q 10 (.move (.tmp 0)) 9, q 11 (.convert 9 72 (.tmp 10)) 72, q 4 (.assign (.tmp 11)) 72] false) (.seq (.region 2 #[q 5 (.assign (ik 0)) 3, q 6 (.assign (ik 0)) 3] false) (.seq (.block 0 (.loop (.seq (.seq (.region 3 #[q 12 (.move (.tmp 5)) 3, q 13 (.move (.tmp 4)) 72, q 14 (bi .len #[.tmp 13] #[72]) 3, q 15 (.binOp .lss 3 (.tmp 12) (.tmp 14) 3) 4] false) (.cond (.tmp 15) .skip (.exit 0))) (.block 1 (.seq (.region 4 #[q 17 (.move (.tmp 4)) 72, q 18 (.move (.tmp 5)) 3, q 19 (.slice 72 (.tmp 17) (some (.tmp 18)) none none) 72, q 20 (cl 94 #[.tmp 19] #[72]) 147, q 16 (.move (.tmp 20)) 147, q 21 (.extract (.tmp 16) 0) 21, q 22 (.extract (.tmp 16) 1) 3, q 23 (.extract (.tmp 16) 2) 28, q 7 (.assign (.tmp 21)) 21, q 8 (.assign (.tmp 22)) 3, q 9 (.assign (.tmp 23)) 28] false) (.seq (.seq (.region 5 #[q 24 (.move (.tmp 9)) 28, q 25 (.binOp .neq 28 (.tmp 24) (ik 0) 28) 4] false) (.cond (.tmp 25) (.exit 0) .skip)) (.seq (.region 6 #[q 26 (.move (.tmp 5)) 3, q 27 (.move (.tmp 8)) 3, q 28 (.binOp .add 3 (.tmp 26) (.tmp 27) 3) 3, q 5 (.assign (.tmp 28)) 3] false) (.region 7 #[q 29 (.move (.tmp 6)) 3, q 30 (.binOp .add 3 (.tmp 29) (ik 1) 3) 3, q 6 (.assign (.tmp 30)) 3] false)))))))) (.seq (.region 8 #[q 31 (.move (.tmp 6)) 3, q 32 (.move (.tmp 5)) 3, q 2 (.assign (.tmp 31)) 3, q 3 (.assign (.tmp 32)) 3] false) .ret))))
theorem s65 : Tryz.f65.body.map (slim cfg) = some g65 := by kernel_rfl
def g31 : Code :=
 .seq (.region 0 #[q 2 (.assign (.const (.bool false))) 4] false) (.seq (.region 1 #[q 6 (.move (.tmp 0)) 9, q 7 (cl 65 #[.tmp 6] #[9]) 112, q 5 (.move (.tmp 7)) 112, q 8 (.extract (.tmp 5) 0) 3, q 9 (.extract (.tmp 5) 1) 3, q 3 (.assign (.tmp 8)) 3, q 4 (.assign (.tmp 9)) 3] false) (.seq (.region 2 #[q 10 (.move (.tmp 4)) 3, q 11 (.move (.tmp 0)) 9, q 12 (bi .len #[.tmp 11] #[9]) 3, q 13 (.binOp .eql 3 (.tmp 10) (.tmp 12) 3) 4, q 2 (.assign (.tmp 13)) 4] false) .ret))
theorem s31 : Tryz.f31.body.map (slim cfg) = some g31 := by kernel_rfl
def walkU (b : List UInt8) : Nat × Nat :=
 if _h : (nextU b).2.2 = 0 then ((walkU (b.drop (nextU b).2.1)).1 + 1, (walkU (b.drop (nextU b).2.1)).2 + (nextU b).2.1) else (0, 0)
termination_by b.length
decreasing_by all_goals (have := nextU_pos _h; simp; omega)
theorem walk_ok (s : List UInt8) (hl : s.length ≤ 9223372036854775807) (prot : Nat) (H : Heap) (hp : prot ≤ H.length) :
   aLim cfg prot 65 [.str s] H = some (.tup [.int .i64 (walkU s).1, .int .i64 (walkU s).2], none) := by
 have hsnap : snap H [.str s] = some ([.str s], false) := rfl
 refine pure_slim rfl (by kernel_rfl) Tryz.func65 s65 hp hsnap (by simp [Tryz.f65]) fun fr hlen h => ?_
 simp only [Has, Nat.zero_add] at h
 obtain ⟨a0, -⟩ := h
 simp only [Tryz.f65] at hlen ⊢
 unfold g65
 have hfz : ∀ (K : Heap) (x y : AV), still x = true → still y = true → Frz K H.length (packR [x, y]) (.tup [x, y]) := fun K x y h1 h2 => .tup (.cons (.still h1) (.cons (.still h2) .nil))
 have cv := fun K => conv_sb Tryz.underlying9 Tryz.underlying72 Tryz.underlying5 K s
 have hg : hget (H ++ [Blk.cells 0 (cellsOf encB s)]) H.length 0 = some (cellsOf encB s) := by rw [hget_new rfl]; rfl
 have hbl : ∀ K, aLen Tryz.prog K 72 (.bs ⟨H.length, 0, 0, s.length, 0, 1, false, false⟩) = some (.int .i64 s.length) := fun K => by simp [aLen, Tryz.underlying72]
 simp only [w9, AV.cells, AV.leaf, reduceEqDiff, reduceLT, reduceAdd, reduceLeDiff, reduceCtorEq, reduceMul, reduceMod, u65, hlen, a0, cv]
 refine loop_rule (fun m fr H' => ∃ (k n : Nat), m = s.length - k ∧ k ≤ s.length ∧ n ≤ k ∧ fr.length = 33 ∧ fget fr 4 = .bs ⟨H.length, 0, 0, s.length, 0, 1, false, false⟩ ∧ fget fr 5 = .int .i64 k ∧ fget fr 6 = .int .i64 n
   ∧ H' = H ++ [Blk.cells 0 (cellsOf encB s)] ∧ walkU s = ((walkU (s.drop k)).1 + n, (walkU (s.drop k)).2 + k)) ?_ s.length _ _ ⟨0, 0, by simp [w9, AV.cells, AV.leaf, reduceEqDiff, reduceLT, reduceAdd, reduceLeDiff, reduceCtorEq, reduceMul, reduceMod, u65, hlen, a0]⟩
 rintro m fr H' ⟨k, n, rfl, hk, hnk, hlen, a4, a5, a6, hHe, hc⟩ ih
 subst hHe
 simp only [w9, AV.cells, AV.leaf, reduceEqDiff, reduceLT, reduceAdd, reduceLeDiff, reduceCtorEq, reduceMul, reduceMod, u65, hlen, a4, a5, a6, hbl]
 refine RC_split (fun h => ?_) (fun h => ?_)
 · have hlt : k < s.length := by simpa using h
   obtain ⟨o, e1, e2⟩ := bytes_cut Tryz.underlying72 sz5 hg hlt
   have e3 := next_ok (s.drop k) o _ true (.vs _ _) (by simp; omega) H.length (H ++ [Blk.cells 0 (cellsOf encB s)]) (by simp) e2
   have hpos := nextU_pos (b := s.drop k)
   have hw : walkU (s.drop k) = if h : (nextU (s.drop k)).2.2 = 0 then ((walkU ((s.drop k).drop (nextU (s.drop k)).2.1)).1 + 1, (walkU ((s.drop k).drop (nextU (s.drop k)).2.1)).2 + (nextU (s.drop k)).2.1) else (0, 0) := by rw [walkU]
   simp only [List.drop_drop, List.length_drop] at hw hpos
   generalize nextU (s.drop k) = q at *
   obtain ⟨r, w, e⟩ := q
   simp only at hw hpos e3
   by_cases he : e = 0
   · subst he
     obtain ⟨hw0, hwl⟩ := hpos rfl
     have w1 : IntKind.i64.wrap ((k : Int) + (w : Int)) = ((k + w : Nat) : Int) := by rw [wrap64 (by omega) (by omega)]; simp
     have w2 : IntKind.i64.wrap ((n : Int) + 1) = ((n + 1 : Nat) : Int) := by rw [wrap64 (by omega) (by omega)]; simp
     rw [dif_pos rfl] at hw
     simp only [w9, AV.cells, AV.leaf, reduceEqDiff, reduceLT, reduceAdd, reduceLeDiff, reduceCtorEq, reduceMul, reduceMod, u65, hlen, a4, a5, a6, e1, e3, w1, w2]
     refine ih _ _ (s.length - (k + w)) (by omega) ⟨k + w, n + 1, rfl, by omega, by omega, ?_⟩
     rw [hc, hw]
     simp [w9, AV.cells, AV.leaf, reduceEqDiff, reduceLT, reduceAdd, reduceLeDiff, reduceCtorEq, reduceMul, reduceMod, u65, hlen, a4]
     omega
   · have hed : decide (e = 0) = false := by simpa using he
     rw [dif_neg he] at hw
     rw [hc, hw]
     simp only [Nat.zero_add]
     have hnd : decide (¬ e = 0) = true := by simpa using he
     simp only [w9, AV.cells, AV.leaf, reduceEqDiff, reduceLT, reduceAdd, reduceLeDiff, reduceCtorEq, reduceMul, reduceMod, u65, hlen, a4, a5, a6, e1, e3, hnd]
     exact Fin_pure (l := [.int .i64 n, .int .i64 k]) (by simp [w9, AV.cells, AV.leaf, reduceEqDiff, reduceLT, reduceAdd, reduceLeDiff, reduceCtorEq, reduceMul, reduceMod, u65, hlen, aResults, aResult]) (hfz _ _ _ rfl rfl) (by simp)
 · have hnl : ¬ k < s.length := by simpa using h
   have hd : s.drop k = [] := by simp; omega
   have hw0 : walkU [] = (0, 0) := by rw [walkU]; simp [nextU]
   rw [hd, hw0] at hc
   rw [hc]
   simp only [Nat.zero_add]
   simp only [w9, AV.cells, AV.leaf, reduceEqDiff, reduceLT, reduceAdd, reduceLeDiff, reduceCtorEq, reduceMul, reduceMod, u65, hlen, a4, a5, a6]
   exact Fin_pure (l := [.int .i64 n, .int .i64 k]) (by simp [w9, AV.cells, AV.leaf, reduceEqDiff, reduceLT, reduceAdd, reduceLeDiff, reduceCtorEq, reduceMul, reduceMod, u65, hlen, aResults, aResult]) (hfz _ _ _ rfl rfl) (by simp)
def validU (s : List UInt8) : Bool := decide ((walkU s).2 = s.length)
theorem valid_ok (s : List UInt8) (hl : s.length ≤ 9223372036854775807) (prot : Nat) (H : Heap) (hp : prot ≤ H.length) : aLim cfg prot 31 [.str s] H = some (.bool (validU s), none) := by
 have hsnap : snap H [.str s] = some ([.str s], false) := rfl
 refine pure_slim rfl (by kernel_rfl) Tryz.func31 s31 hp hsnap (by simp [Tryz.f31]) fun fr hlen h => ?_
 simp only [Has, Nat.zero_add] at h
 obtain ⟨a0, -⟩ := h
 simp only [Tryz.f31] at hlen ⊢
 unfold g31
 have h1 := walk_ok s hl H.length H (Nat.le_refl _)
 have h2 : ∀ K, aLen Tryz.prog K 9 (.str s) = some (.int .i64 s.length) := fun K => by simp [aLen, Tryz.underlying9]
 have e : decide (((walkU s).2 : Int) = (s.length : Int)) = validU s := by unfold validU; rw [decide_eq_decide]; omega
 simp only [w9, AV.cells, AV.leaf, reduceEqDiff, reduceLT, reduceAdd, reduceLeDiff, reduceCtorEq, reduceMul, reduceMod, u65, hlen, a0, h1, h2, e]
 exact Fin_pure (l := [.bool (validU s)]) (by simp [w9, AV.cells, AV.leaf, reduceEqDiff, reduceLT, reduceAdd, reduceLeDiff, reduceCtorEq, reduceMul, reduceMod, u65, aResults, aResult, hlen]) (.still rfl) (by simp)
end Go.Proofs.YtnipaiklandliaaGreatDoor
/- chars.All: its code. -/
namespace Go.Proofs.YtnipaiklandliaaGreatDoor
open Go Go.Abs AbsSeat Ty
open Nat (reduceEqDiff reduceLT reduceAdd reduceLeDiff reduceMul reduceMod)
theorem u63 : type_of% (And.intro ag3 (And.intro sz3 (And.intro by3 (And.intro ze3 (And.intro Tryz.underlying3 (And.intro ag5 (And.intro sz5 (And.intro by5 (And.intro ze5 (And.intro Tryz.underlying5 (And.intro ag9 (And.intro sz9 (And.intro by9 (And.intro ze9 (And.intro Tryz.underlying9 (And.intro ag110 (And.intro sz110 (And.intro by110 (And.intro ze110 Tryz.underlying110))))))))))))))))))) := And.intro ag3 (And.intro sz3 (And.intro by3 (And.intro ze3 (And.intro Tryz.underlying3 (And.intro ag5 (And.intro sz5 (And.intro by5 (And.intro ze5 (And.intro Tryz.underlying5 (And.intro ag9 (And.intro sz9 (And.intro by9 (And.intro ze9 (And.intro Tryz.underlying9 (And.intro ag110 (And.intro sz110 (And.intro by110 (And.intro ze110 Tryz.underlying110))))))))))))))))))
def g63 : Code :=
 .seq (.region 0 #[q 4 (.assign (.const (.bool false))) 4] false) (.seq (.seq (.region 1 #[q 5 (.assign (ik 0)) 3] false) (.block 0 (.loop (.seq (.seq (.region 2 #[q 6 (.move (.tmp 1)) 110, q 7 (.binOp .neq 110 (.tmp 6) (.const .nilFunc) 110) 4, q 8 (.move (.tmp 7)) 4, qg 9 (.move (.tmp 5)) 3 2 true, qg 10 (.move (.tmp 0)) 9 2 true, qg 11 (bi .len #[.tmp 10] #[9]) 3 2 true, qg 12 (.binOp .lss 3 (.tmp 9) (.tmp 11) 3) 4 2 true, q 13 (.pick (.tmp 8) (.tmp 12) (.const (.bool false))) 4] false) (.cond (.tmp 13) .skip (.exit 0))) (.seq (.block 1 (.seq (.region 4 #[q 16 (.move (.tmp 1)) 110, q 17 (.move (.tmp 0)) 9, q 18 (.move (.tmp 5)) 3, q 19 (.index 9 (.tmp 17) (.tmp 18)) 5, q 20 (cv (.tmp 16) #[.tmp 19] #[5]) 4, q 21 (.unOp .not 4 (.tmp 20)) 4] false) (.cond (.tmp 21) (.seq (.region 5 #[q 4 (.assign (.const (.bool false))) 4] false) .ret) .skip))) (.region 3 #[q 14 (.move (.tmp 5)) 3, q 15 (.binOp .add 3 (.tmp 14) (ik 1) 3) 3, q 5 (.assign (.tmp 15)) 3] false)))))) (.seq (.region 6 #[q 22 (.move (.tmp 1)) 110, q 23 (.binOp .neq 110 (.tmp 22) (.const .nilFunc) 110) 4, q 4 (.assign (.tmp 23)) 4] false) .ret))
theorem s63 : Tryz.f63.body.map (slim cfg) = some g63 := by kernel_rfl
end Go.Proofs.YtnipaiklandliaaGreatDoor
/- Chapter 14: sets of labels: names, and whether pairs may be, walked. -/
namespace Go.Proofs.YtnipaiklandliaaGreatDoor
open Go Go.Abs AbsSeat Ty
open Nat (reduceEqDiff reduceLT reduceAdd reduceLeDiff reduceMul reduceMod)
theorem u64 : type_of% (And.intro (show tagT Tryz.prog 59 = 0 from by kernel_rfl) (And.intro (fun (xo yo : Operand) (s : BS) => bs_nil_eq (xo := xo) (yo := yo) Tryz.underlying23 s) (And.intro (fun (xo yo : Operand) (es : List AV) (f : Bool) => vs_nil_eq (xo := xo) (yo := yo) Tryz.underlying23 es f) (And.intro (fun (xo yo : Operand)  => nilS_nilS_eq (xo := xo) (yo := yo) Tryz.underlying23 ) (And.intro (fun (K : Heap) (n : Int) => conv_int Tryz.underlying3 Tryz.underlying116 K n) (And.intro (show tagT Tryz.prog 27 = 0 from by kernel_rfl) (And.intro ag0 (And.intro sz0 (And.intro by0 (And.intro Tryz.underlying0 (And.intro ag3 (And.intro sz3 (And.intro by3 (And.intro ze3 (And.intro Tryz.underlying3 (And.intro ag5 (And.intro sz5 (And.intro by5 (And.intro ze5 (And.intro Tryz.underlying5 (And.intro ag9 (And.intro sz9 (And.intro by9 (And.intro ze9 (And.intro Tryz.underlying9 (And.intro ag23 (And.intro sz23 (And.intro by23 (And.intro se23 (And.intro ze23 (And.intro Tryz.underlying23 (And.intro ag27 (And.intro sz27 (And.intro by27 (And.intro ze27 (And.intro bu27 (And.intro Tryz.underlying27 (And.intro ag59 (And.intro sz59 (And.intro by59 (And.intro ze59 (And.intro bu59 (And.intro Tryz.underlying59 (And.intro ag62 (And.intro sz62 (And.intro by62 (And.intro ze62 (And.intro Tryz.underlying62 (And.intro ag66 (And.intro sz66 (And.intro by66 (And.intro ze66 (And.intro Tryz.underlying66 (And.intro ag110 (And.intro sz110 (And.intro by110 (And.intro ze110 (And.intro Tryz.underlying110 (And.intro ag116 (And.intro sz116 (And.intro by116 (And.intro ze116 (And.intro Tryz.underlying116 (And.intro ag150 (And.intro sz150 (And.intro by150 (And.intro ze150 (And.intro Tryz.underlying150 (And.intro fa59_0 (And.intro fd59_0 (And.intro fa59_1 fd59_1))))))))))))))))))))))))))))))))))))))))))))))))))))))))))))))))))))))) := And.intro (show tagT Tryz.prog 59 = 0 from by kernel_rfl) (And.intro (fun (xo yo : Operand) (s : BS) => bs_nil_eq (xo := xo) (yo := yo) Tryz.underlying23 s) (And.intro (fun (xo yo : Operand) (es : List AV) (f : Bool) => vs_nil_eq (xo := xo) (yo := yo) Tryz.underlying23 es f) (And.intro (fun (xo yo : Operand)  => nilS_nilS_eq (xo := xo) (yo := yo) Tryz.underlying23 ) (And.intro (fun (K : Heap) (n : Int) => conv_int Tryz.underlying3 Tryz.underlying116 K n) (And.intro (show tagT Tryz.prog 27 = 0 from by kernel_rfl) (And.intro ag0 (And.intro sz0 (And.intro by0 (And.intro Tryz.underlying0 (And.intro ag3 (And.intro sz3 (And.intro by3 (And.intro ze3 (And.intro Tryz.underlying3 (And.intro ag5 (And.intro sz5 (And.intro by5 (And.intro ze5 (And.intro Tryz.underlying5 (And.intro ag9 (And.intro sz9 (And.intro by9 (And.intro ze9 (And.intro Tryz.underlying9 (And.intro ag23 (And.intro sz23 (And.intro by23 (And.intro se23 (And.intro ze23 (And.intro Tryz.underlying23 (And.intro ag27 (And.intro sz27 (And.intro by27 (And.intro ze27 (And.intro bu27 (And.intro Tryz.underlying27 (And.intro ag59 (And.intro sz59 (And.intro by59 (And.intro ze59 (And.intro bu59 (And.intro Tryz.underlying59 (And.intro ag62 (And.intro sz62 (And.intro by62 (And.intro ze62 (And.intro Tryz.underlying62 (And.intro ag66 (And.intro sz66 (And.intro by66 (And.intro ze66 (And.intro Tryz.underlying66 (And.intro ag110 (And.intro sz110 (And.intro by110 (And.intro ze110 (And.intro Tryz.underlying110 (And.intro ag116 (And.intro sz116 (And.intro by116 (And.intro ze116 (And.intro Tryz.underlying116 (And.intro ag150 (And.intro sz150 (And.intro by150 (And.intro ze150 (And.intro Tryz.underlying150 (And.intro fa59_0 (And.intro fd59_0 (And.intro fa59_1 fd59_1))))))))))))))))))))))))))))))))))))))))))))))))))))))))))))))))))))))
def g64 : Code :=
 .seq (.region 0 #[q 2 (.assign (.const (.bool false))) 4] false) (.seq (.region 1 #[q 3 (.move (.tmp 0)) 5, q 4 (cl 93 #[.tmp 3] #[5]) 4, q 5 (.move (.tmp 4)) 4, qg 6 (.move (.tmp 0)) 5 2 false, qg 7 (cl 62 #[.tmp 6] #[5]) 4 2 false, q 8 (.pick (.tmp 5) (.const (.bool true)) (.tmp 7)) 4, q 9 (.move (.tmp 8)) 4, qg 10 (.move (.tmp 0)) 5 6 false, qg 11 (.binOp .eql 5 (.tmp 10) (.const (.int .u8 95)) 5) 4 6 false, q 12 (.pick (.tmp 9) (.const (.bool true)) (.tmp 11)) 4, q 2 (.assign (.tmp 12)) 4] false) .ret)
theorem s64 : Tryz.f64.body.map (slim cfg) = some g64 := by kernel_rfl
def g30 : Code :=
 .seq (.region 0 #[q 2 (.assign (.const (.bool false))) 4] false) (.seq (.region 1 #[q 3 (.move (.tmp 0)) 9, q 4 (.binOp .neq 9 (.tmp 3) (.const (.string { data := #[] })) 9) 4, q 5 (.move (.tmp 4)) 4, qg 6 (.move (.tmp 0)) 9 2 true, qg 7 (.index 9 (.tmp 6) (ik 0)) 5 2 true, qg 8 (cl 62 #[.tmp 7] #[5]) 4 2 true, qg 9 (.unOp .not 4 (.tmp 8)) 4 2 true, q 10 (.pick (.tmp 5) (.tmp 9) (.const (.bool false))) 4, q 11 (.move (.tmp 10)) 4, qg 12 (.move (.tmp 0)) 9 8 true, qg 13 (cl 63 #[.tmp 12, .func 64] #[9, 110]) 4 8 true, q 14 (.pick (.tmp 11) (.tmp 13) (.const (.bool false))) 4, q 2 (.assign (.tmp 14)) 4] false) .ret)
theorem s30 : Tryz.f30.body.map (slim cfg) = some g30 := by kernel_rfl
def g29 : Code :=
 .seq (.region 0 #[q 1 (.box 59 (.tmp 0)) 0, q 2 (.assign (.const (.bool false))) 4] false) (.seq (.region 1 #[q 3 (.fieldAddr 59 (.tmp 1) 0) 0, q 4 (.load 9 (.tmp 3)) 9, q 5 (cl 30 #[.tmp 4] #[9]) 4, q 6 (.unOp .not 4 (.tmp 5)) 4, q 7 (.move (.tmp 6)) 4, qg 8 (.fieldAddr 59 (.tmp 1) 1) 0 4 false, qg 9 (.load 9 (.tmp 8)) 9 4 false, qg 10 (.binOp .eql 9 (.tmp 9) (.const (.string { data := #[] })) 9) 4 4 false, q 11 (.pick (.tmp 7) (.const (.bool true)) (.tmp 10)) 4, q 12 (.move (.tmp 11)) 4, qg 13 (.fieldAddr 59 (.tmp 1) 1) 0 9 false, qg 14 (.load 9 (.tmp 13)) 9 9 false, qg 15 (cl 31 #[.tmp 14] #[9]) 4 9 false, qg 16 (.unOp .not 4 (.tmp 15)) 4 9 false, q 17 (.pick (.tmp 12) (.const (.bool true)) (.tmp 16)) 4, q 2 (.assign (.tmp 17)) 4] false) .ret)
theorem s29 : Tryz.f29.body.map (slim cfg) = some g29 := by kernel_rfl
def g61 : Code :=
 .seq (.region 0 #[q 4 (.assign (ik 0)) 3] false) (.seq (.seq (.region 1 #[q 6 (.move (.tmp 0)) 23, q 7 (bi .len #[.tmp 6] #[23]) 3, q 8 (.move (ik 0)) 3] false) (.block 0 (.loop (.seq (.region 2 #[q 9 (.binOp .lss 3 (.tmp 8) (.tmp 7) 3) 0] false) (.seq (.cond (.tmp 9) .skip (.exit 0)) (.seq (.block 1 (.seq (.region 3 #[q 10 (.move (.tmp 8)) 3, q 5 (.assign (.tmp 10)) 3] false) (.seq (.region 4 #[q 11 (.move (.tmp 1)) 62, q 12 (.move (.tmp 0)) 23, q 13 (.move (.tmp 5)) 3, q 14 (.indexAddr 23 (.tmp 12) (.tmp 13)) 0, q 15 (.load 59 (.tmp 14)) 59, q 16 (cv (.tmp 11) #[.tmp 15] #[59]) 4] false) (.cond (.tmp 16) (.seq (.region 5 #[q 17 (.move (.tmp 5)) 3, q 4 (.assign (.tmp 17)) 3] false) .ret) .skip)))) (.region 6 #[q 18 (.binOp .add 3 (.tmp 8) (ik 1) 3) 3, q 8 (.move (.tmp 18)) 3] false))))))) (.seq (.region 7 #[q 4 (.assign (ik (-1))) 3] false) .ret))
theorem s61 : Tryz.f61.body.map (slim cfg) = some g61 := by kernel_rfl
def g28 : Code :=
 .seq (.region 0 #[q 4 (.assign (.const (.bool false))) 4] false) (.seq (.region 1 #[q 5 (.move (.tmp 0)) 23, q 6 (.move (.tmp 1)) 62, q 7 (cl 61 #[.tmp 5, .tmp 6] #[23, 62]) 3, q 8 (.binOp .geq 3 (.tmp 7) (ik 0) 3) 4, q 4 (.assign (.tmp 8)) 4] false) .ret)
theorem s28 : Tryz.f28.body.map (slim cfg) = some g28 := by kernel_rfl
def g32 : Code :=
 .seq (.region 0 #[q 2 (.assign (.const (.slice none 0 0))) 23] false) (.seq (.seq (.region 1 #[q 3 (.move (.tmp 0)) 23, q 4 (.binOp .eql 23 (.tmp 3) (.const (.slice none 0 0)) 23) 4] false) (.cond (.tmp 4) (.seq (.region 2 #[q 2 (.assign (.const (.slice none 0 0))) 23] false) .ret) .skip)) (.seq (.region 3 #[q 5 (.buildSlice 23 0 #[]) 23, q 6 (.move (.tmp 0)) 23, q 7 (bi .append #[.tmp 5, .tmp 6] #[23, 23]) 23, q 2 (.assign (.tmp 7)) 23] false) .ret))
theorem s32 : Tryz.f32.body.map (slim cfg) = some g32 := by kernel_rfl
def g68 : Code :=
 .seq (.region 0 #[q 2 (.assign (.const (.bool false))) 4] false) (.seq (.region 1 #[q 3 (.move (.tmp 0)) 9, q 4 (.move (.tmp 0)) 9, q 5 (.binOp .neq 9 (.tmp 3) (.tmp 4) 9) 4, q 2 (.assign (.tmp 5)) 4] false) .ret)
theorem s68 : Tryz.f68.body.map (slim cfg) = some g68 := by kernel_rfl
def g35 : Code :=
 .seq (.region 0 #[q 4 (.assign (ik 0)) 3] false) (.seq (.region 1 #[q 7 (.move (.tmp 0)) 9, q 8 (cl 68 #[.tmp 7] #[9]) 4, q 5 (.assign (.tmp 8)) 4] false) (.seq (.region 2 #[q 9 (.move (.tmp 1)) 9, q 10 (cl 68 #[.tmp 9] #[9]) 4, q 6 (.assign (.tmp 10)) 4] false) (.seq (.seq (.region 3 #[q 11 (.move (.tmp 5)) 4] false) (.cond (.tmp 11) (.seq (.seq (.region 4 #[q 12 (.move (.tmp 6)) 4] false) (.cond (.tmp 12) (.seq (.region 5 #[q 4 (.assign (ik 0)) 3] false) .ret) .skip)) (.seq (.region 6 #[q 4 (.assign (ik (-1))) 3] false) .ret)) .skip)) (.seq (.seq (.region 7 #[q 13 (.move (.tmp 6)) 4] false) (.cond (.tmp 13) (.seq (.region 8 #[q 4 (.assign (ik 1)) 3] false) .ret) .skip)) (.seq (.seq (.region 9 #[q 14 (.move (.tmp 0)) 9, q 15 (.move (.tmp 1)) 9, q 16 (.binOp .lss 9 (.tmp 14) (.tmp 15) 9) 4] false) (.cond (.tmp 16) (.seq (.region 10 #[q 4 (.assign (ik (-1))) 3] false) .ret) .skip)) (.seq (.seq (.region 11 #[q 17 (.move (.tmp 0)) 9, q 18 (.move (.tmp 1)) 9, q 19 (.binOp .gtr 9 (.tmp 17) (.tmp 18) 9) 4] false) (.cond (.tmp 19) (.seq (.region 12 #[q 4 (.assign (ik 1)) 3] false) .ret) .skip)) (.seq (.region 13 #[q 4 (.assign (ik 0)) 3] false) .ret)))))))
theorem s35 : Tryz.f35.body.map (slim cfg) = some g35 := by kernel_rfl
def g34 : Code :=
 .seq (.region 0 #[q 2 (.box 59 (.tmp 0)) 0, q 3 (.box 59 (.tmp 1)) 0, q 4 (.assign (ik 0)) 3] false) (.seq (.region 1 #[q 5 (.fieldAddr 59 (.tmp 2) 0) 0, q 6 (.load 9 (.tmp 5)) 9, q 7 (.fieldAddr 59 (.tmp 3) 0) 0, q 8 (.load 9 (.tmp 7)) 9, q 9 (cl 35 #[.tmp 6, .tmp 8] #[9, 9]) 3, q 4 (.assign (.tmp 9)) 3] false) .ret)
theorem s34 : Tryz.f34.body.map (slim cfg) = some g34 := by kernel_rfl
def g95 : Code :=
 .seq (.region 0 #[q 10 (.move (.tmp 1)) 3, q 11 (.binOp .add 3 (.tmp 10) (ik 1) 3) 3, q 8 (.assign (.tmp 11)) 3] false) (.block 0 (.loop (.seq (.seq (.region 1 #[q 12 (.move (.tmp 8)) 3, q 13 (.move (.tmp 2)) 3, q 14 (.binOp .lss 3 (.tmp 12) (.tmp 13) 3) 4] false) (.cond (.tmp 14) .skip (.exit 0))) (.seq (.block 1 (.seq (.region 3 #[q 17 (.move (.tmp 8)) 3, q 9 (.assign (.tmp 17)) 3] false) (.block 2 (.loop (.seq (.seq (.region 4 #[q 18 (.move (.tmp 9)) 3, q 19 (.move (.tmp 1)) 3, q 20 (.binOp .gtr 3 (.tmp 18) (.tmp 19) 3) 4, q 21 (.move (.tmp 20)) 4, qg 22 (.move (.tmp 3)) 66 3 true, qg 23 (.move (.tmp 0)) 23 3 true, qg 24 (.move (.tmp 9)) 3 3 true, qg 25 (.indexAddr 23 (.tmp 23) (.tmp 24)) 0 3 true, qg 26 (.load 59 (.tmp 25)) 59 3 true, qg 27 (.move (.tmp 0)) 23 3 true, qg 28 (.move (.tmp 9)) 3 3 true, qg 29 (.binOp .sub 3 (.tmp 28) (ik 1) 3) 3 3 true, qg 30 (.indexAddr 23 (.tmp 27) (.tmp 29)) 0 3 true, qg 31 (.load 59 (.tmp 30)) 59 3 true, qg 32 (cv (.tmp 22) #[.tmp 26, .tmp 31] #[59, 59]) 3 3 true, qg 33 (.binOp .lss 3 (.tmp 32) (ik 0) 3) 4 3 true, q 34 (.pick (.tmp 21) (.tmp 33) (.const (.bool false))) 4] false) (.cond (.tmp 34) .skip (.exit 2))) (.seq (.block 3 (.region 6 #[q 37 (.move (.tmp 0)) 23, q 38 (.move (.tmp 9)) 3, q 39 (.move (.tmp 0)) 23, q 40 (.move (.tmp 9)) 3, q 41 (.binOp .sub 3 (.tmp 40) (ik 1) 3) 3, q 42 (.move (.tmp 0)) 23, q 43 (.move (.tmp 9)) 3, q 44 (.binOp .sub 3 (.tmp 43) (ik 1) 3) 3, q 45 (.indexAddr 23 (.tmp 42) (.tmp 44)) 0, q 46 (.load 59 (.tmp 45)) 59, q 47 (.move (.tmp 0)) 23, q 48 (.move (.tmp 9)) 3, q 49 (.indexAddr 23 (.tmp 47) (.tmp 48)) 0, q 50 (.load 59 (.tmp 49)) 59, q 51 (.indexAddr 23 (.tmp 37) (.tmp 38)) 0, qn (.store 59 (.tmp 51) (.tmp 46)) 0, q 52 (.indexAddr 23 (.tmp 39) (.tmp 41)) 0, qn (.store 59 (.tmp 52) (.tmp 50)) 0] false)) (.region 5 #[q 35 (.move (.tmp 9)) 3, q 36 (.binOp .sub 3 (.tmp 35) (ik 1) 3) 3, q 9 (.assign (.tmp 36)) 3] false))))))) (.region 2 #[q 15 (.move (.tmp 8)) 3, q 16 (.binOp .add 3 (.tmp 15) (ik 1) 3) 3, q 8 (.assign (.tmp 16)) 3] false)))))
theorem s95 : Tryz.f95.body.map (slim cfg) = some g95 := by kernel_rfl
def g66 : Code :=
 .seq (.region 0 #[q 10 (.assign (.const (.bool true))) 4] false) (.seq (.region 1 #[q 11 (.assign (.const (.bool true))) 4] false) (.block 0 (.loop (.block 1 (.seq (.region 2 #[q 21 (.move (.tmp 2)) 3, q 22 (.move (.tmp 1)) 3, q 23 (.binOp .sub 3 (.tmp 21) (.tmp 22) 3) 3, q 12 (.assign (.tmp 23)) 3] false) (.seq (.seq (.region 3 #[q 24 (.move (.tmp 12)) 3, q 25 (.binOp .leq 3 (.tmp 24) (ik 12) 3) 4] false) (.cond (.tmp 25) (.seq (.region 4 #[q 26 (.move (.tmp 0)) 23, q 27 (.move (.tmp 1)) 3, q 28 (.move (.tmp 2)) 3, q 29 (.move (.tmp 4)) 66, q 30 (cl 95 #[.tmp 26, .tmp 27, .tmp 28, .tmp 29] #[23, 3, 3, 66]) 0] false) .ret) .skip)) (.seq (.seq (.region 5 #[q 31 (.move (.tmp 3)) 3, q 32 (.binOp .eql 3 (.tmp 31) (ik 0) 3) 4] false) (.cond (.tmp 32) (.seq (.region 6 #[q 33 (.move (.tmp 0)) 23, q 34 (.move (.tmp 1)) 3, q 35 (.move (.tmp 2)) 3, q 36 (.move (.tmp 4)) 66, q 37 (cl 96 #[.tmp 33, .tmp 34, .tmp 35, .tmp 36] #[23, 3, 3, 66]) 0] false) .ret) .skip)) (.seq (.seq (.region 7 #[q 38 (.move (.tmp 10)) 4, q 39 (.unOp .not 4 (.tmp 38)) 4] false) (.cond (.tmp 39) (.seq (.region 8 #[q 40 (.move (.tmp 0)) 23, q 41 (.move (.tmp 1)) 3, q 42 (.move (.tmp 2)) 3, q 43 (.move (.tmp 4)) 66, q 44 (cl 97 #[.tmp 40, .tmp 41, .tmp 42, .tmp 43] #[23, 3, 3, 66]) 0] false) (.region 9 #[q 45 (.move (.tmp 3)) 3, q 46 (.binOp .sub 3 (.tmp 45) (ik 1) 3) 3, q 3 (.assign (.tmp 46)) 3] false)) .skip)) (.seq (.region 10 #[q 48 (.move (.tmp 0)) 23, q 49 (.move (.tmp 1)) 3, q 50 (.move (.tmp 2)) 3, q 51 (.move (.tmp 4)) 66, q 52 (cl 98 #[.tmp 48, .tmp 49, .tmp 50, .tmp 51] #[23, 3, 3, 66]) 151, q 47 (.move (.tmp 52)) 151, q 53 (.extract (.tmp 47) 0) 3, q 54 (.extract (.tmp 47) 1) 150, q 13 (.assign (.tmp 53)) 3, q 14 (.assign (.tmp 54)) 150] false) (.seq (.seq (.region 11 #[q 55 (.move (.tmp 14)) 150, q 56 (.binOp .eql 150 (.tmp 55) (ik 2) 150) 4] false) (.cond (.tmp 56) (.seq (.region 12 #[q 57 (.move (.tmp 0)) 23, q 58 (.move (.tmp 1)) 3, q 59 (.move (.tmp 2)) 3, q 60 (.move (.tmp 4)) 66, q 61 (cl 99 #[.tmp 57, .tmp 58, .tmp 59, .tmp 60] #[23, 3, 3, 66]) 0] false) (.seq (.region 13 #[q 62 (.move (.tmp 2)) 3, q 63 (.binOp .sub 3 (.tmp 62) (ik 1) 3) 3, q 64 (.move (.tmp 13)) 3, q 65 (.move (.tmp 1)) 3, q 66 (.binOp .sub 3 (.tmp 64) (.tmp 65) 3) 3, q 67 (.binOp .sub 3 (.tmp 63) (.tmp 66) 3) 3, q 13 (.assign (.tmp 67)) 3] false) (.region 14 #[q 14 (.assign (ik 1)) 150] false))) .skip)) (.seq (.seq (.region 15 #[q 68 (.move (.tmp 10)) 4, q 69 (.move (.tmp 68)) 4, qg 70 (.move (.tmp 11)) 4 1 true, q 71 (.pick (.tmp 69) (.tmp 70) (.const (.bool false))) 4, q 72 (.move (.tmp 71)) 4, qg 73 (.move (.tmp 14)) 150 4 true, qg 74 (.binOp .eql 150 (.tmp 73) (ik 1) 150) 4 4 true, q 75 (.pick (.tmp 72) (.tmp 74) (.const (.bool false))) 4] false) (.cond (.tmp 75) (.seq (.region 16 #[q 76 (.move (.tmp 0)) 23, q 77 (.move (.tmp 1)) 3, q 78 (.move (.tmp 2)) 3, q 79 (.move (.tmp 4)) 66, q 80 (cl 100 #[.tmp 76, .tmp 77, .tmp 78, .tmp 79] #[23, 3, 3, 66]) 4] false) (.cond (.tmp 80) .ret .skip)) .skip)) (.seq (.seq (.region 17 #[q 81 (.move (.tmp 1)) 3, q 82 (.binOp .gtr 3 (.tmp 81) (ik 0) 3) 4, q 83 (.move (.tmp 82)) 4, qg 84 (.move (.tmp 4)) 66 2 true, qg 85 (.move (.tmp 0)) 23 2 true, qg 86 (.move (.tmp 1)) 3 2 true, qg 87 (.binOp .sub 3 (.tmp 86) (ik 1) 3) 3 2 true, qg 88 (.indexAddr 23 (.tmp 85) (.tmp 87)) 0 2 true, qg 89 (.load 59 (.tmp 88)) 59 2 true, qg 90 (.move (.tmp 0)) 23 2 true, qg 91 (.move (.tmp 13)) 3 2 true, qg 92 (.indexAddr 23 (.tmp 90) (.tmp 91)) 0 2 true, qg 93 (.load 59 (.tmp 92)) 59 2 true, qg 94 (cv (.tmp 84) #[.tmp 89, .tmp 93] #[59, 59]) 3 2 true, qg 95 (.binOp .lss 3 (.tmp 94) (ik 0) 3) 4 2 true, qg 96 (.unOp .not 4 (.tmp 95)) 4 2 true, q 97 (.pick (.tmp 83) (.tmp 96) (.const (.bool false))) 4] false) (.cond (.tmp 97) (.seq (.region 18 #[q 98 (.move (.tmp 0)) 23, q 99 (.move (.tmp 1)) 3, q 100 (.move (.tmp 2)) 3, q 101 (.move (.tmp 13)) 3, q 102 (.move (.tmp 4)) 66, q 103 (cl 101 #[.tmp 98, .tmp 99, .tmp 100, .tmp 101, .tmp 102] #[23, 3, 3, 3, 66]) 3, q 15 (.assign (.tmp 103)) 3] false) (.seq (.region 19 #[q 104 (.move (.tmp 15)) 3, q 1 (.assign (.tmp 104)) 3] false) (.exit 1))) .skip)) (.seq (.region 20 #[q 106 (.move (.tmp 0)) 23, q 107 (.move (.tmp 1)) 3, q 108 (.move (.tmp 2)) 3, q 109 (.move (.tmp 13)) 3, q 110 (.move (.tmp 4)) 66, q 111 (cl 102 #[.tmp 106, .tmp 107, .tmp 108, .tmp 109, .tmp 110] #[23, 3, 3, 3, 66]) 155, q 105 (.move (.tmp 111)) 155, q 112 (.extract (.tmp 105) 0) 3, q 113 (.extract (.tmp 105) 1) 4, q 16 (.assign (.tmp 112)) 3, q 17 (.assign (.tmp 113)) 4] false) (.seq (.region 21 #[q 114 (.move (.tmp 17)) 4, q 11 (.assign (.tmp 114)) 4] false) (.seq (.region 22 #[q 115 (.move (.tmp 16)) 3, q 116 (.move (.tmp 1)) 3, q 117 (.binOp .sub 3 (.tmp 115) (.tmp 116) 3) 3, q 118 (.move (.tmp 2)) 3, q 119 (.move (.tmp 16)) 3, q 120 (.binOp .sub 3 (.tmp 118) (.tmp 119) 3) 3, q 18 (.assign (.tmp 117)) 3, q 19 (.assign (.tmp 120)) 3] false) (.seq (.region 23 #[q 121 (.move (.tmp 12)) 3, q 122 (.binOp .quo 3 (.tmp 121) (ik 8) 3) 3, q 20 (.assign (.tmp 122)) 3] false) (.seq (.region 24 #[q 123 (.move (.tmp 18)) 3, q 124 (.move (.tmp 19)) 3, q 125 (.binOp .lss 3 (.tmp 123) (.tmp 124) 3) 4] false) (.cond (.tmp 125) (.seq (.region 25 #[q 126 (.move (.tmp 18)) 3, q 127 (.move (.tmp 20)) 3, q 128 (.binOp .geq 3 (.tmp 126) (.tmp 127) 3) 4, q 10 (.assign (.tmp 128)) 4] false) (.seq (.region 26 #[q 129 (.move (.tmp 0)) 23, q 130 (.move (.tmp 1)) 3, q 131 (.move (.tmp 16)) 3, q 132 (.move (.tmp 3)) 3, q 133 (.move (.tmp 4)) 66, q 134 (cl 66 #[.tmp 129, .tmp 130, .tmp 131, .tmp 132, .tmp 133] #[23, 3, 3, 3, 66]) 0] false) (.region 27 #[q 135 (.move (.tmp 16)) 3, q 136 (.binOp .add 3 (.tmp 135) (ik 1) 3) 3, q 1 (.assign (.tmp 136)) 3] false))) (.seq (.region 28 #[q 137 (.move (.tmp 19)) 3, q 138 (.move (.tmp 20)) 3, q 139 (.binOp .geq 3 (.tmp 137) (.tmp 138) 3) 4, q 10 (.assign (.tmp 139)) 4] false) (.seq (.region 29 #[q 140 (.move (.tmp 0)) 23, q 141 (.move (.tmp 16)) 3, q 142 (.binOp .add 3 (.tmp 141) (ik 1) 3) 3, q 143 (.move (.tmp 2)) 3, q 144 (.move (.tmp 3)) 3, q 145 (.move (.tmp 4)) 66, q 146 (cl 66 #[.tmp 140, .tmp 142, .tmp 143, .tmp 144, .tmp 145] #[23, 3, 3, 3, 66]) 0] false) (.region 30 #[q 147 (.move (.tmp 16)) 3, q 2 (.assign (.tmp 147)) 3] false)))))))))))))))))))))
theorem s66 : Tryz.f66.body.map (slim cfg) = some g66 := by kernel_rfl
def g33 : Code :=
 .seq (.region 0 #[q 5 (.move (.tmp 0)) 23, q 6 (bi .len #[.tmp 5] #[23]) 3, q 4 (.assign (.tmp 6)) 3] false) (.region 1 #[q 7 (.move (.tmp 0)) 23, q 8 (.move (.tmp 4)) 3, q 9 (.move (.tmp 4)) 3, q 10 (.convert 3 116 (.tmp 9)) 116, q 11 (cl 67 #[.tmp 10] #[116]) 3, q 12 (.move (.tmp 1)) 66, q 13 (cl 66 #[.tmp 7, ik 0, .tmp 8, .tmp 11, .tmp 12] #[23, 3, 3, 3, 66]) 0] false)
theorem s33 : Tryz.f33.body.map (slim cfg) = some g33 := by kernel_rfl
def g8 : Code :=
 .seq (.region 0 #[q 2 (.alloc 27) 0, q 3 (.assign (ik 0)) 28] false) (.seq (.seq (.region 1 #[q 6 (.move (.tmp 0)) 23, q 7 (cl 28 #[.tmp 6, .func 29] #[23, 62]) 4] false) (.cond (.tmp 7) (.seq (.region 2 #[q 8 (.build 27 #[]) 27, qn (.store 27 (.tmp 2) (.tmp 8)) 0, q 3 (.assign (ik 3)) 28] false) .ret) .skip)) (.seq (.region 3 #[q 9 (.move (.tmp 0)) 23, q 10 (cl 32 #[.tmp 9] #[23]) 23, q 4 (.assign (.tmp 10)) 23] false) (.seq (.region 4 #[q 11 (.move (.tmp 4)) 23, q 12 (cl 33 #[.tmp 11, .func 34] #[23, 66]) 0] false) (.seq (.seq (.region 5 #[q 5 (.assign (ik 1)) 3] false) (.block 0 (.loop (.seq (.seq (.region 6 #[q 13 (.move (.tmp 5)) 3, q 14 (.move (.tmp 4)) 23, q 15 (bi .len #[.tmp 14] #[23]) 3, q 16 (.binOp .lss 3 (.tmp 13) (.tmp 15) 3) 4] false) (.cond (.tmp 16) .skip (.exit 0))) (.seq (.block 1 (.seq (.region 8 #[q 19 (.move (.tmp 4)) 23, q 20 (.move (.tmp 5)) 3, q 21 (.indexAddr 23 (.tmp 19) (.tmp 20)) 0, q 22 (.fieldAddr 59 (.tmp 21) 0) 0, q 23 (.load 9 (.tmp 22)) 9, q 24 (.move (.tmp 4)) 23, q 25 (.move (.tmp 5)) 3, q 26 (.binOp .sub 3 (.tmp 25) (ik 1) 3) 3, q 27 (.indexAddr 23 (.tmp 24) (.tmp 26)) 0, q 28 (.fieldAddr 59 (.tmp 27) 0) 0, q 29 (.load 9 (.tmp 28)) 9, q 30 (.binOp .eql 9 (.tmp 23) (.tmp 29) 9) 4] false) (.cond (.tmp 30) (.seq (.region 9 #[q 31 (.build 27 #[]) 27, qn (.store 27 (.tmp 2) (.tmp 31)) 0, q 3 (.assign (ik 10)) 28] false) .ret) .skip))) (.region 7 #[q 17 (.move (.tmp 5)) 3, q 18 (.binOp .add 3 (.tmp 17) (ik 1) 3) 3, q 5 (.assign (.tmp 18)) 3] false)))))) (.seq (.region 10 #[q 32 (.move (.tmp 4)) 23, q 33 (.build 27 #[(0, .tmp 32)]) 27, qn (.store 27 (.tmp 2) (.tmp 33)) 0, q 3 (.assign (ik 0)) 28] false) .ret)))))
theorem s8 : Tryz.f8.body.map (slim cfg) = some g8 := by kernel_rfl
def inNameC (c : Int) : Bool := letterC c || digitC c || decide (c = 95)
theorem inName_ok (c : Int) (prot : Nat) (H : Heap) (hp : prot ≤ H.length) : aLim cfg prot 64 [.int .u8 c] H = some (.bool (inNameC c), none) := by
 have hsnap : snap H [.int .u8 c] = some ([.int .u8 c], false) := rfl
 have n1 := letter_ok c H.length H (Nat.le_refl _)
 have n2 := digit_ok c H.length H (Nat.le_refl _)
 unfold inNameC
 refine pure_slim rfl (by kernel_rfl) Tryz.func64 s64 hp hsnap (by simp [Tryz.f64]) fun fr hlen h => ?_
 simp only [Has, Nat.zero_add] at h
 obtain ⟨a0, -⟩ := h
 simp only [Tryz.f64] at hlen ⊢
 unfold g64
 generalize letterC c = g at *
 generalize digitC c = d at *
 cases g with
 | true =>
   simp only [w9, AV.cells, AV.leaf, reduceEqDiff, reduceLT, reduceAdd, reduceLeDiff, reduceCtorEq, reduceMul, reduceMod, u64, hlen, a0, n1, none_beq]
   simp only [Bool.true_or]
   exact Fin_pure (l := [.bool true]) (by simp [w9, AV.cells, AV.leaf, reduceEqDiff, reduceLT, reduceAdd, reduceLeDiff, reduceCtorEq, reduceMul, reduceMod, u64, aResults, aResult, hlen]) (.still rfl) (by simp)
 | false =>
   cases d with
   | true =>
     simp only [w9, AV.cells, AV.leaf, reduceEqDiff, reduceLT, reduceAdd, reduceLeDiff, reduceCtorEq, reduceMul, reduceMod, u64, hlen, a0, n1, n2, none_beq]
     simp only [Bool.true_or, Bool.false_or]
     exact Fin_pure (l := [.bool true]) (by simp [w9, AV.cells, AV.leaf, reduceEqDiff, reduceLT, reduceAdd, reduceLeDiff, reduceCtorEq, reduceMul, reduceMod, u64, aResults, aResult, hlen]) (.still rfl) (by simp)
   | false =>
     simp only [w9, AV.cells, AV.leaf, reduceEqDiff, reduceLT, reduceAdd, reduceLeDiff, reduceCtorEq, reduceMul, reduceMod, u64, hlen, a0, n1, n2, none_beq]
     simp only [Bool.false_or]
     exact Fin_pure (l := [.bool (decide (c = 95))]) (by simp [w9, AV.cells, AV.leaf, reduceEqDiff, reduceLT, reduceAdd, reduceLeDiff, reduceCtorEq, reduceMul, reduceMod, u64, aResults, aResult, hlen]) (.still rfl) (by simp)
theorem all_inName_ok (s : List UInt8) (hl : s.length ≤ 9223372036854775807) (prot : Nat) (H : Heap) (hp : prot ≤ H.length) :
   aLim cfg prot 63 [.str s, .func 64 [] []] H = some (.bool (s.all fun c => inNameC c.toNat), none) := by
 have hsnap : snap H [.str s, .func 64 [] []] = some ([.str s, .func 64 [] []], false) := rfl
 have fnn : ∀ (K : Heap) (xo yo : Operand), aBinH Tryz.prog K .neq 110 xo yo (.func 64 [] []) .nilF = some (.bool true) := fun K xo yo => by simp [aBinH, aBin, aNilNe, Tryz.underlying110]
 have hsl : ∀ K, aLen Tryz.prog K 9 (.str s) = some (.int .i64 s.length) := fun K => by simp [aLen, Tryz.underlying9]
 refine pure_slim rfl (by kernel_rfl) Tryz.func63 s63 hp hsnap (by simp [Tryz.f63]) fun fr hlen h => ?_
 simp only [Has, Nat.zero_add] at h
 obtain ⟨a0, a1, -⟩ := h
 simp only [Tryz.f63] at hlen ⊢
 unfold g63
 simp only [w9, AV.cells, AV.leaf, reduceEqDiff, reduceLT, reduceAdd, reduceLeDiff, reduceCtorEq, reduceMul, reduceMod, u63, hlen, a0, a1]
 refine loop_rule (fun m fr H' => ∃ (i : Nat), m = s.length - i ∧ i ≤ s.length ∧ fr.length = 24 ∧ fget fr 0 = .str s ∧ fget fr 1 = .func 64 [] [] ∧ fget fr 5 = .int .i64 i ∧ H' = H
   ∧ (s.all fun c => inNameC c.toNat) = ((s.drop i).all fun c => inNameC c.toNat)) ?_ s.length _ _ ⟨0, by simp [w9, AV.cells, AV.leaf, reduceEqDiff, reduceLT, reduceAdd, reduceLeDiff, reduceCtorEq, reduceMul, reduceMod, u63, hlen, a0, a1]⟩
 rintro m fr H' ⟨i, rfl, hi, hlen, a0, a1, a5, hHe, hc⟩ ih
 subst hHe
 simp only [w9, AV.cells, AV.leaf, reduceEqDiff, reduceLT, reduceAdd, reduceLeDiff, reduceCtorEq, reduceMul, reduceMod, u63, hlen, a0, a1, a5, fnn, hsl]
 refine RC_split (fun h => ?_) (fun h => ?_)
 · have hlt : i < s.length := by simpa using h
   have hw : IntKind.i64.wrap ((i : Int) + 1) = ((i + 1 : Nat) : Int) := by rw [wrap64 (by omega) (by omega)]; simp
   have e1 : aIndex Tryz.prog 9 (.str s) (.int .i64 i) = some (.int .u8 (s[i].toNat : Int)) := by simp [aIndex, asNat, Tryz.underlying9, hlt]
   have hd : s.drop i = s[i] :: s.drop (i + 1) := by simp
   rw [hd, List.all_cons] at hc
   generalize s[i] = x at *
   have n1 := inName_ok (x.toNat : Int) H'.length H' (Nat.le_refl _)
   cases hx : inNameC (x.toNat : Int) with
   | true =>
     rw [hx] at n1 hc
     simp only [w9, AV.cells, AV.leaf, reduceEqDiff, reduceLT, reduceAdd, reduceLeDiff, reduceCtorEq, reduceMul, reduceMod, u63, hlen, a0, a1, a5, e1, n1, hw]
     refine ih _ _ (s.length - (i + 1)) (by omega) ⟨i + 1, rfl, hlt, ?_⟩
     rw [hc]
     simp [w9, AV.cells, AV.leaf, reduceEqDiff, reduceLT, reduceAdd, reduceLeDiff, reduceCtorEq, reduceMul, reduceMod, u63, hlen, a0, a1]
   | false =>
     rw [hx] at n1 hc
     simp only [w9, AV.cells, AV.leaf, reduceEqDiff, reduceLT, reduceAdd, reduceLeDiff, reduceCtorEq, reduceMul, reduceMod, u63, hlen, a0, a1, a5, e1, n1]
     rw [hc]
     simp only [Bool.false_and]
     exact Fin_pure (l := [.bool false]) (by simp [w9, AV.cells, AV.leaf, reduceEqDiff, reduceLT, reduceAdd, reduceLeDiff, reduceCtorEq, reduceMul, reduceMod, u63, aResults, aResult, hlen]) (.still rfl) (by simp)
 · have hnl : ¬ i < s.length := by simpa using h
   have hd : s.drop i = [] := by simp; omega
   rw [hd] at hc
   rw [hc]
   simp only [w9, AV.cells, AV.leaf, reduceEqDiff, reduceLT, reduceAdd, reduceLeDiff, reduceCtorEq, reduceMul, reduceMod, u63, hlen, a0, a1, fnn, List.all_nil]
   exact Fin_pure (l := [.bool true]) (by simp [w9, AV.cells, AV.leaf, reduceEqDiff, reduceLT, reduceAdd, reduceLeDiff, reduceCtorEq, reduceMul, reduceMod, u63, aResults, aResult, hlen]) (.still rfl) (by simp)
def nameL (s : List UInt8) : Bool := match s with | [] => false | c :: _ => !(digitC c.toNat) && s.all fun c => inNameC c.toNat
theorem name_ok (s : List UInt8) (hl : s.length ≤ 9223372036854775807) (prot : Nat) (H : Heap) (hp : prot ≤ H.length) : aLim cfg prot 30 [.str s] H = some (.bool (nameL s), none) := by
 have hsnap : snap H [.str s] = some ([.str s], false) := rfl
 have n2 := all_inName_ok s hl H.length H (Nat.le_refl _)
 refine pure_slim rfl (by kernel_rfl) Tryz.func30 s30 hp hsnap (by simp [Tryz.f30]) fun fr hlen h => ?_
 simp only [Has, Nat.zero_add] at h
 obtain ⟨a0, -⟩ := h
 simp only [Tryz.f30] at hlen ⊢
 unfold g30
 cases s with
 | nil =>
   have e0 : aStr .neq [] [] = some (.bool false) := rfl
   simp only [w9, AV.cells, AV.leaf, reduceEqDiff, reduceLT, reduceAdd, reduceLeDiff, reduceCtorEq, reduceMul, reduceMod, u64, hlen, a0, e0, none_beq]
   exact Fin_pure (l := [.bool false]) (by simp [w9, AV.cells, AV.leaf, reduceEqDiff, reduceLT, reduceAdd, reduceLeDiff, reduceCtorEq, reduceMul, reduceMod, u64, aResults, aResult, hlen]) (.still rfl) (by simp)
 | cons c r =>
   have n1 := digit_ok (c.toNat : Int) H.length H (Nat.le_refl _)
   have e0 : aStr .neq (c :: r) [] = some (.bool true) := by simp [aStr]
   have e1 : aIndex Tryz.prog 9 (.str (c :: r)) (.int .i64 0) = some (.int .u8 (c.toNat : Int)) := by simp [aIndex, asNat, Tryz.underlying9]
   simp only [nameL]
   generalize ((c :: r).all fun c => inNameC c.toNat) = q at *
   cases hx : digitC (c.toNat : Int) with
   | true =>
     rw [hx] at n1
     simp only [w9, AV.cells, AV.leaf, reduceEqDiff, reduceLT, reduceAdd, reduceLeDiff, reduceCtorEq, reduceMul, reduceMod, u64, hlen, a0, e0, e1, n1, none_beq]
     simp only [Bool.not_true, Bool.false_and]
     exact Fin_pure (l := [.bool false]) (by simp [w9, AV.cells, AV.leaf, reduceEqDiff, reduceLT, reduceAdd, reduceLeDiff, reduceCtorEq, reduceMul, reduceMod, u64, aResults, aResult, hlen]) (.still rfl) (by simp)
   | false =>
     rw [hx] at n1
     simp only [w9, AV.cells, AV.leaf, reduceEqDiff, reduceLT, reduceAdd, reduceLeDiff, reduceCtorEq, reduceMul, reduceMod, u64, hlen, a0, e0, e1, n1, n2]
     simp only [Bool.not_false, Bool.true_and]
     exact Fin_pure (l := [.bool q]) (by simp [w9, AV.cells, AV.leaf, reduceEqDiff, reduceLT, reduceAdd, reduceLeDiff, reduceCtorEq, reduceMul, reduceMod, u64, aResults, aResult, hlen]) (.still rfl) (by simp)
structure Pr where
 name : List UInt8
 val : List UInt8
def encP (x : Pr) : AV := .agg [.str x.name, .str x.val]
theorem encP_len (x : Pr) : (encP x).cells.length = 2 := rfl
theorem encP_T : EncT encP 2 true where
 len _ := rfl
 leaf x c hc := by simp [encP, AV.cells] at hc; rcases hc with rfl | rfl <;> rfl
 still x c hc := by simp [encP, AV.cells] at hc; rcases hc with rfl | rfl <;> rfl
 shape _ := rfl
theorem rowPr : RowT Tryz.prog 23 59 2 32 true where
 un := Tryz.underlying23
 size := sz59
 bytes := by59
 agg := ag59
 zero := ⟨_, ze59, rfl⟩
 pos := by decide
 tree := rfl
theorem litPr0 (H : Heap) : aBuildSlice Tryz.prog H 23 0 [] = some (.vs [] true, none) := lit0 rowPr ze59 rfl
theorem hxtPr : (∃ e', Tryz.prog.underlying 23 = some (.slice e')) ∨ Tryz.prog.underlying 23 = some .string := .inl ⟨_, Tryz.underlying23⟩
def badP (x : Pr) : Bool := !(nameL x.name) || (x.val == [] || !(validU x.val))
theorem of1_ok (x : Pr) (h1 : x.name.length ≤ 9223372036854775807) (h2 : x.val.length ≤ 9223372036854775807) (prot : Nat) (H : Heap) (hp : prot ≤ H.length) : aLim cfg prot 29 [encP x] H = some (.bool (badP x), none) := by
 have hsnap : snap H [encP x] = some ([encP x], false) := rfl
 have n1 := fun (K : Heap) (hK : H.length ≤ K.length) => name_ok x.name h1 H.length K hK
 have n2 := fun (K : Heap) (hK : H.length ≤ K.length) => valid_ok x.val h2 H.length K hK
 unfold badP
 have e0 : aStr .eql x.val [] = some (.bool (x.val == [])) := rfl
 refine pure_slim rfl (by kernel_rfl) Tryz.func29 s29 hp hsnap (by simp [Tryz.f29]) fun fr hlen h => ?_
 simp only [Has, Nat.zero_add] at h
 obtain ⟨a0, -⟩ := h
 simp only [Tryz.f29] at hlen ⊢
 unfold g29
 cases hn : nameL x.name with
 | false =>
   rw [hn] at n1
   simp only [w9, AV.cells, AV.leaf, reduceEqDiff, reduceLT, reduceAdd, reduceLeDiff, reduceCtorEq, reduceMul, reduceMod, u64, hlen, a0, encP, n1, none_beq]
   simp only [Bool.not_false, Bool.true_or]
   exact Fin_pure (l := [.bool true]) (by simp [w9, AV.cells, AV.leaf, reduceEqDiff, reduceLT, reduceAdd, reduceLeDiff, reduceCtorEq, reduceMul, reduceMod, u64, aResults, aResult, hlen]) (.still rfl) (by simp)
 | true =>
   rw [hn] at n1
   simp only [Bool.not_true, Bool.false_or]
   cases hv : x.val == [] with
   | true =>
     rw [hv] at e0
     simp only [w9, AV.cells, AV.leaf, reduceEqDiff, reduceLT, reduceAdd, reduceLeDiff, reduceCtorEq, reduceMul, reduceMod, u64, hlen, a0, encP, n1, e0, none_beq]
     simp only [Bool.true_or]
     exact Fin_pure (l := [.bool true]) (by simp [w9, AV.cells, AV.leaf, reduceEqDiff, reduceLT, reduceAdd, reduceLeDiff, reduceCtorEq, reduceMul, reduceMod, u64, aResults, aResult, hlen]) (.still rfl) (by simp)
   | false =>
     rw [hv] at e0
     simp only [w9, AV.cells, AV.leaf, reduceEqDiff, reduceLT, reduceAdd, reduceLeDiff, reduceCtorEq, reduceMul, reduceMod, u64, hlen, a0, encP, n1, n2, e0, none_beq]
     simp only [Bool.false_or]
     exact Fin_pure (l := [.bool (!(validU x.val))]) (by simp [w9, AV.cells, AV.leaf, reduceEqDiff, reduceLT, reduceAdd, reduceLeDiff, reduceCtorEq, reduceMul, reduceMod, u64, aResults, aResult, hlen]) (.still rfl) (by simp)
def idxP : List Pr → Int → Int
 | [], _ => -1
 | x :: l, i => if badP x then i else idxP l (i + 1)
theorem idxP_ge : ∀ (l : List Pr) (i : Int), 0 ≤ i → (0 ≤ idxP l i ↔ l.any badP = true)
 | [], i, _ => by simp [idxP]
 | x :: l, i, hi => by
   have := idxP_ge l (i + 1) (by omega)
   by_cases h : badP x
   · simp [idxP, h, hi]
   · simp [idxP, h, this]
theorem idxf_ok (l : List Pr) (v : AV) (hv : Sl encP v l) (hl : l.length < 1000000000) (hls : ∀ x ∈ l, x.name.length ≤ 9223372036854775807 ∧ x.val.length ≤ 9223372036854775807) (prot : Nat) (H : Heap) (hp : prot ≤ H.length) :
   aLim cfg prot 61 [v, .func 29 [] []] H = some (.int .i64 (idxP l 0), none) := by
 have hsnap : snap H [v, .func 29 [] []] = some ([v, .func 29 [] []], false) := by cases hv <;> rfl
 refine pure_slim rfl (by kernel_rfl) Tryz.func61 s61 hp hsnap (by simp [Tryz.f61]) fun fr hlen h => ?_
 simp only [Has, Nat.zero_add] at h
 obtain ⟨a0, a1, -⟩ := h
 simp only [Tryz.f61] at hlen ⊢
 unfold g61
 simp only [w9, AV.cells, AV.leaf, reduceEqDiff, reduceLT, reduceAdd, reduceLeDiff, reduceCtorEq, reduceMul, reduceMod, u64, hlen, a0, a1, hv.len Tryz.underlying23]
 refine loop_rule (fun m fr H' => ∃ (i : Nat), m = l.length - i ∧ i ≤ l.length ∧ fr.length = 19 ∧ fget fr 0 = v ∧ fget fr 1 = .func 29 [] [] ∧ fget fr 7 = .int .i64 l.length ∧ fget fr 8 = .int .i64 i
   ∧ H' = H ∧ idxP l 0 = idxP (l.drop i) i) ?_ l.length _ _ ⟨0, by simp [w9, AV.cells, AV.leaf, reduceEqDiff, reduceLT, reduceAdd, reduceLeDiff, reduceCtorEq, reduceMul, reduceMod, u64, hlen, a0, a1]⟩
 rintro m fr H' ⟨i, rfl, hi, hlen, a0, a1, a7, a8, hHe, hc⟩ ih
 subst hHe
 simp only [w9, AV.cells, AV.leaf, reduceEqDiff, reduceLT, reduceAdd, reduceLeDiff, reduceCtorEq, reduceMul, reduceMod, u64, hlen, a0, a1, a7, a8]
 refine RC_split (fun h => ?_) (fun h => ?_)
 · have hlt : i < l.length := by simpa using h
   have hw : IntKind.i64.wrap ((i : Int) + 1) = ((i + 1 : Nat) : Int) := by rw [wrap64 (by omega) (by omega)]; simp
   have e1 := hv.at (k := .i64) Tryz.underlying23 sz59 encP_len hlt
   have hd : l.drop i = l[i] :: l.drop (i + 1) := by simp
   have hx := hls l[i] (List.getElem_mem hlt)
   generalize l[i] = x at *
   rw [hd, idxP] at hc
   have hcall := of1_ok x hx.1 hx.2 H'.length H' (Nat.le_refl _)
   simp only [encP] at hcall
   simp only [w9, AV.cells, AV.leaf, reduceEqDiff, reduceLT, reduceAdd, reduceLeDiff, reduceCtorEq, reduceMul, reduceMod, u64, hlen, a0, a1, a7, a8, e1, encP, hcall]
   refine RC_split (fun h => ?_) (fun h => ?_)
   · simp only [w9, AV.cells, AV.leaf, reduceEqDiff, reduceLT, reduceAdd, reduceLeDiff, reduceCtorEq, reduceMul, reduceMod, u64, hlen, a0, a1, a7, a8]
     rw [hc, if_pos h]
     exact Fin_pure (l := [.int .i64 i]) (by simp [w9, AV.cells, AV.leaf, reduceEqDiff, reduceLT, reduceAdd, reduceLeDiff, reduceCtorEq, reduceMul, reduceMod, u64, aResults, aResult, hlen]) (.still rfl) (by simp)
   · simp only [w9, AV.cells, AV.leaf, reduceEqDiff, reduceLT, reduceAdd, reduceLeDiff, reduceCtorEq, reduceMul, reduceMod, u64, hlen, a0, a1, a7, a8, hw]
     refine ih _ _ (l.length - (i + 1)) (by omega) ⟨i + 1, rfl, hlt, ?_⟩
     rw [hc]
     simp [w9, AV.cells, AV.leaf, reduceEqDiff, reduceLT, reduceAdd, reduceLeDiff, reduceCtorEq, reduceMul, reduceMod, u64, hlen, a0, a1, a7, a8, h]
 · simp only [w9, AV.cells, AV.leaf, reduceEqDiff, reduceLT, reduceAdd, reduceLeDiff, reduceCtorEq, reduceMul, reduceMod, u64, hlen, a0, a1, a7, a8]
   have hnl : ¬ i < l.length := by simpa using h
   have : l.drop i = [] := by simp; omega
   rw [this] at hc
   rw [hc]
   exact Fin_pure (l := [.int .i64 (-1)]) (by simp [w9, AV.cells, AV.leaf, reduceEqDiff, reduceLT, reduceAdd, reduceLeDiff, reduceCtorEq, reduceMul, reduceMod, u64, aResults, aResult, hlen]) (.still rfl) (by simp)
theorem contf_ok (l : List Pr) (v : AV) (hv : Sl encP v l) (hl : l.length < 1000000000) (hls : ∀ x ∈ l, x.name.length ≤ 9223372036854775807 ∧ x.val.length ≤ 9223372036854775807) (prot : Nat) (H : Heap) (hp : prot ≤ H.length) :
   aLim cfg prot 28 [v, .func 29 [] []] H = some (.bool (l.any badP), none) := by
 have hsnap : snap H [v, .func 29 [] []] = some ([v, .func 29 [] []], false) := by cases hv <;> rfl
 refine pure_slim rfl (by kernel_rfl) Tryz.func28 s28 hp hsnap (by simp [Tryz.f28]) fun fr hlen h => ?_
 simp only [Has, Nat.zero_add] at h
 obtain ⟨a0, a1, -⟩ := h
 simp only [Tryz.f28] at hlen ⊢
 unfold g28
 have hcall := idxf_ok l v hv hl hls H.length H (Nat.le_refl _)
 have e : decide (idxP l 0 ≥ 0) = l.any badP := by
   have := idxP_ge l 0 (by omega)
   rw [Bool.eq_iff_iff, decide_eq_true_iff, ← this]
 simp only [w9, AV.cells, AV.leaf, reduceEqDiff, reduceLT, reduceAdd, reduceLeDiff, reduceCtorEq, reduceMul, reduceMod, u64, hlen, a0, a1, hcall, e]
 exact Fin_pure (l := [.bool (l.any badP)]) (by simp [w9, AV.cells, AV.leaf, reduceEqDiff, reduceLT, reduceAdd, reduceLeDiff, reduceCtorEq, reduceMul, reduceMod, u64, aResults, aResult, hlen]) (.still rfl) (by simp)
end Go.Proofs.YtnipaiklandliaaGreatDoor
/- Chapter 14: pairs sorted, walked. -/
namespace Go.Proofs.YtnipaiklandliaaGreatDoor
open Go Go.Abs AbsSeat Ty
open Nat (reduceEqDiff reduceLT reduceAdd reduceLeDiff reduceMul reduceMod)
theorem pclone_some (m : List Pr) (v : AV) (hm : m ≠ []) (hl : m.length < 1000000) (prot : Nat) (H : Heap) (hx : elemCells H 2 v = some (m.length, cellsOf encP m)) (hk : (∃ es f, v = .vs es f) ∨ ∃ s, v = .bs s) :
   aLim cfg prot 32 [v] H = some (.bs ⟨H.length, 0, 0, m.length, 0, 2, true, false⟩, some (H ++ [Blk.cells 0 (cellsOf encP m)])) := by
 refine raw_slim rfl (by kernel_rfl) (by kernel_rfl) (by kernel_rfl) Tryz.func32 s32 (by simp [Tryz.f32]) fun fr hlen h => ?_
 simp only [Has, Nat.zero_add] at h
 obtain ⟨a0, -⟩ := h
 simp only [Tryz.f32] at hlen ⊢
 unfold g32
 have hpos : 0 < m.length := List.length_pos_iff.2 hm
 have ha := app_full (P := Tryz.prog) (prot := prot) (H := H) (enc := encP) rowPr hxtPr encP_T [] hx hpos (by simp [roomy]; omega)
 simp only [List.map_nil, List.nil_append] at ha
 rcases hk with ⟨es, f, rfl⟩ | ⟨s, rfl⟩
 · simp only [w9, AV.cells, AV.leaf, reduceEqDiff, reduceLT, reduceAdd, reduceLeDiff, reduceCtorEq, reduceMul, reduceMod, u64, hlen, a0, litPr0, ha]
   exact Fin_raw (l := [.bs ⟨H.length, 0, 0, m.length, 0, 2, true, false⟩]) (by simp [w9, AV.cells, AV.leaf, reduceEqDiff, reduceLT, reduceAdd, reduceLeDiff, reduceCtorEq, reduceMul, reduceMod, u64, hlen, aResults, aResult])
 · simp only [w9, AV.cells, AV.leaf, reduceEqDiff, reduceLT, reduceAdd, reduceLeDiff, reduceCtorEq, reduceMul, reduceMod, u64, hlen, a0, litPr0, ha]
   exact Fin_raw (l := [.bs ⟨H.length, 0, 0, m.length, 0, 2, true, false⟩]) (by simp [w9, AV.cells, AV.leaf, reduceEqDiff, reduceLT, reduceAdd, reduceLeDiff, reduceCtorEq, reduceMul, reduceMod, u64, hlen, aResults, aResult])
theorem pclone_none (v : AV) (prot : Nat) (H : Heap) (hx : elemCells H 2 v = some (0, [])) (hk : v = .nilS ∨ (∃ es f, v = .vs es f) ∨ ∃ s, v = .bs s) :
   ∃ o, (o = .nilS ∨ o = .vs [] true) ∧ aLim cfg prot 32 [v] H = some (o, some H) := by
 have ha := app_zero (P := Tryz.prog) (prot := prot) (H := H) rowPr hxtPr (s := .vs [] true) (.inr (.inl ⟨_, _, rfl⟩)) hx
 rcases hk with rfl | ⟨es, f, rfl⟩ | ⟨s, rfl⟩
 · refine ⟨.nilS, .inl rfl, ?_⟩
   refine raw_slim rfl (by kernel_rfl) (by kernel_rfl) (by kernel_rfl) Tryz.func32 s32 (by simp [Tryz.f32]) fun fr hlen h => ?_
   simp only [Has, Nat.zero_add] at h
   obtain ⟨a0, -⟩ := h
   simp only [Tryz.f32] at hlen ⊢
   unfold g32
   simp only [w9, AV.cells, AV.leaf, reduceEqDiff, reduceLT, reduceAdd, reduceLeDiff, reduceCtorEq, reduceMul, reduceMod, u64, hlen, a0, litPr0, ha]
   exact Fin_raw (l := [.nilS]) (by simp [w9, AV.cells, AV.leaf, reduceEqDiff, reduceLT, reduceAdd, reduceLeDiff, reduceCtorEq, reduceMul, reduceMod, u64, hlen, aResults, aResult])
 · refine ⟨.vs [] true, .inr rfl, ?_⟩
   refine raw_slim rfl (by kernel_rfl) (by kernel_rfl) (by kernel_rfl) Tryz.func32 s32 (by simp [Tryz.f32]) fun fr hlen h => ?_
   simp only [Has, Nat.zero_add] at h
   obtain ⟨a0, -⟩ := h
   simp only [Tryz.f32] at hlen ⊢
   unfold g32
   simp only [w9, AV.cells, AV.leaf, reduceEqDiff, reduceLT, reduceAdd, reduceLeDiff, reduceCtorEq, reduceMul, reduceMod, u64, hlen, a0, litPr0, ha]
   exact Fin_raw (l := [.vs [] true]) (by simp [w9, AV.cells, AV.leaf, reduceEqDiff, reduceLT, reduceAdd, reduceLeDiff, reduceCtorEq, reduceMul, reduceMod, u64, hlen, aResults, aResult])
 · refine ⟨.vs [] true, .inr rfl, ?_⟩
   refine raw_slim rfl (by kernel_rfl) (by kernel_rfl) (by kernel_rfl) Tryz.func32 s32 (by simp [Tryz.f32]) fun fr hlen h => ?_
   simp only [Has, Nat.zero_add] at h
   obtain ⟨a0, -⟩ := h
   simp only [Tryz.f32] at hlen ⊢
   unfold g32
   simp only [w9, AV.cells, AV.leaf, reduceEqDiff, reduceLT, reduceAdd, reduceLeDiff, reduceCtorEq, reduceMul, reduceMod, u64, hlen, a0, litPr0, ha]
   exact Fin_raw (l := [.vs [] true]) (by simp [w9, AV.cells, AV.leaf, reduceEqDiff, reduceLT, reduceAdd, reduceLeDiff, reduceCtorEq, reduceMul, reduceMod, u64, hlen, aResults, aResult])
theorem nanS_ok (a : List UInt8) (prot : Nat) (H : Heap) (hp : prot ≤ H.length) : aLim cfg prot 68 [.str a] H = some (.bool false, none) := by
 have hsnap : snap H [.str a] = some ([.str a], false) := rfl
 have e0 : aStr .neq a a = some (.bool false) := by simp [aStr]
 refine pure_slim rfl (by kernel_rfl) Tryz.func68 s68 hp hsnap (by simp [Tryz.f68]) fun fr hlen h => ?_
 simp only [Has, Nat.zero_add] at h
 obtain ⟨a0, -⟩ := h
 simp only [Tryz.f68] at hlen ⊢
 unfold g68
 simp only [w9, AV.cells, AV.leaf, reduceEqDiff, reduceLT, reduceAdd, reduceLeDiff, reduceCtorEq, reduceMul, reduceMod, u64, hlen, a0, e0]
 exact Fin_pure (l := [.bool false]) (by simp [w9, AV.cells, AV.leaf, reduceEqDiff, reduceLT, reduceAdd, reduceLeDiff, reduceCtorEq, reduceMul, reduceMod, u64, aResults, aResult, hlen]) (.still rfl) (by simp)
def cmpS (a b : List UInt8) : Int := if Op.bytesLess a b then -1 else if !(Op.bytesLess a b || a == b) then 1 else 0
theorem cmpS_ok (a b : List UInt8) (prot : Nat) (H : Heap) (hp : prot ≤ H.length) : aLim cfg prot 35 [.str a, .str b] H = some (.int .i64 (cmpS a b), none) := by
 have hsnap : snap H [.str a, .str b] = some ([.str a, .str b], false) := rfl
 have n1 := nanS_ok a H.length H (Nat.le_refl _)
 have n2 := nanS_ok b H.length H (Nat.le_refl _)
 have e1 : aStr .lss a b = some (.bool (Op.bytesLess a b)) := rfl
 have e2 : aStr .gtr a b = some (.bool (!(Op.bytesLess a b || a == b))) := rfl
 refine pure_slim rfl (by kernel_rfl) Tryz.func35 s35 hp hsnap (by simp [Tryz.f35]) fun fr hlen h => ?_
 simp only [Has, Nat.zero_add] at h
 obtain ⟨a0, a1, -⟩ := h
 simp only [Tryz.f35] at hlen ⊢
 unfold g35
 cases h1 : Op.bytesLess a b with
 | true =>
   rw [h1] at e1
   simp only [w9, AV.cells, AV.leaf, reduceEqDiff, reduceLT, reduceAdd, reduceLeDiff, reduceCtorEq, reduceMul, reduceMod, u64, hlen, a0, a1, n1, n2, e1]
   simp only [cmpS, h1, if_true]
   exact Fin_pure (l := [.int .i64 (-1)]) (by simp [w9, AV.cells, AV.leaf, reduceEqDiff, reduceLT, reduceAdd, reduceLeDiff, reduceCtorEq, reduceMul, reduceMod, u64, aResults, aResult, hlen]) (.still rfl) (by simp)
 | false =>
   rw [h1] at e1
   cases h2 : !(Op.bytesLess a b || a == b) with
   | true =>
     rw [h2] at e2
     simp only [w9, AV.cells, AV.leaf, reduceEqDiff, reduceLT, reduceAdd, reduceLeDiff, reduceCtorEq, reduceMul, reduceMod, u64, hlen, a0, a1, n1, n2, e1, e2]
     simp only [cmpS, h1, h2, if_true, Bool.false_eq_true, if_false]
     simp only [h1] at h2
     simp only [h2, if_true]
     exact Fin_pure (l := [.int .i64 1]) (by simp [w9, AV.cells, AV.leaf, reduceEqDiff, reduceLT, reduceAdd, reduceLeDiff, reduceCtorEq, reduceMul, reduceMod, u64, aResults, aResult, hlen]) (.still rfl) (by simp)
   | false =>
     rw [h2] at e2
     simp only [w9, AV.cells, AV.leaf, reduceEqDiff, reduceLT, reduceAdd, reduceLeDiff, reduceCtorEq, reduceMul, reduceMod, u64, hlen, a0, a1, n1, n2, e1, e2]
     simp only [cmpS, h1, h2, Bool.false_eq_true, if_false]
     simp only [h1] at h2
     simp only [h2, Bool.false_eq_true, if_false]
     exact Fin_pure (l := [.int .i64 0]) (by simp [w9, AV.cells, AV.leaf, reduceEqDiff, reduceLT, reduceAdd, reduceLeDiff, reduceCtorEq, reduceMul, reduceMod, u64, aResults, aResult, hlen]) (.still rfl) (by simp)
theorem of2_ok (x y : Pr) (prot : Nat) (H : Heap) (hp : prot ≤ H.length) : aLim cfg prot 34 [encP x, encP y] H = some (.int .i64 (cmpS x.name y.name), none) := by
 have hsnap : snap H [encP x, encP y] = some ([encP x, encP y], false) := rfl
 have n1 := fun (K : Heap) (hK : H.length ≤ K.length) => cmpS_ok x.name y.name H.length K hK
 have lt1 : ∀ (a : Blk), H.length < (H ++ [a]).length := fun a => by simp
 have le2 : ∀ (a b : Blk), H.length ≤ (H ++ [a] ++ [b]).length := fun a b => by simp
 refine pure_slim rfl (by kernel_rfl) Tryz.func34 s34 hp hsnap (by simp [Tryz.f34]) fun fr hlen h => ?_
 simp only [Has, Nat.zero_add] at h
 obtain ⟨a0, a1, -⟩ := h
 simp only [Tryz.f34] at hlen ⊢
 unfold g34
 simp only [w9, AV.cells, AV.leaf, reduceEqDiff, reduceLT, reduceAdd, reduceLeDiff, reduceCtorEq, reduceMul, reduceMod, u64, hlen, a0, a1, encP, n1, lt1, le2]
 exact Fin_pure (l := [.int .i64 (cmpS x.name y.name)]) (by simp [w9, AV.cells, AV.leaf, reduceEqDiff, reduceLT, reduceAdd, reduceLeDiff, reduceCtorEq, reduceMul, reduceMod, u64, aResults, aResult, hlen]) (.still rfl) (by simp)
def lessP (x y : Pr) : Bool := decide (cmpS x.name y.name < 0)
instance : Inhabited Pr := ⟨⟨[], []⟩⟩
def swapP (l : List Pr) (j : Nat) : List Pr := (l.set j (l.getD (j - 1) default)).set (j - 1) (l.getD j default)
theorem swapP_len (l : List Pr) (j : Nat) : (swapP l j).length = l.length := by simp [swapP]
def insGo (l : List Pr) : Nat → List Pr
 | 0 => l
 | j + 1 => if lessP (l.getD (j + 1) default) (l.getD j default) then insGo (swapP l (j + 1)) j else l
theorem insGo_len : ∀ (j : Nat) (l : List Pr), (insGo l j).length = l.length
 | 0, _ => rfl
 | j + 1, l => by
   rw [insGo]
   split
   · rw [insGo_len j, swapP_len]
   · rfl
def outGo : Nat → List Pr → Nat → List Pr
 | 0, l, _ => l
 | k + 1, l, i => outGo k (insGo l i) (i + 1)
theorem isort_ok (l : List Pr) (b : Nat) (hl : l.length < 1000000) (prot : Nat) (H : Heap) (hp : prot ≤ H.length) (hb : prot ≤ b) (hg : hget H b 0 = some (cellsOf encP l)) :
   aLim cfg prot 95 [.bs ⟨b, 0, 0, l.length, 0, 2, true, false⟩, .int .i64 0, .int .i64 l.length, .func 34 [] []] H = some (.tup [], some (H.set b (.cells 0 (cellsOf encP (outGo (l.length - 1) l 1))))) := by
 have hblt := hget_lt hg
 have hself : H = H.set b (.cells 0 (cellsOf encP l)) := by
   refine (List.ext_getElem? fun k => ?_)
   by_cases hk : k = b
   · subst hk; rw [List.getElem?_set_self hblt]; exact alive_of_hget hg
   · rw [List.getElem?_set_ne (Ne.symm hk)]
 have hn : ∀ (k : Nat), k + 1 ≤ l.length → IntKind.i64.wrap (((k : Nat) : Int) + 1) = ((k + 1 : Nat) : Int) := fun k hk => by rw [wrap64 (by omega) (by omega)]; simp
 have hn0 : IntKind.i64.wrap ((0 : Int) + 1) = 1 := by decide
 have hgs : ∀ (C : List AV), hget (H.set b (.cells 0 C)) b 0 = some C := fun C => by rw [hget_set_same hblt]; rfl
 have hix : ∀ (j : Nat), j < l.length → aIndexAddr Tryz.prog 23 (.bs ⟨b, 0, 0, l.length, 0, 2, true, false⟩) (.int .i64 j) = some (.ptr b 0 (j * 2)) := fun j hj => by
   simp [aIndexAddr, asNat, Tryz.underlying23, sz59, hj]
 have hlenS : ∀ (C : List AV), prot ≤ (H.set b (.cells 0 C)).length := fun C => by simpa using hp
 refine raw_slim rfl (by kernel_rfl) (by kernel_rfl) (by kernel_rfl) Tryz.func95 s95 (by simp [Tryz.f95]) fun fr hlen h => ?_
 simp only [Has, Nat.zero_add] at h
 obtain ⟨a0, a1, a2, a3, -⟩ := h
 simp only [Tryz.f95] at hlen ⊢
 unfold g95
 simp only [w9, AV.cells, AV.leaf, reduceEqDiff, reduceLT, reduceAdd, reduceLeDiff, reduceCtorEq, reduceMul, reduceMod, u64, hlen, a0, a1, a2, a3, hn0]
 refine loop_rule (fun m fr H' => ∃ (i : Nat) (l' : List Pr), m = l.length - i ∧ 1 ≤ i ∧ (i ≤ l.length ∨ i = 1) ∧ fr.length = 53 ∧ fget fr 0 = .bs ⟨b, 0, 0, l.length, 0, 2, true, false⟩ ∧ fget fr 1 = .int .i64 0 ∧ fget fr 2 = .int .i64 l.length ∧ fget fr 3 = .func 34 [] [] ∧ fget fr 8 = .int .i64 i
   ∧ H' = H.set b (.cells 0 (cellsOf encP l')) ∧ l'.length = l.length ∧ outGo (l.length - 1) l 1 = outGo (l.length - i) l' i) ?_ (l.length - 1) _ _ ⟨1, l, by simp [w9, AV.cells, AV.leaf, reduceEqDiff, reduceLT, reduceAdd, reduceLeDiff, reduceCtorEq, reduceMul, reduceMod, u64, hlen, a0, a1, a2, a3]; exact hself⟩
 rintro m fr H' ⟨i, l1, rfl, h1i, hi, hlen, a0, a1, a2, a3, a8, hHe, hl1, hc⟩ ih
 subst hHe
 simp only [w9, AV.cells, AV.leaf, reduceEqDiff, reduceLT, reduceAdd, reduceLeDiff, reduceCtorEq, reduceMul, reduceMod, u64, hlen, a0, a1, a2, a3, a8]
 refine RC_split (fun h => ?_) (fun h => ?_)
 · have hlt : i < l.length := by simpa using h
   have hw := hn i (by omega)
   simp only [w9, AV.cells, AV.leaf, reduceEqDiff, reduceLT, reduceAdd, reduceLeDiff, reduceCtorEq, reduceMul, reduceMod, u64, hlen, a0, a1, a2, a3, a8]
   refine loop_rule (fun m fr H' => ∃ (j : Nat) (l2 : List Pr), m = j ∧ j ≤ i ∧ fr.length = 53 ∧ fget fr 0 = .bs ⟨b, 0, 0, l.length, 0, 2, true, false⟩ ∧ fget fr 1 = .int .i64 0 ∧ fget fr 2 = .int .i64 l.length ∧ fget fr 3 = .func 34 [] [] ∧ fget fr 8 = .int .i64 i ∧ fget fr 9 = .int .i64 j
     ∧ H' = H.set b (.cells 0 (cellsOf encP l2)) ∧ l2.length = l.length ∧ insGo l1 i = insGo l2 j) ?_ i _ _ ⟨i, l1, by simp [w9, AV.cells, AV.leaf, reduceEqDiff, reduceLT, reduceAdd, reduceLeDiff, reduceCtorEq, reduceMul, reduceMod, u64, hlen, a0, a1, a2, a3, a8, hl1]⟩
   rintro m fr H' ⟨j, l2, rfl, hji, hlen, a0, a1, a2, a3, a8, a9, hHe, hl2, hci⟩ ih2
   subst hHe
   cases m with
   | zero =>
     have e0 : insGo l1 i = l2 := hci
     simp only [w9, AV.cells, AV.leaf, reduceEqDiff, reduceLT, reduceAdd, reduceLeDiff, reduceCtorEq, reduceMul, reduceMod, u64, hlen, a0, a1, a2, a3, a8, a9, Int.lt_irrefl, none_beq, Int.ofNat_zero, hw]
     refine ih _ _ (l.length - (i + 1)) (by omega) ⟨i + 1, l2, rfl, by omega, .inl hlt, ?_⟩
     rw [hc, show l.length - i = (l.length - (i + 1)) + 1 by omega, outGo, e0]
     simp [w9, AV.cells, AV.leaf, reduceEqDiff, reduceLT, reduceAdd, reduceLeDiff, reduceCtorEq, reduceMul, reduceMod, u64, hlen, a0, a1, a2, a3, hl2]
   | succ j =>
     have hJ : j + 1 < l2.length := by omega
     have hj : j < l2.length := by omega
     have hzi : ((0 : Int) < ((j + 1 : Nat) : Int)) := by omega
     have w1 : IntKind.i64.wrap (((j + 1 : Nat) : Int) - 1) = ((j : Nat) : Int) := by rw [wrap64 (by omega) (by omega)]; omega
     have ex := cellsOf_win encP_T l2 (j + 1) hJ
     have ey := cellsOf_win encP_T l2 j hj
     have gx : l2.getD (j + 1) default = l2[j + 1] := by simp [List.getD, hJ]
     have gy : l2.getD j default = l2[j] := by simp [List.getD, hj]
     have i1 := hix (j + 1) (by omega)
     have i2 := hix j (by omega)
     have hsw : swapP l2 (j + 1) = (l2.set (j + 1) l2[j]).set j l2[j + 1] := by
       unfold swapP
       rw [Nat.add_sub_cancel, gx, gy]
     rw [insGo, gx, gy, hsw] at hci
     generalize l2[j + 1] = x at *
     generalize l2[j] = y at *
     have p1 := row_put encP_T (hgs (cellsOf encP l2)) hJ hb y
     have p2 := row_put (l := l2.set (j + 1) y) encP_T (hgs (cellsOf encP (l2.set (j + 1) y))) (i := j) (by simp; omega) hb x
     rw [List.set_set] at p1 p2
     have n1 := of2_ok x y prot (H.set b (.cells 0 (cellsOf encP l2))) (hlenS _)
     have hgl := hgs (cellsOf encP l2)
     simp only [encP, AV.cells, win] at ex ey p1 p2 n1
     unfold lessP at hci
     by_cases hless : cmpS x.name y.name < 0
     · rw [if_pos (by simpa using hless)] at hci
       simp only [w9, AV.cells, AV.leaf, reduceEqDiff, reduceLT, reduceAdd, reduceLeDiff, reduceCtorEq, reduceMul, reduceMod, u64, hlen, a0, a1, a2, a3, a8, a9, hzi, w1, i1, i2, hgl, ex, ey, n1, hless, p1, p2]
       refine ih2 _ _ j (by omega) ⟨j, (l2.set (j + 1) y).set j x, rfl, by omega, ?_⟩
       simp [w9, AV.cells, AV.leaf, reduceEqDiff, reduceLT, reduceAdd, reduceLeDiff, reduceCtorEq, reduceMul, reduceMod, u64, hlen, a0, a1, a2, a3, a8, hl2, hci]
     · rw [if_neg (by simpa using hless)] at hci
       simp only [w9, AV.cells, AV.leaf, reduceEqDiff, reduceLT, reduceAdd, reduceLeDiff, reduceCtorEq, reduceMul, reduceMod, u64, hlen, a0, a1, a2, a3, a8, a9, hzi, w1, i1, i2, hgl, ex, ey, n1, hless, hw]
       refine ih _ _ (l.length - (i + 1)) (by omega) ⟨i + 1, l2, rfl, by omega, .inl hlt, ?_⟩
       rw [hc, show l.length - i = (l.length - (i + 1)) + 1 by omega, outGo, hci]
       simp [w9, AV.cells, AV.leaf, reduceEqDiff, reduceLT, reduceAdd, reduceLeDiff, reduceCtorEq, reduceMul, reduceMod, u64, hlen, a0, a1, a2, a3, hl2]
 · simp only [w9, AV.cells, AV.leaf, reduceEqDiff, reduceLT, reduceAdd, reduceLeDiff, reduceCtorEq, reduceMul, reduceMod, u64, hlen, a0, a1, a2, a3, a8]
   have hnl : ¬ i < l.length := by simpa using h
   have e0 : l.length - i = 0 := by omega
   rw [e0, outGo] at hc
   rw [hc]
   exact Fin_raw (l := []) (by simp [w9, AV.cells, AV.leaf, reduceEqDiff, reduceLT, reduceAdd, reduceLeDiff, reduceCtorEq, reduceMul, reduceMod, u64, hlen, aResults, aResult])
end Go.Proofs.YtnipaiklandliaaGreatDoor
/- Chapter 14: a set of pairs, walked. -/
namespace Go.Proofs.YtnipaiklandliaaGreatDoor
open Go Go.Abs AbsSeat Ty
open Nat (reduceEqDiff reduceLT reduceAdd reduceLeDiff reduceMul reduceMod)
theorem len_ok (n : Nat) (hn : n ≤ 12) : ∃ k : Int, ∀ (prot : Nat) (H : Heap), aLim cfg prot 67 [.int .u64 n] H = some (.int .i64 k, none) := by
 have h0 : ∀ (prot : Nat) (H : Heap), aLim cfg prot 67 [.int .u64 0] H = some (.int .i64 0, none) := lim_shut (k := 100) (by kernel_rfl) (by kernel_rfl) (by kernel_rfl)
 have h1 : ∀ (prot : Nat) (H : Heap), aLim cfg prot 67 [.int .u64 1] H = some (.int .i64 1, none) := lim_shut (k := 100) (by kernel_rfl) (by kernel_rfl) (by kernel_rfl)
 have h2 : ∀ (prot : Nat) (H : Heap), aLim cfg prot 67 [.int .u64 2] H = some (.int .i64 2, none) := lim_shut (k := 100) (by kernel_rfl) (by kernel_rfl) (by kernel_rfl)
 have h3 : ∀ (prot : Nat) (H : Heap), aLim cfg prot 67 [.int .u64 3] H = some (.int .i64 2, none) := lim_shut (k := 100) (by kernel_rfl) (by kernel_rfl) (by kernel_rfl)
 have h4 : ∀ (prot : Nat) (H : Heap), aLim cfg prot 67 [.int .u64 4] H = some (.int .i64 3, none) := lim_shut (k := 100) (by kernel_rfl) (by kernel_rfl) (by kernel_rfl)
 have h5 : ∀ (prot : Nat) (H : Heap), aLim cfg prot 67 [.int .u64 5] H = some (.int .i64 3, none) := lim_shut (k := 100) (by kernel_rfl) (by kernel_rfl) (by kernel_rfl)
 have h6 : ∀ (prot : Nat) (H : Heap), aLim cfg prot 67 [.int .u64 6] H = some (.int .i64 3, none) := lim_shut (k := 100) (by kernel_rfl) (by kernel_rfl) (by kernel_rfl)
 have h7 : ∀ (prot : Nat) (H : Heap), aLim cfg prot 67 [.int .u64 7] H = some (.int .i64 3, none) := lim_shut (k := 100) (by kernel_rfl) (by kernel_rfl) (by kernel_rfl)
 have h8 : ∀ (prot : Nat) (H : Heap), aLim cfg prot 67 [.int .u64 8] H = some (.int .i64 4, none) := lim_shut (k := 100) (by kernel_rfl) (by kernel_rfl) (by kernel_rfl)
 have h9 : ∀ (prot : Nat) (H : Heap), aLim cfg prot 67 [.int .u64 9] H = some (.int .i64 4, none) := lim_shut (k := 100) (by kernel_rfl) (by kernel_rfl) (by kernel_rfl)
 have h10 : ∀ (prot : Nat) (H : Heap), aLim cfg prot 67 [.int .u64 10] H = some (.int .i64 4, none) := lim_shut (k := 100) (by kernel_rfl) (by kernel_rfl) (by kernel_rfl)
 have h11 : ∀ (prot : Nat) (H : Heap), aLim cfg prot 67 [.int .u64 11] H = some (.int .i64 4, none) := lim_shut (k := 100) (by kernel_rfl) (by kernel_rfl) (by kernel_rfl)
 have h12 : ∀ (prot : Nat) (H : Heap), aLim cfg prot 67 [.int .u64 12] H = some (.int .i64 4, none) := lim_shut (k := 100) (by kernel_rfl) (by kernel_rfl) (by kernel_rfl)
 have : n = 0 ∨ n = 1 ∨ n = 2 ∨ n = 3 ∨ n = 4 ∨ n = 5 ∨ n = 6 ∨ n = 7 ∨ n = 8 ∨ n = 9 ∨ n = 10 ∨ n = 11 ∨ n = 12 := by omega
 rcases this with rfl | rfl | rfl | rfl | rfl | rfl | rfl | rfl | rfl | rfl | rfl | rfl | rfl
 · exact ⟨_, h0⟩
 · exact ⟨_, h1⟩
 · exact ⟨_, h2⟩
 · exact ⟨_, h3⟩
 · exact ⟨_, h4⟩
 · exact ⟨_, h5⟩
 · exact ⟨_, h6⟩
 · exact ⟨_, h7⟩
 · exact ⟨_, h8⟩
 · exact ⟨_, h9⟩
 · exact ⟨_, h10⟩
 · exact ⟨_, h11⟩
 · exact ⟨_, h12⟩
def isortP (l : List Pr) : List Pr := outGo (l.length - 1) l 1
theorem pdq_ok (l : List Pr) (b : Nat) (k : Int) (hl : l.length ≤ 12) (prot : Nat) (H : Heap) (hp : prot ≤ H.length) (hb : prot ≤ b) (hg : hget H b 0 = some (cellsOf encP l)) :
   aLim cfg prot 66 [.bs ⟨b, 0, 0, l.length, 0, 2, true, false⟩, .int .i64 0, .int .i64 l.length, .int .i64 k, .func 34 [] []] H = some (.tup [], some (H.set b (.cells 0 (cellsOf encP (isortP l))))) := by
 have n1 := isort_ok l b (by omega) prot H hp hb hg
 have w1 : IntKind.i64.wrap ((l.length : Int) - 0) = (l.length : Int) := by rw [wrap64 (by omega) (by omega)]; omega
 have h12 : (l.length : Int) ≤ 12 := by omega
 refine raw_slim rfl (by kernel_rfl) (by kernel_rfl) (by kernel_rfl) Tryz.func66 s66 (by simp [Tryz.f66]) fun fr hlen h => ?_
 simp only [Has, Nat.zero_add] at h
 obtain ⟨a0, a1, a2, a3, a4, -⟩ := h
 simp only [Tryz.f66] at hlen ⊢
 unfold g66
 simp only [w9, AV.cells, AV.leaf, reduceEqDiff, reduceLT, reduceAdd, reduceLeDiff, reduceCtorEq, reduceMul, reduceMod, u64, hlen, a0, a1, a2, a3, a4]
 rw [R_loop]
 simp only [w9, AV.cells, AV.leaf, reduceEqDiff, reduceLT, reduceAdd, reduceLeDiff, reduceCtorEq, reduceMul, reduceMod, u64, hlen, a0, a1, a2, a3, a4, w1, h12, n1]
 exact Fin_raw (l := []) (by simp [w9, AV.cells, AV.leaf, reduceEqDiff, reduceLT, reduceAdd, reduceLeDiff, reduceCtorEq, reduceMul, reduceMod, u64, hlen, aResults, aResult])
theorem sort_ok (l : List Pr) (b : Nat) (hl : l.length ≤ 12) (prot : Nat) (H : Heap) (hp : prot ≤ H.length) (hb : prot ≤ b) (hg : hget H b 0 = some (cellsOf encP l)) :
   aLim cfg prot 33 [.bs ⟨b, 0, 0, l.length, 0, 2, true, false⟩, .func 34 [] []] H = some (.tup [], some (H.set b (.cells 0 (cellsOf encP (isortP l))))) := by
 obtain ⟨k, hk⟩ := len_ok l.length hl
 have n1 := pdq_ok l b k hl prot H hp hb hg
 have w1 : IntKind.u64.wrap (l.length : Int) = (l.length : Int) := wrapu64 (by omega) (by omega)
 have hlen' : ∀ K, aLen Tryz.prog K 23 (.bs ⟨b, 0, 0, l.length, 0, 2, true, false⟩) = some (.int .i64 l.length) := fun K => by simp [aLen, Tryz.underlying23]
 refine raw_slim rfl (by kernel_rfl) (by kernel_rfl) (by kernel_rfl) Tryz.func33 s33 (by simp [Tryz.f33]) fun fr hlen h => ?_
 simp only [Has, Nat.zero_add] at h
 obtain ⟨a0, a1, -⟩ := h
 simp only [Tryz.f33] at hlen ⊢
 unfold g33
 simp only [w9, AV.cells, AV.leaf, reduceEqDiff, reduceLT, reduceAdd, reduceLeDiff, reduceCtorEq, reduceMul, reduceMod, u64, hlen, a0, a1, hlen', w1, hk, n1]
 exact Fin_raw (l := []) (by simp [w9, AV.cells, AV.leaf, reduceEqDiff, reduceLT, reduceAdd, reduceLeDiff, reduceCtorEq, reduceMul, reduceMod, u64, hlen, aResults, aResult])
theorem isort_nil (o : AV) (prot : Nat) (H : Heap) : aLim cfg prot 95 [o, .int .i64 0, .int .i64 0, .func 34 [] []] H = some (.tup [], some H) := by
 have hn0 : IntKind.i64.wrap ((0 : Int) + 1) = 1 := by decide
 have d1 : decide ((1 : Int) < 0) = false := rfl
 refine raw_slim rfl (by kernel_rfl) (by kernel_rfl) (by kernel_rfl) Tryz.func95 s95 (by simp [Tryz.f95]) fun fr hlen h => ?_
 simp only [Has, Nat.zero_add] at h
 obtain ⟨a0, a1, a2, a3, -⟩ := h
 simp only [Tryz.f95] at hlen ⊢
 unfold g95
 simp only [w9, AV.cells, AV.leaf, reduceEqDiff, reduceLT, reduceAdd, reduceLeDiff, reduceCtorEq, reduceMul, reduceMod, u64, hlen, a0, a1, a2, a3, hn0]
 rw [R_loop]
 simp only [w9, AV.cells, AV.leaf, reduceEqDiff, reduceLT, reduceAdd, reduceLeDiff, reduceCtorEq, reduceMul, reduceMod, u64, hlen, a0, a1, a2, a3, d1]
 exact Fin_raw (l := []) (by simp [w9, AV.cells, AV.leaf, reduceEqDiff, reduceLT, reduceAdd, reduceLeDiff, reduceCtorEq, reduceMul, reduceMod, u64, hlen, aResults, aResult])
theorem pdq_nil (o : AV) (k : Int) (prot : Nat) (H : Heap) : aLim cfg prot 66 [o, .int .i64 0, .int .i64 0, .int .i64 k, .func 34 [] []] H = some (.tup [], some H) := by
 have n1 := isort_nil o prot H
 have w1 : IntKind.i64.wrap ((0 : Int) - 0) = 0 := by decide
 have h12 : decide ((0 : Int) ≤ 12) = true := rfl
 refine raw_slim rfl (by kernel_rfl) (by kernel_rfl) (by kernel_rfl) Tryz.func66 s66 (by simp [Tryz.f66]) fun fr hlen h => ?_
 simp only [Has, Nat.zero_add] at h
 obtain ⟨a0, a1, a2, a3, a4, -⟩ := h
 simp only [Tryz.f66] at hlen ⊢
 unfold g66
 simp only [w9, AV.cells, AV.leaf, reduceEqDiff, reduceLT, reduceAdd, reduceLeDiff, reduceCtorEq, reduceMul, reduceMod, u64, hlen, a0, a1, a2, a3, a4]
 rw [R_loop]
 simp only [w9, AV.cells, AV.leaf, reduceEqDiff, reduceLT, reduceAdd, reduceLeDiff, reduceCtorEq, reduceMul, reduceMod, u64, hlen, a0, a1, a2, a3, a4, w1, h12, n1]
 exact Fin_raw (l := []) (by simp [w9, AV.cells, AV.leaf, reduceEqDiff, reduceLT, reduceAdd, reduceLeDiff, reduceCtorEq, reduceMul, reduceMod, u64, hlen, aResults, aResult])
theorem sort_nil (o : AV) (ho : o = .nilS ∨ o = .vs [] true) (prot : Nat) (H : Heap) : aLim cfg prot 33 [o, .func 34 [] []] H = some (.tup [], some H) := by
 obtain ⟨k, hk⟩ := len_ok 0 (by omega)
 have hk : ∀ (prot : Nat) (H : Heap), aLim cfg prot 67 [.int .u64 0] H = some (.int .i64 k, none) := hk
 have n1 := pdq_nil o k prot H
 have w1 : IntKind.u64.wrap (0 : Int) = 0 := by decide
 have hlen' : ∀ K, aLen Tryz.prog K 23 o = some (.int .i64 0) := fun K => by rcases ho with rfl | rfl <;> simp [aLen, Tryz.underlying23]
 refine raw_slim rfl (by kernel_rfl) (by kernel_rfl) (by kernel_rfl) Tryz.func33 s33 (by simp [Tryz.f33]) fun fr hlen h => ?_
 simp only [Has, Nat.zero_add] at h
 obtain ⟨a0, a1, -⟩ := h
 simp only [Tryz.f33] at hlen ⊢
 unfold g33
 simp only [w9, AV.cells, AV.leaf, reduceEqDiff, reduceLT, reduceAdd, reduceLeDiff, reduceCtorEq, reduceMul, reduceMod, u64, hlen, a0, a1, hlen', w1, hk, n1]
 exact Fin_raw (l := []) (by simp [w9, AV.cells, AV.leaf, reduceEqDiff, reduceLT, reduceAdd, reduceLeDiff, reduceCtorEq, reduceMul, reduceMod, u64, hlen, aResults, aResult])
def dupP : List Pr → Bool
 | x :: y :: r => (y.name == x.name) || dupP (y :: r)
 | _ => false
def ofP (l : List Pr) : List Pr × Int := if l.any badP then ([], 3) else if dupP (isortP l) then ([], 10) else (isortP l, 0)
theorem outGo_len : ∀ (k : Nat) (l : List Pr) (i : Nat), (outGo k l i).length = l.length
 | 0, _, _ => rfl
 | k + 1, l, i => by rw [outGo, outGo_len k, insGo_len]
theorem isortP_len (l : List Pr) : (isortP l).length = l.length := outGo_len _ _ _
theorem of_ok (l : List Pr) (w : AV) (hw : Sl encP w l) (hl : l.length ≤ 12) (hls : ∀ x ∈ l, x.name.length ≤ 9223372036854775807 ∧ x.val.length ≤ 9223372036854775807) (prot : Nat) (H : Heap) (hp : prot ≤ H.length) :
   ∃ v, Sl encP v (ofP l).1 ∧ aLim cfg prot 8 [w] H = some (.tup [.agg [v], .int .i64 (ofP l).2], none) := by
 have hsnap : snap H [w] = some ([w], false) := by cases hw <;> rfl
 have hfz : ∀ (K : Heap) (e : Int), Frz K H.length (packR [.agg [.nilS], .int .i64 e]) (.tup [.agg [.nilS], .int .i64 e]) := fun K e => .tup (.cons (.agg (.cons (.still rfl) .nil)) (.cons (.still rfl) .nil))
 have n1 := contf_ok l w hw (by omega) hls H.length (H ++ [Blk.cells 0 [.nilS]]) (by simp)
 cases hbad : l.any badP with
 | true =>
   rw [hbad] at n1
   have e : ofP l = ([], 3) := by simp only [ofP, hbad, if_true]
   rw [e]
   refine ⟨.nilS, .nil, ?_⟩
   refine pure_slim rfl (by kernel_rfl) Tryz.func8 s8 hp hsnap (by simp [Tryz.f8]) fun fr hlen h => ?_
   simp only [Has, Nat.zero_add] at h
   obtain ⟨a0, -⟩ := h
   simp only [Tryz.f8] at hlen ⊢
   unfold g8
   simp only [w9, AV.cells, AV.leaf, reduceEqDiff, reduceLT, reduceAdd, reduceLeDiff, reduceCtorEq, reduceMul, reduceMod, u64, hlen, a0, n1]
   exact Fin_pure (l := [.agg [.nilS], .int .i64 3]) (by simp [w9, AV.cells, AV.leaf, reduceEqDiff, reduceLT, reduceAdd, reduceLeDiff, reduceCtorEq, reduceMul, reduceMod, u64, hlen, aResults, aResult]) (hfz _ _) (by simp)
 | false =>
   rw [hbad] at n1
   by_cases hz : l = []
   · subst hz
     have e : ofP [] = ([], 0) := by rfl
     rw [e]
     have hk : w = .nilS ∨ (∃ es f, w = .vs es f) ∨ ∃ s, w = .bs s := by cases hw with | nil => exact .inl rfl | vs _ f => exact .inr (.inl ⟨_, _, rfl⟩)
     obtain ⟨o, ho, n2⟩ := pclone_none w H.length (H ++ [Blk.cells 0 [.nilS]]) (hw.elems encP_T _) hk
     have n3 := sort_nil o ho H.length (H ++ [Blk.cells 0 [.nilS]])
     have hlen' : ∀ K, aLen Tryz.prog K 23 o = some (.int .i64 0) := fun K => by rcases ho with rfl | rfl <;> simp [aLen, Tryz.underlying23]
     have d1 : decide ((1 : Int) < 0) = false := rfl
     refine ⟨o, by rcases ho with rfl | rfl; exact .nil; exact .vs [] true, ?_⟩
     rcases ho with rfl | rfl
     · refine pure_slim rfl (by kernel_rfl) Tryz.func8 s8 hp hsnap (by simp [Tryz.f8]) fun fr hlen h => ?_
       simp only [Has, Nat.zero_add] at h
       obtain ⟨a0, -⟩ := h
       simp only [Tryz.f8] at hlen ⊢
       unfold g8
       simp only [w9, AV.cells, AV.leaf, reduceEqDiff, reduceLT, reduceAdd, reduceLeDiff, reduceCtorEq, reduceMul, reduceMod, u64, hlen, a0, n1, n2, n3]
       rw [R_loop]
       simp only [w9, AV.cells, AV.leaf, reduceEqDiff, reduceLT, reduceAdd, reduceLeDiff, reduceCtorEq, reduceMul, reduceMod, u64, hlen, a0, n1, n2, n3, hlen', d1]
       exact Fin_pure (l := [.agg [.nilS], .int .i64 0]) (by simp [w9, AV.cells, AV.leaf, reduceEqDiff, reduceLT, reduceAdd, reduceLeDiff, reduceCtorEq, reduceMul, reduceMod, u64, hlen, aResults, aResult]) (hfz _ _) (by simp)
     · refine pure_slim rfl (by kernel_rfl) Tryz.func8 s8 hp hsnap (by simp [Tryz.f8]) fun fr hlen h => ?_
       simp only [Has, Nat.zero_add] at h
       obtain ⟨a0, -⟩ := h
       simp only [Tryz.f8] at hlen ⊢
       unfold g8
       simp only [w9, AV.cells, AV.leaf, reduceEqDiff, reduceLT, reduceAdd, reduceLeDiff, reduceCtorEq, reduceMul, reduceMod, u64, hlen, a0, n1, n2, n3]
       rw [R_loop]
       simp only [w9, AV.cells, AV.leaf, reduceEqDiff, reduceLT, reduceAdd, reduceLeDiff, reduceCtorEq, reduceMul, reduceMod, u64, hlen, a0, n1, n2, n3, hlen', d1]
       exact Fin_pure (l := [.agg [.vs [] true], .int .i64 0]) (by simp [w9, AV.cells, AV.leaf, reduceEqDiff, reduceLT, reduceAdd, reduceLeDiff, reduceCtorEq, reduceMul, reduceMod, u64, hlen, aResults, aResult]) (.tup (.cons (.agg (.cons (.still rfl) .nil)) (.cons (.still rfl) .nil))) (by simp)
   · have hpos : 0 < l.length := List.length_pos_iff.2 hz
     have hk : (∃ es f, w = .vs es f) ∨ ∃ s, w = .bs s := by
       cases hw with
       | nil => exact absurd rfl hz
       | vs _ f => exact .inl ⟨_, _, rfl⟩
     have hsl := isortP_len l
     have e : ofP l = if dupP (isortP l) then ([], 10) else (isortP l, 0) := by simp [ofP, hbad]
     have n2 := pclone_some l w hz (by omega) H.length (H ++ [Blk.cells 0 [.nilS]]) (hw.elems encP_T _) hk
     have n3 := sort_ok l (H ++ [Blk.cells 0 [.nilS]]).length hl H.length (H ++ [Blk.cells 0 [.nilS]] ++ [Blk.cells 0 (cellsOf encP l)]) (by simp) (by simp) (by rw [hget_new rfl]; rfl)
     have hset : (H ++ [Blk.cells 0 [.nilS]] ++ [Blk.cells 0 (cellsOf encP l)]).set (H ++ [Blk.cells 0 [.nilS]]).length (Blk.cells 0 (cellsOf encP (isortP l))) = H ++ [Blk.cells 0 [.nilS]] ++ [Blk.cells 0 (cellsOf encP (isortP l))] := by simp
     rw [hset] at n3
     rw [e]
     generalize isortP l = s at *
     have hix : ∀ (j : Nat), j < l.length → aIndexAddr Tryz.prog 23 (.bs ⟨(H ++ [Blk.cells 0 [.nilS]]).length, 0, 0, l.length, 0, 2, true, false⟩) (.int .i64 j) = some (.ptr (H ++ [Blk.cells 0 [.nilS]]).length 0 (j * 2)) := fun j hj => by
       simp [aIndexAddr, asNat, Tryz.underlying23, sz59, hj]
     have hlen' : ∀ K b, aLen Tryz.prog K 23 (.bs ⟨b, 0, 0, l.length, 0, 2, true, false⟩) = some (.int .i64 l.length) := fun K b => by simp [aLen, Tryz.underlying23]
     have hputN : ∀ (x : AV) (B : Blk), x.leaf = true → hput H.length (H ++ [Blk.cells 0 [.nilS]] ++ [B]) H.length 0 0 [x] = some (H ++ [Blk.cells 0 [x]] ++ [B]) := fun x B hx => by
       rw [List.append_assoc, List.singleton_append, hput_new rfl (Nat.le_refl _) (by simp) (by simp [hx])]
       simp [splice]
     have hgr : ∀ (x : AV) (B : Blk), hget (H ++ [Blk.cells 0 [x]] ++ [B]) H.length 0 = some [x] := fun x B => by
       rw [List.append_assoc, List.singleton_append, hget_new rfl]; rfl
     have p1 := hputN .nilS (Blk.cells 0 (cellsOf encP s)) rfl
     have p2 := hputN (.bs ⟨(H ++ [Blk.cells 0 [.nilS]]).length, 0, 0, l.length, 0, 2, true, false⟩) (Blk.cells 0 (cellsOf encP s)) rfl
     have e0 : ∀ a b, aStr .eql a b = some (.bool (a == b)) := fun _ _ => rfl
     refine ⟨if dupP s then .nilS else .vs (s.map encP) false, by cases dupP s; exact .vs _ _; exact .nil, ?_⟩
     refine pure_slim rfl (by kernel_rfl) Tryz.func8 s8 hp hsnap (by simp [Tryz.f8]) fun fr hlen h => ?_
     simp only [Has, Nat.zero_add] at h
     obtain ⟨a0, -⟩ := h
     simp only [Tryz.f8] at hlen ⊢
     unfold g8
     simp only [w9, AV.cells, AV.leaf, reduceEqDiff, reduceLT, reduceAdd, reduceLeDiff, reduceCtorEq, reduceMul, reduceMod, u64, hlen, a0, n1, n2, n3]
     refine loop_rule (fun m fr H' => ∃ (i : Nat), m = l.length - i ∧ 1 ≤ i ∧ i ≤ l.length ∧ fr.length = 34 ∧ fget fr 2 = .ptr H.length 0 0 ∧ fget fr 4 = .bs ⟨(H ++ [Blk.cells 0 [.nilS]]).length, 0, 0, l.length, 0, 2, true, false⟩ ∧ fget fr 5 = .int .i64 i
       ∧ H' = H ++ [Blk.cells 0 [.nilS]] ++ [Blk.cells 0 (cellsOf encP s)] ∧ dupP s = dupP (s.drop (i - 1))) ?_ (l.length - 1) _ _ ⟨1, by simp [w9, AV.cells, AV.leaf, reduceEqDiff, reduceLT, reduceAdd, reduceLeDiff, reduceCtorEq, reduceMul, reduceMod, u64, hlen, a0]; omega⟩
     rintro m fr H' ⟨i, rfl, h1i, hi, hlen, a2, a4, a5, hHe, hc⟩ ih
     subst hHe
     simp only [w9, AV.cells, AV.leaf, reduceEqDiff, reduceLT, reduceAdd, reduceLeDiff, reduceCtorEq, reduceMul, reduceMod, u64, hlen, a2, a4, a5, hlen']
     refine RC_split (fun h => ?_) (fun h => ?_)
     · have hlt : i < l.length := by simpa using h
       have his : i < s.length := by omega
       have his1 : i - 1 < s.length := by omega
       have hww : IntKind.i64.wrap ((i : Int) + 1) = ((i + 1 : Nat) : Int) := by rw [wrap64 (by omega) (by omega)]; simp
       have w1 : IntKind.i64.wrap ((i : Int) - 1) = ((i - 1 : Nat) : Int) := by rw [wrap64 (by omega) (by omega)]; omega
       have ex := cellsOf_at encP_T s i his 0 (by decide)
       have ey := cellsOf_at encP_T s (i - 1) his1 0 (by decide)
       have i1 := hix i hlt
       have i2 := hix (i - 1) (by omega)
       have hd : s.drop (i - 1) = s[i - 1] :: s[i] :: s.drop (i + 1) := by
         rw [List.drop_eq_getElem_cons his1]
         have : i - 1 + 1 = i := by omega
         rw [this, List.drop_eq_getElem_cons his]
       have hd2 : s.drop (i + 1 - 1) = s[i] :: s.drop (i + 1) := by
         have : i + 1 - 1 = i := by omega
         rw [this, List.drop_eq_getElem_cons his]
       rw [hd, dupP] at hc
       rw [← hd2] at hc
       simp only [encP, AV.cells, List.getElem?_cons_zero, Nat.add_zero] at ex ey
       generalize s[i] = y at *
       generalize s[i - 1] = x at *
       cases hq : y.name == x.name with
       | true =>
         rw [hq, Bool.true_or] at hc
         rw [hc]
         simp only [if_true]
         simp only [w9, AV.cells, AV.leaf, reduceEqDiff, reduceLT, reduceAdd, reduceLeDiff, reduceCtorEq, reduceMul, reduceMod, u64, hlen, a2, a4, a5, i1, i2, w1, ex, ey, e0, hq, p1]
         exact Fin_pure (l := [.agg [.nilS], .int .i64 10]) (by simp only [w9, AV.cells, AV.leaf, reduceEqDiff, reduceLT, reduceAdd, reduceLeDiff, reduceCtorEq, reduceMul, reduceMod, u64, hlen, a2, hgr, aResults, aResult]) (hfz _ _) (by simp)
       | false =>
         rw [hq, Bool.false_or] at hc
         simp only [w9, AV.cells, AV.leaf, reduceEqDiff, reduceLT, reduceAdd, reduceLeDiff, reduceCtorEq, reduceMul, reduceMod, u64, hlen, a2, a4, a5, i1, i2, w1, ex, ey, e0, hq, hww]
         refine ih _ _ (l.length - (i + 1)) (by omega) ⟨i + 1, rfl, by omega, by omega, ?_⟩
         simp [w9, AV.cells, AV.leaf, reduceEqDiff, reduceLT, reduceAdd, reduceLeDiff, reduceCtorEq, reduceMul, reduceMod, u64, hlen, a2, a4]
         exact hc
     · have hnl : ¬ i < l.length := by simpa using h
       have hd : s.drop (i - 1) = [s[i - 1]] := by
         rw [List.drop_eq_getElem_cons (by omega)]
         have : s.drop (i - 1 + 1) = [] := by rw [List.drop_eq_nil_iff]; omega
         rw [this]
       rw [hd] at hc
       have hc : dupP s = false := hc
       rw [hc]
       simp only [Bool.false_eq_true, if_false]
       simp only [w9, AV.cells, AV.leaf, reduceEqDiff, reduceLT, reduceAdd, reduceLeDiff, reduceCtorEq, reduceMul, reduceMod, u64, hlen, a2, a4, a5, p2]
       have hr : Row encP 2 true H.length (H ++ [Blk.cells 0 [.bs ⟨(H ++ [Blk.cells 0 [.nilS]]).length, 0, 0, l.length, 0, 2, true, false⟩]] ++ [Blk.cells 0 (cellsOf encP s)]) (.bs ⟨(H ++ [Blk.cells 0 [.nilS]]).length, 0, 0, l.length, 0, 2, true, false⟩) s :=
         .inr ⟨_, 0, by rw [hsl], by simp, by rw [hget_new (by simp)]; rfl, rfl⟩
       have hsz : s ≠ [] := by intro h0; rw [h0] at hsl; simp at hsl; omega
       have hf := hr.frozen encP_T (by decide) rfl (.inr hsz)
       have es : slv encP s = .vs (s.map encP) false := by cases s with | nil => exact absurd rfl hsz | cons y r => rfl
       rw [es] at hf
       exact Fin_pure (l := [.agg [.bs ⟨(H ++ [Blk.cells 0 [.nilS]]).length, 0, 0, l.length, 0, 2, true, false⟩], .int .i64 0]) (by simp only [w9, AV.cells, AV.leaf, reduceEqDiff, reduceLT, reduceAdd, reduceLeDiff, reduceCtorEq, reduceMul, reduceMod, u64, hlen, a2, hgr, aResults, aResult]) (.tup (.cons (.agg (.cons hf .nil)) (.cons (.still rfl) .nil))) (by simp)
end Go.Proofs.YtnipaiklandliaaGreatDoor
/- Chapters 14, 22: pairs, sets and alerts as a law takes them, walked. -/
namespace Go.Proofs.YtnipaiklandliaaGreatDoor
open Go Go.Abs AbsSeat Ty
open Nat (reduceEqDiff reduceLT reduceAdd reduceLeDiff reduceMul reduceMod)
theorem rowRp : RowT Tryz.prog 22 58 2 32 true where
 un := Tryz.underlying22
 size := sz58
 bytes := by58
 agg := ag58
 zero := ⟨_, ze58, rfl⟩
 pos := by decide
 tree := rfl
theorem litRp (x : Pr) (H : Heap) : aBuildSlice Tryz.prog H 22 1 [(0, .agg [.str x.name, .str x.val])] = some (.vs ([x].map encP) true, none) := lit1 rowRp encP_T ze58 rfl (by decide) x rfl
theorem litPp (x : Pr) (H : Heap) : aBuildSlice Tryz.prog H 23 1 [(0, .agg [.str x.name, .str x.val])] = some (.vs ([x].map encP) true, none) := lit1 rowPr encP_T ze59 rfl (by decide) x rfl
theorem Sl.leaf {v : AV} {l : List Pr} (h : Sl encP v l) : v.leaf = true := by cases h <;> rfl
end Go.Proofs.YtnipaiklandliaaGreatDoor
/- Pairs as a law takes them, walked. -/
namespace Go.Proofs.YtnipaiklandliaaGreatDoor
open Go Go.Abs AbsSeat Ty
open Nat (reduceEqDiff reduceLT reduceAdd reduceLeDiff reduceMul reduceMod)
theorem u7 : type_of% (And.intro (show tagT Tryz.prog 58 = 0 from by kernel_rfl) (And.intro ag1 (And.intro sz1 (And.intro by1 (And.intro ze1 (And.intro Tryz.underlying1 (And.intro ag3 (And.intro sz3 (And.intro by3 (And.intro ze3 (And.intro Tryz.underlying3 (And.intro ag9 (And.intro sz9 (And.intro by9 (And.intro ze9 (And.intro Tryz.underlying9 (And.intro ag22 (And.intro sz22 (And.intro by22 (And.intro se22 (And.intro ze22 (And.intro Tryz.underlying22 (And.intro ag23 (And.intro sz23 (And.intro by23 (And.intro se23 (And.intro ze23 (And.intro Tryz.underlying23 (And.intro ag58 (And.intro sz58 (And.intro by58 (And.intro ze58 (And.intro bu58 (And.intro Tryz.underlying58 (And.intro ag59 (And.intro sz59 (And.intro by59 (And.intro ze59 (And.intro bu59 (And.intro Tryz.underlying59 (And.intro fa58_0 (And.intro fd58_0 (And.intro fa58_1 fd58_1))))))))))))))))))))))))))))))))))))))))))) := And.intro (show tagT Tryz.prog 58 = 0 from by kernel_rfl) (And.intro ag1 (And.intro sz1 (And.intro by1 (And.intro ze1 (And.intro Tryz.underlying1 (And.intro ag3 (And.intro sz3 (And.intro by3 (And.intro ze3 (And.intro Tryz.underlying3 (And.intro ag9 (And.intro sz9 (And.intro by9 (And.intro ze9 (And.intro Tryz.underlying9 (And.intro ag22 (And.intro sz22 (And.intro by22 (And.intro se22 (And.intro ze22 (And.intro Tryz.underlying22 (And.intro ag23 (And.intro sz23 (And.intro by23 (And.intro se23 (And.intro ze23 (And.intro Tryz.underlying23 (And.intro ag58 (And.intro sz58 (And.intro by58 (And.intro ze58 (And.intro bu58 (And.intro Tryz.underlying58 (And.intro ag59 (And.intro sz59 (And.intro by59 (And.intro ze59 (And.intro bu59 (And.intro Tryz.underlying59 (And.intro fa58_0 (And.intro fd58_0 (And.intro fa58_1 fd58_1))))))))))))))))))))))))))))))))))))))))))
def g7 : Code :=
 .seq (.region 0 #[q 2 (.assign (.const (.slice none 0 0))) 23, q 3 (.assign (.const (.slice none 0 0))) 22] false) (.seq (.region 1 #[q 4 (.assign (.const (.slice none 0 0))) 23] false) (.seq (.region 2 #[q 5 (.assign (.const (.slice none 0 0))) 22] false) (.seq (.seq (.region 3 #[q 8 (.move (.tmp 0)) 22, q 9 (bi .len #[.tmp 8] #[22]) 3, q 10 (.move (ik 0)) 3] false) (.block 0 (.loop (.seq (.region 4 #[q 11 (.binOp .lss 3 (.tmp 10) (.tmp 9) 3) 0] false) (.seq (.cond (.tmp 11) .skip (.exit 0)) (.seq (.block 1 (.seq (.region 5 #[q 12 (.move (.tmp 10)) 3, q 13 (.indexAddr 22 (.tmp 8) (.tmp 10)) 0, q 14 (.load 58 (.tmp 13)) 58, q 7 (.alloc 58) 0, q 6 (.assign (.tmp 12)) 3, qn (.store 58 (.tmp 7) (.tmp 14)) 0] false) (.seq (.seq (.region 6 #[q 15 (.move (.tmp 6)) 3, q 16 (.binOp .geq 3 (.tmp 15) (ik 6) 3) 4] false) (.cond (.tmp 16) (.exit 0) .skip)) (.seq (.seq (.region 7 #[q 17 (.fieldAddr 58 (.tmp 7) 0) 0, q 18 (.load 9 (.tmp 17)) 9, q 19 (bi .len #[.tmp 18] #[9]) 3, q 20 (.binOp .gtr 3 (.tmp 19) (ik 20) 3) 4] false) (.cond (.tmp 20) (.region 8 #[q 21 (.fieldAddr 58 (.tmp 7) 0) 0, q 22 (.load 9 (.tmp 21)) 9, q 23 (.slice 9 (.tmp 22) none (some (ik 20)) none) 9, q 24 (.fieldAddr 58 (.tmp 7) 0) 0, qn (.store 9 (.tmp 24) (.tmp 23)) 0] false) .skip)) (.seq (.seq (.region 9 #[q 25 (.fieldAddr 58 (.tmp 7) 1) 0, q 26 (.load 9 (.tmp 25)) 9, q 27 (bi .len #[.tmp 26] #[9]) 3, q 28 (.binOp .gtr 3 (.tmp 27) (ik 30) 3) 4] false) (.cond (.tmp 28) (.region 10 #[q 29 (.fieldAddr 58 (.tmp 7) 1) 0, q 30 (.load 9 (.tmp 29)) 9, q 31 (.slice 9 (.tmp 30) none (some (ik 30)) none) 9, q 32 (.fieldAddr 58 (.tmp 7) 1) 0, qn (.store 9 (.tmp 32) (.tmp 31)) 0] false) .skip)) (.seq (.region 11 #[q 33 (.move (.tmp 4)) 23, q 34 (.fieldAddr 58 (.tmp 7) 0) 0, q 35 (.load 9 (.tmp 34)) 9, q 36 (.fieldAddr 58 (.tmp 7) 1) 0, q 37 (.load 9 (.tmp 36)) 9, q 38 (.build 59 #[(0, .tmp 35), (1, .tmp 37)]) 59, q 39 (.buildSlice 23 1 #[(0, .tmp 38)]) 23, q 40 (bi .append #[.tmp 33, .tmp 39] #[23, 23]) 23, q 4 (.assign (.tmp 40)) 23] false) (.region 12 #[q 41 (.move (.tmp 5)) 22, q 42 (.load 58 (.tmp 7)) 58, q 43 (.buildSlice 22 1 #[(0, .tmp 42)]) 22, q 44 (bi .append #[.tmp 41, .tmp 43] #[22, 22]) 22, q 5 (.assign (.tmp 44)) 22] false))))))) (.region 13 #[q 45 (.binOp .add 3 (.tmp 10) (ik 1) 3) 3, q 10 (.move (.tmp 45)) 3] false))))))) (.seq (.region 14 #[q 46 (.move (.tmp 4)) 23, q 47 (.move (.tmp 5)) 22, q 2 (.assign (.tmp 46)) 23, q 3 (.assign (.tmp 47)) 22] false) .ret))))
theorem s7 : Tryz.f7.body.map (slim cfg) = some g7 := by kernel_rfl
def cutPr (x : Pr) : Pr := ⟨x.name.take 20, x.val.take 30⟩
def cutL (l : List Pr) : List Pr := (l.take 6).map cutPr
theorem cutL_len (l : List Pr) : (cutL l).length ≤ 6 := by simp [cutL]; omega
theorem str_cut {t : TypeId} (hu : Tryz.prog.underlying t = some .string) (s : List UInt8) (n : Nat) (h : n ≤ s.length) : aSlice Tryz.prog t (.str s) none (some (.int .i64 n)) none = some (.str (s.take n)) := by
 simp [aSlice, hu, aBounds, optInt, asNat, h]
theorem pairs_ok (l : List Pr) (w : AV) (hw : Sl encP w l) (hl : l.length ≤ 9223372036854775807) (prot : Nat) (H : Heap) (hp : prot ≤ H.length) :
   aLim cfg prot 7 [w] H = some (.tup [slv encP (cutL l), slv encP (cutL l)], none) := by
 have hsnap : snap H [w] = some ([w], false) := by cases hw <;> rfl
 refine pure_slim rfl (by kernel_rfl) Tryz.func7 s7 hp hsnap (by simp [Tryz.f7]) fun fr hlen h => ?_
 simp only [Has, Nat.zero_add] at h
 obtain ⟨a0, -⟩ := h
 simp only [Tryz.f7] at hlen ⊢
 unfold g7
 simp only [w9, AV.cells, AV.leaf, reduceEqDiff, reduceLT, reduceAdd, reduceLeDiff, reduceCtorEq, reduceMul, reduceMod, u7, hlen, a0, hw.len Tryz.underlying22]
 refine loop_rule (fun m fr H' => ∃ (i : Nat) (o p : AV), m = l.length - i ∧ i ≤ l.length ∧ i ≤ 6 ∧ fr.length = 48 ∧ fget fr 8 = w ∧ fget fr 9 = .int .i64 l.length ∧ fget fr 10 = .int .i64 i ∧ fget fr 4 = o ∧ fget fr 5 = p
   ∧ H.length ≤ H'.length ∧ Row encP 2 true H.length H' o (cutL (l.take i)) ∧ Row encP 2 true H.length H' p (cutL (l.take i)) ∧ (i = 0 → o = .nilS ∧ p = .nilS) ∧ (∀ s1 s2, o = .bs s1 → p = .bs s2 → s1.b ≠ s2.b)) ?_ l.length _ _ ⟨0, .nilS, .nilS, by simp [w9, AV.cells, AV.leaf, reduceEqDiff, reduceLT, reduceAdd, reduceLeDiff, reduceCtorEq, reduceMul, reduceMod, u7, hlen, a0, cutL, Row.nil]⟩
 rintro m fr H' ⟨i, o, p, rfl, hi, hi6, hlen, a8, a9, a10, a4, a5, hH, hrow, hrowp, hnil, hapart⟩ ih
 simp only [w9, AV.cells, AV.leaf, reduceEqDiff, reduceLT, reduceAdd, reduceLeDiff, reduceCtorEq, reduceMul, reduceMod, u7, hlen, a8, a9, a10, a4, a5]
 have fin : ∀ (K : Heap), Row encP 2 true H.length K o (cutL (l.take i)) → Row encP 2 true H.length K p (cutL (l.take i)) → (l.length ≤ i ∨ 6 ≤ i) → Frz K H.length (packR [o, p]) (.tup [slv encP (cutL l), slv encP (cutL l)]) := fun K h1 h2 h3 => by
   have e : cutL (l.take i) = cutL l := by
     unfold cutL
     congr 1
     rcases h3 with h3 | h3
     · rw [List.take_of_length_le (l := l) h3]
     · rw [List.take_take]
       congr 1
       omega
   have hne : ∀ q, (q = o ∨ q = p) → q = .nilS ∨ cutL (l.take i) ≠ [] := fun q hq => by
     by_cases h0 : i = 0
     · rcases hq with rfl | rfl
       · exact .inl (hnil h0).1
       · exact .inl (hnil h0).2
     · refine .inr ?_
       intro h
       have h1 : (cutL (l.take i)).length = 0 := by rw [h]; rfl
       have h2 : (cutL (l.take i)).length = i := by simp [cutL]; omega
       omega
   have f1 := h1.frozen encP_T (by decide) rfl (hne o (.inl rfl))
   have f2 := h2.frozen encP_T (by decide) rfl (hne p (.inr rfl))
   rw [e] at f1 f2
   exact .tup (.cons f1 (.cons f2 .nil))
 refine RC_split (fun h => ?_) (fun h => ?_)
 · have hlt : i < l.length := by simpa using h
   have hww : IntKind.i64.wrap ((i : Int) + 1) = ((i + 1 : Nat) : Int) := by rw [wrap64 (by omega) (by omega)]; simp
   have e1 := hw.at (k := .i64) Tryz.underlying22 sz58 encP_len hlt
   have htk : l.take (i + 1) = l.take i ++ [l[i]] := by simp
   have hcl : (cutL (l.take i)).length = i := by simp [cutL]; omega
   by_cases h6 : (6 : Int) ≤ i
   · generalize l[i] = x at *
     simp only [w9, AV.cells, AV.leaf, reduceEqDiff, reduceLT, reduceAdd, reduceLeDiff, reduceCtorEq, reduceMul, reduceMod, u7, hlen, a8, a9, a10, a4, a5, e1, encP, hH, h6]
     have hm := fin (H' ++ [Blk.cells 0 (encP x).cells]) (hrow.more _) (hrowp.more _) (.inr (by omega))
     simp only [encP, AV.cells] at hm
     exact Fin_pure (l := [o, p]) (by simp [w9, AV.cells, AV.leaf, reduceEqDiff, reduceLT, reduceAdd, reduceLeDiff, reduceCtorEq, reduceMul, reduceMod, u7, hlen, a4, a5, aResults, aResult]) hm (by simp)
   · have hcut : cutL (l.take (i + 1)) = cutL (l.take i) ++ [cutPr l[i]] := by
       have t1 : ∀ j, j ≤ 6 → (l.take j).take 6 = l.take j := fun j hj => by rw [List.take_take, Nat.min_eq_right hj]
       unfold cutL
       rw [t1 (i + 1) (by omega), t1 i (by omega), htk, List.map_append]
       rfl
     generalize l[i] = x at *
     have hsl : ∀ (s : List UInt8) K, aLen Tryz.prog K 9 (.str s) = some (.int .i64 s.length) := fun s K => by simp [aLen, Tryz.underlying9]
     have c1 : ∀ s : List UInt8, 20 < s.length → aSlice Tryz.prog 9 (.str s) none (some (.int .i64 20)) none = some (.str (s.take 20)) := fun s hs => str_cut Tryz.underlying9 s 20 (by omega)
     have c2 : ∀ s : List UInt8, 30 < s.length → aSlice Tryz.prog 9 (.str s) none (some (.int .i64 30)) none = some (.str (s.take 30)) := fun s hs => str_cut Tryz.underlying9 s 30 (by omega)
     have hrow2 := hrow.more [Blk.cells 0 (encP (cutPr x)).cells]
     have hrowp2 := hrowp.more [Blk.cells 0 (encP (cutPr x)).cells]
     obtain ⟨o', H2, happ, hrow3, hle, hno, hold, hblk⟩ := hrow2.appB (prot := H.length) (xt := 23) encP_T rowPr hxtPr (elem_vs encP_T [cutPr x] true) (by simp) (by simp [roomy]; omega) (Nat.le_refl _) (by simp; omega)
     have hrowp3 : Row encP 2 true H.length H2 p (cutL (l.take i)) := by
       rcases hrowp2 with ⟨h1, h2⟩ | ⟨b, ver, h1, h2, h3, h4⟩
       · exact .inl ⟨h1, h2⟩
       · exact .inr ⟨b, ver, h1, h2, hold b ver _ h3 (fun s hs => hapart _ _ hs h1), h4⟩
     obtain ⟨p', H3, happ2, hrowp4, hle2, hno2, hold2, hblk2⟩ := hrowp3.appB (prot := H.length) (xt := 22) encP_T rowRp (.inl ⟨_, Tryz.underlying22⟩) (elem_vs encP_T [cutPr x] true) (by simp) (by simp [roomy]; omega) (Nat.le_refl _) (by simp at hle; omega)
     have hlen2 : H'.length + 1 ≤ H2.length := by simpa using hle
     have hpb : ∀ s, p = .bs s → s.b < H'.length := fun s hs => by
       rcases hrowp with ⟨h1, _⟩ | ⟨b, ver, h1, h2, h3, h4⟩
       · rw [h1] at hs; cases hs
       · rw [h1] at hs; cases hs; exact hget_lt h3
     have hob : ∀ s, o = .bs s → s.b < H'.length := fun s hs => by
       rcases hrow with ⟨h1, _⟩ | ⟨b, ver, h1, h2, h3, h4⟩
       · rw [h1] at hs; cases hs
       · rw [h1] at hs; cases hs; exact hget_lt h3
     have hob' : ∀ s, o' = .bs s → s.b < H2.length := fun s hs => by
       rcases hrow3 with ⟨h1, _⟩ | ⟨b, ver, h1, h2, h3, h4⟩
       · exact absurd h1 hno
       · rw [h1] at hs; cases hs; exact hget_lt h3
     have hapart1 : ∀ s1 s2, o' = .bs s1 → p = .bs s2 → s1.b ≠ s2.b := fun s1 s2 h1 h2 => by
       rcases hblk s1 h1 with ⟨s, h3, h4⟩ | h4
       · rw [h4]; exact hapart s s2 h3 h2
       · have := hpb s2 h2
         rw [h4]; simp; omega
     have hrow4 : Row encP 2 true H.length H3 o' (cutL (l.take i) ++ [cutPr x]) := by
       rcases hrow3 with ⟨h1, h2⟩ | ⟨b, ver, h1, h2, h3, h4⟩
       · exact absurd h1 hno
       · exact .inr ⟨b, ver, h1, h2, hold2 b ver _ h3 (fun s hs h5 => hapart1 _ s h1 hs h5.symm), h4⟩
     have hapart2 : ∀ s1 s2, o' = .bs s1 → p' = .bs s2 → s1.b ≠ s2.b := fun s1 s2 h1 h2 => by
       rcases hblk2 s2 h2 with ⟨s, h3, h4⟩ | h4
       · rw [h4]; exact hapart1 s1 s h1 h3
       · have := hob' s1 h1
         rw [h4]; omega
     have hbox : hget H2 H'.length 0 = some (encP (cutPr x)).cells := hold _ _ _ (by rw [hget_new rfl]; rfl) (fun s hs => by have := hob s hs; omega)
     have hlit1 := litPp (cutPr x)
     have hlit2 := litRp (cutPr x)
     simp only [encP, AV.cells] at happ happ2 hbox
     have goon : ∀ (fr' : List AV), fr'.length = 48 → fget fr' 8 = w → fget fr' 9 = .int .i64 l.length → fget fr' 10 = .int .i64 ((i + 1 : Nat) : Int) → fget fr' 4 = o' → fget fr' 5 = p' → ∃ (j : Nat) (o p : AV), l.length - (i + 1) = l.length - j ∧ j ≤ l.length ∧ j ≤ 6 ∧ fr'.length = 48 ∧ fget fr' 8 = w ∧ fget fr' 9 = .int .i64 l.length ∧ fget fr' 10 = .int .i64 j ∧ fget fr' 4 = o ∧ fget fr' 5 = p
         ∧ H.length ≤ H3.length ∧ Row encP 2 true H.length H3 o (cutL (l.take j)) ∧ Row encP 2 true H.length H3 p (cutL (l.take j)) ∧ (j = 0 → o = .nilS ∧ p = .nilS) ∧ (∀ s1 s2, o = .bs s1 → p = .bs s2 → s1.b ≠ s2.b) := fun fr' b0 b1 b2 b3 b4 b5 =>
       ⟨i + 1, o', p', rfl, hlt, by omega, b0, b1, b2, b3, b4, b5, by omega, by rw [hcut]; exact hrow4, by rw [hcut]; exact hrowp4, fun h => by omega, hapart2⟩
     by_cases hn : (20 : Int) < x.name.length
     · have hn' : 20 < x.name.length := by omega
       by_cases hv : (30 : Int) < x.val.length
       · have hv' : 30 < x.val.length := by omega
         simp only [cutPr] at happ happ2 hlit1 hlit2 hbox
         simp only [w9, AV.cells, AV.leaf, reduceEqDiff, reduceLT, reduceAdd, reduceLeDiff, reduceCtorEq, reduceMul, reduceMod, u7, hlen, a8, a9, a10, a4, a5, e1, encP, hH, h6, hsl, hn, hv, c1 _ hn', c2 _ hv', hlit1, hlit2, happ, happ2, hbox, hww]
         refine ih _ _ (l.length - (i + 1)) (by omega) (goon _ ?_ ?_ ?_ ?_ ?_ ?_) <;> simp [w9, AV.cells, AV.leaf, reduceEqDiff, reduceLT, reduceAdd, reduceLeDiff, reduceCtorEq, reduceMul, reduceMod, u7, hlen, a8, a9]
       · have e2 : x.val.take 30 = x.val := List.take_of_length_le (by omega)
         simp only [cutPr, e2] at happ happ2 hlit1 hlit2 hbox
         simp only [w9, AV.cells, AV.leaf, reduceEqDiff, reduceLT, reduceAdd, reduceLeDiff, reduceCtorEq, reduceMul, reduceMod, u7, hlen, a8, a9, a10, a4, a5, e1, encP, hH, h6, hsl, hn, hv, c1 _ hn', hlit1, hlit2, happ, happ2, hbox, hww]
         refine ih _ _ (l.length - (i + 1)) (by omega) (goon _ ?_ ?_ ?_ ?_ ?_ ?_) <;> simp [w9, AV.cells, AV.leaf, reduceEqDiff, reduceLT, reduceAdd, reduceLeDiff, reduceCtorEq, reduceMul, reduceMod, u7, hlen, a8, a9]
     · have e3 : x.name.take 20 = x.name := List.take_of_length_le (by omega)
       by_cases hv : (30 : Int) < x.val.length
       · have hv' : 30 < x.val.length := by omega
         simp only [cutPr, e3] at happ happ2 hlit1 hlit2 hbox
         simp only [w9, AV.cells, AV.leaf, reduceEqDiff, reduceLT, reduceAdd, reduceLeDiff, reduceCtorEq, reduceMul, reduceMod, u7, hlen, a8, a9, a10, a4, a5, e1, encP, hH, h6, hsl, hn, hv, c2 _ hv', hlit1, hlit2, happ, happ2, hbox, hww]
         refine ih _ _ (l.length - (i + 1)) (by omega) (goon _ ?_ ?_ ?_ ?_ ?_ ?_) <;> simp [w9, AV.cells, AV.leaf, reduceEqDiff, reduceLT, reduceAdd, reduceLeDiff, reduceCtorEq, reduceMul, reduceMod, u7, hlen, a8, a9]
       · have e2 : x.val.take 30 = x.val := List.take_of_length_le (by omega)
         simp only [cutPr, e2, e3] at happ happ2 hlit1 hlit2 hbox
         simp only [w9, AV.cells, AV.leaf, reduceEqDiff, reduceLT, reduceAdd, reduceLeDiff, reduceCtorEq, reduceMul, reduceMod, u7, hlen, a8, a9, a10, a4, a5, e1, encP, hH, h6, hsl, hn, hv, hlit1, hlit2, happ, happ2, hbox, hww]
         refine ih _ _ (l.length - (i + 1)) (by omega) (goon _ ?_ ?_ ?_ ?_ ?_ ?_) <;> simp [w9, AV.cells, AV.leaf, reduceEqDiff, reduceLT, reduceAdd, reduceLeDiff, reduceCtorEq, reduceMul, reduceMod, u7, hlen, a8, a9]
 · have hnl : ¬ i < l.length := by simpa using h
   simp only [w9, AV.cells, AV.leaf, reduceEqDiff, reduceLT, reduceAdd, reduceLeDiff, reduceCtorEq, reduceMul, reduceMod, u7, hlen, a8, a9, a10, a4, a5]
   exact Fin_pure (l := [o, p]) (by simp [w9, AV.cells, AV.leaf, reduceEqDiff, reduceLT, reduceAdd, reduceLeDiff, reduceCtorEq, reduceMul, reduceMod, u7, hlen, a4, a5, aResults, aResult]) (fin _ hrow hrowp (.inl (by omega))) (by simp)
theorem Sl.cells1 {v : AV} {l : List Pr} (h : Sl encP v l) : v.cells = [v] := by cases h <;> rfl
def setL (l : List Pr) : List Pr := (ofP (cutL l)).1
theorem setL_len (l : List Pr) : (setL l).length ≤ 6 := by
 have h := cutL_len l
 have h2 := isortP_len (cutL l)
 unfold setL ofP
 split
 · simp
 · split
   · simp
   · simp only; omega
theorem cutL_fit (l : List Pr) : ∀ x ∈ cutL l, x.name.length ≤ 9223372036854775807 ∧ x.val.length ≤ 9223372036854775807 := by
 intro x hx
 obtain ⟨y, _, rfl⟩ := List.mem_map.1 hx
 simp [cutPr]
 omega
end Go.Proofs.YtnipaiklandliaaGreatDoor
/- Set.Get, walked. -/
namespace Go.Proofs.YtnipaiklandliaaGreatDoor
open Go Go.Abs AbsSeat Ty
open Nat (reduceEqDiff reduceLT reduceAdd reduceLeDiff reduceMul reduceMod)
theorem u128 : type_of% (And.intro (show tagT Tryz.prog 59 = 0 from by kernel_rfl) (And.intro (show tagT Tryz.prog 27 = 0 from by kernel_rfl) (And.intro (show tagT Tryz.prog 9 = 0 from by kernel_rfl) (And.intro ag3 (And.intro sz3 (And.intro by3 (And.intro ze3 (And.intro Tryz.underlying3 (And.intro ag9 (And.intro sz9 (And.intro by9 (And.intro ze9 (And.intro Tryz.underlying9 (And.intro ag23 (And.intro sz23 (And.intro by23 (And.intro se23 (And.intro ze23 (And.intro Tryz.underlying23 (And.intro ag27 (And.intro sz27 (And.intro by27 (And.intro ze27 (And.intro bu27 (And.intro Tryz.underlying27 (And.intro ag59 (And.intro sz59 (And.intro by59 (And.intro ze59 (And.intro bu59 (And.intro Tryz.underlying59 (And.intro ag62 (And.intro sz62 (And.intro by62 (And.intro ze62 (And.intro Tryz.underlying62 (And.intro fa27_0 (And.intro fd27_0 (And.intro fa59_0 (And.intro fd59_0 (And.intro fa59_1 fd59_1))))))))))))))))))))))))))))))))))))))))) := And.intro (show tagT Tryz.prog 59 = 0 from by kernel_rfl) (And.intro (show tagT Tryz.prog 27 = 0 from by kernel_rfl) (And.intro (show tagT Tryz.prog 9 = 0 from by kernel_rfl) (And.intro ag3 (And.intro sz3 (And.intro by3 (And.intro ze3 (And.intro Tryz.underlying3 (And.intro ag9 (And.intro sz9 (And.intro by9 (And.intro ze9 (And.intro Tryz.underlying9 (And.intro ag23 (And.intro sz23 (And.intro by23 (And.intro se23 (And.intro ze23 (And.intro Tryz.underlying23 (And.intro ag27 (And.intro sz27 (And.intro by27 (And.intro ze27 (And.intro bu27 (And.intro Tryz.underlying27 (And.intro ag59 (And.intro sz59 (And.intro by59 (And.intro ze59 (And.intro bu59 (And.intro Tryz.underlying59 (And.intro ag62 (And.intro sz62 (And.intro by62 (And.intro ze62 (And.intro Tryz.underlying62 (And.intro fa27_0 (And.intro fd27_0 (And.intro fa59_0 (And.intro fd59_0 (And.intro fa59_1 fd59_1))))))))))))))))))))))))))))))))))))))))
def g128 : Code :=
 .seq (.region 0 #[q 2 (.box 59 (.tmp 0)) 0, q 3 (.assign (.const (.bool false))) 4] false) (.seq (.region 1 #[q 4 (.fieldAddr 59 (.tmp 2) 0) 0, q 5 (.load 9 (.tmp 4)) 9, q 6 (.load 9 (.tmp 1)) 9, q 7 (.binOp .eql 9 (.tmp 5) (.tmp 6) 9) 4, q 3 (.assign (.tmp 7)) 4] false) .ret)
theorem s128 : Tryz.f128.body.map (slim cfg) = some g128 := by kernel_rfl
def g91 : Code :=
 .seq (.region 0 #[q 2 (.box 27 (.tmp 0)) 0, q 3 (.box 9 (.tmp 1)) 0, q 4 (.assign (.const (.string { data := #[] }))) 9] false) (.seq (.region 1 #[q 6 (.fieldAddr 27 (.tmp 2) 0) 0, q 7 (.load 23 (.tmp 6)) 23, q 8 (.makeFunc (.func 128) #[] #[.tmp 3]) 62, q 9 (cl 61 #[.tmp 7, .tmp 8] #[23, 62]) 3, q 5 (.assign (.tmp 9)) 3] false) (.seq (.seq (.region 2 #[q 10 (.move (.tmp 5)) 3, q 11 (.binOp .lss 3 (.tmp 10) (ik 0) 3) 4] false) (.cond (.tmp 11) (.seq (.region 3 #[q 4 (.assign (.const (.string { data := #[] }))) 9] false) .ret) .skip)) (.seq (.region 4 #[q 12 (.fieldAddr 27 (.tmp 2) 0) 0, q 13 (.load 23 (.tmp 12)) 23, q 14 (.move (.tmp 5)) 3, q 15 (.indexAddr 23 (.tmp 13) (.tmp 14)) 0, q 16 (.fieldAddr 59 (.tmp 15) 1) 0, q 17 (.load 9 (.tmp 16)) 9, q 4 (.assign (.tmp 17)) 9] false) .ret)))
theorem s91 : Tryz.f91.body.map (slim cfg) = some g91 := by kernel_rfl
def getU (l : List Pr) (name : List UInt8) : List UInt8 := match l with
 | [] => []
 | x :: r => if x.name == name then x.val else getU r name
theorem get1_ok (x : Pr) (name : List UInt8) (b : Nat) (prot : Nat) (H : Heap) (hp : prot ≤ H.length) (hg : hget H b 0 = some [.str name]) : aLim cfg prot 128 [encP x, .ptr b 0 0] H = some (.bool (x.name == name), none) := by
 have hsnap : snap H [encP x, .ptr b 0 0] = some ([encP x, .ptr b 0 0], false) := rfl
 have hg2 : hget (H ++ [Blk.cells 0 [.str x.name, .str x.val]]) b 0 = some [.str name] := hget_mono hg _
 refine pure_slim rfl (by kernel_rfl) Tryz.func128 s128 hp hsnap (by simp [Tryz.f128]) fun fr hlen h => ?_
 simp only [Has, Nat.zero_add] at h
 obtain ⟨a0, a1, -⟩ := h
 simp only [Tryz.f128] at hlen ⊢
 unfold g128
 simp only [w9, AV.cells, AV.leaf, reduceEqDiff, reduceLT, reduceAdd, reduceLeDiff, reduceCtorEq, reduceMul, reduceMod, u128, hlen, a0, a1, encP, hg2, str_eql]
 exact Fin_pure (l := [.bool (x.name == name)]) (by simp [w9, AV.cells, AV.leaf, reduceEqDiff, reduceLT, reduceAdd, reduceLeDiff, reduceCtorEq, reduceMul, reduceMod, u128, aResults, aResult, hlen]) (.still rfl) (by simp)
def idxG : List Pr → List UInt8 → Int → Int
 | [], _, _ => -1
 | x :: l, name, i => if x.name == name then i else idxG l name (i + 1)
theorem idxg_ok (l : List Pr) (name : List UInt8) (b : Nat) (v : AV) (hv : Sl encP v l) (hl : l.length < 1000000000) (prot : Nat) (H : Heap) (hp : prot ≤ H.length) (hg : hget H b 0 = some [.str name]) :
   aLim cfg prot 61 [v, .func 128 [] [.ptr b 0 0]] H = some (.int .i64 (idxG l name 0), none) := by
 have hsnap : snap H [v, .func 128 [] [.ptr b 0 0]] = some ([v, .func 128 [] [.ptr b 0 0]], false) := by cases hv <;> rfl
 refine pure_slim rfl (by kernel_rfl) Tryz.func61 s61 hp hsnap (by simp [Tryz.f61]) fun fr hlen h => ?_
 simp only [Has, Nat.zero_add] at h
 obtain ⟨a0, a1, -⟩ := h
 simp only [Tryz.f61] at hlen ⊢
 unfold g61
 simp only [w9, AV.cells, AV.leaf, reduceEqDiff, reduceLT, reduceAdd, reduceLeDiff, reduceCtorEq, reduceMul, reduceMod, u64, hlen, a0, a1, hv.len Tryz.underlying23]
 refine loop_rule (fun m fr H' => ∃ (i : Nat), m = l.length - i ∧ i ≤ l.length ∧ fr.length = 19 ∧ fget fr 0 = v ∧ fget fr 1 = .func 128 [] [.ptr b 0 0] ∧ fget fr 7 = .int .i64 l.length ∧ fget fr 8 = .int .i64 i
   ∧ H' = H ∧ idxG l name 0 = idxG (l.drop i) name i) ?_ l.length _ _ ⟨0, by simp [w9, AV.cells, AV.leaf, reduceEqDiff, reduceLT, reduceAdd, reduceLeDiff, reduceCtorEq, reduceMul, reduceMod, u64, hlen, a0, a1]⟩
 rintro m fr H' ⟨i, rfl, hi, hlen, a0, a1, a7, a8, rfl, hc⟩ ih
 simp only [w9, AV.cells, AV.leaf, reduceEqDiff, reduceLT, reduceAdd, reduceLeDiff, reduceCtorEq, reduceMul, reduceMod, u64, hlen, a0, a1, a7, a8]
 refine RC_split (fun h => ?_) (fun h => ?_)
 · have hlt : i < l.length := by simpa using h
   have hw : IntKind.i64.wrap ((i : Int) + 1) = ((i + 1 : Nat) : Int) := by rw [wrap64 (by omega) (by omega)]; simp
   have e1 := hv.at (k := .i64) Tryz.underlying23 sz59 encP_len hlt
   have hd : l.drop i = l[i] :: l.drop (i + 1) := by simp
   generalize l[i] = x at *
   rw [hd, idxG] at hc
   have hcall := get1_ok x name b H'.length H' (Nat.le_refl _) hg
   simp only [encP] at hcall
   simp only [w9, AV.cells, AV.leaf, reduceEqDiff, reduceLT, reduceAdd, reduceLeDiff, reduceCtorEq, reduceMul, reduceMod, u64, hlen, a0, a1, a7, a8, e1, encP, hcall]
   refine RC_split (fun h => ?_) (fun h => ?_)
   · simp only [w9, AV.cells, AV.leaf, reduceEqDiff, reduceLT, reduceAdd, reduceLeDiff, reduceCtorEq, reduceMul, reduceMod, u64, hlen, a0, a1, a7, a8]
     rw [hc, if_pos h]
     exact Fin_pure (l := [.int .i64 i]) (by simp [w9, AV.cells, AV.leaf, reduceEqDiff, reduceLT, reduceAdd, reduceLeDiff, reduceCtorEq, reduceMul, reduceMod, u64, aResults, aResult, hlen]) (.still rfl) (by simp)
   · simp only [w9, AV.cells, AV.leaf, reduceEqDiff, reduceLT, reduceAdd, reduceLeDiff, reduceCtorEq, reduceMul, reduceMod, u64, hlen, a0, a1, a7, a8, hw]
     refine ih _ _ (l.length - (i + 1)) (by omega) ⟨i + 1, rfl, hlt, ?_⟩
     rw [hc]
     simp [w9, AV.cells, AV.leaf, reduceEqDiff, reduceLT, reduceAdd, reduceLeDiff, reduceCtorEq, reduceMul, reduceMod, u64, hlen, a0, a1, a7, a8, h]
 · simp only [w9, AV.cells, AV.leaf, reduceEqDiff, reduceLT, reduceAdd, reduceLeDiff, reduceCtorEq, reduceMul, reduceMod, u64, hlen, a0, a1, a7, a8]
   have hnl : ¬ i < l.length := by simpa using h
   have : l.drop i = [] := by simp; omega
   rw [this] at hc
   rw [hc]
   exact Fin_pure (l := [.int .i64 (-1)]) (by simp [w9, AV.cells, AV.leaf, reduceEqDiff, reduceLT, reduceAdd, reduceLeDiff, reduceCtorEq, reduceMul, reduceMod, u64, aResults, aResult, hlen]) (.still rfl) (by simp)
theorem idxG_spec : ∀ (l : List Pr) (name : List UInt8) (i : Nat), (idxG l name i = -1 ∧ getU l name = []) ∨ ∃ j, ∃ h : j < l.length, idxG l name i = ((i + j : Nat) : Int) ∧ getU l name = l[j].val
 | [], _, _ => .inl ⟨rfl, rfl⟩
 | x :: l, name, i => by
   unfold idxG getU
   by_cases h : x.name == name
   · rw [if_pos h, if_pos h]
     exact .inr ⟨0, by simp, by simp, rfl⟩
   · rw [if_neg h, if_neg h]
     rcases idxG_spec l name (i + 1) with ⟨h1, h2⟩ | ⟨j, hj, h1, h2⟩
     · exact .inl ⟨by simpa using h1, h2⟩
     · refine .inr ⟨j + 1, by simp; omega, ?_, by simpa using h2⟩
       have : ((i : Int) + 1) = ((i + 1 : Nat) : Int) := by simp
       rw [this, h1]
       congr 1; omega
theorem get_ok (l : List Pr) (name : List UInt8) (v : AV) (hv : Sl encP v l) (hl : l.length < 1000000000) (prot : Nat) (H : Heap) (hp : prot ≤ H.length) : aLim cfg prot 91 [.agg [v], .str name] H = some (.str (getU l name), none) := by
 have hsnap : snap H [.agg [v], .str name] = some ([.agg [v], .str name], false) := rfl
 have hvl := Sl.leaf hv
 have hvc := Sl.cells1 hv
 unfold AV.leaf at hvl
 unfold AV.cells at hvc
 have hgn : hget (H ++ [Blk.cells 0 [v]] ++ [Blk.cells 0 [.str name]]) (H ++ [Blk.cells 0 [v]]).length 0 = some [.str name] := by rw [hget_new rfl, if_pos rfl]
 have n1 := idxg_ok l name (H ++ [Blk.cells 0 [v]]).length v hv hl H.length (H ++ [Blk.cells 0 [v]] ++ [Blk.cells 0 [.str name]]) (by simp) hgn
 have lt1 : H.length < (H ++ [Blk.cells 0 [v]]).length := by simp
 rcases idxG_spec l name 0 with ⟨h1, h2⟩ | ⟨j, hj, h1, h2⟩
 · have h1 : idxG l name 0 = -1 := h1
   rw [h1] at n1
   rw [h2]
   have d0 : decide ((-1 : Int) < 0) = true := rfl
   refine pure_slim rfl (by kernel_rfl) Tryz.func91 s91 hp hsnap (by simp [Tryz.f91]) fun fr hlen h => ?_
   simp only [Has, Nat.zero_add] at h
   obtain ⟨a0, a1, -⟩ := h
   simp only [Tryz.f91] at hlen ⊢
   unfold g91
   simp only [w9, AV.cells, AV.leaf, reduceEqDiff, reduceLT, reduceAdd, reduceLeDiff, reduceCtorEq, reduceMul, reduceMod, u128, hlen, a0, a1, hvl, hvc, lt1, n1, d0]
   exact Fin_pure (l := [.str []]) (by simp [w9, AV.cells, AV.leaf, reduceEqDiff, reduceLT, reduceAdd, reduceLeDiff, reduceCtorEq, reduceMul, reduceMod, u128, aResults, aResult, hlen]) (.still rfl) (by simp)
 · rw [Nat.zero_add] at h1
   have h1 : idxG l name 0 = (j : Int) := h1
   rw [h1] at n1
   rw [h2]
   have d0 : decide ((j : Int) < 0) = false := decide_eq_false (by omega)
   have e1 := hv.at (k := .i64) Tryz.underlying23 sz59 encP_len hj
   generalize l[j] = x at *
   refine pure_slim rfl (by kernel_rfl) Tryz.func91 s91 hp hsnap (by simp [Tryz.f91]) fun fr hlen h => ?_
   simp only [Has, Nat.zero_add] at h
   obtain ⟨a0, a1, -⟩ := h
   simp only [Tryz.f91] at hlen ⊢
   unfold g91
   simp only [w9, AV.cells, AV.leaf, reduceEqDiff, reduceLT, reduceAdd, reduceLeDiff, reduceCtorEq, reduceMul, reduceMod, u128, hlen, a0, a1, hvl, hvc, lt1, n1, d0, e1, encP]
   exact Fin_pure (l := [.str x.val]) (by simp [w9, AV.cells, AV.leaf, reduceEqDiff, reduceLT, reduceAdd, reduceLeDiff, reduceCtorEq, reduceMul, reduceMod, u128, aResults, aResult, hlen]) (.still rfl) (by simp)
end Go.Proofs.YtnipaiklandliaaGreatDoor
/- chars.All of any question, num.digits: walked. -/
namespace Go.Proofs.YtnipaiklandliaaGreatDoor
open Go Go.Abs AbsSeat Ty
open Nat (reduceEqDiff reduceLT reduceAdd reduceLeDiff reduceMul reduceMod)
theorem u85 : type_of% (And.intro (fun (K : Heap) (n : Int) => conv_int Tryz.underlying5 Tryz.underlying126 K n) (And.intro ag3 (And.intro sz3 (And.intro by3 (And.intro ze3 (And.intro Tryz.underlying3 (And.intro ag5 (And.intro sz5 (And.intro by5 (And.intro ze5 (And.intro Tryz.underlying5 (And.intro ag9 (And.intro sz9 (And.intro by9 (And.intro ze9 (And.intro Tryz.underlying9 (And.intro ag126 (And.intro sz126 (And.intro by126 (And.intro ze126 Tryz.underlying126)))))))))))))))))))) := And.intro (fun (K : Heap) (n : Int) => conv_int Tryz.underlying5 Tryz.underlying126 K n) (And.intro ag3 (And.intro sz3 (And.intro by3 (And.intro ze3 (And.intro Tryz.underlying3 (And.intro ag5 (And.intro sz5 (And.intro by5 (And.intro ze5 (And.intro Tryz.underlying5 (And.intro ag9 (And.intro sz9 (And.intro by9 (And.intro ze9 (And.intro Tryz.underlying9 (And.intro ag126 (And.intro sz126 (And.intro by126 (And.intro ze126 Tryz.underlying126)))))))))))))))))))
def g85 : Code :=
 .seq (.region 0 #[q 4 (.assign (.const (.int .u64 0))) 126, q 5 (.assign (ik 0)) 28] false) (.seq (.region 1 #[q 6 (.assign (.const (.int .u64 0))) 126] false) (.seq (.seq (.region 2 #[q 9 (.move (.tmp 0)) 9, q 10 (bi .len #[.tmp 9] #[9]) 3, q 11 (.move (ik 0)) 3] false) (.block 0 (.loop (.seq (.region 3 #[q 12 (.binOp .lss 3 (.tmp 11) (.tmp 10) 3) 4] false) (.seq (.cond (.tmp 12) .skip (.exit 0)) (.seq (.block 1 (.seq (.region 4 #[q 13 (.move (.tmp 11)) 3, q 7 (.assign (.tmp 13)) 3] false) (.seq (.region 5 #[q 14 (.move (.tmp 0)) 9, q 15 (.move (.tmp 7)) 3, q 16 (.index 9 (.tmp 14) (.tmp 15)) 5, q 17 (.binOp .sub 5 (.tmp 16) (.const (.int .u8 48)) 5) 5, q 18 (.convert 5 126 (.tmp 17)) 126, q 8 (.assign (.tmp 18)) 126] false) (.seq (.seq (.region 6 #[q 19 (.move (.tmp 6)) 126, q 20 (.move (.tmp 1)) 126, q 21 (.move (.tmp 8)) 126, q 22 (.binOp .sub 126 (.tmp 20) (.tmp 21) 126) 126, q 23 (.binOp .quo 126 (.tmp 22) (.const (.int .u64 10)) 126) 126, q 24 (.binOp .gtr 126 (.tmp 19) (.tmp 23) 126) 4] false) (.cond (.tmp 24) (.seq (.region 7 #[q 4 (.assign (.const (.int .u64 0))) 126, q 5 (.assign (ik 5)) 28] false) .ret) .skip)) (.region 8 #[q 25 (.move (.tmp 6)) 126, q 26 (.binOp .mul 126 (.tmp 25) (.const (.int .u64 10)) 126) 126, q 27 (.move (.tmp 8)) 126, q 28 (.binOp .add 126 (.tmp 26) (.tmp 27) 126) 126, q 6 (.assign (.tmp 28)) 126] false))))) (.region 9 #[q 29 (.binOp .add 3 (.tmp 11) (ik 1) 3) 3, q 11 (.move (.tmp 29)) 3] false))))))) (.seq (.region 10 #[q 30 (.move (.tmp 6)) 126, q 4 (.assign (.tmp 30)) 126, q 5 (.assign (ik 0)) 28] false) .ret)))
theorem s85 : Tryz.f85.body.map (slim cfg) = some g85 := by kernel_rfl
theorem allF_ok (f : Nat) (p : Int → Bool) (hf : ∀ (c : UInt8) (prot : Nat) (H : Heap), prot ≤ H.length → aLim cfg prot f [.int .u8 c.toNat] H = some (.bool (p c.toNat), none)) (s : List UInt8) (hl : s.length ≤ 9223372036854775807) (prot : Nat) (H : Heap) (hp : prot ≤ H.length) :
   aLim cfg prot 63 [.str s, .func f [] []] H = some (.bool (s.all fun c => p c.toNat), none) := by
 have hsnap : snap H [.str s, .func f [] []] = some ([.str s, .func f [] []], false) := rfl
 have fnn : ∀ (K : Heap) (xo yo : Operand), aBinH Tryz.prog K .neq 110 xo yo (.func f [] []) .nilF = some (.bool true) := fun K xo yo => by simp [aBinH, aBin, aNilNe, Tryz.underlying110]
 refine pure_slim rfl (by kernel_rfl) Tryz.func63 s63 hp hsnap (by simp [Tryz.f63]) fun fr hlen h => ?_
 simp only [Has, Nat.zero_add] at h
 obtain ⟨a0, a1, -⟩ := h
 simp only [Tryz.f63] at hlen ⊢
 unfold g63
 simp only [w9, AV.cells, AV.leaf, reduceEqDiff, reduceLT, reduceAdd, reduceLeDiff, reduceCtorEq, reduceMul, reduceMod, u63, hlen, a0, a1]
 refine loop_rule (fun m fr H' => ∃ (i : Nat), m = s.length - i ∧ i ≤ s.length ∧ fr.length = 24 ∧ fget fr 0 = .str s ∧ fget fr 1 = .func f [] [] ∧ fget fr 5 = .int .i64 i ∧ H' = H
   ∧ (s.all fun c => p c.toNat) = ((s.drop i).all fun c => p c.toNat)) ?_ s.length _ _ ⟨0, by simp [w9, AV.cells, AV.leaf, reduceEqDiff, reduceLT, reduceAdd, reduceLeDiff, reduceCtorEq, reduceMul, reduceMod, u63, hlen, a0, a1]⟩
 rintro m fr H' ⟨i, rfl, hi, hlen, a0, a1, a5, rfl, hc⟩ ih
 simp only [w9, AV.cells, AV.leaf, reduceEqDiff, reduceLT, reduceAdd, reduceLeDiff, reduceCtorEq, reduceMul, reduceMod, u63, hlen, a0, a1, a5, fnn, str_len Tryz.underlying9]
 refine RC_split (fun h => ?_) (fun h => ?_)
 · have hlt : i < s.length := by simpa using h
   have hw : IntKind.i64.wrap ((i : Int) + 1) = ((i + 1 : Nat) : Int) := by rw [wrap64 (by omega) (by omega)]; simp
   have e1 := str_at (P := Tryz.prog) Tryz.underlying9 s (k := .i64) hlt
   have hd : s.drop i = s[i] :: s.drop (i + 1) := by simp
   rw [hd, List.all_cons] at hc
   generalize s[i] = x at *
   have n1 := hf x H'.length H' (Nat.le_refl _)
   cases hx : p (x.toNat : Int) with
   | true =>
     rw [hx] at n1 hc
     simp only [w9, AV.cells, AV.leaf, reduceEqDiff, reduceLT, reduceAdd, reduceLeDiff, reduceCtorEq, reduceMul, reduceMod, u63, hlen, a0, a1, a5, e1, n1, hw]
     refine ih _ _ (s.length - (i + 1)) (by omega) ⟨i + 1, rfl, hlt, ?_⟩
     rw [hc]
     simp [w9, AV.cells, AV.leaf, reduceEqDiff, reduceLT, reduceAdd, reduceLeDiff, reduceCtorEq, reduceMul, reduceMod, u63, hlen, a0, a1]
   | false =>
     rw [hx] at n1 hc
     simp only [w9, AV.cells, AV.leaf, reduceEqDiff, reduceLT, reduceAdd, reduceLeDiff, reduceCtorEq, reduceMul, reduceMod, u63, hlen, a0, a1, a5, e1, n1]
     rw [hc]
     simp only [Bool.false_and]
     exact Fin_pure (l := [.bool false]) (by simp [w9, AV.cells, AV.leaf, reduceEqDiff, reduceLT, reduceAdd, reduceLeDiff, reduceCtorEq, reduceMul, reduceMod, u63, aResults, aResult, hlen]) (.still rfl) (by simp)
 · have hnl : ¬ i < s.length := by simpa using h
   have hd : s.drop i = [] := by simp; omega
   rw [hd] at hc
   rw [hc]
   simp only [w9, AV.cells, AV.leaf, reduceEqDiff, reduceLT, reduceAdd, reduceLeDiff, reduceCtorEq, reduceMul, reduceMod, u63, hlen, a0, a1, fnn, List.all_nil]
   exact Fin_pure (l := [.bool true]) (by simp [w9, AV.cells, AV.leaf, reduceEqDiff, reduceLT, reduceAdd, reduceLeDiff, reduceCtorEq, reduceMul, reduceMod, u63, aResults, aResult, hlen]) (.still rfl) (by simp)
def digGo (most : Nat) : Nat → List UInt8 → Option Nat
 | v, [] => some v
 | v, c :: r => if (most - (c.toNat - 48)) / 10 < v then none else digGo most (v * 10 + (c.toNat - 48)) r
def dig2 : Option Nat → AV
 | some v => .tup [.int .u64 v, .int .i64 0]
 | none => .tup [.int .u64 0, .int .i64 5]
theorem digits_ok (s : List UInt8) (most : Nat) (hs : ∀ c ∈ s, digitC c.toNat = true) (hm : 9 ≤ most) (hm2 : most < 18446744073709551616) (hl : s.length ≤ 9223372036854775807) (prot : Nat) (H : Heap) (hp : prot ≤ H.length) :
   aLim cfg prot 85 [.str s, .int .u64 most] H = some (dig2 (digGo most 0 s), none) := by
 have hsnap : snap H [.str s, .int .u64 most] = some ([.str s, .int .u64 most], false) := rfl
 have hfz : ∀ (K : Heap) (x y : AV), still x = true → still y = true → Frz K H.length (packR [x, y]) (.tup [x, y]) := fun K x y h1 h2 => .tup (.cons (.still h1) (.cons (.still h2) .nil))
 refine pure_slim rfl (by kernel_rfl) Tryz.func85 s85 hp hsnap (by simp [Tryz.f85]) fun fr hlen h => ?_
 simp only [Has, Nat.zero_add] at h
 obtain ⟨a0, a1, -⟩ := h
 simp only [Tryz.f85] at hlen ⊢
 unfold g85
 simp only [w9, AV.cells, AV.leaf, reduceEqDiff, reduceLT, reduceAdd, reduceLeDiff, reduceCtorEq, reduceMul, reduceMod, u85, hlen, a0, a1, str_len Tryz.underlying9]
 refine loop_rule (fun m fr H' => ∃ (i v : Nat), m = s.length - i ∧ i ≤ s.length ∧ fr.length = 31 ∧ fget fr 0 = .str s ∧ fget fr 1 = .int .u64 most ∧ fget fr 6 = .int .u64 v ∧ fget fr 10 = .int .i64 s.length ∧ fget fr 11 = .int .i64 i ∧ v ≤ most
   ∧ digGo most 0 s = digGo most v (s.drop i)) ?_ s.length _ _ ⟨0, 0, by simp [w9, AV.cells, AV.leaf, reduceEqDiff, reduceLT, reduceAdd, reduceLeDiff, reduceCtorEq, reduceMul, reduceMod, u85, hlen, a0, a1]⟩
 rintro m fr K ⟨i, v, rfl, hi, hlen, a0, a1, a6, a10, a11, hv, hc⟩ ih
 simp only [w9, AV.cells, AV.leaf, reduceEqDiff, reduceLT, reduceAdd, reduceLeDiff, reduceCtorEq, reduceMul, reduceMod, u85, hlen, a0, a1, a6, a10, a11]
 refine RC_split (fun h => ?_) (fun h => ?_)
 · have hlt : i < s.length := by simpa using h
   have hww : IntKind.i64.wrap ((i : Int) + 1) = ((i + 1 : Nat) : Int) := by rw [wrap64 (by omega) (by omega)]; simp
   have e1 := str_at (P := Tryz.prog) Tryz.underlying9 s (k := .i64) hlt
   have hd := hs s[i] (List.getElem_mem hlt)
   rw [List.drop_eq_getElem_cons hlt, digGo] at hc
   generalize s[i] = c at *
   have hd : 48 ≤ c.toNat ∧ c.toNat ≤ 57 := by unfold digitC at hd; simp at hd; omega
   obtain ⟨d, hcd, hd9⟩ : ∃ d : Nat, c.toNat = d + 48 ∧ d ≤ 9 := ⟨c.toNat - 48, by omega, by omega⟩
   have ed : c.toNat - 48 = d := by omega
   rw [ed] at hc
   have w1 : IntKind.u8.wrap ((c.toNat : Int) - 48) = (d : Int) := by
     rw [hcd]
     simp [IntKind.wrap, IntKind.bits, IntKind.signed]; omega
   have w2 : IntKind.u64.wrap ((d : Nat) : Int) = (d : Int) := wrapu64 (by omega) (by omega)
   have w3 : IntKind.u64.wrap ((most : Int) - (d : Nat)) = ((most - d : Nat) : Int) := by rw [wrapu64 (by omega) (by omega)]; omega
   have q1 : ∀ xo yo, aBin Tryz.prog .quo 126 xo yo (.int .u64 ((most - d : Nat) : Int)) (.int .u64 10) = some (.int .u64 (((most - d) / 10 : Nat) : Int)) := fun xo yo => by
     have h1 := Nat.div_le_self (most - d) 10
     rw [show (10 : Int) = ((10 : Nat) : Int) from rfl, bin_quo_nat (by omega)]
     generalize (most - d) / 10 = y at *
     rw [wrapu64 (by omega) (by omega)]
   by_cases hgt : (most - d) / 10 < v
   · have c1 : decide ((((most - d) / 10 : Nat) : Int) < (v : Nat)) = true := decide_eq_true (by omega)
     rw [if_pos hgt] at hc
     rw [hc]
     simp only [w9, AV.cells, AV.leaf, reduceEqDiff, reduceLT, reduceAdd, reduceLeDiff, reduceCtorEq, reduceMul, reduceMod, u85, hlen, a0, a1, a6, a10, a11, e1, w1, w2, w3, q1, c1]
     exact Fin_pure (l := [.int .u64 0, .int .i64 5]) (by simp [w9, AV.cells, AV.leaf, reduceEqDiff, reduceLT, reduceAdd, reduceLeDiff, reduceCtorEq, reduceMul, reduceMod, u85, hlen, aResults, aResult]) (hfz _ _ _ rfl rfl) (by simp [dig2, flat, flat1, flat0])
   · have c1 : decide ((((most - d) / 10 : Nat) : Int) < (v : Nat)) = false := decide_eq_false (by omega)
     rw [if_neg hgt] at hc
     have w4 : IntKind.u64.wrap ((v : Int) * 10) = ((v * 10 : Nat) : Int) := by rw [wrapu64 (by omega) (by omega)]; simp
     have w5 : IntKind.u64.wrap (((v * 10 : Nat) : Int) + (d : Nat)) = ((v * 10 + d : Nat) : Int) := by rw [wrapu64 (by omega) (by omega)]; simp
     simp only [w9, AV.cells, AV.leaf, reduceEqDiff, reduceLT, reduceAdd, reduceLeDiff, reduceCtorEq, reduceMul, reduceMod, u85, hlen, a0, a1, a6, a10, a11, e1, w1, w2, w3, q1, c1, w4, w5, hww]
     refine ih _ _ (s.length - (i + 1)) (by omega) ⟨i + 1, v * 10 + d, rfl, hlt, ?_⟩
     have hle : v * 10 + d ≤ most := by
       have := Nat.div_add_mod (most - d) 10
       omega
     rw [hc]
     simp [w9, AV.cells, AV.leaf, reduceEqDiff, reduceLT, reduceAdd, reduceLeDiff, reduceCtorEq, reduceMul, reduceMod, u85, hlen, a0, a1, a10, hle]
 · have hnl : ¬ i < s.length := by simpa using h
   rw [List.drop_eq_nil_of_le (by omega), digGo] at hc
   rw [hc]
   simp only [w9, AV.cells, AV.leaf, reduceEqDiff, reduceLT, reduceAdd, reduceLeDiff, reduceCtorEq, reduceMul, reduceMod, u85, hlen, a0, a1, a6, a10, a11]
   exact Fin_pure (l := [.int .u64 v, .int .i64 0]) (by simp [w9, AV.cells, AV.leaf, reduceEqDiff, reduceLT, reduceAdd, reduceLeDiff, reduceCtorEq, reduceMul, reduceMod, u85, hlen, aResults, aResult]) (hfz _ _ _ rfl rfl) (by simp [dig2, flat, flat1, flat0])
theorem digGo_le (most : Nat) : ∀ (s : List UInt8) (v x : Nat), v ≤ most → 9 ≤ most → (∀ c ∈ s, digitC c.toNat = true) → digGo most v s = some x → x ≤ most
 | [], v, x, hv, _, _, h => by simp only [digGo, Option.some.injEq] at h; omega
 | c :: r, v, x, hv, hm, hs, h => by
   have hd := hs c (by simp)
   have hd : 48 ≤ c.toNat ∧ c.toNat ≤ 57 := by unfold digitC at hd; simp at hd; omega
   rw [digGo] at h
   split at h
   · cases h
   · exact digGo_le most r _ x (by omega) hm (fun d hd => hs d (by simp [hd])) h
end Go.Proofs.YtnipaiklandliaaGreatDoor
/- All, digits, Size, walked. -/
namespace Go.Proofs.YtnipaiklandliaaGreatDoor
open Go Go.Abs AbsSeat Ty
open Nat (reduceEqDiff reduceLT reduceAdd reduceLeDiff reduceMul reduceMod)
theorem u206 : type_of% (And.intro (fun (K : Heap) (n : Int) => conv_int Tryz.underlying126 Tryz.underlying3 K n) (And.intro ag3 (And.intro sz3 (And.intro by3 (And.intro ze3 (And.intro Tryz.underlying3 (And.intro ag9 (And.intro sz9 (And.intro by9 (And.intro ze9 (And.intro Tryz.underlying9 (And.intro ag110 (And.intro sz110 (And.intro by110 (And.intro ze110 (And.intro Tryz.underlying110 (And.intro ag126 (And.intro sz126 (And.intro by126 (And.intro ze126 Tryz.underlying126)))))))))))))))))))) := And.intro (fun (K : Heap) (n : Int) => conv_int Tryz.underlying126 Tryz.underlying3 K n) (And.intro ag3 (And.intro sz3 (And.intro by3 (And.intro ze3 (And.intro Tryz.underlying3 (And.intro ag9 (And.intro sz9 (And.intro by9 (And.intro ze9 (And.intro Tryz.underlying9 (And.intro ag110 (And.intro sz110 (And.intro by110 (And.intro ze110 (And.intro Tryz.underlying110 (And.intro ag126 (And.intro sz126 (And.intro by126 (And.intro ze126 Tryz.underlying126)))))))))))))))))))
def g206 : Code :=
 .seq (.region 0 #[q 2 (.assign (ik 0)) 3, q 3 (.assign (ik 0)) 28] false) (.seq (.seq (.region 1 #[q 6 (.move (.tmp 0)) 9, q 7 (.binOp .eql 9 (.tmp 6) (.const (.string { data := #[] })) 9) 4, q 8 (.move (.tmp 7)) 4, qg 9 (.move (.tmp 0)) 9 2 false, qg 10 (cl 63 #[.tmp 9, .func 62] #[9, 110]) 4 2 false, qg 11 (.unOp .not 4 (.tmp 10)) 4 2 false, q 12 (.pick (.tmp 8) (.const (.bool true)) (.tmp 11)) 4] false) (.cond (.tmp 12) (.seq (.region 2 #[q 2 (.assign (ik 0)) 3, q 3 (.assign (ik 3)) 28] false) .ret) .skip)) (.seq (.region 3 #[q 14 (.move (.tmp 0)) 9, q 15 (cl 85 #[.tmp 14, .const (.int .u64 2147483647)] #[9, 126]) 138, q 13 (.move (.tmp 15)) 138, q 16 (.extract (.tmp 13) 0) 126, q 17 (.extract (.tmp 13) 1) 28, q 4 (.assign (.tmp 16)) 126, q 5 (.assign (.tmp 17)) 28] false) (.seq (.region 4 #[q 18 (.move (.tmp 4)) 126, q 19 (.convert 126 3 (.tmp 18)) 3, q 20 (.move (.tmp 5)) 28, q 2 (.assign (.tmp 19)) 3, q 3 (.assign (.tmp 20)) 28] false) .ret)))
theorem s206 : Tryz.f206.body.map (slim cfg) = some g206 := by kernel_rfl
def sizeU (s : List UInt8) : Int × Int := if s = [] ∨ (s.all fun c => digitC c.toNat) = false then (0, 3) else match digGo 2147483647 0 s with
 | some v => ((v : Nat), 0)
 | none => (0, 5)
theorem size_ok (s : List UInt8) (hl : s.length ≤ 9223372036854775807) (prot : Nat) (H : Heap) (hp : prot ≤ H.length) : aLim cfg prot 206 [.str s] H = some (.tup [.int .i64 (sizeU s).1, .int .i64 (sizeU s).2], none) := by
 have hsnap : snap H [.str s] = some ([.str s], false) := rfl
 have hfz : ∀ (K : Heap) (x y : AV), still x = true → still y = true → Frz K H.length (packR [x, y]) (.tup [x, y]) := fun K x y h1 h2 => .tup (.cons (.still h1) (.cons (.still h2) .nil))
 have n1 := allF_ok 62 digitC (fun c prot H hp => digit_ok _ prot H hp) s hl H.length H (Nat.le_refl _)
 unfold sizeU
 refine pure_slim rfl (by kernel_rfl) Tryz.func206 s206 hp hsnap (by simp [Tryz.f206]) fun fr hlen h => ?_
 simp only [Has, Nat.zero_add] at h
 obtain ⟨a0, -⟩ := h
 simp only [Tryz.f206] at hlen ⊢
 unfold g206
 by_cases h0 : s = []
 · subst h0
   have e0 : ([] == ([] : List UInt8)) = true := rfl
   simp only [true_or, if_true]
   simp only [w9, AV.cells, AV.leaf, reduceEqDiff, reduceLT, reduceAdd, reduceLeDiff, reduceCtorEq, reduceMul, reduceMod, u206, hlen, a0, str_eql, e0, none_beq]
   exact Fin_pure (l := [.int .i64 0, .int .i64 3]) (by simp [w9, AV.cells, AV.leaf, reduceEqDiff, reduceLT, reduceAdd, reduceLeDiff, reduceCtorEq, reduceMul, reduceMod, u206, hlen, aResults, aResult]) (hfz _ _ _ rfl rfl) (by simp)
 · have e0 : (s == []) = false := by cases s with
     | nil => exact absurd rfl h0
     | cons => rfl
   cases ha : s.all fun c => digitC c.toNat with
   | false =>
     rw [ha] at n1
     simp only [h0, false_or, if_true]
     simp only [w9, AV.cells, AV.leaf, reduceEqDiff, reduceLT, reduceAdd, reduceLeDiff, reduceCtorEq, reduceMul, reduceMod, u206, hlen, a0, str_eql, e0, n1, none_beq]
     exact Fin_pure (l := [.int .i64 0, .int .i64 3]) (by simp [w9, AV.cells, AV.leaf, reduceEqDiff, reduceLT, reduceAdd, reduceLeDiff, reduceCtorEq, reduceMul, reduceMod, u206, hlen, aResults, aResult]) (hfz _ _ _ rfl rfl) (by simp)
   | true =>
     rw [ha] at n1
     have hs := List.all_eq_true.1 ha
     have n2 : aLim cfg H.length 85 [.str s, .int .u64 2147483647] H = some (dig2 (digGo 2147483647 0 s), none) := digits_ok s 2147483647 hs (by omega) (by omega) hl H.length H (Nat.le_refl _)
     simp only [h0, false_or, Bool.true_eq_false, if_false]
     cases hd : digGo 2147483647 0 s with
     | none =>
       rw [hd] at n2
       unfold dig2 at n2
       have w0 : IntKind.i64.wrap (0 : Int) = 0 := by decide
       simp only [w9, AV.cells, AV.leaf, reduceEqDiff, reduceLT, reduceAdd, reduceLeDiff, reduceCtorEq, reduceMul, reduceMod, u206, hlen, a0, str_eql, e0, n1, n2, w0, none_beq]
       exact Fin_pure (l := [.int .i64 0, .int .i64 5]) (by simp [w9, AV.cells, AV.leaf, reduceEqDiff, reduceLT, reduceAdd, reduceLeDiff, reduceCtorEq, reduceMul, reduceMod, u206, hlen, aResults, aResult]) (hfz _ _ _ rfl rfl) (by simp)
     | some v =>
       rw [hd] at n2
       unfold dig2 at n2
       have hle := digGo_le 2147483647 s 0 v (by omega) (by omega) hs hd
       have w0 : IntKind.i64.wrap ((v : Nat) : Int) = (v : Int) := wrap64 (by omega) (by omega)
       simp only [w9, AV.cells, AV.leaf, reduceEqDiff, reduceLT, reduceAdd, reduceLeDiff, reduceCtorEq, reduceMul, reduceMod, u206, hlen, a0, str_eql, e0, n1, n2, w0, none_beq]
       exact Fin_pure (l := [.int .i64 v, .int .i64 0]) (by simp [w9, AV.cells, AV.leaf, reduceEqDiff, reduceLT, reduceAdd, reduceLeDiff, reduceCtorEq, reduceMul, reduceMod, u206, hlen, aResults, aResult]) (hfz _ _ _ rfl rfl) (by simp)
end Go.Proofs.YtnipaiklandliaaGreatDoor
/- IndexByte, walked. -/
set_option maxRecDepth 100000
namespace Go.Proofs.YtnipaiklandliaaGreatDoor
open Go Go.Abs AbsSeat Ty
open Nat (reduceEqDiff reduceLT reduceAdd reduceLeDiff reduceMul reduceMod)
theorem u113 : type_of% (And.intro ag5 (And.intro sz5 (And.intro by5 (And.intro ze5 (And.intro Tryz.underlying5 (And.intro ag9 (And.intro sz9 (And.intro by9 (And.intro ze9 Tryz.underlying9))))))))) := And.intro ag5 (And.intro sz5 (And.intro by5 (And.intro ze5 (And.intro Tryz.underlying5 (And.intro ag9 (And.intro sz9 (And.intro by9 (And.intro ze9 Tryz.underlying9))))))))
def g113 : Code :=
 .seq (.region 0 #[q 4 (.assign (ik 0)) 3] false) (.seq (.region 1 #[q 5 (.move (.tmp 0)) 9, q 6 (.move (.tmp 1)) 5, q 7 (cl 148 #[.tmp 5, .tmp 6] #[9, 5]) 3, q 4 (.assign (.tmp 7)) 3] false) .ret)
theorem s113 : Tryz.f113.body.map (slim cfg) = some g113 := by kernel_rfl
def g74 : Code :=
 .seq (.region 0 #[q 4 (.assign (ik 0)) 3] false) (.seq (.region 1 #[q 5 (.move (.tmp 0)) 9, q 6 (.move (.tmp 1)) 5, q 7 (cl 113 #[.tmp 5, .tmp 6] #[9, 5]) 3, q 4 (.assign (.tmp 7)) 3] false) .ret)
theorem s74 : Tryz.f74.body.map (slim cfg) = some g74 := by kernel_rfl
theorem idxX_ok (s : List UInt8) (c : Int) (prot : Nat) (H : Heap) : aLim cfg prot 148 [.str s, .int .u8 c] H = some (.int .i64 (idxByte s c.toNat.toUInt8), none) :=
 lim_ext (by kernel_rfl) Tryz.func148 (by kernel_rfl) (by kernel_rfl) prot H (by kernel_rfl)
theorem idxL_ok (s : List UInt8) (c : UInt8) (prot : Nat) (H : Heap) (hp : prot ≤ H.length) : aLim cfg prot 113 [.str s, .int .u8 c.toNat] H = some (.int .i64 (idxByte s c), none) := by
 have hsnap : snap H [.str s, .int .u8 c.toNat] = some ([.str s, .int .u8 c.toNat], false) := rfl
 have n1 := idxX_ok s (c.toNat : Int) H.length H
 have e : ((c.toNat : Int)).toNat.toUInt8 = c := by simp
 rw [e] at n1
 refine pure_slim rfl (by kernel_rfl) Tryz.func113 s113 hp hsnap (by simp [Tryz.f113]) fun fr hlen h => ?_
 simp only [Has, Nat.zero_add] at h
 obtain ⟨a0, a1, -⟩ := h
 simp only [Tryz.f113] at hlen ⊢
 unfold g113
 simp only [w9, AV.cells, AV.leaf, reduceEqDiff, reduceLT, reduceAdd, reduceLeDiff, reduceCtorEq, reduceMul, reduceMod, u113, hlen, a0, a1, n1]
 exact Fin_pure (l := [.int .i64 (idxByte s c)]) (by simp [w9, AV.cells, AV.leaf, reduceEqDiff, reduceLT, reduceAdd, reduceLeDiff, reduceCtorEq, reduceMul, reduceMod, u113, aResults, aResult, hlen]) (.still rfl) (by simp)
theorem idxS_ok (s : List UInt8) (c : UInt8) (prot : Nat) (H : Heap) (hp : prot ≤ H.length) : aLim cfg prot 74 [.str s, .int .u8 c.toNat] H = some (.int .i64 (idxByte s c), none) := by
 have hsnap : snap H [.str s, .int .u8 c.toNat] = some ([.str s, .int .u8 c.toNat], false) := rfl
 have n1 := idxL_ok s c H.length H (Nat.le_refl _)
 refine pure_slim rfl (by kernel_rfl) Tryz.func74 s74 hp hsnap (by simp [Tryz.f74]) fun fr hlen h => ?_
 simp only [Has, Nat.zero_add] at h
 obtain ⟨a0, a1, -⟩ := h
 simp only [Tryz.f74] at hlen ⊢
 unfold g74
 simp only [w9, AV.cells, AV.leaf, reduceEqDiff, reduceLT, reduceAdd, reduceLeDiff, reduceCtorEq, reduceMul, reduceMod, u113, hlen, a0, a1, n1]
 exact Fin_pure (l := [.int .i64 (idxByte s c)]) (by simp [w9, AV.cells, AV.leaf, reduceEqDiff, reduceLT, reduceAdd, reduceLeDiff, reduceCtorEq, reduceMul, reduceMod, u113, aResults, aResult, hlen]) (.still rfl) (by simp)
end Go.Proofs.YtnipaiklandliaaGreatDoor
