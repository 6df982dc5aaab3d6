import Derived.Test.YtnipaiklandliaaGreatDoorAbsSeat
import Derived.Test.YtnipaiklandliaaGreatDoorAbsTy
import Derived.Test.YtnipaiklandliaaGreatDoorAbsSet
import Derived.Test.YtnipaiklandliaaGreatDoorAbsMore
/-! Part 1 of the proof of SilenceKeys: the texts Utf Utf2p CharD ChDig ChAll Jt6 Num Pre Sk1 Sk2 Aw23 Sk3 RunSilenceKeys. -/
set_option linter.unusedSimpArgs false
/- Chapter 2: runes as bytes: the program's, walked. -/
namespace Go.Proofs.YtnipaiklandliaaGreatDoor
open Go Go.Abs AbsSeat Ty
theorem cfgP : cfg.P = Tryz.prog := rfl
theorem none_beq (b : Bool) : ((none : Option Bool) == some b) = false := by cases b <;> rfl

theorem u133 : type_of% (And.intro (fun (K : Heap) (n : Int) => conv_int Tryz.underlying5 Tryz.underlying21 K n) (And.intro ag3 (And.intro sz3 (And.intro by3 (And.intro ze3 (And.intro Tryz.underlying3 (And.intro ag5 (And.intro sz5 (And.intro by5 (And.intro ze5 (And.intro Tryz.underlying5 (And.intro ag21 (And.intro sz21 (And.intro by21 (And.intro ze21 (And.intro Tryz.underlying21 (And.intro ag72 (And.intro sz72 (And.intro by72 (And.intro se72 (And.intro ze72 (And.intro Tryz.underlying72 (And.intro ag116 (And.intro sz116 (And.intro by116 (And.intro ze116 (And.intro Tryz.underlying116 (And.intro ag232 (And.intro sz232 (And.intro by232 (And.intro ze232 Tryz.underlying232))))))))))))))))))))))))))))))) := And.intro (fun (K : Heap) (n : Int) => conv_int Tryz.underlying5 Tryz.underlying21 K n) (And.intro ag3 (And.intro sz3 (And.intro by3 (And.intro ze3 (And.intro Tryz.underlying3 (And.intro ag5 (And.intro sz5 (And.intro by5 (And.intro ze5 (And.intro Tryz.underlying5 (And.intro ag21 (And.intro sz21 (And.intro by21 (And.intro ze21 (And.intro Tryz.underlying21 (And.intro ag72 (And.intro sz72 (And.intro by72 (And.intro se72 (And.intro ze72 (And.intro Tryz.underlying72 (And.intro ag116 (And.intro sz116 (And.intro by116 (And.intro ze116 (And.intro Tryz.underlying116 (And.intro ag232 (And.intro sz232 (And.intro by232 (And.intro ze232 Tryz.underlying232))))))))))))))))))))))))))))))
def g133 : Code :=
  .seq (.region 0 #[q 2 (.assign (ik 0)) 3] false) (.seq (.block 0 (.seq (.region 1 #[q 4 (.move (.tmp 0)) 5, q 5 (.binOp .lss 5 (.tmp 4) (.const (.int .u8 128)) 5) 4, q 3 (.assign (.tmp 5)) 4] false) (.cond (.tmp 3) (.seq (.region 2 #[q 2 (.assign (ik 1)) 3] false) .ret) (.seq (.region 3 #[q 7 (.move (.tmp 0)) 5, q 8 (.binOp .geq 5 (.tmp 7) (.const (.int .u8 194)) 5) 4, q 9 (.move (.tmp 8)) 4, qg 10 (.move (.tmp 0)) 5 2 true, qg 11 (.binOp .lss 5 (.tmp 10) (.const (.int .u8 224)) 5) 4 2 true, q 12 (.pick (.tmp 9) (.tmp 11) (.const (.bool false))) 4, q 6 (.assign (.tmp 12)) 4] false) (.cond (.tmp 6) (.seq (.region 4 #[q 2 (.assign (ik 2)) 3] false) .ret) (.seq (.region 5 #[q 14 (.move (.tmp 0)) 5, q 15 (.binOp .geq 5 (.tmp 14) (.const (.int .u8 224)) 5) 4, q 16 (.move (.tmp 15)) 4, qg 17 (.move (.tmp 0)) 5 2 true, qg 18 (.binOp .lss 5 (.tmp 17) (.const (.int .u8 240)) 5) 4 2 true, q 19 (.pick (.tmp 16) (.tmp 18) (.const (.bool false))) 4, q 13 (.assign (.tmp 19)) 4] false) (.cond (.tmp 13) (.seq (.region 6 #[q 2 (.assign (ik 3)) 3] false) .ret) (.seq (.region 7 #[q 21 (.move (.tmp 0)) 5, q 22 (.binOp .geq 5 (.tmp 21) (.const (.int .u8 240)) 5) 4, q 23 (.move (.tmp 22)) 4, qg 24 (.move (.tmp 0)) 5 2 true, qg 25 (.binOp .lss 5 (.tmp 24) (.const (.int .u8 245)) 5) 4 2 true, q 26 (.pick (.tmp 23) (.tmp 25) (.const (.bool false))) 4, q 20 (.assign (.tmp 26)) 4] false) (.cond (.tmp 20) (.seq (.region 8 #[q 2 (.assign (ik 4)) 3] false) .ret) .skip))))))))) (.seq (.region 9 #[q 2 (.assign (ik 0)) 3] false) .ret))
theorem s133 : Tryz.f133.body.map (slim cfg) = some g133 := by kernel_rfl
def g134 : Code :=
  .seq (.region 0 #[q 4 (.assign (.const (.bool false))) 4] false) (.seq (.region 1 #[q 5 (.assign (.const (.int .u8 128))) 5, q 6 (.assign (.const (.int .u8 191))) 5] false) (.seq (.seq (.region 2 #[q 8 (.move (.tmp 0)) 72, q 9 (.indexAddr 72 (.tmp 8) (ik 0)) 0, q 10 (.load 5 (.tmp 9)) 5] false) (.block 0 (.seq (.region 3 #[q 12 (.binOp .eql 5 (.tmp 10) (.const (.int .u8 224)) 5) 4, q 11 (.assign (.tmp 12)) 4] false) (.cond (.tmp 11) (.region 4 #[q 5 (.assign (.const (.int .u8 160))) 5] false) (.seq (.region 5 #[q 14 (.binOp .eql 5 (.tmp 10) (.const (.int .u8 237)) 5) 4, q 13 (.assign (.tmp 14)) 4] false) (.cond (.tmp 13) (.region 6 #[q 6 (.assign (.const (.int .u8 159))) 5] false) (.seq (.region 7 #[q 16 (.binOp .eql 5 (.tmp 10) (.const (.int .u8 240)) 5) 4, q 15 (.assign (.tmp 16)) 4] false) (.cond (.tmp 15) (.region 8 #[q 5 (.assign (.const (.int .u8 144))) 5] false) (.seq (.region 9 #[q 18 (.binOp .eql 5 (.tmp 10) (.const (.int .u8 244)) 5) 4, q 17 (.assign (.tmp 18)) 4] false) (.cond (.tmp 17) (.region 10 #[q 6 (.assign (.const (.int .u8 143))) 5] false) .skip)))))))))) (.seq (.seq (.region 11 #[q 7 (.assign (ik 1)) 3] false) (.block 1 (.loop (.seq (.seq (.region 12 #[q 19 (.move (.tmp 7)) 3, q 20 (.move (.tmp 1)) 3, q 21 (.move (.tmp 0)) 72, q 22 (bi .len #[.tmp 21] #[72]) 3, q 23 (bi .min #[.tmp 20, .tmp 22] #[3, 3]) 3, q 24 (.binOp .lss 3 (.tmp 19) (.tmp 23) 3) 4] false) (.cond (.tmp 24) .skip (.exit 1))) (.seq (.block 2 (.seq (.seq (.region 14 #[q 27 (.move (.tmp 0)) 72, q 28 (.move (.tmp 7)) 3, q 29 (.indexAddr 72 (.tmp 27) (.tmp 28)) 0, q 30 (.load 5 (.tmp 29)) 5, q 31 (.move (.tmp 5)) 5, q 32 (.binOp .lss 5 (.tmp 30) (.tmp 31) 5) 4, q 33 (.move (.tmp 32)) 4, qg 34 (.move (.tmp 0)) 72 6 false, qg 35 (.move (.tmp 7)) 3 6 false, qg 36 (.indexAddr 72 (.tmp 34) (.tmp 35)) 0 6 false, qg 37 (.load 5 (.tmp 36)) 5 6 false, qg 38 (.move (.tmp 6)) 5 6 false, qg 39 (.binOp .gtr 5 (.tmp 37) (.tmp 38) 5) 4 6 false, q 40 (.pick (.tmp 33) (.const (.bool true)) (.tmp 39)) 4] false) (.cond (.tmp 40) (.seq (.region 15 #[q 4 (.assign (.const (.bool false))) 4] false) .ret) .skip)) (.region 16 #[q 5 (.assign (.const (.int .u8 128))) 5, q 6 (.assign (.const (.int .u8 191))) 5] false))) (.region 13 #[q 25 (.move (.tmp 7)) 3, q 26 (.binOp .add 3 (.tmp 25) (ik 1) 3) 3, q 7 (.assign (.tmp 26)) 3] false)))))) (.seq (.region 17 #[q 4 (.assign (.const (.bool true))) 4] false) .ret))))
theorem s134 : Tryz.f134.body.map (slim cfg) = some g134 := by kernel_rfl
def g135 : Code :=
  .seq (.region 0 #[q 2 (.assign (.const (.int .i32 0))) 21] false) (.seq (.region 1 #[q 3 (.build 232 #[(0, .const (.int .i32 0)), (1, .const (.int .i32 0)), (2, .const (.int .i32 192)), (3, .const (.int .i32 224)), (4, .const (.int .i32 240))]) 232, q 4 (.move (.tmp 0)) 3, q 5 (.index 232 (.tmp 3) (.tmp 4)) 21, q 2 (.assign (.tmp 5)) 21] false) .ret)
theorem s135 : Tryz.f135.body.map (slim cfg) = some g135 := by kernel_rfl
def g94 : Code :=
  .seq (.region 0 #[q 2 (.assign (.const (.int .i32 0))) 21, q 3 (.assign (ik 0)) 3, q 4 (.assign (ik 0)) 28] false) (.seq (.seq (.region 1 #[q 9 (.move (.tmp 0)) 72, q 10 (bi .len #[.tmp 9] #[72]) 3, q 11 (.binOp .eql 3 (.tmp 10) (ik 0) 3) 4] false) (.cond (.tmp 11) (.seq (.region 2 #[q 2 (.assign (.const (.int .i32 0))) 21, q 3 (.assign (ik 0)) 3, q 4 (.assign (ik 6)) 28] false) .ret) .skip)) (.seq (.region 3 #[q 12 (.move (.tmp 0)) 72, q 13 (.indexAddr 72 (.tmp 12) (ik 0)) 0, q 14 (.load 5 (.tmp 13)) 5, q 15 (cl 133 #[.tmp 14] #[5]) 3, q 5 (.assign (.tmp 15)) 3] false) (.seq (.block 0 (.seq (.region 4 #[q 17 (.move (.tmp 5)) 3, q 18 (.binOp .eql 3 (.tmp 17) (ik 0) 3) 4, q 19 (.move (.tmp 18)) 4, qg 20 (.move (.tmp 0)) 72 2 false, qg 21 (.move (.tmp 5)) 3 2 false, qg 22 (cl 134 #[.tmp 20, .tmp 21] #[72, 3]) 4 2 false, qg 23 (.unOp .not 4 (.tmp 22)) 4 2 false, q 24 (.pick (.tmp 19) (.const (.bool true)) (.tmp 23)) 4, q 16 (.assign (.tmp 24)) 4] false) (.cond (.tmp 16) (.seq (.region 5 #[q 2 (.assign (.const (.int .i32 0))) 21, q 3 (.assign (ik 0)) 3, q 4 (.assign (ik 3)) 28] false) .ret) (.seq (.region 6 #[q 26 (.move (.tmp 0)) 72, q 27 (bi .len #[.tmp 26] #[72]) 3, q 28 (.move (.tmp 5)) 3, q 29 (.binOp .lss 3 (.tmp 27) (.tmp 28) 3) 4, q 25 (.assign (.tmp 29)) 4] false) (.cond (.tmp 25) (.seq (.region 7 #[q 2 (.assign (.const (.int .i32 0))) 21, q 3 (.assign (ik 0)) 3, q 4 (.assign (ik 11)) 28] false) .ret) .skip))))) (.seq (.region 8 #[q 30 (.move (.tmp 0)) 72, q 31 (.indexAddr 72 (.tmp 30) (ik 0)) 0, q 32 (.load 5 (.tmp 31)) 5, q 33 (.convert 5 21 (.tmp 32)) 21, q 34 (.move (.tmp 5)) 3, q 35 (cl 135 #[.tmp 34] #[3]) 21, q 36 (.binOp .andNot 21 (.tmp 33) (.tmp 35) 21) 21, q 6 (.assign (.tmp 36)) 21] false) (.seq (.seq (.region 9 #[q 37 (.move (.tmp 0)) 72, q 38 (.move (.tmp 5)) 3, q 39 (.slice 72 (.tmp 37) (some (ik 1)) (some (.tmp 38)) none) 72, q 40 (bi .len #[.tmp 39] #[72]) 3, q 41 (.move (ik 0)) 3] false) (.block 1 (.loop (.seq (.region 10 #[q 42 (.binOp .lss 3 (.tmp 41) (.tmp 40) 3) 0] false) (.seq (.cond (.tmp 42) .skip (.exit 1)) (.seq (.block 2 (.seq (.region 11 #[q 43 (.indexAddr 72 (.tmp 39) (.tmp 41)) 0, q 44 (.load 5 (.tmp 43)) 5, q 8 (.assign (.tmp 44)) 5] false) (.region 12 #[q 45 (.move (.tmp 6)) 21, q 46 (.binOp .shl 21 (.tmp 45) (.const (.int .u64 6)) 116) 21, q 47 (.move (.tmp 8)) 5, q 48 (.convert 5 21 (.tmp 47)) 21, q 49 (.binOp .and 21 (.tmp 48) (.const (.int .i32 63)) 21) 21, q 50 (.binOp .or 21 (.tmp 46) (.tmp 49) 21) 21, q 6 (.assign (.tmp 50)) 21] false))) (.region 13 #[q 51 (.binOp .add 3 (.tmp 41) (ik 1) 3) 3, q 41 (.move (.tmp 51)) 3] false))))))) (.seq (.region 14 #[q 52 (.move (.tmp 6)) 21, q 53 (.move (.tmp 5)) 3, q 2 (.assign (.tmp 52)) 21, q 3 (.assign (.tmp 53)) 3, q 4 (.assign (ik 0)) 28] false) .ret))))))
theorem s94 : Tryz.f94.body.map (slim cfg) = some g94 := by kernel_rfl

def wantedU (c : Int) : Nat := if c < 128 then 1 else if 194 ≤ c ∧ c < 224 then 2 else if 224 ≤ c ∧ c < 240 then 3 else if 240 ≤ c ∧ c < 245 then 4 else 0

theorem wanted_ok (c : Int) (prot : Nat) (H : Heap) (hp : prot ≤ H.length) : aLim cfg prot 133 [.int .u8 c] H = some (.int .i64 (wantedU c), none) := by
  have hsnap : snap H [.int .u8 c] = some ([.int .u8 c], false) := rfl
  unfold wantedU
  refine pure_slim rfl (by kernel_rfl) Tryz.func133 s133 hp hsnap (by simp [Tryz.f133]) fun fr hlen h => ?_
  simp only [Has, Nat.zero_add] at h
  obtain ⟨a0, -⟩ := h
  simp only [Tryz.f133] at hlen ⊢
  unfold g133
  by_cases h1 : c < 128
  · simp only [wk, aBuiltin, AV.cells, AV.leaf, Nat.reduceEqDiff, Nat.reduceLT, Nat.reduceAdd, Nat.reduceLeDiff, reduceCtorEq, Nat.reduceMul, Nat.reduceMod, cfgP, u133, hlen, a0, h1]
    exact Fin_pure (l := [.int .i64 1]) (by simp [wk, aBuiltin, AV.cells, AV.leaf, Nat.reduceEqDiff, Nat.reduceLT, Nat.reduceAdd, Nat.reduceLeDiff, reduceCtorEq, Nat.reduceMul, Nat.reduceMod, cfgP, u133, aResults, aResult, hlen]) (.still rfl) (by simp)
  · by_cases h2 : 194 ≤ c
    · by_cases h3 : c < 224
      · simp only [wk, aBuiltin, AV.cells, AV.leaf, Nat.reduceEqDiff, Nat.reduceLT, Nat.reduceAdd, Nat.reduceLeDiff, reduceCtorEq, Nat.reduceMul, Nat.reduceMod, cfgP, u133, hlen, a0, h1, h2, h3, none_beq]
        exact Fin_pure (l := [.int .i64 2]) (by simp [wk, aBuiltin, AV.cells, AV.leaf, Nat.reduceEqDiff, Nat.reduceLT, Nat.reduceAdd, Nat.reduceLeDiff, reduceCtorEq, Nat.reduceMul, Nat.reduceMod, cfgP, u133, aResults, aResult, hlen]) (.still rfl) (by simp)
      · have h4 : 224 ≤ c := by omega
        by_cases h5 : c < 240
        · simp only [wk, aBuiltin, AV.cells, AV.leaf, Nat.reduceEqDiff, Nat.reduceLT, Nat.reduceAdd, Nat.reduceLeDiff, reduceCtorEq, Nat.reduceMul, Nat.reduceMod, cfgP, u133, hlen, a0, h1, h2, h3, h4, h5, none_beq]
          exact Fin_pure (l := [.int .i64 3]) (by simp [wk, aBuiltin, AV.cells, AV.leaf, Nat.reduceEqDiff, Nat.reduceLT, Nat.reduceAdd, Nat.reduceLeDiff, reduceCtorEq, Nat.reduceMul, Nat.reduceMod, cfgP, u133, aResults, aResult, hlen]) (.still rfl) (by simp)
        · have h6 : 240 ≤ c := by omega
          by_cases h7 : c < 245
          · simp only [wk, aBuiltin, AV.cells, AV.leaf, Nat.reduceEqDiff, Nat.reduceLT, Nat.reduceAdd, Nat.reduceLeDiff, reduceCtorEq, Nat.reduceMul, Nat.reduceMod, cfgP, u133, hlen, a0, h1, h2, h3, h4, h5, h6, h7, none_beq]
            exact Fin_pure (l := [.int .i64 4]) (by simp [wk, aBuiltin, AV.cells, AV.leaf, Nat.reduceEqDiff, Nat.reduceLT, Nat.reduceAdd, Nat.reduceLeDiff, reduceCtorEq, Nat.reduceMul, Nat.reduceMod, cfgP, u133, aResults, aResult, hlen]) (.still rfl) (by simp)
          · simp only [wk, aBuiltin, AV.cells, AV.leaf, Nat.reduceEqDiff, Nat.reduceLT, Nat.reduceAdd, Nat.reduceLeDiff, reduceCtorEq, Nat.reduceMul, Nat.reduceMod, cfgP, u133, hlen, a0, h1, h2, h3, h4, h5, h6, h7, none_beq]
            exact Fin_pure (l := [.int .i64 0]) (by simp [wk, aBuiltin, AV.cells, AV.leaf, Nat.reduceEqDiff, Nat.reduceLT, Nat.reduceAdd, Nat.reduceLeDiff, reduceCtorEq, Nat.reduceMul, Nat.reduceMod, cfgP, u133, aResults, aResult, hlen]) (.still rfl) (by simp)
    · have h4 : ¬ 224 ≤ c := by omega
      have h6 : ¬ 240 ≤ c := by omega
      simp only [wk, aBuiltin, AV.cells, AV.leaf, Nat.reduceEqDiff, Nat.reduceLT, Nat.reduceAdd, Nat.reduceLeDiff, reduceCtorEq, Nat.reduceMul, Nat.reduceMod, cfgP, u133, hlen, a0, h1, h2, h4, h6, none_beq]
      exact Fin_pure (l := [.int .i64 0]) (by simp [wk, aBuiltin, AV.cells, AV.leaf, Nat.reduceEqDiff, Nat.reduceLT, Nat.reduceAdd, Nat.reduceLeDiff, reduceCtorEq, Nat.reduceMul, Nat.reduceMod, cfgP, u133, aResults, aResult, hlen]) (.still rfl) (by simp)

def leadU (n : Nat) : Int := if n = 2 then 192 else if n = 3 then 224 else if n = 4 then 240 else 0

theorem lead_ok (n : Nat) (hn : n ≤ 4) (prot : Nat) (H : Heap) (hp : prot ≤ H.length) : aLim cfg prot 135 [.int .i64 n] H = some (.int .i32 (leadU n), none) := by
  have hsnap : snap H [.int .i64 n] = some ([.int .i64 n], false) := rfl
  have bu : aBuild Tryz.prog 232 [(0, .int .i32 0), (1, .int .i32 0), (2, .int .i32 192), (3, .int .i32 224), (4, .int .i32 240)] = some (.agg [.int .i32 0, .int .i32 0, .int .i32 192, .int .i32 224, .int .i32 240]) := by kernel_rfl
  have i0 : aIndex Tryz.prog 232 (.agg [.int .i32 0, .int .i32 0, .int .i32 192, .int .i32 224, .int .i32 240]) (.int .i64 0) = some (.int .i32 0) := by kernel_rfl
  have i1 : aIndex Tryz.prog 232 (.agg [.int .i32 0, .int .i32 0, .int .i32 192, .int .i32 224, .int .i32 240]) (.int .i64 1) = some (.int .i32 0) := by kernel_rfl
  have i2 : aIndex Tryz.prog 232 (.agg [.int .i32 0, .int .i32 0, .int .i32 192, .int .i32 224, .int .i32 240]) (.int .i64 2) = some (.int .i32 192) := by kernel_rfl
  have i3 : aIndex Tryz.prog 232 (.agg [.int .i32 0, .int .i32 0, .int .i32 192, .int .i32 224, .int .i32 240]) (.int .i64 3) = some (.int .i32 224) := by kernel_rfl
  have i4 : aIndex Tryz.prog 232 (.agg [.int .i32 0, .int .i32 0, .int .i32 192, .int .i32 224, .int .i32 240]) (.int .i64 4) = some (.int .i32 240) := by kernel_rfl
  have ix : aIndex Tryz.prog 232 (.agg [.int .i32 0, .int .i32 0, .int .i32 192, .int .i32 224, .int .i32 240]) (.int .i64 n) = some (.int .i32 (leadU n)) := by
    have : n = 0 ∨ n = 1 ∨ n = 2 ∨ n = 3 ∨ n = 4 := by omega
    rcases this with rfl | rfl | rfl | rfl | rfl
    · exact i0
    · exact i1
    · exact i2
    · exact i3
    · exact i4
  refine pure_slim rfl (by kernel_rfl) Tryz.func135 s135 hp hsnap (by simp [Tryz.f135]) fun fr hlen h => ?_
  simp only [Has, Nat.zero_add] at h
  obtain ⟨a0, -⟩ := h
  simp only [Tryz.f135] at hlen ⊢
  unfold g135
  simp only [wk, aBuiltin, AV.cells, AV.leaf, Nat.reduceEqDiff, Nat.reduceLT, Nat.reduceAdd, Nat.reduceLeDiff, reduceCtorEq, Nat.reduceMul, Nat.reduceMod, cfgP, u133, hlen, a0, bu, ix]
  exact Fin_pure (l := [.int .i32 (leadU n)]) (by simp [wk, aBuiltin, AV.cells, AV.leaf, Nat.reduceEqDiff, Nat.reduceLT, Nat.reduceAdd, Nat.reduceLeDiff, reduceCtorEq, Nat.reduceMul, Nat.reduceMod, cfgP, u133, aResults, aResult, hlen]) (.still rfl) (by simp)

def fitsGo : Int → Int → List UInt8 → Bool
  | _, _, [] => true
  | lo, hi, c :: r => if (c.toNat : Int) < lo ∨ hi < (c.toNat : Int) then false else fitsGo 128 191 r
def lowU (c : Int) : Int := if c = 224 then 160 else if c = 240 then 144 else 128
def highU (c : Int) : Int := if c = 237 then 159 else if c = 244 then 143 else 191
def fitsU (c : UInt8) (b : List UInt8) (n : Nat) : Bool := fitsGo (lowU c.toNat) (highU c.toNat) ((b.take n).drop 1)


theorem fits_ok (c : UInt8) (r : List UInt8) (n : Nat) (hn : n ≤ 4) (v : AV) (hv : Sl encB v (c :: r)) (hl : (c :: r).length ≤ 9223372036854775807) (prot : Nat) (H : Heap) (hp : prot ≤ H.length) :
    aLim cfg prot 134 [v, .int .i64 n] H = some (.bool (fitsU c (c :: r) n), none) := by
  have hsnap : snap H [v, .int .i64 n] = some ([v, .int .i64 n], false) := by cases hv <;> rfl
  have e0 : aIndexAddr Tryz.prog 72 v (.int .i64 0) = some (.vptr [.int .u8 (c.toNat : Int)] 0) := hv.at (k := .i64) (i := 0) Tryz.underlying72 sz5 encB_len (by simp)
  generalize hb : c :: r = b at *
  have hpos : 0 < b.length := by rw [← hb]; simp
  unfold fitsU
  generalize hc : (c.toNat : Int) = cn at *
  have hmin : ((min (n : Int) (b.length : Int)) : Int) = ((min n b.length : Nat) : Int) := by omega
  have hlen2 : (b.take n).length = min n b.length := by simp
  refine pure_slim rfl (by kernel_rfl) Tryz.func134 s134 hp hsnap (by simp [Tryz.f134]) fun fr hlen h => ?_
  simp only [Has, Nat.zero_add] at h
  obtain ⟨a0, a1, -⟩ := h
  simp only [Tryz.f134] at hlen ⊢
  unfold g134
  have hcase : (decide (cn = 224) = true ∧ decide (cn = 237) = false ∧ decide (cn = 240) = false ∧ decide (cn = 244) = false ∧ lowU cn = 160 ∧ highU cn = 191) ∨
      (decide (cn = 224) = false ∧ decide (cn = 237) = true ∧ decide (cn = 240) = false ∧ decide (cn = 244) = false ∧ lowU cn = 128 ∧ highU cn = 159) ∨
      (decide (cn = 224) = false ∧ decide (cn = 237) = false ∧ decide (cn = 240) = true ∧ decide (cn = 244) = false ∧ lowU cn = 144 ∧ highU cn = 191) ∨
      (decide (cn = 224) = false ∧ decide (cn = 237) = false ∧ decide (cn = 240) = false ∧ decide (cn = 244) = true ∧ lowU cn = 128 ∧ highU cn = 143) ∨
      (decide (cn = 224) = false ∧ decide (cn = 237) = false ∧ decide (cn = 240) = false ∧ decide (cn = 244) = false ∧ lowU cn = 128 ∧ highU cn = 191) := by
    unfold lowU highU
    by_cases k1 : cn = 224
    · subst k1; decide
    · by_cases k2 : cn = 237
      · subst k2; decide
      · by_cases k3 : cn = 240
        · subst k3; decide
        · by_cases k4 : cn = 244
          · subst k4; decide
          · simp [k1, k2, k3, k4]
  generalize lowU cn = lo0 at *
  generalize highU cn = hi0 at *
  generalize hg : fitsGo lo0 hi0 ((b.take n).drop 1) = g
  rcases hcase with ⟨d1, d2, d3, d4, hl0, hh0⟩ | ⟨d1, d2, d3, d4, hl0, hh0⟩ | ⟨d1, d2, d3, d4, hl0, hh0⟩ | ⟨d1, d2, d3, d4, hl0, hh0⟩ | ⟨d1, d2, d3, d4, hl0, hh0⟩
  all_goals
    simp only [wk, aBuiltin, AV.cells, AV.leaf, Nat.reduceEqDiff, Nat.reduceLT, Nat.reduceAdd, Nat.reduceLeDiff, reduceCtorEq, Nat.reduceMul, Nat.reduceMod, cfgP, u133, hlen, a0, a1, e0, d1, d2, d3, d4]
    refine loop_rule (fun m fr H' => ∃ (i : Nat) (lo hi : Int), m = b.length - i ∧ 1 ≤ i ∧ i ≤ b.length ∧ fr.length = 41 ∧ fget fr 0 = v ∧ fget fr 1 = .int .i64 n ∧ fget fr 5 = .int .u8 lo ∧ fget fr 6 = .int .u8 hi ∧ fget fr 7 = .int .i64 i
      ∧ H' = H ∧ g = fitsGo lo hi ((b.take n).drop i)) ?_ (b.length - 1) _ _ ⟨1, lo0, hi0, by simp [wk, aBuiltin, AV.cells, AV.leaf, Nat.reduceEqDiff, Nat.reduceLT, Nat.reduceAdd, Nat.reduceLeDiff, reduceCtorEq, Nat.reduceMul, Nat.reduceMod, cfgP, u133, hlen, a0, a1, hl0, hh0]; refine ⟨by omega, ?_⟩; rw [← hg, hl0, hh0]; simp⟩
    rintro m fr H' ⟨i, lo, hi, rfl, h1i, hi', hlen, a0, a1, a5, a6, a7, hHe, hc⟩ ih
    subst hHe
    simp only [wk, aBuiltin, AV.cells, AV.leaf, Nat.reduceEqDiff, Nat.reduceLT, Nat.reduceAdd, Nat.reduceLeDiff, reduceCtorEq, Nat.reduceMul, Nat.reduceMod, cfgP, u133, hlen, a0, a1, a5, a6, a7, hv.len Tryz.underlying72, hmin]
    refine RC_split (fun h => ?_) (fun h => ?_)
    · have hlt : i < min n b.length := by simpa using h
      have hw : IntKind.i64.wrap ((i : Int) + 1) = ((i + 1 : Nat) : Int) := by rw [wrap64 (by omega) (by omega)]; simp
      have hib : i < b.length := by omega
      have e1 := hv.at (k := .i64) Tryz.underlying72 sz5 encB_len hib
      have hit : i < (b.take n).length := by omega
      have hd : (b.take n).drop i = b[i] :: (b.take n).drop (i + 1) := by
        rw [List.drop_eq_getElem_cons hit]; simp
      rw [hd] at hc
      generalize b[i] = x at *
      rw [fitsGo] at hc
      simp only [encB, AV.cells] at e1
      by_cases q1 : (x.toNat : Int) < lo
      · simp only [wk, aBuiltin, AV.cells, AV.leaf, Nat.reduceEqDiff, Nat.reduceLT, Nat.reduceAdd, Nat.reduceLeDiff, reduceCtorEq, Nat.reduceMul, Nat.reduceMod, cfgP, u133, hlen, a0, a1, a5, a6, a7, e1, q1, none_beq]
        rw [hc, if_pos (.inl q1)]
        exact Fin_pure (l := [.bool false]) (by simp [wk, aBuiltin, AV.cells, AV.leaf, Nat.reduceEqDiff, Nat.reduceLT, Nat.reduceAdd, Nat.reduceLeDiff, reduceCtorEq, Nat.reduceMul, Nat.reduceMod, cfgP, u133, aResults, aResult, hlen]) (.still rfl) (by simp)
      · by_cases q2 : hi < (x.toNat : Int)
        · simp only [wk, aBuiltin, AV.cells, AV.leaf, Nat.reduceEqDiff, Nat.reduceLT, Nat.reduceAdd, Nat.reduceLeDiff, reduceCtorEq, Nat.reduceMul, Nat.reduceMod, cfgP, u133, hlen, a0, a1, a5, a6, a7, e1, q1, q2, none_beq]
          rw [hc, if_pos (.inr q2)]
          exact Fin_pure (l := [.bool false]) (by simp [wk, aBuiltin, AV.cells, AV.leaf, Nat.reduceEqDiff, Nat.reduceLT, Nat.reduceAdd, Nat.reduceLeDiff, reduceCtorEq, Nat.reduceMul, Nat.reduceMod, cfgP, u133, aResults, aResult, hlen]) (.still rfl) (by simp)
        · simp only [wk, aBuiltin, AV.cells, AV.leaf, Nat.reduceEqDiff, Nat.reduceLT, Nat.reduceAdd, Nat.reduceLeDiff, reduceCtorEq, Nat.reduceMul, Nat.reduceMod, cfgP, u133, hlen, a0, a1, a5, a6, a7, e1, q1, q2, none_beq, hw]
          rw [if_neg (by omega)] at hc
          refine ih _ _ (b.length - (i + 1)) (by omega) ⟨i + 1, 128, 191, rfl, by omega, by omega, ?_⟩
          simp [wk, aBuiltin, AV.cells, AV.leaf, Nat.reduceEqDiff, Nat.reduceLT, Nat.reduceAdd, Nat.reduceLeDiff, reduceCtorEq, Nat.reduceMul, Nat.reduceMod, cfgP, u133, hlen, a0, a1, hc]
    · have hnl : ¬ i < min n b.length := by simpa using h
      have he : (b.take n).drop i = [] := by rw [List.drop_eq_nil_iff]; omega
      rw [he, fitsGo] at hc
      rw [hc]
      simp only [wk, aBuiltin, AV.cells, AV.leaf, Nat.reduceEqDiff, Nat.reduceLT, Nat.reduceAdd, Nat.reduceLeDiff, reduceCtorEq, Nat.reduceMul, Nat.reduceMod, cfgP, u133, hlen, a0, a1]
      exact Fin_pure (l := [.bool true]) (by simp [wk, aBuiltin, AV.cells, AV.leaf, Nat.reduceEqDiff, Nat.reduceLT, Nat.reduceAdd, Nat.reduceLeDiff, reduceCtorEq, Nat.reduceMul, Nat.reduceMod, cfgP, u133, aResults, aResult, hlen]) (.still rfl) (by simp)

theorem Sl_mid {α : Type} {enc : α → AV} {v : AV} {l : List α} (h : Sl enc v l) {P : Program} {t e : TypeId} {sz lo hi : Nat} (hu : P.underlying t = some (.slice e)) (hsz : sizeT P e = some sz)
    (he : ∀ x, (enc x).cells.length = sz) (h1 : lo ≤ hi) (h2 : hi ≤ l.length) : ∃ v', aSlice P t v (some (.int .i64 (lo : Nat))) (some (.int .i64 (hi : Nat))) none = some v' ∧ Sl enc v' ((l.drop lo).take (hi - lo)) := by
  cases h with
  | nil =>
    have : hi = 0 := by simpa using h2
    subst this
    have : lo = 0 := by omega
    subst this
    exact ⟨.nilS, by simp [aSlice, hu, hsz, aBounds, asNat, optInt], .nil⟩
  | vs l full =>
    have h3 : ((l.map enc).all fun v => v.cells.length == sz) = true := by simp [he]
    refine ⟨.vs (((l.drop lo).take (hi - lo)).map enc) (fullOf full hi l.length none), ?_, .vs _ _⟩
    simp only [aSlice, hu, hsz, Option.bind_some, h3, if_true]
    simp [aBounds, asNat, optInt, h1, h2, List.map_take, List.map_drop]

def shl6 (r : Int) : Int := IntKind.i32.wrap (r * 2 ^ min (6 : Int).toNat IntKind.i32.bits)
def runeStep (r : Int) (c : Int) : Int := IntKind.i32.wrap (BitVec.ofInt IntKind.i32.bits (shl6 r) ||| BitVec.ofInt IntKind.i32.bits (IntKind.i32.wrap (BitVec.ofInt IntKind.i32.bits (IntKind.i32.wrap c) &&& BitVec.ofInt IntKind.i32.bits 63).toNat)).toNat
def runeFirst (c : Int) (n : Nat) : Int := IntKind.i32.wrap (BitVec.ofInt IntKind.i32.bits (IntKind.i32.wrap c) &&& ~~~ BitVec.ofInt IntKind.i32.bits (leadU n)).toNat
def runeGo : Int → List UInt8 → Int
  | r, [] => r
  | r, c :: m => runeGo (runeStep r c.toNat) m
/-- the rune at the beginning of bytes, how many they are, or why there is none. -/
def nextU : List UInt8 → Int × Nat × Int
  | [] => (0, 0, 6)
  | c :: r =>
    let n := wantedU c.toNat
    if n = 0 ∨ fitsU c (c :: r) n = false then (0, 0, 3)
    else if (c :: r).length < n then (0, 0, 11)
    else (runeGo (runeFirst c.toNat n) (((c :: r).drop 1).take (n - 1)), n, 0)
theorem nextU_eq {b : List UInt8} {c : UInt8} {r : List UInt8} (hb : b = c :: r) : nextU b = if wantedU c.toNat = 0 ∨ fitsU c b (wantedU c.toNat) = false then (0, 0, 3) else if b.length < wantedU c.toNat then (0, 0, 11)
    else (runeGo (runeFirst c.toNat (wantedU c.toNat)) ((b.drop 1).take (wantedU c.toNat - 1)), wantedU c.toNat, 0) := by subst hb; rfl
theorem wantedU_le (c : Int) : wantedU c ≤ 4 := by unfold wantedU; split <;> (try split) <;> (try split) <;> (try split) <;> omega


theorem next_ok (b : List UInt8) (o v : AV) (sn : Bool) (hv : Sl encB v b) (hl : b.length ≤ 9223372036854775807) (prot : Nat) (H : Heap) (hp : prot ≤ H.length) (hsnap : snap H [o] = some ([v], sn)) :
    aLim cfg prot 94 [o] H = some (.tup [.int .i32 (nextU b).1, .int .i64 (nextU b).2.1, .int .i64 (nextU b).2.2], none) := by
  refine pure_slim rfl (by kernel_rfl) Tryz.func94 s94 hp hsnap (by simp [Tryz.f94]) fun fr hlen h => ?_
  simp only [Has, Nat.zero_add] at h
  obtain ⟨a0, -⟩ := h
  simp only [Tryz.f94] at hlen ⊢
  unfold g94
  have hfz : ∀ (K : Heap) (x y z : AV), still x = true → still y = true → still z = true → Frz K H.length (packR [x, y, z]) (.tup [x, y, z]) := fun K x y z h1 h2 h3 => .tup (.cons (.still h1) (.cons (.still h2) (.cons (.still h3) .nil)))
  by_cases hb : b = []
  · subst hb
    have hn : ∀ K, aLen Tryz.prog K 72 v = some (.int .i64 0) := fun K => hv.len Tryz.underlying72
    simp only [wk, aBuiltin, AV.cells, AV.leaf, Nat.reduceEqDiff, Nat.reduceLT, Nat.reduceAdd, Nat.reduceLeDiff, reduceCtorEq, Nat.reduceMul, Nat.reduceMod, cfgP, u133, hlen, a0, hn]
    exact Fin_pure (l := [.int .i32 0, .int .i64 0, .int .i64 6]) (by simp [wk, aBuiltin, AV.cells, AV.leaf, Nat.reduceEqDiff, Nat.reduceLT, Nat.reduceAdd, Nat.reduceLeDiff, reduceCtorEq, Nat.reduceMul, Nat.reduceMod, cfgP, u133, hlen, aResults, aResult]) (hfz _ _ _ _ rfl rfl rfl) (by intro _; rfl)
  · obtain ⟨c, r, hb⟩ := List.exists_cons_of_ne_nil hb
    have hz : decide ((b.length : Int) = 0) = false := by rw [hb]; simp; omega
    have e0 : aIndexAddr Tryz.prog 72 v (.int .i64 0) = some (.vptr [.int .u8 (c.toNat : Int)] 0) := by
      subst hb
      exact hv.at (k := .i64) (i := 0) Tryz.underlying72 sz5 encB_len (by simp)
    have hw := fun K (hK : H.length ≤ K.length) => wanted_ok (c.toNat : Int) H.length K hK
    have hn4 := wantedU_le (c.toNat : Int)
    have hf := fun K (hK : H.length ≤ K.length) => fits_ok c r (wantedU (c.toNat : Int)) hn4 v (by rw [← hb]; exact hv) (by rw [← hb]; exact hl) H.length K hK
    have hld := fun K (hK : H.length ≤ K.length) => lead_ok (wantedU (c.toNat : Int)) hn4 H.length K hK
    rw [nextU_eq hb]
    rw [← hb] at hf
    generalize hn : wantedU (c.toNat : Int) = n at *
    by_cases hn0 : n = 0
    · subst hn0
      have hw : ∀ K, H.length ≤ K.length → aLim cfg H.length 133 [.int .u8 (c.toNat : Int)] K = some (.int .i64 0, none) := hw
      simp only [true_or, if_true]
      simp only [wk, aBuiltin, AV.cells, AV.leaf, Nat.reduceEqDiff, Nat.reduceLT, Nat.reduceAdd, Nat.reduceLeDiff, reduceCtorEq, Nat.reduceMul, Nat.reduceMod, cfgP, u133, hlen, a0, hv.len Tryz.underlying72, hz, e0, hw, none_beq]
      exact Fin_pure (l := [.int .i32 0, .int .i64 0, .int .i64 3]) (by simp [wk, aBuiltin, AV.cells, AV.leaf, Nat.reduceEqDiff, Nat.reduceLT, Nat.reduceAdd, Nat.reduceLeDiff, reduceCtorEq, Nat.reduceMul, Nat.reduceMod, cfgP, u133, hlen, aResults, aResult]) (hfz _ _ _ _ rfl rfl rfl) (by intro _; rfl)
    · have hnd : decide ((n : Int) = 0) = false := by simp; omega
      cases hfit : fitsU c b n with
      | false =>
        rw [hfit] at hf
        simp only [or_true, if_true]
        simp only [wk, aBuiltin, AV.cells, AV.leaf, Nat.reduceEqDiff, Nat.reduceLT, Nat.reduceAdd, Nat.reduceLeDiff, reduceCtorEq, Nat.reduceMul, Nat.reduceMod, cfgP, u133, hlen, a0, hv.len Tryz.underlying72, hz, e0, hw, hnd, hf, none_beq]
        exact Fin_pure (l := [.int .i32 0, .int .i64 0, .int .i64 3]) (by simp [wk, aBuiltin, AV.cells, AV.leaf, Nat.reduceEqDiff, Nat.reduceLT, Nat.reduceAdd, Nat.reduceLeDiff, reduceCtorEq, Nat.reduceMul, Nat.reduceMod, cfgP, u133, hlen, aResults, aResult]) (hfz _ _ _ _ rfl rfl rfl) (by intro _; rfl)
      | true =>
        rw [hfit] at hf
        rw [if_neg (by simp [hn0])]
        by_cases hlt : (b.length : Int) < n
        · rw [if_pos (by omega)]
          simp only [wk, aBuiltin, AV.cells, AV.leaf, Nat.reduceEqDiff, Nat.reduceLT, Nat.reduceAdd, Nat.reduceLeDiff, reduceCtorEq, Nat.reduceMul, Nat.reduceMod, cfgP, u133, hlen, a0, hv.len Tryz.underlying72, hz, e0, hw, hnd, hf, none_beq, hlt]
          exact Fin_pure (l := [.int .i32 0, .int .i64 0, .int .i64 11]) (by simp [wk, aBuiltin, AV.cells, AV.leaf, Nat.reduceEqDiff, Nat.reduceLT, Nat.reduceAdd, Nat.reduceLeDiff, reduceCtorEq, Nat.reduceMul, Nat.reduceMod, cfgP, u133, hlen, aResults, aResult]) (hfz _ _ _ _ rfl rfl rfl) (by intro _; rfl)
        · rw [if_neg (by omega)]
          obtain ⟨v2, e2, hv2⟩ := Sl_mid hv (lo := 1) (hi := n) Tryz.underlying72 sz5 encB_len (by omega) (by omega)
          have e2 : aSlice Tryz.prog 72 v (some (.int .i64 1)) (some (.int .i64 n)) none = some v2 := e2
          have hm : ((b.drop 1).take (n - 1)).length = n - 1 := by simp; omega
          generalize (b.drop 1).take (n - 1) = m at *
          simp only [wk, aBuiltin, AV.cells, AV.leaf, Nat.reduceEqDiff, Nat.reduceLT, Nat.reduceAdd, Nat.reduceLeDiff, reduceCtorEq, Nat.reduceMul, Nat.reduceMod, cfgP, u133, hlen, a0, hv.len Tryz.underlying72, hz, e0, hw, hnd, hf, none_beq, hlt, hld, e2, hv2.len Tryz.underlying72]
          refine loop_rule (fun k fr H' => ∃ (i : Nat) (x : Int), k = m.length - i ∧ i ≤ m.length ∧ fr.length = 54 ∧ fget fr 39 = v2 ∧ fget fr 40 = .int .i64 m.length ∧ fget fr 41 = .int .i64 i ∧ fget fr 6 = .int .i32 x ∧ fget fr 5 = .int .i64 n
            ∧ runeGo (runeFirst c.toNat n) m = runeGo x (m.drop i)) ?_ m.length _ _ ⟨0, runeFirst c.toNat n, by simp [wk, aBuiltin, AV.cells, AV.leaf, Nat.reduceEqDiff, Nat.reduceLT, Nat.reduceAdd, Nat.reduceLeDiff, reduceCtorEq, Nat.reduceMul, Nat.reduceMod, cfgP, u133, hlen, a0, runeFirst]⟩
          rintro k fr H' ⟨i, x, rfl, hi, hlen, a39, a40, a41, a6, a5, hc⟩ ih
          simp only [wk, aBuiltin, AV.cells, AV.leaf, Nat.reduceEqDiff, Nat.reduceLT, Nat.reduceAdd, Nat.reduceLeDiff, reduceCtorEq, Nat.reduceMul, Nat.reduceMod, cfgP, u133, hlen, a39, a40, a41, a6, a5]
          refine RC_split (fun h => ?_) (fun h => ?_)
          · have hlt : i < m.length := by simpa using h
            have hw : IntKind.i64.wrap ((i : Int) + 1) = ((i + 1 : Nat) : Int) := by rw [wrap64 (by omega) (by omega)]; simp
            have e1 := hv2.at (k := .i64) Tryz.underlying72 sz5 encB_len hlt
            have hd : m.drop i = m[i] :: m.drop (i + 1) := by simp
            have hs := fun (xo yo : Operand) => bin_shl (P := Tryz.prog) (t := 21) (xo := xo) (yo := yo) (k := .i32) (k' := .u64) (a := x) (b := 6) (by decide)
            rw [hd] at hc
            generalize m[i] = y at *
            simp only [encB, AV.cells] at e1
            simp only [wk, aBuiltin, AV.cells, AV.leaf, Nat.reduceEqDiff, Nat.reduceLT, Nat.reduceAdd, Nat.reduceLeDiff, reduceCtorEq, Nat.reduceMul, Nat.reduceMod, cfgP, u133, hlen, a39, a40, a41, a6, a5, e1, hs, hw]
            refine ih _ _ (m.length - (i + 1)) (by omega) ⟨i + 1, runeStep x y.toNat, rfl, hlt, ?_⟩
            rw [hc, runeGo]
            simp [wk, aBuiltin, AV.cells, AV.leaf, Nat.reduceEqDiff, Nat.reduceLT, Nat.reduceAdd, Nat.reduceLeDiff, reduceCtorEq, Nat.reduceMul, Nat.reduceMod, cfgP, u133, hlen, a39, a40, a5, runeStep, shl6]
          · have hnl : ¬ i < m.length := by simpa using h
            have he : m.drop i = [] := by simp; omega
            rw [he, runeGo] at hc
            rw [hc]
            simp only [wk, aBuiltin, AV.cells, AV.leaf, Nat.reduceEqDiff, Nat.reduceLT, Nat.reduceAdd, Nat.reduceLeDiff, reduceCtorEq, Nat.reduceMul, Nat.reduceMod, cfgP, u133, hlen, a6, a5]
            exact Fin_pure (l := [.int .i32 x, .int .i64 n, .int .i64 0]) (by simp [wk, aBuiltin, AV.cells, AV.leaf, Nat.reduceEqDiff, Nat.reduceLT, Nat.reduceAdd, Nat.reduceLeDiff, reduceCtorEq, Nat.reduceMul, Nat.reduceMod, cfgP, u133, hlen, aResults, aResult]) (hfz _ _ _ _ rfl rfl rfl) (by intro _; rfl)
end Go.Proofs.YtnipaiklandliaaGreatDoor
/- Chapter 2: what a rune's reading tells. -/
namespace Go.Proofs.YtnipaiklandliaaGreatDoor
open Go Go.Abs AbsSeat Ty

theorem nextU_pos {b : List UInt8} (h : (nextU b).2.2 = 0) : 0 < (nextU b).2.1 ∧ (nextU b).2.1 ≤ b.length := by
  by_cases hb : b = []
  · subst hb; simp [nextU] at h
  · obtain ⟨c, r, hb⟩ := List.exists_cons_of_ne_nil hb
    rw [nextU_eq hb] at h ⊢
    by_cases h1 : wantedU c.toNat = 0 ∨ fitsU c b (wantedU c.toNat) = false
    · rw [if_pos h1] at h; simp at h
    · rw [if_neg h1] at h ⊢
      by_cases h2 : b.length < wantedU c.toNat
      · rw [if_pos h2] at h; simp at h
      · rw [if_neg h2] at h ⊢
        simp only [not_or] at h1
        simp only
        omega
theorem nextU_err (b : List UInt8) : (nextU b).2.2 = 0 ∨ (nextU b).2.2 = 3 ∨ (nextU b).2.2 = 6 ∨ (nextU b).2.2 = 11 := by
  by_cases hb : b = []
  · subst hb; simp [nextU]
  · obtain ⟨c, r, hb⟩ := List.exists_cons_of_ne_nil hb
    rw [nextU_eq hb]
    split
    · simp
    · split <;> simp

/-- how many runes stand at the beginning of bytes, and how many bytes these are. -/
theorem conv_sb {P : Program} {s d e : TypeId} (h1 : P.underlying s = some .string) (h2 : P.underlying d = some (.slice e)) (h3 : P.underlying e = some (.int .u8)) (H : Heap) (x : List UInt8) :
    aConvert P H s d (.str x) = some (.bs ⟨H.length, 0, 0, x.length, 0, 1, false, false⟩, some (H ++ [Blk.cells 0 (cellsOf encB x)])) := by
  simp only [aConvert, h1, h2, h3, ← cellsB]
end Go.Proofs.YtnipaiklandliaaGreatDoor
/- Letters, digits. -/
namespace Go.Proofs.YtnipaiklandliaaGreatDoor
open Go Go.Abs
def digitC (c : Int) : Bool := decide (48 ≤ c) && decide (c ≤ 57)
def greatC (c : Int) : Bool := decide (65 ≤ c) && decide (c ≤ 90)
def letterC (c : Int) : Bool := greatC c || (decide (97 ≤ c) && decide (c ≤ 122))
end Go.Proofs.YtnipaiklandliaaGreatDoor
/- chars.Digit, walked. -/
namespace Go.Proofs.YtnipaiklandliaaGreatDoor
open Go Go.Abs AbsSeat Ty

theorem u62 : type_of% (And.intro ag5 (And.intro sz5 (And.intro by5 (And.intro ze5 Tryz.underlying5)))) := And.intro ag5 (And.intro sz5 (And.intro by5 (And.intro ze5 Tryz.underlying5)))
def g62 : Code :=
  .seq (.region 0 #[q 2 (.assign (.const (.bool false))) 4] false) (.seq (.region 1 #[q 3 (.move (.tmp 0)) 5, q 4 (.binOp .geq 5 (.tmp 3) (.const (.int .u8 48)) 5) 4, q 5 (.move (.tmp 4)) 4, qg 6 (.move (.tmp 0)) 5 2 true, qg 7 (.binOp .leq 5 (.tmp 6) (.const (.int .u8 57)) 5) 4 2 true, q 8 (.pick (.tmp 5) (.tmp 7) (.const (.bool false))) 4, q 2 (.assign (.tmp 8)) 4] false) .ret)
theorem s62 : Tryz.f62.body.map (slim cfg) = some g62 := by kernel_rfl


theorem digit_ok (c : Int) (prot : Nat) (H : Heap) (hp : prot ≤ H.length) : aLim cfg prot 62 [.int .u8 c] H = some (.bool (digitC c), none) := by
  have hsnap : snap H [.int .u8 c] = some ([.int .u8 c], false) := rfl
  unfold digitC
  refine pure_slim rfl (by kernel_rfl) Tryz.func62 s62 hp hsnap (by simp [Tryz.f62]) fun fr hlen h => ?_
  simp only [Has, Nat.zero_add] at h
  obtain ⟨a0, -⟩ := h
  simp only [Tryz.f62] at hlen ⊢
  unfold g62
  by_cases h1 : 48 ≤ c
  · simp only [wk, aBuiltin, AV.cells, AV.leaf, Nat.reduceEqDiff, Nat.reduceLT, Nat.reduceAdd, Nat.reduceLeDiff, reduceCtorEq, Nat.reduceMul, Nat.reduceMod, cfgP, u62, hlen, a0, h1]
    simp only [Bool.true_and, decide_true]
    exact Fin_pure (l := [.bool (decide (c ≤ 57))]) (by simp [wk, aBuiltin, AV.cells, AV.leaf, Nat.reduceEqDiff, Nat.reduceLT, Nat.reduceAdd, Nat.reduceLeDiff, reduceCtorEq, Nat.reduceMul, Nat.reduceMod, cfgP, u62, aResults, aResult, hlen]) (.still rfl) (by simp)
  · simp only [wk, aBuiltin, AV.cells, AV.leaf, Nat.reduceEqDiff, Nat.reduceLT, Nat.reduceAdd, Nat.reduceLeDiff, reduceCtorEq, Nat.reduceMul, Nat.reduceMod, cfgP, u62, hlen, a0, h1, none_beq]
    simp only [Bool.false_and, decide_false]
    exact Fin_pure (l := [.bool false]) (by simp [wk, aBuiltin, AV.cells, AV.leaf, Nat.reduceEqDiff, Nat.reduceLT, Nat.reduceAdd, Nat.reduceLeDiff, reduceCtorEq, Nat.reduceMul, Nat.reduceMod, cfgP, u62, aResults, aResult, hlen]) (.still rfl) (by simp)
end Go.Proofs.YtnipaiklandliaaGreatDoor
/- chars.All: its code. -/
namespace Go.Proofs.YtnipaiklandliaaGreatDoor
open Go Go.Abs AbsSeat Ty

theorem u63 : type_of% (And.intro ag3 (And.intro sz3 (And.intro by3 (And.intro ze3 (And.intro Tryz.underlying3 (And.intro ag5 (And.intro sz5 (And.intro by5 (And.intro ze5 (And.intro Tryz.underlying5 (And.intro ag9 (And.intro sz9 (And.intro by9 (And.intro ze9 (And.intro Tryz.underlying9 (And.intro ag110 (And.intro sz110 (And.intro by110 (And.intro ze110 Tryz.underlying110))))))))))))))))))) := And.intro ag3 (And.intro sz3 (And.intro by3 (And.intro ze3 (And.intro Tryz.underlying3 (And.intro ag5 (And.intro sz5 (And.intro by5 (And.intro ze5 (And.intro Tryz.underlying5 (And.intro ag9 (And.intro sz9 (And.intro by9 (And.intro ze9 (And.intro Tryz.underlying9 (And.intro ag110 (And.intro sz110 (And.intro by110 (And.intro ze110 Tryz.underlying110))))))))))))))))))
def g63 : Code :=
  .seq (.region 0 #[q 4 (.assign (.const (.bool false))) 4] false) (.seq (.seq (.region 1 #[q 5 (.assign (ik 0)) 3] false) (.block 0 (.loop (.seq (.seq (.region 2 #[q 6 (.move (.tmp 1)) 110, q 7 (.binOp .neq 110 (.tmp 6) (.const .nilFunc) 110) 4, q 8 (.move (.tmp 7)) 4, qg 9 (.move (.tmp 5)) 3 2 true, qg 10 (.move (.tmp 0)) 9 2 true, qg 11 (bi .len #[.tmp 10] #[9]) 3 2 true, qg 12 (.binOp .lss 3 (.tmp 9) (.tmp 11) 3) 4 2 true, q 13 (.pick (.tmp 8) (.tmp 12) (.const (.bool false))) 4] false) (.cond (.tmp 13) .skip (.exit 0))) (.seq (.block 1 (.seq (.region 4 #[q 16 (.move (.tmp 1)) 110, q 17 (.move (.tmp 0)) 9, q 18 (.move (.tmp 5)) 3, q 19 (.index 9 (.tmp 17) (.tmp 18)) 5, q 20 (cv (.tmp 16) #[.tmp 19] #[5]) 4, q 21 (.unOp .not 4 (.tmp 20)) 4] false) (.cond (.tmp 21) (.seq (.region 5 #[q 4 (.assign (.const (.bool false))) 4] false) .ret) .skip))) (.region 3 #[q 14 (.move (.tmp 5)) 3, q 15 (.binOp .add 3 (.tmp 14) (ik 1) 3) 3, q 5 (.assign (.tmp 15)) 3] false)))))) (.seq (.region 6 #[q 22 (.move (.tmp 1)) 110, q 23 (.binOp .neq 110 (.tmp 22) (.const .nilFunc) 110) 4, q 4 (.assign (.tmp 23)) 4] false) .ret))
theorem s63 : Tryz.f63.body.map (slim cfg) = some g63 := by kernel_rfl
end Go.Proofs.YtnipaiklandliaaGreatDoor
/- num.Parse, walked. -/
namespace Go.Proofs.YtnipaiklandliaaGreatDoor
open Go Go.Abs AbsSeat Ty

theorem u85 : type_of% (And.intro (fun (K : Heap) (n : Int) => conv_int Tryz.underlying5 Tryz.underlying126 K n) (And.intro (fun (K : Heap) (n : Int) => conv_int Tryz.underlying126 Tryz.underlying2 K n) (And.intro ag2 (And.intro sz2 (And.intro by2 (And.intro ze2 (And.intro Tryz.underlying2 (And.intro ag3 (And.intro sz3 (And.intro by3 (And.intro ze3 (And.intro Tryz.underlying3 (And.intro ag5 (And.intro sz5 (And.intro by5 (And.intro ze5 (And.intro Tryz.underlying5 (And.intro ag9 (And.intro sz9 (And.intro by9 (And.intro ze9 (And.intro Tryz.underlying9 (And.intro ag28 (And.intro sz28 (And.intro by28 (And.intro ze28 (And.intro Tryz.underlying28 (And.intro ag110 (And.intro sz110 (And.intro by110 (And.intro ze110 (And.intro Tryz.underlying110 (And.intro ag126 (And.intro sz126 (And.intro by126 (And.intro ze126 Tryz.underlying126)))))))))))))))))))))))))))))))))))) := And.intro (fun (K : Heap) (n : Int) => conv_int Tryz.underlying5 Tryz.underlying126 K n) (And.intro (fun (K : Heap) (n : Int) => conv_int Tryz.underlying126 Tryz.underlying2 K n) (And.intro ag2 (And.intro sz2 (And.intro by2 (And.intro ze2 (And.intro Tryz.underlying2 (And.intro ag3 (And.intro sz3 (And.intro by3 (And.intro ze3 (And.intro Tryz.underlying3 (And.intro ag5 (And.intro sz5 (And.intro by5 (And.intro ze5 (And.intro Tryz.underlying5 (And.intro ag9 (And.intro sz9 (And.intro by9 (And.intro ze9 (And.intro Tryz.underlying9 (And.intro ag28 (And.intro sz28 (And.intro by28 (And.intro ze28 (And.intro Tryz.underlying28 (And.intro ag110 (And.intro sz110 (And.intro by110 (And.intro ze110 (And.intro Tryz.underlying110 (And.intro ag126 (And.intro sz126 (And.intro by126 (And.intro ze126 Tryz.underlying126)))))))))))))))))))))))))))))))))))
def g85 : Code :=
  .seq (.region 0 #[q 4 (.assign (.const (.int .u64 0))) 126, q 5 (.assign (ik 0)) 28] false) (.seq (.region 1 #[q 6 (.assign (.const (.int .u64 0))) 126] false) (.seq (.seq (.region 2 #[q 9 (.move (.tmp 0)) 9, q 10 (bi .len #[.tmp 9] #[9]) 3, q 11 (.move (ik 0)) 3] false) (.block 0 (.loop (.seq (.region 3 #[q 12 (.binOp .lss 3 (.tmp 11) (.tmp 10) 3) 4] false) (.seq (.cond (.tmp 12) .skip (.exit 0)) (.seq (.block 1 (.seq (.region 4 #[q 13 (.move (.tmp 11)) 3, q 7 (.assign (.tmp 13)) 3] false) (.seq (.region 5 #[q 14 (.move (.tmp 0)) 9, q 15 (.move (.tmp 7)) 3, q 16 (.index 9 (.tmp 14) (.tmp 15)) 5, q 17 (.binOp .sub 5 (.tmp 16) (.const (.int .u8 48)) 5) 5, q 18 (.convert 5 126 (.tmp 17)) 126, q 8 (.assign (.tmp 18)) 126] false) (.seq (.seq (.region 6 #[q 19 (.move (.tmp 6)) 126, q 20 (.move (.tmp 1)) 126, q 21 (.move (.tmp 8)) 126, q 22 (.binOp .sub 126 (.tmp 20) (.tmp 21) 126) 126, q 23 (.binOp .quo 126 (.tmp 22) (.const (.int .u64 10)) 126) 126, q 24 (.binOp .gtr 126 (.tmp 19) (.tmp 23) 126) 4] false) (.cond (.tmp 24) (.seq (.region 7 #[q 4 (.assign (.const (.int .u64 0))) 126, q 5 (.assign (ik 5)) 28] false) .ret) .skip)) (.region 8 #[q 25 (.move (.tmp 6)) 126, q 26 (.binOp .mul 126 (.tmp 25) (.const (.int .u64 10)) 126) 126, q 27 (.move (.tmp 8)) 126, q 28 (.binOp .add 126 (.tmp 26) (.tmp 27) 126) 126, q 6 (.assign (.tmp 28)) 126] false))))) (.region 9 #[q 29 (.binOp .add 3 (.tmp 11) (ik 1) 3) 3, q 11 (.move (.tmp 29)) 3] false))))))) (.seq (.region 10 #[q 30 (.move (.tmp 6)) 126, q 4 (.assign (.tmp 30)) 126, q 5 (.assign (ik 0)) 28] false) .ret)))
theorem s85 : Tryz.f85.body.map (slim cfg) = some g85 := by kernel_rfl
def g49 : Code :=
  .seq (.region 0 #[q 2 (.assign (ik 0)) 2, q 3 (.assign (ik 0)) 28] false) (.seq (.region 1 #[q 8 (.move (.tmp 0)) 9, q 9 (bi .len #[.tmp 8] #[9]) 3, q 10 (.binOp .gtr 3 (.tmp 9) (ik 0) 3) 4, q 11 (.move (.tmp 10)) 4, qg 12 (.move (.tmp 0)) 9 3 true, qg 13 (.index 9 (.tmp 12) (ik 0)) 5 3 true, qg 14 (.binOp .eql 5 (.tmp 13) (.const (.int .u8 45)) 5) 4 3 true, q 15 (.pick (.tmp 11) (.tmp 14) (.const (.bool false))) 4, q 4 (.assign (.tmp 15)) 4] false) (.seq (.region 2 #[q 5 (.assign (.const (.int .u64 9223372036854775807))) 126] false) (.seq (.seq (.region 3 #[q 16 (.move (.tmp 4)) 4] false) (.cond (.tmp 16) (.seq (.region 4 #[q 17 (.move (.tmp 0)) 9, q 18 (.slice 9 (.tmp 17) (some (ik 1)) none none) 9, q 0 (.assign (.tmp 18)) 9] false) (.region 5 #[q 19 (.move (.tmp 5)) 126, q 20 (.binOp .add 126 (.tmp 19) (.const (.int .u64 1)) 126) 126, q 5 (.assign (.tmp 20)) 126] false)) .skip)) (.seq (.seq (.region 6 #[q 21 (.move (.tmp 0)) 9, q 22 (.binOp .eql 9 (.tmp 21) (.const (.string { data := #[] })) 9) 4, q 23 (.move (.tmp 22)) 4, qg 24 (.move (.tmp 0)) 9 2 false, qg 25 (cl 63 #[.tmp 24, .func 62] #[9, 110]) 4 2 false, qg 26 (.unOp .not 4 (.tmp 25)) 4 2 false, q 27 (.pick (.tmp 23) (.const (.bool true)) (.tmp 26)) 4, q 28 (.move (.tmp 27)) 4, qg 29 (.move (.tmp 0)) 9 7 false, qg 30 (bi .len #[.tmp 29] #[9]) 3 7 false, qg 31 (.binOp .gtr 3 (.tmp 30) (ik 1) 3) 4 7 false, qg 32 (.move (.tmp 31)) 4 7 false, qg 33 (.move (.tmp 0)) 9 11 true, qg 34 (.index 9 (.tmp 33) (ik 0)) 5 11 true, qg 35 (.binOp .eql 5 (.tmp 34) (.const (.int .u8 48)) 5) 4 11 true, qg 36 (.pick (.tmp 32) (.tmp 35) (.const (.bool false))) 4 7 false, q 37 (.pick (.tmp 28) (.const (.bool true)) (.tmp 36)) 4] false) (.cond (.tmp 37) (.seq (.region 7 #[q 2 (.assign (ik 0)) 2, q 3 (.assign (ik 3)) 28] false) .ret) .skip)) (.seq (.region 8 #[q 39 (.move (.tmp 0)) 9, q 40 (.move (.tmp 5)) 126, q 41 (cl 85 #[.tmp 39, .tmp 40] #[9, 126]) 138, q 38 (.move (.tmp 41)) 138, q 42 (.extract (.tmp 38) 0) 126, q 43 (.extract (.tmp 38) 1) 28, q 6 (.assign (.tmp 42)) 126, q 7 (.assign (.tmp 43)) 28] false) (.seq (.seq (.region 9 #[q 44 (.move (.tmp 7)) 28, q 45 (.binOp .neq 28 (.tmp 44) (ik 0) 28) 4] false) (.cond (.tmp 45) (.seq (.region 10 #[q 46 (.move (.tmp 7)) 28, q 2 (.assign (ik 0)) 2, q 3 (.assign (.tmp 46)) 28] false) .ret) .skip)) (.seq (.seq (.region 11 #[q 47 (.move (.tmp 4)) 4] false) (.cond (.tmp 47) (.seq (.region 12 #[q 48 (.move (.tmp 6)) 126, q 49 (.unOp .neg 126 (.tmp 48)) 126, q 50 (.convert 126 2 (.tmp 49)) 2, q 2 (.assign (.tmp 50)) 2, q 3 (.assign (ik 0)) 28] false) .ret) .skip)) (.seq (.region 13 #[q 51 (.move (.tmp 6)) 126, q 52 (.convert 126 2 (.tmp 51)) 2, q 2 (.assign (.tmp 52)) 2, q 3 (.assign (ik 0)) 28] false) .ret))))))))
theorem s49 : Tryz.f49.body.map (slim cfg) = some g49 := by kernel_rfl

theorem allF_ok (f : Nat) (p : Int → Bool) (hf : ∀ (c : UInt8) (prot : Nat) (H : Heap), prot ≤ H.length → aLim cfg prot f [.int .u8 c.toNat] H = some (.bool (p c.toNat), none)) (s : List UInt8) (hl : s.length ≤ 9223372036854775807) (prot : Nat) (H : Heap) (hp : prot ≤ H.length) :
    aLim cfg prot 63 [.str s, .func f [] []] H = some (.bool (s.all fun c => p c.toNat), none) := by
  have hsnap : snap H [.str s, .func f [] []] = some ([.str s, .func f [] []], false) := rfl
  have fnn : ∀ (K : Heap) (xo yo : Operand), aBinH Tryz.prog K .neq 110 xo yo (.func f [] []) .nilF = some (.bool true) := fun K xo yo => by simp [aBinH, aBin, aNilNe, Tryz.underlying110]
  refine pure_slim rfl (by kernel_rfl) Tryz.func63 s63 hp hsnap (by simp [Tryz.f63]) fun fr hlen h => ?_
  simp only [Has, Nat.zero_add] at h
  obtain ⟨a0, a1, -⟩ := h
  simp only [Tryz.f63] at hlen ⊢
  unfold g63
  simp only [wk, aBuiltin, AV.cells, AV.leaf, Nat.reduceEqDiff, Nat.reduceLT, Nat.reduceAdd, Nat.reduceLeDiff, reduceCtorEq, Nat.reduceMul, Nat.reduceMod, cfgP, u63, hlen, a0, a1]
  refine loop_rule (fun m fr H' => ∃ (i : Nat), m = s.length - i ∧ i ≤ s.length ∧ fr.length = 24 ∧ fget fr 0 = .str s ∧ fget fr 1 = .func f [] [] ∧ fget fr 5 = .int .i64 i ∧ H' = H
    ∧ (s.all fun c => p c.toNat) = ((s.drop i).all fun c => p c.toNat)) ?_ s.length _ _ ⟨0, by simp [wk, aBuiltin, AV.cells, AV.leaf, Nat.reduceEqDiff, Nat.reduceLT, Nat.reduceAdd, Nat.reduceLeDiff, reduceCtorEq, Nat.reduceMul, Nat.reduceMod, cfgP, u63, hlen, a0, a1]⟩
  rintro m fr H' ⟨i, rfl, hi, hlen, a0, a1, a5, rfl, hc⟩ ih
  simp only [wk, aBuiltin, AV.cells, AV.leaf, Nat.reduceEqDiff, Nat.reduceLT, Nat.reduceAdd, Nat.reduceLeDiff, reduceCtorEq, Nat.reduceMul, Nat.reduceMod, cfgP, u63, hlen, a0, a1, a5, fnn, str_len Tryz.underlying9]
  refine RC_split (fun h => ?_) (fun h => ?_)
  · have hlt : i < s.length := by simpa using h
    have hw : IntKind.i64.wrap ((i : Int) + 1) = ((i + 1 : Nat) : Int) := by rw [wrap64 (by omega) (by omega)]; simp
    have e1 := str_at (P := Tryz.prog) Tryz.underlying9 s (k := .i64) hlt
    have hd : s.drop i = s[i] :: s.drop (i + 1) := by simp
    rw [hd, List.all_cons] at hc
    generalize s[i] = x at *
    have n1 := hf x H'.length H' (Nat.le_refl _)
    cases hx : p (x.toNat : Int) with
    | true =>
      rw [hx] at n1 hc
      simp only [wk, aBuiltin, AV.cells, AV.leaf, Nat.reduceEqDiff, Nat.reduceLT, Nat.reduceAdd, Nat.reduceLeDiff, reduceCtorEq, Nat.reduceMul, Nat.reduceMod, cfgP, u63, hlen, a0, a1, a5, e1, n1, hw]
      refine ih _ _ (s.length - (i + 1)) (by omega) ⟨i + 1, rfl, hlt, ?_⟩
      rw [hc]
      simp [wk, aBuiltin, AV.cells, AV.leaf, Nat.reduceEqDiff, Nat.reduceLT, Nat.reduceAdd, Nat.reduceLeDiff, reduceCtorEq, Nat.reduceMul, Nat.reduceMod, cfgP, u63, hlen, a0, a1]
    | false =>
      rw [hx] at n1 hc
      simp only [wk, aBuiltin, AV.cells, AV.leaf, Nat.reduceEqDiff, Nat.reduceLT, Nat.reduceAdd, Nat.reduceLeDiff, reduceCtorEq, Nat.reduceMul, Nat.reduceMod, cfgP, u63, hlen, a0, a1, a5, e1, n1]
      rw [hc]
      simp only [Bool.false_and]
      exact Fin_pure (l := [.bool false]) (by simp [wk, aBuiltin, AV.cells, AV.leaf, Nat.reduceEqDiff, Nat.reduceLT, Nat.reduceAdd, Nat.reduceLeDiff, reduceCtorEq, Nat.reduceMul, Nat.reduceMod, cfgP, u63, aResults, aResult, hlen]) (.still rfl) (by simp)
  · have hnl : ¬ i < s.length := by simpa using h
    have hd : s.drop i = [] := by simp; omega
    rw [hd] at hc
    rw [hc]
    simp only [wk, aBuiltin, AV.cells, AV.leaf, Nat.reduceEqDiff, Nat.reduceLT, Nat.reduceAdd, Nat.reduceLeDiff, reduceCtorEq, Nat.reduceMul, Nat.reduceMod, cfgP, u63, hlen, a0, a1, fnn, List.all_nil]
    exact Fin_pure (l := [.bool true]) (by simp [wk, aBuiltin, AV.cells, AV.leaf, Nat.reduceEqDiff, Nat.reduceLT, Nat.reduceAdd, Nat.reduceLeDiff, reduceCtorEq, Nat.reduceMul, Nat.reduceMod, cfgP, u63, aResults, aResult, hlen]) (.still rfl) (by simp)

/-- the number of digits, if it is not above one. -/
def digGo (most : Nat) : Nat → List UInt8 → Option Nat
  | v, [] => some v
  | v, c :: r => if (most - (c.toNat - 48)) / 10 < v then none else digGo most (v * 10 + (c.toNat - 48)) r
def dig2 : Option Nat → AV
  | some v => .tup [.int .u64 v, .int .i64 0]
  | none => .tup [.int .u64 0, .int .i64 5]

theorem digits_ok (s : List UInt8) (most : Nat) (hs : ∀ c ∈ s, digitC c.toNat = true) (hm : 9 ≤ most) (hm2 : most < 18446744073709551616) (hl : s.length ≤ 9223372036854775807) (prot : Nat) (H : Heap) (hp : prot ≤ H.length) :
    aLim cfg prot 85 [.str s, .int .u64 most] H = some (dig2 (digGo most 0 s), none) := by
  have hsnap : snap H [.str s, .int .u64 most] = some ([.str s, .int .u64 most], false) := rfl
  have hfz : ∀ (K : Heap) (x y : AV), still x = true → still y = true → Frz K H.length (packR [x, y]) (.tup [x, y]) := fun K x y h1 h2 => .tup (.cons (.still h1) (.cons (.still h2) .nil))
  refine pure_slim rfl (by kernel_rfl) Tryz.func85 s85 hp hsnap (by simp [Tryz.f85]) fun fr hlen h => ?_
  simp only [Has, Nat.zero_add] at h
  obtain ⟨a0, a1, -⟩ := h
  simp only [Tryz.f85] at hlen ⊢
  unfold g85
  simp only [wk, aBuiltin, AV.cells, AV.leaf, Nat.reduceEqDiff, Nat.reduceLT, Nat.reduceAdd, Nat.reduceLeDiff, reduceCtorEq, Nat.reduceMul, Nat.reduceMod, cfgP, u85, hlen, a0, a1, str_len Tryz.underlying9]
  refine loop_rule (fun m fr H' => ∃ (i v : Nat), m = s.length - i ∧ i ≤ s.length ∧ fr.length = 31 ∧ fget fr 0 = .str s ∧ fget fr 1 = .int .u64 most ∧ fget fr 6 = .int .u64 v ∧ fget fr 10 = .int .i64 s.length ∧ fget fr 11 = .int .i64 i ∧ v ≤ most
    ∧ digGo most 0 s = digGo most v (s.drop i)) ?_ s.length _ _ ⟨0, 0, by simp [wk, aBuiltin, AV.cells, AV.leaf, Nat.reduceEqDiff, Nat.reduceLT, Nat.reduceAdd, Nat.reduceLeDiff, reduceCtorEq, Nat.reduceMul, Nat.reduceMod, cfgP, u85, hlen, a0, a1]⟩
  rintro m fr K ⟨i, v, rfl, hi, hlen, a0, a1, a6, a10, a11, hv, hc⟩ ih
  simp only [wk, aBuiltin, AV.cells, AV.leaf, Nat.reduceEqDiff, Nat.reduceLT, Nat.reduceAdd, Nat.reduceLeDiff, reduceCtorEq, Nat.reduceMul, Nat.reduceMod, cfgP, u85, hlen, a0, a1, a6, a10, a11]
  refine RC_split (fun h => ?_) (fun h => ?_)
  · have hlt : i < s.length := by simpa using h
    have hww : IntKind.i64.wrap ((i : Int) + 1) = ((i + 1 : Nat) : Int) := by rw [wrap64 (by omega) (by omega)]; simp
    have e1 := str_at (P := Tryz.prog) Tryz.underlying9 s (k := .i64) hlt
    have hd := hs s[i] (List.getElem_mem hlt)
    rw [List.drop_eq_getElem_cons hlt, digGo] at hc
    generalize s[i] = c at *
    have hd : 48 ≤ c.toNat ∧ c.toNat ≤ 57 := by unfold digitC at hd; simp at hd; omega
    obtain ⟨d, hcd, hd9⟩ : ∃ d : Nat, c.toNat = d + 48 ∧ d ≤ 9 := ⟨c.toNat - 48, by omega, by omega⟩
    have ed : c.toNat - 48 = d := by omega
    rw [ed] at hc
    have w1 : IntKind.u8.wrap ((c.toNat : Int) - 48) = (d : Int) := by
      rw [hcd]
      simp [IntKind.wrap, IntKind.bits, IntKind.signed]; omega
    have w2 : IntKind.u64.wrap ((d : Nat) : Int) = (d : Int) := wrapu64 (by omega) (by omega)
    have w3 : IntKind.u64.wrap ((most : Int) - (d : Nat)) = ((most - d : Nat) : Int) := by rw [wrapu64 (by omega) (by omega)]; omega
    have q1 : ∀ xo yo, aBin Tryz.prog .quo 126 xo yo (.int .u64 ((most - d : Nat) : Int)) (.int .u64 10) = some (.int .u64 (((most - d) / 10 : Nat) : Int)) := fun xo yo => by
      have h1 := Nat.div_le_self (most - d) 10
      rw [show (10 : Int) = ((10 : Nat) : Int) from rfl, bin_quo_nat (by omega)]
      generalize (most - d) / 10 = y at *
      rw [wrapu64 (by omega) (by omega)]
    by_cases hgt : (most - d) / 10 < v
    · have c1 : decide ((((most - d) / 10 : Nat) : Int) < (v : Nat)) = true := decide_eq_true (by omega)
      rw [if_pos hgt] at hc
      rw [hc]
      simp only [wk, aBuiltin, AV.cells, AV.leaf, Nat.reduceEqDiff, Nat.reduceLT, Nat.reduceAdd, Nat.reduceLeDiff, reduceCtorEq, Nat.reduceMul, Nat.reduceMod, cfgP, u85, hlen, a0, a1, a6, a10, a11, e1, w1, w2, w3, q1, c1]
      exact Fin_pure (l := [.int .u64 0, .int .i64 5]) (by simp [wk, aBuiltin, AV.cells, AV.leaf, Nat.reduceEqDiff, Nat.reduceLT, Nat.reduceAdd, Nat.reduceLeDiff, reduceCtorEq, Nat.reduceMul, Nat.reduceMod, cfgP, u85, hlen, aResults, aResult]) (hfz _ _ _ rfl rfl) (by simp [dig2, flat, flat1, flat0])
    · have c1 : decide ((((most - d) / 10 : Nat) : Int) < (v : Nat)) = false := decide_eq_false (by omega)
      rw [if_neg hgt] at hc
      have w4 : IntKind.u64.wrap ((v : Int) * 10) = ((v * 10 : Nat) : Int) := by rw [wrapu64 (by omega) (by omega)]; simp
      have w5 : IntKind.u64.wrap (((v * 10 : Nat) : Int) + (d : Nat)) = ((v * 10 + d : Nat) : Int) := by rw [wrapu64 (by omega) (by omega)]; simp
      simp only [wk, aBuiltin, AV.cells, AV.leaf, Nat.reduceEqDiff, Nat.reduceLT, Nat.reduceAdd, Nat.reduceLeDiff, reduceCtorEq, Nat.reduceMul, Nat.reduceMod, cfgP, u85, hlen, a0, a1, a6, a10, a11, e1, w1, w2, w3, q1, c1, w4, w5, hww]
      refine ih _ _ (s.length - (i + 1)) (by omega) ⟨i + 1, v * 10 + d, rfl, hlt, ?_⟩
      have hle : v * 10 + d ≤ most := by
        have := Nat.div_add_mod (most - d) 10
        omega
      rw [hc]
      simp [wk, aBuiltin, AV.cells, AV.leaf, Nat.reduceEqDiff, Nat.reduceLT, Nat.reduceAdd, Nat.reduceLeDiff, reduceCtorEq, Nat.reduceMul, Nat.reduceMod, cfgP, u85, hlen, a0, a1, a10, hle]
  · have hnl : ¬ i < s.length := by simpa using h
    rw [List.drop_eq_nil_of_le (by omega), digGo] at hc
    rw [hc]
    simp only [wk, aBuiltin, AV.cells, AV.leaf, Nat.reduceEqDiff, Nat.reduceLT, Nat.reduceAdd, Nat.reduceLeDiff, reduceCtorEq, Nat.reduceMul, Nat.reduceMod, cfgP, u85, hlen, a0, a1, a6, a10, a11]
    exact Fin_pure (l := [.int .u64 v, .int .i64 0]) (by simp [wk, aBuiltin, AV.cells, AV.leaf, Nat.reduceEqDiff, Nat.reduceLT, Nat.reduceAdd, Nat.reduceLeDiff, reduceCtorEq, Nat.reduceMul, Nat.reduceMod, cfgP, u85, hlen, aResults, aResult]) (hfz _ _ _ rfl rfl) (by simp [dig2, flat, flat1, flat0])
theorem digGo_le (most : Nat) : ∀ (s : List UInt8) (v x : Nat), v ≤ most → 9 ≤ most → (∀ c ∈ s, digitC c.toNat = true) → digGo most v s = some x → x ≤ most
  | [], v, x, hv, _, _, h => by simp only [digGo, Option.some.injEq] at h; omega
  | c :: r, v, x, hv, hm, hs, h => by
    have hd := hs c (by simp)
    have hd : 48 ≤ c.toNat ∧ c.toNat ≤ 57 := by unfold digitC at hd; simp at hd; omega
    rw [digGo] at h
    split at h
    · cases h
    · exact digGo_le most r _ x (by omega) hm (fun d hd => hs d (by simp [hd])) h
/-- a whole number behind its sign. -/
def numD (minus : Bool) (d : List UInt8) : Int × Int :=
  if d = [] ∨ (d.all fun c => digitC c.toNat) = false ∨ (1 < d.length ∧ d.head? = some 48) then (0, 3)
  else match digGo (if minus then 9223372036854775808 else 9223372036854775807) 0 d with
    | none => (0, 5)
    | some v => (if minus then -(v : Int) else v, 0)
def numS (s : List UInt8) : Int × Int := if s.head? = some 45 then numD true (s.drop 1) else numD false s
theorem neg64 {v : Nat} (h : v ≤ 9223372036854775808) : IntKind.i64.wrap (IntKind.u64.wrap (0 - (v : Int))) = -(v : Int) := by
  simp only [IntKind.wrap, IntKind.signed, IntKind.bits]; simp; omega
theorem pos64 {v : Nat} (h : v ≤ 9223372036854775807) : IntKind.i64.wrap (v : Int) = (v : Int) := wrap64 (by omega) (by omega)
theorem unop_neg (P : Program) (k : IntKind) (a : Int) : ((toV1 (.int k a)).bind fun v => (pureOf P (Op.unary .neg v)).bind ofV1) = some (.int k (k.wrap (0 - a))) := rfl

theorem parse_ok (s : List UInt8) (hl : s.length < 100000000000000) (prot : Nat) (H : Heap) (hp : prot ≤ H.length) : aLim cfg prot 49 [.str s] H = some (.tup [.int .i64 (numS s).1, .int .i64 (numS s).2], none) := by
  have hsnap : snap H [.str s] = some ([.str s], false) := rfl
  have hfz : ∀ (K : Heap) (x y : AV), still x = true → still y = true → Frz K H.length (packR [x, y]) (.tup [x, y]) := fun K x y h1 h2 => .tup (.cons (.still h1) (.cons (.still h2) .nil))
  have hls : ∀ K (u : List UInt8), aLen Tryz.prog K 9 (.str u) = some (.int .i64 u.length) := fun K u => str_len Tryz.underlying9 u K
  have ad : ∀ (d : List UInt8), d.length ≤ s.length → aLim cfg H.length 63 [.str d, .func 62 [] []] H = some (.bool (d.all fun c => digitC c.toNat), none) :=
    fun d hd => allF_ok 62 digitC (fun c prot H hp => digit_ok _ prot H hp) d (by omega) H.length H (Nat.le_refl _)
  have lim : IntKind.u64.wrap (9223372036854775807 + 1) = 9223372036854775808 := by rfl
  have dn50 : decide (¬ (5 : Int) = 0) = true := by decide
  have dn00 : decide (¬ (0 : Int) = 0) = false := by decide
  by_cases hm : s.head? = some 45
  · obtain ⟨d, hd⟩ : ∃ d, s = 45 :: d := by
      cases s with
      | nil => cases hm
      | cons c r => exact ⟨r, by simp at hm; rw [hm]⟩
    have hnum : numS s = numD true d := by rw [hd]; simp [numS]
    rw [hnum]
    have e0 : aIndex Tryz.prog 9 (.str s) (.int .i64 0) = some (.int .u8 45) := by
      rw [hd]; exact str_at (k := .i64) Tryz.underlying9 (45 :: d) (i := 0) (by simp)
    have e1 : aSlice Tryz.prog 9 (.str s) (some (.int .i64 1)) none none = some (.str d) := by
      rw [hd]; exact str_from (k := .i64) Tryz.underlying9 (45 :: d) (a := 1) (by simp)
    have hpos : decide ((0 : Int) < (s.length : Nat)) = true := decide_eq_true (by rw [hd]; simp only [List.length_cons]; omega)
    have hdl : d.length ≤ s.length := by rw [hd]; simp
    have nd := ad d hdl
    clear hd hm
    by_cases c1 : d = []
    · have hse : (d == []) = true := by rw [c1]; rfl
      rw [show numD true d = (0, 3) by unfold numD; rw [if_pos (.inl c1)]]
      refine pure_slim rfl (by kernel_rfl) Tryz.func49 s49 hp hsnap (by simp [Tryz.f49]) fun fr hlen h => ?_
      simp only [Has, Nat.zero_add] at h
      obtain ⟨a0, -⟩ := h
      simp only [Tryz.f49] at hlen ⊢
      unfold g49
      simp only [wk, aBuiltin, AV.cells, AV.leaf, Nat.reduceEqDiff, Nat.reduceLT, Nat.reduceAdd, Nat.reduceLeDiff, reduceCtorEq, Nat.reduceMul, Nat.reduceMod, cfgP, u85, hlen, a0, hls, hpos, e0, e1, lim, none_beq, str_eql, hse]
      exact Fin_pure (l := [.int .i64 0, .int .i64 3]) (by simp [wk, aBuiltin, AV.cells, AV.leaf, Nat.reduceEqDiff, Nat.reduceLT, Nat.reduceAdd, Nat.reduceLeDiff, reduceCtorEq, Nat.reduceMul, Nat.reduceMod, cfgP, u85, hlen, aResults, aResult]) (hfz _ _ _ rfl rfl) (by simp)
    · have hse : (d == []) = false := by simpa using c1
      cases hall : (d.all fun c => digitC c.toNat) with
      | false =>
        rw [hall] at nd
        rw [show numD true d = (0, 3) by unfold numD; rw [if_pos (.inr (.inl hall))]]
        refine pure_slim rfl (by kernel_rfl) Tryz.func49 s49 hp hsnap (by simp [Tryz.f49]) fun fr hlen h => ?_
        simp only [Has, Nat.zero_add] at h
        obtain ⟨a0, -⟩ := h
        simp only [Tryz.f49] at hlen ⊢
        unfold g49
        simp only [wk, aBuiltin, AV.cells, AV.leaf, Nat.reduceEqDiff, Nat.reduceLT, Nat.reduceAdd, Nat.reduceLeDiff, reduceCtorEq, Nat.reduceMul, Nat.reduceMod, cfgP, u85, hlen, a0, hls, hpos, e0, e1, lim, none_beq, str_eql, hse, nd]
        exact Fin_pure (l := [.int .i64 0, .int .i64 3]) (by simp [wk, aBuiltin, AV.cells, AV.leaf, Nat.reduceEqDiff, Nat.reduceLT, Nat.reduceAdd, Nat.reduceLeDiff, reduceCtorEq, Nat.reduceMul, Nat.reduceMod, cfgP, u85, hlen, aResults, aResult]) (hfz _ _ _ rfl rfl) (by simp)
      | true =>
        rw [hall] at nd
        have hpd : 0 < d.length := List.length_pos_iff.2 c1
        have e3 := str_at (k := .i64) Tryz.underlying9 d hpd
        have e3 : aIndex Tryz.prog 9 (.str d) (.int .i64 0) = some (.int .u8 (d[0].toNat : Int)) := e3
        have hh : d.head? = some d[0] := by rw [List.head?_eq_getElem?, List.getElem?_eq_getElem hpd]
        have hbad : 1 < d.length ∧ d[0] = 48 ∨ (¬ (1 < d.length) ∨ ¬ d[0] = 48) := by
          by_cases x : 1 < d.length
          · by_cases y : d[0] = 48
            · exact .inl ⟨x, y⟩
            · exact .inr (.inr y)
          · exact .inr (.inl x)
        rcases hbad with ⟨b1, b2⟩ | hgood
        · rw [show numD true d = (0, 3) by unfold numD; rw [if_pos (.inr (.inr ⟨b1, by rw [hh, b2]⟩))]]
          have d2 : decide (((d[0].toNat : Nat) : Int) = 48) = true := by rw [b2]; rfl
          have d1 : decide ((1 : Int) < (d.length : Nat)) = true := decide_eq_true (by omega)
          refine pure_slim rfl (by kernel_rfl) Tryz.func49 s49 hp hsnap (by simp [Tryz.f49]) fun fr hlen h => ?_
          simp only [Has, Nat.zero_add] at h
          obtain ⟨a0, -⟩ := h
          simp only [Tryz.f49] at hlen ⊢
          unfold g49
          simp only [wk, aBuiltin, AV.cells, AV.leaf, Nat.reduceEqDiff, Nat.reduceLT, Nat.reduceAdd, Nat.reduceLeDiff, reduceCtorEq, Nat.reduceMul, Nat.reduceMod, cfgP, u85, hlen, a0, hls, hpos, e0, e1, lim, none_beq, str_eql, hse, nd, e3, d1, d2]
          exact Fin_pure (l := [.int .i64 0, .int .i64 3]) (by simp [wk, aBuiltin, AV.cells, AV.leaf, Nat.reduceEqDiff, Nat.reduceLT, Nat.reduceAdd, Nat.reduceLeDiff, reduceCtorEq, Nat.reduceMul, Nat.reduceMod, cfgP, u85, hlen, aResults, aResult]) (hfz _ _ _ rfl rfl) (by simp)
        · have hdg : ∀ c ∈ d, digitC c.toNat = true := fun c hc => List.all_eq_true.1 hall c hc
          have nn : aLim cfg H.length 85 [.str d, .int .u64 9223372036854775808] H = some (dig2 (digGo 9223372036854775808 0 d), none) := digits_ok d 9223372036854775808 hdg (by omega) (by omega) (by omega) H.length H (Nat.le_refl _)
          have hle := digGo_le 9223372036854775808 d 0
          have hnd : numD true d = match digGo 9223372036854775808 0 d with
              | none => (0, 5)
              | some v => (-(v : Int), 0) := by
            unfold numD
            rw [if_neg]
            · rfl
            · rw [hall, hh]
              rintro (x | x | ⟨x, y⟩)
              · exact c1 x
              · cases x
              · injection y with y
                rcases hgood with g | g
                · exact g x
                · exact g y
          have hcase : decide ((1 : Int) < (d.length : Nat)) = false ∨ decide ((1 : Int) < (d.length : Nat)) = true ∧ decide (((d[0].toNat : Nat) : Int) = 48) = false := by
            by_cases x : 1 < d.length
            · rcases hgood with g | g
              · exact absurd x g
              · refine .inr ⟨decide_eq_true (by omega), decide_eq_false fun y => g (UInt8.toNat_inj.1 ?_)⟩
                rw [show (48 : UInt8).toNat = 48 from rfl]; omega
            · exact .inl (decide_eq_false (by omega))
          rw [hnd]
          have hle := fun v h => hle v (by omega) (by omega) hdg h
          generalize d[0] = c0 at *
          cases hgo : digGo 9223372036854775808 0 d with
          | none =>
            rw [hgo, dig2] at nn
            rcases hcase with d1 | ⟨d1, d2⟩
            · refine pure_slim rfl (by kernel_rfl) Tryz.func49 s49 hp hsnap (by simp [Tryz.f49]) fun fr hlen h => ?_
              simp only [Has, Nat.zero_add] at h
              obtain ⟨a0, -⟩ := h
              simp only [Tryz.f49] at hlen ⊢
              unfold g49
              simp only [wk, aBuiltin, AV.cells, AV.leaf, Nat.reduceEqDiff, Nat.reduceLT, Nat.reduceAdd, Nat.reduceLeDiff, reduceCtorEq, Nat.reduceMul, Nat.reduceMod, cfgP, u85, hlen, a0, hls, hpos, e0, e1, lim, none_beq, str_eql, hse, nd, e3, d1, nn, dn50]
              exact Fin_pure (l := [.int .i64 0, .int .i64 5]) (by simp [wk, aBuiltin, AV.cells, AV.leaf, Nat.reduceEqDiff, Nat.reduceLT, Nat.reduceAdd, Nat.reduceLeDiff, reduceCtorEq, Nat.reduceMul, Nat.reduceMod, cfgP, u85, hlen, aResults, aResult]) (hfz _ _ _ rfl rfl) (by simp)
            · refine pure_slim rfl (by kernel_rfl) Tryz.func49 s49 hp hsnap (by simp [Tryz.f49]) fun fr hlen h => ?_
              simp only [Has, Nat.zero_add] at h
              obtain ⟨a0, -⟩ := h
              simp only [Tryz.f49] at hlen ⊢
              unfold g49
              simp only [wk, aBuiltin, AV.cells, AV.leaf, Nat.reduceEqDiff, Nat.reduceLT, Nat.reduceAdd, Nat.reduceLeDiff, reduceCtorEq, Nat.reduceMul, Nat.reduceMod, cfgP, u85, hlen, a0, hls, hpos, e0, e1, lim, none_beq, str_eql, hse, nd, e3, d1, d2, nn, dn50]
              exact Fin_pure (l := [.int .i64 0, .int .i64 5]) (by simp [wk, aBuiltin, AV.cells, AV.leaf, Nat.reduceEqDiff, Nat.reduceLT, Nat.reduceAdd, Nat.reduceLeDiff, reduceCtorEq, Nat.reduceMul, Nat.reduceMod, cfgP, u85, hlen, aResults, aResult]) (hfz _ _ _ rfl rfl) (by simp)
          | some v =>
            rw [hgo, dig2] at nn
            have hv := hle v hgo
            have wv := neg64 (v := v) hv
            rcases hcase with d1 | ⟨d1, d2⟩
            · refine pure_slim rfl (by kernel_rfl) Tryz.func49 s49 hp hsnap (by simp [Tryz.f49]) fun fr hlen h => ?_
              simp only [Has, Nat.zero_add] at h
              obtain ⟨a0, -⟩ := h
              simp only [Tryz.f49] at hlen ⊢
              unfold g49
              simp only [wk, aBuiltin, AV.cells, AV.leaf, Nat.reduceEqDiff, Nat.reduceLT, Nat.reduceAdd, Nat.reduceLeDiff, reduceCtorEq, Nat.reduceMul, Nat.reduceMod, cfgP, u85, hlen, a0, hls, hpos, e0, e1, lim, none_beq, str_eql, hse, nd, e3, d1, nn, dn00, unop_neg, wv]
              exact Fin_pure (l := [.int .i64 (-(v : Int)), .int .i64 0]) (by simp [wk, aBuiltin, AV.cells, AV.leaf, Nat.reduceEqDiff, Nat.reduceLT, Nat.reduceAdd, Nat.reduceLeDiff, reduceCtorEq, Nat.reduceMul, Nat.reduceMod, cfgP, u85, hlen, aResults, aResult]) (hfz _ _ _ rfl rfl) (by simp)
            · refine pure_slim rfl (by kernel_rfl) Tryz.func49 s49 hp hsnap (by simp [Tryz.f49]) fun fr hlen h => ?_
              simp only [Has, Nat.zero_add] at h
              obtain ⟨a0, -⟩ := h
              simp only [Tryz.f49] at hlen ⊢
              unfold g49
              simp only [wk, aBuiltin, AV.cells, AV.leaf, Nat.reduceEqDiff, Nat.reduceLT, Nat.reduceAdd, Nat.reduceLeDiff, reduceCtorEq, Nat.reduceMul, Nat.reduceMod, cfgP, u85, hlen, a0, hls, hpos, e0, e1, lim, none_beq, str_eql, hse, nd, e3, d1, d2, nn, dn00, unop_neg, wv]
              exact Fin_pure (l := [.int .i64 (-(v : Int)), .int .i64 0]) (by simp [wk, aBuiltin, AV.cells, AV.leaf, Nat.reduceEqDiff, Nat.reduceLT, Nat.reduceAdd, Nat.reduceLeDiff, reduceCtorEq, Nat.reduceMul, Nat.reduceMod, cfgP, u85, hlen, aResults, aResult]) (hfz _ _ _ rfl rfl) (by simp)
  · have hnum : numS s = numD false s := by simp [numS, hm]
    rw [hnum]
    have nd := ad s (Nat.le_refl _)
    by_cases hs0 : s = []
    · have hpos : decide ((0 : Int) < (s.length : Nat)) = false := by rw [hs0]; rfl
      have hse : (s == []) = true := by rw [hs0]; rfl
      rw [show numD false s = (0, 3) by unfold numD; rw [if_pos (.inl hs0)]]
      refine pure_slim rfl (by kernel_rfl) Tryz.func49 s49 hp hsnap (by simp [Tryz.f49]) fun fr hlen h => ?_
      simp only [Has, Nat.zero_add] at h
      obtain ⟨a0, -⟩ := h
      simp only [Tryz.f49] at hlen ⊢
      unfold g49
      simp only [wk, aBuiltin, AV.cells, AV.leaf, Nat.reduceEqDiff, Nat.reduceLT, Nat.reduceAdd, Nat.reduceLeDiff, reduceCtorEq, Nat.reduceMul, Nat.reduceMod, cfgP, u85, hlen, a0, hls, hpos, none_beq, str_eql, hse]
      exact Fin_pure (l := [.int .i64 0, .int .i64 3]) (by simp [wk, aBuiltin, AV.cells, AV.leaf, Nat.reduceEqDiff, Nat.reduceLT, Nat.reduceAdd, Nat.reduceLeDiff, reduceCtorEq, Nat.reduceMul, Nat.reduceMod, cfgP, u85, hlen, aResults, aResult]) (hfz _ _ _ rfl rfl) (by simp)
    · have hps : 0 < s.length := List.length_pos_iff.2 hs0
      have hpos : decide ((0 : Int) < (s.length : Nat)) = true := decide_eq_true (by omega)
      have e0 := str_at (k := .i64) Tryz.underlying9 s hps
      have e0 : aIndex Tryz.prog 9 (.str s) (.int .i64 0) = some (.int .u8 (s[0].toNat : Int)) := e0
      have h45 : decide (((s[0].toNat : Nat) : Int) = 45) = false := decide_eq_false fun y => by
        refine hm ?_
        rw [List.head?_eq_getElem?, List.getElem?_eq_getElem hps]
        refine congrArg some (UInt8.toNat_inj.1 ?_)
        rw [show (45 : UInt8).toNat = 45 from rfl]; omega
      by_cases c1 : s = []
      · have hse : (s == []) = true := by rw [c1]; rfl
        rw [show numD false s = (0, 3) by unfold numD; rw [if_pos (.inl c1)]]
        refine pure_slim rfl (by kernel_rfl) Tryz.func49 s49 hp hsnap (by simp [Tryz.f49]) fun fr hlen h => ?_
        simp only [Has, Nat.zero_add] at h
        obtain ⟨a0, -⟩ := h
        simp only [Tryz.f49] at hlen ⊢
        unfold g49
        simp only [wk, aBuiltin, AV.cells, AV.leaf, Nat.reduceEqDiff, Nat.reduceLT, Nat.reduceAdd, Nat.reduceLeDiff, reduceCtorEq, Nat.reduceMul, Nat.reduceMod, cfgP, u85, hlen, a0, hls, hpos, e0, h45, none_beq, str_eql, hse]
        exact Fin_pure (l := [.int .i64 0, .int .i64 3]) (by simp [wk, aBuiltin, AV.cells, AV.leaf, Nat.reduceEqDiff, Nat.reduceLT, Nat.reduceAdd, Nat.reduceLeDiff, reduceCtorEq, Nat.reduceMul, Nat.reduceMod, cfgP, u85, hlen, aResults, aResult]) (hfz _ _ _ rfl rfl) (by simp)
      · have hse : (s == []) = false := by simpa using c1
        cases hall : (s.all fun c => digitC c.toNat) with
        | false =>
          rw [hall] at nd
          rw [show numD false s = (0, 3) by unfold numD; rw [if_pos (.inr (.inl hall))]]
          refine pure_slim rfl (by kernel_rfl) Tryz.func49 s49 hp hsnap (by simp [Tryz.f49]) fun fr hlen h => ?_
          simp only [Has, Nat.zero_add] at h
          obtain ⟨a0, -⟩ := h
          simp only [Tryz.f49] at hlen ⊢
          unfold g49
          simp only [wk, aBuiltin, AV.cells, AV.leaf, Nat.reduceEqDiff, Nat.reduceLT, Nat.reduceAdd, Nat.reduceLeDiff, reduceCtorEq, Nat.reduceMul, Nat.reduceMod, cfgP, u85, hlen, a0, hls, hpos, e0, h45, none_beq, str_eql, hse, nd]
          exact Fin_pure (l := [.int .i64 0, .int .i64 3]) (by simp [wk, aBuiltin, AV.cells, AV.leaf, Nat.reduceEqDiff, Nat.reduceLT, Nat.reduceAdd, Nat.reduceLeDiff, reduceCtorEq, Nat.reduceMul, Nat.reduceMod, cfgP, u85, hlen, aResults, aResult]) (hfz _ _ _ rfl rfl) (by simp)
        | true =>
          rw [hall] at nd
          have hpd : 0 < s.length := List.length_pos_iff.2 c1
          have e3 := str_at (k := .i64) Tryz.underlying9 s hpd
          have e3 : aIndex Tryz.prog 9 (.str s) (.int .i64 0) = some (.int .u8 (s[0].toNat : Int)) := e3
          have hh : s.head? = some s[0] := by rw [List.head?_eq_getElem?, List.getElem?_eq_getElem hpd]
          have hbad : 1 < s.length ∧ s[0] = 48 ∨ (¬ (1 < s.length) ∨ ¬ s[0] = 48) := by
            by_cases x : 1 < s.length
            · by_cases y : s[0] = 48
              · exact .inl ⟨x, y⟩
              · exact .inr (.inr y)
            · exact .inr (.inl x)
          rcases hbad with ⟨b1, b2⟩ | hgood
          · rw [show numD false s = (0, 3) by unfold numD; rw [if_pos (.inr (.inr ⟨b1, by rw [hh, b2]⟩))]]
            have d2 : decide (((s[0].toNat : Nat) : Int) = 48) = true := by rw [b2]; rfl
            have d1 : decide ((1 : Int) < (s.length : Nat)) = true := decide_eq_true (by omega)
            refine pure_slim rfl (by kernel_rfl) Tryz.func49 s49 hp hsnap (by simp [Tryz.f49]) fun fr hlen h => ?_
            simp only [Has, Nat.zero_add] at h
            obtain ⟨a0, -⟩ := h
            simp only [Tryz.f49] at hlen ⊢
            unfold g49
            simp only [wk, aBuiltin, AV.cells, AV.leaf, Nat.reduceEqDiff, Nat.reduceLT, Nat.reduceAdd, Nat.reduceLeDiff, reduceCtorEq, Nat.reduceMul, Nat.reduceMod, cfgP, u85, hlen, a0, hls, hpos, e0, h45, none_beq, str_eql, hse, nd, e3, d1, d2]
            exact Fin_pure (l := [.int .i64 0, .int .i64 3]) (by simp [wk, aBuiltin, AV.cells, AV.leaf, Nat.reduceEqDiff, Nat.reduceLT, Nat.reduceAdd, Nat.reduceLeDiff, reduceCtorEq, Nat.reduceMul, Nat.reduceMod, cfgP, u85, hlen, aResults, aResult]) (hfz _ _ _ rfl rfl) (by simp)
          · have hdg : ∀ c ∈ s, digitC c.toNat = true := fun c hc => List.all_eq_true.1 hall c hc
            have nn : aLim cfg H.length 85 [.str s, .int .u64 9223372036854775807] H = some (dig2 (digGo 9223372036854775807 0 s), none) := digits_ok s 9223372036854775807 hdg (by omega) (by omega) (by omega) H.length H (Nat.le_refl _)
            have hle := digGo_le 9223372036854775807 s 0
            have hnd : numD false s = match digGo 9223372036854775807 0 s with
                | none => (0, 5)
                | some v => ((v : Int), 0) := by
              unfold numD
              rw [if_neg]
              · rfl
              · rw [hall, hh]
                rintro (x | x | ⟨x, y⟩)
                · exact c1 x
                · cases x
                · injection y with y
                  rcases hgood with g | g
                  · exact g x
                  · exact g y
            have hcase : decide ((1 : Int) < (s.length : Nat)) = false ∨ decide ((1 : Int) < (s.length : Nat)) = true ∧ decide (((s[0].toNat : Nat) : Int) = 48) = false := by
              by_cases x : 1 < s.length
              · rcases hgood with g | g
                · exact absurd x g
                · refine .inr ⟨decide_eq_true (by omega), decide_eq_false fun y => g (UInt8.toNat_inj.1 ?_)⟩
                  rw [show (48 : UInt8).toNat = 48 from rfl]; omega
              · exact .inl (decide_eq_false (by omega))
            rw [hnd]
            have hle := fun v h => hle v (by omega) (by omega) hdg h
            generalize s[0] = c0 at *
            cases hgo : digGo 9223372036854775807 0 s with
            | none =>
              rw [hgo, dig2] at nn
              rcases hcase with d1 | ⟨d1, d2⟩
              · refine pure_slim rfl (by kernel_rfl) Tryz.func49 s49 hp hsnap (by simp [Tryz.f49]) fun fr hlen h => ?_
                simp only [Has, Nat.zero_add] at h
                obtain ⟨a0, -⟩ := h
                simp only [Tryz.f49] at hlen ⊢
                unfold g49
                simp only [wk, aBuiltin, AV.cells, AV.leaf, Nat.reduceEqDiff, Nat.reduceLT, Nat.reduceAdd, Nat.reduceLeDiff, reduceCtorEq, Nat.reduceMul, Nat.reduceMod, cfgP, u85, hlen, a0, hls, hpos, e0, h45, none_beq, str_eql, hse, nd, e3, d1, nn, dn50]
                exact Fin_pure (l := [.int .i64 0, .int .i64 5]) (by simp [wk, aBuiltin, AV.cells, AV.leaf, Nat.reduceEqDiff, Nat.reduceLT, Nat.reduceAdd, Nat.reduceLeDiff, reduceCtorEq, Nat.reduceMul, Nat.reduceMod, cfgP, u85, hlen, aResults, aResult]) (hfz _ _ _ rfl rfl) (by simp)
              · refine pure_slim rfl (by kernel_rfl) Tryz.func49 s49 hp hsnap (by simp [Tryz.f49]) fun fr hlen h => ?_
                simp only [Has, Nat.zero_add] at h
                obtain ⟨a0, -⟩ := h
                simp only [Tryz.f49] at hlen ⊢
                unfold g49
                simp only [wk, aBuiltin, AV.cells, AV.leaf, Nat.reduceEqDiff, Nat.reduceLT, Nat.reduceAdd, Nat.reduceLeDiff, reduceCtorEq, Nat.reduceMul, Nat.reduceMod, cfgP, u85, hlen, a0, hls, hpos, e0, h45, none_beq, str_eql, hse, nd, e3, d1, d2, nn, dn50]
                exact Fin_pure (l := [.int .i64 0, .int .i64 5]) (by simp [wk, aBuiltin, AV.cells, AV.leaf, Nat.reduceEqDiff, Nat.reduceLT, Nat.reduceAdd, Nat.reduceLeDiff, reduceCtorEq, Nat.reduceMul, Nat.reduceMod, cfgP, u85, hlen, aResults, aResult]) (hfz _ _ _ rfl rfl) (by simp)
            | some v =>
              rw [hgo, dig2] at nn
              have hv := hle v hgo
              have wv := pos64 (v := v) hv
              rcases hcase with d1 | ⟨d1, d2⟩
              · refine pure_slim rfl (by kernel_rfl) Tryz.func49 s49 hp hsnap (by simp [Tryz.f49]) fun fr hlen h => ?_
                simp only [Has, Nat.zero_add] at h
                obtain ⟨a0, -⟩ := h
                simp only [Tryz.f49] at hlen ⊢
                unfold g49
                simp only [wk, aBuiltin, AV.cells, AV.leaf, Nat.reduceEqDiff, Nat.reduceLT, Nat.reduceAdd, Nat.reduceLeDiff, reduceCtorEq, Nat.reduceMul, Nat.reduceMod, cfgP, u85, hlen, a0, hls, hpos, e0, h45, none_beq, str_eql, hse, nd, e3, d1, nn, dn00, unop_neg, wv]
                exact Fin_pure (l := [.int .i64 ((v : Int)), .int .i64 0]) (by simp [wk, aBuiltin, AV.cells, AV.leaf, Nat.reduceEqDiff, Nat.reduceLT, Nat.reduceAdd, Nat.reduceLeDiff, reduceCtorEq, Nat.reduceMul, Nat.reduceMod, cfgP, u85, hlen, aResults, aResult]) (hfz _ _ _ rfl rfl) (by simp)
              · refine pure_slim rfl (by kernel_rfl) Tryz.func49 s49 hp hsnap (by simp [Tryz.f49]) fun fr hlen h => ?_
                simp only [Has, Nat.zero_add] at h
                obtain ⟨a0, -⟩ := h
                simp only [Tryz.f49] at hlen ⊢
                unfold g49
                simp only [wk, aBuiltin, AV.cells, AV.leaf, Nat.reduceEqDiff, Nat.reduceLT, Nat.reduceAdd, Nat.reduceLeDiff, reduceCtorEq, Nat.reduceMul, Nat.reduceMod, cfgP, u85, hlen, a0, hls, hpos, e0, h45, none_beq, str_eql, hse, nd, e3, d1, d2, nn, dn00, unop_neg, wv]
                exact Fin_pure (l := [.int .i64 ((v : Int)), .int .i64 0]) (by simp [wk, aBuiltin, AV.cells, AV.leaf, Nat.reduceEqDiff, Nat.reduceLT, Nat.reduceAdd, Nat.reduceLeDiff, reduceCtorEq, Nat.reduceMul, Nat.reduceMod, cfgP, u85, hlen, aResults, aResult]) (hfz _ _ _ rfl rfl) (by simp)
end Go.Proofs.YtnipaiklandliaaGreatDoor
/- Numbers as digits, walked. -/
namespace Go.Proofs.YtnipaiklandliaaGreatDoor
open Go Go.Abs AbsSeat Ty

theorem u76 : type_of% (And.intro (fun (K : Heap) (n : Int) => conv_int Tryz.underlying3 Tryz.underlying126 K n) (And.intro ag3 (And.intro sz3 (And.intro by3 (And.intro ze3 (And.intro Tryz.underlying3 (And.intro ag9 (And.intro sz9 (And.intro by9 (And.intro ze9 (And.intro Tryz.underlying9 (And.intro ag126 (And.intro sz126 (And.intro by126 (And.intro ze126 Tryz.underlying126))))))))))))))) := And.intro (fun (K : Heap) (n : Int) => conv_int Tryz.underlying3 Tryz.underlying126 K n) (And.intro ag3 (And.intro sz3 (And.intro by3 (And.intro ze3 (And.intro Tryz.underlying3 (And.intro ag9 (And.intro sz9 (And.intro by9 (And.intro ze9 (And.intro Tryz.underlying9 (And.intro ag126 (And.intro sz126 (And.intro by126 (And.intro ze126 Tryz.underlying126))))))))))))))
def g76 : Code :=
  .seq (.region 0 #[q 4 (.assign (.const (.string { data := #[] }))) 9] false) (.seq (.region 1 #[q 5 (.assign (.const (.string { data := #[] }))) 9] false) (.seq (.seq (.region 2 #[q 6 (.assign (.const (.bool true))) 4] false) (.block 0 (.loop (.seq (.seq (.region 3 #[q 7 (.move (.tmp 6)) 4] false) (.cond (.tmp 7) .skip (.exit 0))) (.seq (.block 1 (.seq (.region 5 #[q 10 (.move (.tmp 0)) 126, q 11 (.move (.tmp 1)) 126, q 12 (.binOp .rem 126 (.tmp 10) (.tmp 11) 126) 126, q 13 (.move (.tmp 0)) 126, q 14 (.move (.tmp 1)) 126, q 15 (.binOp .rem 126 (.tmp 13) (.tmp 14) 126) 126, q 16 (.binOp .add 126 (.tmp 15) (.const (.int .u64 1)) 126) 126, q 17 (.slice 9 (.const (.string { data := #[48, 49, 50, 51, 52, 53, 54, 55, 56, 57, 97, 98, 99, 100, 101, 102] })) (some (.tmp 12)) (some (.tmp 16)) none) 9, q 18 (.move (.tmp 5)) 9, q 19 (.binOp .add 9 (.tmp 17) (.tmp 18) 9) 9, q 5 (.assign (.tmp 19)) 9] false) (.region 6 #[q 20 (.move (.tmp 0)) 126, q 21 (.move (.tmp 1)) 126, q 22 (.binOp .quo 126 (.tmp 20) (.tmp 21) 126) 126, q 0 (.assign (.tmp 22)) 126] false))) (.region 4 #[q 8 (.move (.tmp 0)) 126, q 9 (.binOp .gtr 126 (.tmp 8) (.const (.int .u64 0)) 126) 4, q 6 (.assign (.tmp 9)) 4] false)))))) (.seq (.region 7 #[q 23 (.move (.tmp 5)) 9, q 4 (.assign (.tmp 23)) 9] false) .ret)))
theorem s76 : Tryz.f76.body.map (slim cfg) = some g76 := by kernel_rfl
def g75 : Code :=
  .seq (.region 0 #[q 2 (.assign (.const (.string { data := #[] }))) 9] false) (.seq (.seq (.region 1 #[q 3 (.move (.tmp 0)) 3, q 4 (.binOp .lss 3 (.tmp 3) (ik 0) 3) 4] false) (.cond (.tmp 4) (.seq (.region 2 #[q 2 (.assign (.const (.string { data := #[] }))) 9] false) .ret) .skip)) (.seq (.region 3 #[q 5 (.move (.tmp 0)) 3, q 6 (.convert 3 126 (.tmp 5)) 126, q 7 (cl 76 #[.tmp 6, .const (.int .u64 16)] #[126, 126]) 9, q 2 (.assign (.tmp 7)) 9] false) .ret))
theorem s75 : Tryz.f75.body.map (slim cfg) = some g75 := by kernel_rfl

def hexSigns : List UInt8 := [48, 49, 50, 51, 52, 53, 54, 55, 56, 57, 97, 98, 99, 100, 101, 102]
/-- a digit by sixteen. -/
def hexd (n : Nat) : List UInt8 := (hexSigns.drop n).take 1
theorem hexd_len (n : Nat) : (hexd n).length ≤ 1 := by simp [hexd]; omega
/-- the digits of a number. -/
def digB (b v : Nat) : List UInt8 := if _h : b < 2 ∨ v < b then hexd v else digB b (v / b) ++ hexd (v % b)
termination_by v
decreasing_by exact Nat.div_lt_self (by omega) (by omega)
theorem digB_lt {b v : Nat} (h : v < b) : digB b v = hexd v := by unfold digB; rw [dif_pos (.inr h)]
theorem digB_ge {b v : Nat} (hb : 2 ≤ b) (h : ¬ v < b) : digB b v = digB b (v / b) ++ hexd (v % b) := by
  rw [digB, dif_neg (by omega)]
theorem digB_len (b : Nat) : ∀ (n v : Nat), v < 2 ^ n → (digB b v).length ≤ n + 1
  | n, v, h => by
    unfold digB
    split
    · have := hexd_len v; omega
    · rename_i hb
      cases n with
      | zero => simp at h; omega
      | succ n =>
        have h1 : v / b ≤ v / 2 := Nat.div_le_div_left (by omega) (by omega)
        have h2 : v / 2 < 2 ^ n := by rw [Nat.pow_succ] at h; omega
        have := digB_len b n (v / b) (by omega)
        have := hexd_len (v % b)
        simp only [List.length_append]; omega
theorem hexsl (n : Nat) (hn : n < 16) (k : IntKind) : aSlice Tryz.prog 9 (.str [48, 49, 50, 51, 52, 53, 54, 55, 56, 57, 97, 98, 99, 100, 101, 102]) (some (.int k n)) (some (.int k ((n + 1 : Nat)))) none = some (.str (hexd n)) := by
  have := str_mid (P := Tryz.prog) Tryz.underlying9 hexSigns (k := k) (k' := k) (a := n) (b := n + 1) (by omega) (by simp [hexSigns]; omega)
  rw [show n + 1 - n = 1 by omega] at this
  exact this


theorem based_ok (b v : Nat) (hb : 2 ≤ b) (hb2 : b ≤ 16) (hv : v < 18446744073709551616) (prot : Nat) (H : Heap) (hp : prot ≤ H.length) : aLim cfg prot 76 [.int .u64 v, .int .u64 b] H = some (.str (digB b v), none) := by
  have hsnap : snap H [.int .u64 v, .int .u64 b] = some ([.int .u64 v, .int .u64 b], false) := rfl
  have hlen0 : (digB b v).length ≤ 65 := digB_len b 64 v (by simpa using hv)
  refine pure_slim rfl (by kernel_rfl) Tryz.func76 s76 hp hsnap (by simp [Tryz.f76]) fun fr hlen h => ?_
  simp only [Has, Nat.zero_add] at h
  obtain ⟨a0, a1, -⟩ := h
  simp only [Tryz.f76] at hlen ⊢
  unfold g76
  simp only [wk, aBuiltin, AV.cells, AV.leaf, Nat.reduceEqDiff, Nat.reduceLT, Nat.reduceAdd, Nat.reduceLeDiff, reduceCtorEq, Nat.reduceMul, Nat.reduceMod, cfgP, u76, hlen, a0, a1]
  refine loop_rule (fun m fr H' => ∃ (x : Nat) (s : List UInt8) (ok : Bool), m = x + (if ok then 1 else 0) ∧ fr.length = 24 ∧ fget fr 0 = .int .u64 x ∧ fget fr 1 = .int .u64 b ∧ fget fr 5 = .str s ∧ fget fr 6 = .bool ok ∧ x < 18446744073709551616
    ∧ (ok = true → digB b v = digB b x ++ s) ∧ (ok = false → x = 0 ∧ s = digB b v)) ?_ (v + 1) _ _ ⟨v, [], true, by simp [wk, aBuiltin, AV.cells, AV.leaf, Nat.reduceEqDiff, Nat.reduceLT, Nat.reduceAdd, Nat.reduceLeDiff, reduceCtorEq, Nat.reduceMul, Nat.reduceMod, cfgP, u76, hlen, a0, a1, hv]⟩
  rintro m fr H' ⟨x, s, ok, rfl, hlen, a0, a1, a5, a6, hx, ho, hn⟩ ih
  cases ok with
  | false =>
    obtain ⟨rfl, rfl⟩ := hn rfl
    simp only [wk, aBuiltin, AV.cells, AV.leaf, Nat.reduceEqDiff, Nat.reduceLT, Nat.reduceAdd, Nat.reduceLeDiff, reduceCtorEq, Nat.reduceMul, Nat.reduceMod, cfgP, u76, hlen, a0, a1, a5, a6]
    exact Fin_pure (l := [.str (digB b v)]) (by simp [wk, aBuiltin, AV.cells, AV.leaf, Nat.reduceEqDiff, Nat.reduceLT, Nat.reduceAdd, Nat.reduceLeDiff, reduceCtorEq, Nat.reduceMul, Nat.reduceMod, cfgP, u76, aResults, aResult, hlen]) (.still rfl) (by simp)
  | true =>
    have ho := ho rfl
    have q1 : ∀ xo yo, aBin Tryz.prog .rem 126 xo yo (.int .u64 x) (.int .u64 b) = some (.int .u64 ((x % b : Nat))) := fun xo yo => bin_rem_nat (by omega)
    have q2 : ∀ xo yo, aBin Tryz.prog .quo 126 xo yo (.int .u64 x) (.int .u64 b) = some (.int .u64 ((x / b : Nat))) := fun xo yo => by
      have h1 := Nat.div_le_self x b
      rw [bin_quo_nat (by omega)]
      generalize x / b = y at *
      rw [wrapu64 (by omega) (by omega)]
    have hm : x % b < 16 := Nat.lt_of_lt_of_le (Nat.mod_lt _ (by omega)) hb2
    have q3 : IntKind.u64.wrap (((x % b : Nat) : Int) + 1) = ((x % b + 1 : Nat) : Int) := by rw [wrapu64 (by omega) (by omega)]; simp
    have q4 := hexsl (x % b) hm .u64
    have hsl : s.length ≤ 65 := by rw [ho] at hlen0; simp at hlen0; omega
    have q5 : aStr .add (hexd (x % b)) s = some (.str (hexd (x % b) ++ s)) := str_add (by have := hexd_len (x % b); omega)
    by_cases hlt : x < b
    · have h0 : x / b = 0 := Nat.div_eq_of_lt hlt
      rw [Nat.mod_eq_of_lt hlt] at q1 q3 q4 q5
      rw [h0] at q2
      simp only [wk, aBuiltin, AV.cells, AV.leaf, Nat.reduceEqDiff, Nat.reduceLT, Nat.reduceAdd, Nat.reduceLeDiff, reduceCtorEq, Nat.reduceMul, Nat.reduceMod, cfgP, u76, hlen, a0, a1, a5, a6, q1, q2, q3, q4, q5]
      refine ih _ _ 0 (by simp) ⟨0, hexd x ++ s, false, by simp, ?_⟩
      simp [wk, aBuiltin, AV.cells, AV.leaf, Nat.reduceEqDiff, Nat.reduceLT, Nat.reduceAdd, Nat.reduceLeDiff, reduceCtorEq, Nat.reduceMul, Nat.reduceMod, cfgP, u76, hlen, a0, a1]
      rw [ho, digB_lt hlt]
    · have h0 : 0 < x / b := Nat.div_pos (by omega) (by omega)
      have h1 : x / b < x := Nat.div_lt_self (by omega) (by omega)
      have h2 : decide (0 < ((x / b : Nat) : Int)) = true := decide_eq_true (by omega)
      simp only [wk, aBuiltin, AV.cells, AV.leaf, Nat.reduceEqDiff, Nat.reduceLT, Nat.reduceAdd, Nat.reduceLeDiff, reduceCtorEq, Nat.reduceMul, Nat.reduceMod, cfgP, u76, hlen, a0, a1, a5, a6, q1, q2, q3, q4, q5, h2]
      refine ih _ _ (x / b + 1) (by simp; omega) ⟨x / b, hexd (x % b) ++ s, true, by simp, ?_⟩
      simp [wk, aBuiltin, AV.cells, AV.leaf, Nat.reduceEqDiff, Nat.reduceLT, Nat.reduceAdd, Nat.reduceLeDiff, reduceCtorEq, Nat.reduceMul, Nat.reduceMod, cfgP, u76, hlen, a0, a1]
      refine ⟨by omega, ?_⟩
      rw [ho, digB_ge hb hlt, List.append_assoc]


theorem putHex_ok (v : Nat) (hv : v < 9223372036854775808) (prot : Nat) (H : Heap) (hp : prot ≤ H.length) : aLim cfg prot 75 [.int .i64 v] H = some (.str (digB 16 v), none) := by
  have hsnap : snap H [.int .i64 v] = some ([.int .i64 v], false) := rfl
  have n1 : aLim cfg H.length 76 [.int .u64 v, .int .u64 16] H = some (.str (digB 16 v), none) := based_ok 16 v (by omega) (by omega) (by omega) H.length H (Nat.le_refl _)
  have c1 : decide ((v : Int) < 0) = false := decide_eq_false (by omega)
  have c2 : IntKind.u64.wrap (v : Int) = v := wrapu64 (by omega) (by omega)
  refine pure_slim rfl (by kernel_rfl) Tryz.func75 s75 hp hsnap (by simp [Tryz.f75]) fun fr hlen h => ?_
  simp only [Has, Nat.zero_add] at h
  obtain ⟨a0, -⟩ := h
  simp only [Tryz.f75] at hlen ⊢
  unfold g75
  simp only [wk, aBuiltin, AV.cells, AV.leaf, Nat.reduceEqDiff, Nat.reduceLT, Nat.reduceAdd, Nat.reduceLeDiff, reduceCtorEq, Nat.reduceMul, Nat.reduceMod, cfgP, u76, hlen, a0, c1, c2, n1]
  exact Fin_pure (l := [.str (digB 16 v)]) (by simp [wk, aBuiltin, AV.cells, AV.leaf, Nat.reduceEqDiff, Nat.reduceLT, Nat.reduceAdd, Nat.reduceLeDiff, reduceCtorEq, Nat.reduceMul, Nat.reduceMod, cfgP, u76, aResults, aResult, hlen]) (.still rfl) (by simp)
end Go.Proofs.YtnipaiklandliaaGreatDoor
/- strings.HasPrefix, strings.CutPrefix, walked. -/
namespace Go.Proofs.YtnipaiklandliaaGreatDoor
open Go Go.Abs AbsSeat Ty

theorem u78 : type_of% (And.intro ag3 (And.intro sz3 (And.intro by3 (And.intro ze3 (And.intro Tryz.underlying3 (And.intro ag9 (And.intro sz9 (And.intro by9 (And.intro ze9 Tryz.underlying9))))))))) := And.intro ag3 (And.intro sz3 (And.intro by3 (And.intro ze3 (And.intro Tryz.underlying3 (And.intro ag9 (And.intro sz9 (And.intro by9 (And.intro ze9 Tryz.underlying9))))))))
def g78 : Code :=
  .seq (.region 0 #[q 4 (.assign (.const (.bool false))) 4] false) (.seq (.region 1 #[q 5 (.move (.tmp 0)) 9, q 6 (.move (.tmp 1)) 9, q 7 (cl 105 #[.tmp 5, .tmp 6] #[9, 9]) 4, q 4 (.assign (.tmp 7)) 4] false) .ret)
theorem s78 : Tryz.f78.body.map (slim cfg) = some g78 := by kernel_rfl
def g105 : Code :=
  .seq (.region 0 #[q 4 (.assign (.const (.bool false))) 4] false) (.seq (.region 1 #[q 5 (.move (.tmp 0)) 9, q 6 (bi .len #[.tmp 5] #[9]) 3, q 7 (.move (.tmp 1)) 9, q 8 (bi .len #[.tmp 7] #[9]) 3, q 9 (.binOp .geq 3 (.tmp 6) (.tmp 8) 3) 4, q 10 (.move (.tmp 9)) 4, qg 11 (.move (.tmp 0)) 9 5 true, qg 12 (.move (.tmp 1)) 9 5 true, qg 13 (bi .len #[.tmp 12] #[9]) 3 5 true, qg 14 (.slice 9 (.tmp 11) none (some (.tmp 13)) none) 9 5 true, qg 15 (.move (.tmp 1)) 9 5 true, qg 16 (.binOp .eql 9 (.tmp 14) (.tmp 15) 9) 4 5 true, q 17 (.pick (.tmp 10) (.tmp 16) (.const (.bool false))) 4, q 4 (.assign (.tmp 17)) 4] false) .ret)
theorem s105 : Tryz.f105.body.map (slim cfg) = some g105 := by kernel_rfl
def g37 : Code :=
  .seq (.region 0 #[q 4 (.assign (.const (.string { data := #[] }))) 9, q 5 (.assign (.const (.bool false))) 4] false) (.seq (.region 1 #[q 6 (.move (.tmp 0)) 9, q 7 (.move (.tmp 1)) 9, q 8 (cl 69 #[.tmp 6, .tmp 7] #[9, 9]) 67, q 9 (.extract (.tmp 8) 0) 9, q 10 (.extract (.tmp 8) 1) 4, q 4 (.assign (.tmp 9)) 9, q 5 (.assign (.tmp 10)) 4] false) .ret)
theorem s37 : Tryz.f37.body.map (slim cfg) = some g37 := by kernel_rfl
def g69 : Code :=
  .seq (.region 0 #[q 4 (.assign (.const (.string { data := #[] }))) 9, q 5 (.assign (.const (.bool false))) 4] false) (.seq (.seq (.region 1 #[q 6 (.move (.tmp 0)) 9, q 7 (.move (.tmp 1)) 9, q 8 (cl 105 #[.tmp 6, .tmp 7] #[9, 9]) 4, q 9 (.unOp .not 4 (.tmp 8)) 4] false) (.cond (.tmp 9) (.seq (.region 2 #[q 10 (.move (.tmp 0)) 9, q 4 (.assign (.tmp 10)) 9, q 5 (.assign (.const (.bool false))) 4] false) .ret) .skip)) (.seq (.region 3 #[q 11 (.move (.tmp 0)) 9, q 12 (.move (.tmp 1)) 9, q 13 (bi .len #[.tmp 12] #[9]) 3, q 14 (.slice 9 (.tmp 11) (some (.tmp 13)) none none) 9, q 4 (.assign (.tmp 14)) 9, q 5 (.assign (.const (.bool true))) 4] false) .ret))
theorem s69 : Tryz.f69.body.map (slim cfg) = some g69 := by kernel_rfl
def hasPre (s p : List UInt8) : Bool := decide (p.length ≤ s.length) && (s.take p.length == p)

theorem hasPreL_ok (s p : List UInt8) (prot : Nat) (H : Heap) (hp : prot ≤ H.length) : aLim cfg prot 105 [.str s, .str p] H = some (.bool (hasPre s p), none) := by
  have hsnap : snap H [.str s, .str p] = some ([.str s, .str p], false) := rfl
  have hls : ∀ K s, aLen Tryz.prog K 9 (.str s) = some (.int .i64 s.length) := fun K s => str_len Tryz.underlying9 s K
  refine pure_slim rfl (by kernel_rfl) Tryz.func105 s105 hp hsnap (by simp [Tryz.f105]) fun fr hlen h => ?_
  simp only [Has, Nat.zero_add] at h
  obtain ⟨a0, a1, -⟩ := h
  simp only [Tryz.f105] at hlen ⊢
  unfold g105
  by_cases h1 : (p.length : Int) ≤ s.length
  · have e1 := str_upto (k := .i64) Tryz.underlying9 s (b := p.length) (by omega)
    rw [show hasPre s p = (s.take p.length == p) by unfold hasPre; rw [decide_eq_true (by omega)]; simp]
    simp only [wk, aBuiltin, AV.cells, AV.leaf, Nat.reduceEqDiff, Nat.reduceLT, Nat.reduceAdd, Nat.reduceLeDiff, reduceCtorEq, Nat.reduceMul, Nat.reduceMod, cfgP, u78, hlen, a0, a1, hls, h1, e1, none_beq, str_eql]
    exact Fin_pure (l := [.bool (s.take p.length == p)]) (by simp [wk, aBuiltin, AV.cells, AV.leaf, Nat.reduceEqDiff, Nat.reduceLT, Nat.reduceAdd, Nat.reduceLeDiff, reduceCtorEq, Nat.reduceMul, Nat.reduceMod, cfgP, u78, aResults, aResult, hlen]) (.still rfl) (by simp)
  · rw [show hasPre s p = false by unfold hasPre; rw [decide_eq_false (by omega)]; simp]
    simp only [wk, aBuiltin, AV.cells, AV.leaf, Nat.reduceEqDiff, Nat.reduceLT, Nat.reduceAdd, Nat.reduceLeDiff, reduceCtorEq, Nat.reduceMul, Nat.reduceMod, cfgP, u78, hlen, a0, a1, hls, h1, none_beq]
    exact Fin_pure (l := [.bool false]) (by simp [wk, aBuiltin, AV.cells, AV.leaf, Nat.reduceEqDiff, Nat.reduceLT, Nat.reduceAdd, Nat.reduceLeDiff, reduceCtorEq, Nat.reduceMul, Nat.reduceMod, cfgP, u78, aResults, aResult, hlen]) (.still rfl) (by simp)

theorem hasPre_ok (s p : List UInt8) (prot : Nat) (H : Heap) (hp : prot ≤ H.length) : aLim cfg prot 78 [.str s, .str p] H = some (.bool (hasPre s p), none) := by
  have hsnap : snap H [.str s, .str p] = some ([.str s, .str p], false) := rfl
  have n1 := hasPreL_ok s p H.length H (Nat.le_refl _)
  refine pure_slim rfl (by kernel_rfl) Tryz.func78 s78 hp hsnap (by simp [Tryz.f78]) fun fr hlen h => ?_
  simp only [Has, Nat.zero_add] at h
  obtain ⟨a0, a1, -⟩ := h
  simp only [Tryz.f78] at hlen ⊢
  unfold g78
  simp only [wk, aBuiltin, AV.cells, AV.leaf, Nat.reduceEqDiff, Nat.reduceLT, Nat.reduceAdd, Nat.reduceLeDiff, reduceCtorEq, Nat.reduceMul, Nat.reduceMod, cfgP, u78, hlen, a0, a1, n1]
  exact Fin_pure (l := [.bool (hasPre s p)]) (by simp [wk, aBuiltin, AV.cells, AV.leaf, Nat.reduceEqDiff, Nat.reduceLT, Nat.reduceAdd, Nat.reduceLeDiff, reduceCtorEq, Nat.reduceMul, Nat.reduceMod, cfgP, u78, aResults, aResult, hlen]) (.still rfl) (by simp)
theorem slen (s : List UInt8) (K : Heap) : aLen Tryz.prog K 9 (.str s) = some (.int .i64 s.length) := str_len Tryz.underlying9 s K
theorem ff3 {K : Heap} {n : Nat} {x y z : AV} (h1 : still x = true) (h2 : still y = true) (h3 : still z = true) : Frz K n (packR [x, y, z]) (.tup [x, y, z]) := .tup (.cons (.still h1) (.cons (.still h2) (.cons (.still h3) .nil)))
theorem ff2 {K : Heap} {n : Nat} {x y : AV} (h1 : still x = true) (h2 : still y = true) : Frz K n (packR [x, y]) (.tup [x, y]) := .tup (.cons (.still h1) (.cons (.still h2) .nil))

theorem cutPreL_ok (s p : List UInt8) (prot : Nat) (H : Heap) (hp : prot ≤ H.length) :
    aLim cfg prot 69 [.str s, .str p] H = some (if hasPre s p then .tup [.str (s.drop p.length), .bool true] else .tup [.str s, .bool false], none) := by
  have hsnap : snap H [.str s, .str p] = some ([.str s, .str p], false) := rfl
  have n1 := hasPreL_ok s p H.length H (Nat.le_refl _)
  cases h : hasPre s p with
  | true =>
    rw [h] at n1
    have hl : p.length ≤ s.length := by
      simp only [hasPre, Bool.and_eq_true, decide_eq_true_eq] at h; exact h.1
    have e1 := str_from (k := .i64) Tryz.underlying9 s hl
    refine pure_slim rfl (by kernel_rfl) Tryz.func69 s69 hp hsnap (by simp [Tryz.f69]) fun fr hlen h => ?_
    simp only [Has, Nat.zero_add] at h
    obtain ⟨a0, a1, -⟩ := h
    simp only [Tryz.f69] at hlen ⊢
    unfold g69
    simp only [wk, aBuiltin, AV.cells, AV.leaf, Nat.reduceEqDiff, Nat.reduceLT, Nat.reduceAdd, Nat.reduceLeDiff, reduceCtorEq, Nat.reduceMul, Nat.reduceMod, cfgP, u78, hlen, a0, a1, n1, slen, e1]
    exact Fin_pure (l := [.str (s.drop p.length), .bool true]) (by simp [wk, aBuiltin, AV.cells, AV.leaf, Nat.reduceEqDiff, Nat.reduceLT, Nat.reduceAdd, Nat.reduceLeDiff, reduceCtorEq, Nat.reduceMul, Nat.reduceMod, cfgP, u78, hlen, aResults, aResult]) (ff2 rfl rfl) (by simp)
  | false =>
    rw [h] at n1
    refine pure_slim rfl (by kernel_rfl) Tryz.func69 s69 hp hsnap (by simp [Tryz.f69]) fun fr hlen h => ?_
    simp only [Has, Nat.zero_add] at h
    obtain ⟨a0, a1, -⟩ := h
    simp only [Tryz.f69] at hlen ⊢
    unfold g69
    simp only [wk, aBuiltin, AV.cells, AV.leaf, Nat.reduceEqDiff, Nat.reduceLT, Nat.reduceAdd, Nat.reduceLeDiff, reduceCtorEq, Nat.reduceMul, Nat.reduceMod, cfgP, u78, hlen, a0, a1, n1]
    exact Fin_pure (l := [.str s, .bool false]) (by simp [wk, aBuiltin, AV.cells, AV.leaf, Nat.reduceEqDiff, Nat.reduceLT, Nat.reduceAdd, Nat.reduceLeDiff, reduceCtorEq, Nat.reduceMul, Nat.reduceMod, cfgP, u78, hlen, aResults, aResult]) (ff2 rfl rfl) (by simp)

theorem cutPre_ok (s p : List UInt8) (prot : Nat) (H : Heap) (hp : prot ≤ H.length) :
    aLim cfg prot 37 [.str s, .str p] H = some (if hasPre s p then .tup [.str (s.drop p.length), .bool true] else .tup [.str s, .bool false], none) := by
  have hsnap : snap H [.str s, .str p] = some ([.str s, .str p], false) := rfl
  have n1 := cutPreL_ok s p H.length H (Nat.le_refl _)
  cases h : hasPre s p with
  | true =>
    rw [h] at n1
    simp only [if_true] at n1 ⊢
    refine pure_slim rfl (by kernel_rfl) Tryz.func37 s37 hp hsnap (by simp [Tryz.f37]) fun fr hlen h => ?_
    simp only [Has, Nat.zero_add] at h
    obtain ⟨a0, a1, -⟩ := h
    simp only [Tryz.f37] at hlen ⊢
    unfold g37
    simp only [wk, aBuiltin, AV.cells, AV.leaf, Nat.reduceEqDiff, Nat.reduceLT, Nat.reduceAdd, Nat.reduceLeDiff, reduceCtorEq, Nat.reduceMul, Nat.reduceMod, cfgP, u78, hlen, a0, a1, n1]
    exact Fin_pure (l := [.str (s.drop p.length), .bool true]) (by simp [wk, aBuiltin, AV.cells, AV.leaf, Nat.reduceEqDiff, Nat.reduceLT, Nat.reduceAdd, Nat.reduceLeDiff, reduceCtorEq, Nat.reduceMul, Nat.reduceMod, cfgP, u78, hlen, aResults, aResult]) (ff2 rfl rfl) (by simp)
  | false =>
    rw [h] at n1
    simp only [Bool.false_eq_true, if_false] at n1 ⊢
    refine pure_slim rfl (by kernel_rfl) Tryz.func37 s37 hp hsnap (by simp [Tryz.f37]) fun fr hlen h => ?_
    simp only [Has, Nat.zero_add] at h
    obtain ⟨a0, a1, -⟩ := h
    simp only [Tryz.f37] at hlen ⊢
    unfold g37
    simp only [wk, aBuiltin, AV.cells, AV.leaf, Nat.reduceEqDiff, Nat.reduceLT, Nat.reduceAdd, Nat.reduceLeDiff, reduceCtorEq, Nat.reduceMul, Nat.reduceMod, cfgP, u78, hlen, a0, a1, n1]
    exact Fin_pure (l := [.str s, .bool false]) (by simp [wk, aBuiltin, AV.cells, AV.leaf, Nat.reduceEqDiff, Nat.reduceLT, Nat.reduceAdd, Nat.reduceLeDiff, reduceCtorEq, Nat.reduceMul, Nat.reduceMod, cfgP, u78, hlen, aResults, aResult]) (ff2 rfl rfl) (by simp)
end Go.Proofs.YtnipaiklandliaaGreatDoor
/- Decimal digits: plain laws; a silence's key. -/
namespace Go.Proofs.YtnipaiklandliaaGreatDoor
open Go Go.Abs AbsSeat Ty

theorem hexd_dec (n : Nat) (h : n < 10) : hexd n = [UInt8.ofNat (48 + n)] := by
  have : ∀ m : Fin 10, hexd m.val = [UInt8.ofNat (48 + m.val)] := by decide
  exact this ⟨n, h⟩
theorem digB_dec (v : Nat) : digB 10 v = if v < 10 then [UInt8.ofNat (48 + v)] else digB 10 (v / 10) ++ [UInt8.ofNat (48 + v % 10)] := by
  by_cases h : v < 10
  · rw [if_pos h, digB_lt h, hexd_dec v h]
  · rw [if_neg h, digB_ge (by omega) h, hexd_dec _ (by omega)]
theorem dig_nat {n : Nat} (h : n < 10) : (UInt8.ofNat (48 + n)).toNat = 48 + n := by simp; omega
theorem digB_digits : ∀ (v : Nat), ∀ c ∈ digB 10 v, 48 ≤ c.toNat ∧ c.toNat ≤ 57 := by
  intro v
  induction v using Nat.strongRecOn with
  | _ v ih =>
    rw [digB_dec]
    split
    · rename_i h
      intro c hc
      rw [List.mem_singleton.1 hc, dig_nat h]; omega
    · rename_i h
      intro c hc
      rcases List.mem_append.1 hc with hc | hc
      · exact ih (v / 10) (by omega) c hc
      · rw [List.mem_singleton.1 hc, dig_nat (by omega)]; omega
theorem digB_ne (v : Nat) : digB 10 v ≠ [] := by rw [digB_dec]; split <;> simp
theorem digB_head : ∀ (v : Nat), 10 ≤ v → ∃ c r, digB 10 v = c :: r ∧ c ≠ 48 ∧ r ≠ [] := by
  intro v
  induction v using Nat.strongRecOn with
  | _ v ih =>
    intro hv
    rw [digB_dec, if_neg (by omega)]
    by_cases h : v / 10 < 10
    · rw [digB_dec, if_pos h]
      refine ⟨_, _, rfl, fun e => ?_, by simp⟩
      have := congrArg UInt8.toNat e
      rw [dig_nat h] at this
      simp at this; omega
    · obtain ⟨c, r, h1, h2, h3⟩ := ih (v / 10) (by omega) (by omega)
      rw [h1]
      exact ⟨c, _, rfl, h2, by simp⟩
theorem digB_dlen : ∀ (n v : Nat), v < 10 ^ n → 0 < n → (digB 10 v).length ≤ n
  | 0, v, _, h => by omega
  | n + 1, v, hv, _ => by
    rw [digB_dec]
    split
    · simp
    · rename_i h
      cases n with
      | zero => simp at hv; omega
      | succ n =>
        have := digB_dlen (n + 1) (v / 10) (by rw [Nat.div_lt_iff_lt_mul (by omega), ← Nat.pow_succ]; exact hv) (by omega)
        simp only [List.length_append, List.length_cons, List.length_nil]; omega
theorem digGo_app (most : Nat) : ∀ (a b : List UInt8) (v w : Nat), digGo most v a = some w → digGo most v (a ++ b) = digGo most w b
  | [], b, v, w, h => by simp only [digGo, Option.some.injEq] at h; subst h; rfl
  | c :: a, b, v, w, h => by
    simp only [List.cons_append, digGo] at h ⊢
    split at h
    · cases h
    · rename_i h1
      rw [if_neg h1]; exact digGo_app most a b _ w h
theorem digGo_digB (most : Nat) (hm : 9 ≤ most) : ∀ (v : Nat), v ≤ most → digGo most 0 (digB 10 v) = some v := by
  intro v
  induction v using Nat.strongRecOn with
  | _ v ih =>
    intro hv
    rw [digB_dec]
    by_cases h : v < 10
    · rw [if_pos h]
      simp only [digGo, dig_nat h]
      rw [if_neg (by omega)]; simp
    · rw [if_neg h, digGo_app most _ _ 0 (v / 10) (ih (v / 10) (by omega) (by omega))]
      simp only [digGo, dig_nat (show v % 10 < 10 by omega)]
      rw [if_neg (by omega)]
      simp only [Option.some.injEq]; omega
theorem numS_digB (v : Nat) (hv : v ≤ 9223372036854775807) : numS (digB 10 v) = ((v : Int), (0 : Int)) := by
  have hd := digB_digits v
  have hne := digB_ne v
  obtain ⟨c, r, hcr⟩ : ∃ c r, digB 10 v = c :: r := by
    cases h : digB 10 v with
    | nil => exact absurd h hne
    | cons c r => exact ⟨c, r, rfl⟩
  have hc := hd c (by rw [hcr]; simp)
  have h45 : ¬ (digB 10 v).head? = some 45 := by
    rw [hcr]; simp only [List.head?_cons, Option.some.injEq]
    rintro rfl; simp at hc
  unfold numS
  rw [if_neg h45]
  unfold numD
  have hall : ((digB 10 v).all fun c => digitC c.toNat) = true := by
    rw [List.all_eq_true]
    intro c hc
    have := hd c hc
    unfold digitC; simp; omega
  have h48 : ¬ (1 < (digB 10 v).length ∧ (digB 10 v).head? = some 48) := by
    rintro ⟨h1, h2⟩
    by_cases h : v < 10
    · rw [digB_dec, if_pos h] at h1; simp at h1
    · obtain ⟨c', r', e1, e2, -⟩ := digB_head v (by omega)
      rw [e1] at h2
      simp only [List.head?_cons, Option.some.injEq] at h2
      exact e2 h2
  rw [if_neg (fun h => h.elim hne fun h => h.elim (fun h => by rw [hall] at h; cases h) h48)]
  simp only [Bool.false_eq_true, if_false, digGo_digB 9223372036854775807 (by omega) v hv]
/-- an ID's key. -/
def keyS (id : Int) : List UInt8 := if id < 0 ∨ 9999999999 < id then [] else 115 :: 47 :: (List.replicate (10 - (digB 10 id.toNat).length) 48 ++ digB 10 id.toNat)
def stripZ : List UInt8 → List UInt8
  | [] => []
  | c :: r => if c = 48 then stripZ r else c :: r
def ofKeyS (key : List UInt8) : Int × Bool :=
  if hasPre key [115, 47] = true ∧ (key.drop 2).length = 10 then
    (if (numS (stripZ ((key.drop 2).take 9) ++ (key.drop 2).drop 9)).2 = 0 ∧ keyS (numS (stripZ ((key.drop 2).take 9) ++ (key.drop 2).drop 9)).1 = key then ((numS (stripZ ((key.drop 2).take 9) ++ (key.drop 2).drop 9)).1, true) else (0, false))
  else (0, false)
theorem stripZ_rep : ∀ (n : Nat) (l : List UInt8), stripZ (List.replicate n 48 ++ l) = stripZ l
  | 0, l => rfl
  | n + 1, l => by rw [List.replicate_succ, List.cons_append, stripZ, if_pos rfl, stripZ_rep n l]
theorem stripZ_key (v : Nat) (hv : v < 10 ^ 10) : stripZ ((List.replicate (10 - (digB 10 v).length) 48 ++ digB 10 v).take 9) ++ (List.replicate (10 - (digB 10 v).length) 48 ++ digB 10 v).drop 9 = digB 10 v := by
  have hl := digB_dlen 10 v hv (by omega)
  by_cases h : v < 10
  · have e : digB 10 v = [UInt8.ofNat (48 + v)] := by rw [digB_dec, if_pos h]
    rw [e]
    show stripZ ((List.replicate 9 48 ++ [UInt8.ofNat (48 + v)]).take 9) ++ (List.replicate 9 48 ++ [UInt8.ofNat (48 + v)]).drop 9 = _
    rw [List.take_left' (by simp), List.drop_left' (by simp)]
    have := stripZ_rep 9 []
    rw [List.append_nil] at this
    rw [this]; rfl
  · obtain ⟨c, r, e1, e2, e3⟩ := digB_head v (by omega)
    have hr : 0 < r.length := List.length_pos_iff.2 e3
    rw [e1] at hl ⊢
    simp only [List.length_cons] at hl ⊢
    generalize hk : 10 - (r.length + 1) = k
    have hk9 : k ≤ 8 := by omega
    rw [List.take_append, List.drop_append, List.length_replicate, List.take_of_length_le (by simp; omega), stripZ_rep, List.drop_of_length_le (by simp; omega), List.nil_append]
    obtain ⟨m, hm⟩ : ∃ m, 9 - k = m + 1 := ⟨8 - k, by omega⟩
    rw [hm, List.take_succ_cons, stripZ, if_neg e2, List.drop_succ_cons, List.cons_append, List.take_append_drop]
theorem keyS_back (id : Int) : ofKeyS (keyS id) = if id < 0 ∨ 9999999999 < id then (0, false) else (id, true) := by
  by_cases h : id < 0 ∨ 9999999999 < id
  · rw [if_pos h]
    have : keyS id = [] := by unfold keyS; rw [if_pos h]
    rw [this]; decide
  · rw [if_neg h]
    have hv : id.toNat < 10 ^ 10 := by omega
    have hl := digB_dlen 10 id.toNat hv (by omega)
    have hk : keyS id = 115 :: 47 :: (List.replicate (10 - (digB 10 id.toNat).length) 48 ++ digB 10 id.toNat) := by unfold keyS; rw [if_neg h]
    have hd : (keyS id).drop 2 = List.replicate (10 - (digB 10 id.toNat).length) 48 ++ digB 10 id.toNat := by rw [hk]; rfl
    have hn := numS_digB id.toNat (by omega)
    have e : ((id.toNat : Nat) : Int) = id := by omega
    unfold ofKeyS
    rw [hd, if_pos ⟨by rw [hk]; simp [hasPre], by simp; omega⟩, stripZ_key _ hv, hn, e, if_pos ⟨rfl, rfl⟩]
theorem ofKeyS_true {key : List UInt8} (h : (ofKeyS key).2 = true) : keyS (ofKeyS key).1 = key ∧ key ≠ [] := by
  unfold ofKeyS at h ⊢
  split at h
  · rename_i h1
    rw [if_pos h1]
    split at h
    · rename_i h2
      rw [if_pos h2]
      refine ⟨h2.2, ?_⟩
      rintro rfl
      cases h1.1
    · cases h
  · cases h
theorem ofKeyS_false {key : List UInt8} (h : (ofKeyS key).2 = false) : (ofKeyS key).1 = 0 := by
  unfold ofKeyS at h ⊢
  split
  · rename_i h1
    rw [if_pos h1] at h
    split
    · rename_i h2
      rw [if_pos h2] at h; cases h
    · rfl
  · rfl
end Go.Proofs.YtnipaiklandliaaGreatDoor
/- A silence's key, walked. -/
set_option maxRecDepth 100000
namespace Go.Proofs.YtnipaiklandliaaGreatDoor
open Go Go.Abs AbsSeat Ty

theorem u15 : type_of% (And.intro (fun (K : Heap) (n : Int) => conv_int Tryz.underlying2 Tryz.underlying5 K n) (And.intro (fun (K : Heap) (n : Int) => conv_int Tryz.underlying2 Tryz.underlying126 K n) (And.intro (show tagT Tryz.prog 133 = 0 from by kernel_rfl) (And.intro ag1 (And.intro sz1 (And.intro by1 (And.intro ze1 (And.intro Tryz.underlying1 (And.intro ag2 (And.intro sz2 (And.intro by2 (And.intro ze2 (And.intro Tryz.underlying2 (And.intro ag3 (And.intro sz3 (And.intro by3 (And.intro ze3 (And.intro Tryz.underlying3 (And.intro ag5 (And.intro sz5 (And.intro by5 (And.intro ze5 (And.intro Tryz.underlying5 (And.intro ag9 (And.intro sz9 (And.intro by9 (And.intro ze9 (And.intro Tryz.underlying9 (And.intro ag28 (And.intro sz28 (And.intro by28 (And.intro ze28 (And.intro Tryz.underlying28 (And.intro ag72 (And.intro sz72 (And.intro by72 (And.intro se72 (And.intro ze72 (And.intro Tryz.underlying72 (And.intro ag126 (And.intro sz126 (And.intro by126 (And.intro ze126 (And.intro Tryz.underlying126 (And.intro ag133 (And.intro sz133 (And.intro by133 (And.intro ze133 (And.intro Tryz.underlying133 (And.intro ag137 (And.intro sz137 (And.intro by137 (And.intro ze137 Tryz.underlying137))))))))))))))))))))))))))))))))))))))))))))))))))))) := And.intro (fun (K : Heap) (n : Int) => conv_int Tryz.underlying2 Tryz.underlying5 K n) (And.intro (fun (K : Heap) (n : Int) => conv_int Tryz.underlying2 Tryz.underlying126 K n) (And.intro (show tagT Tryz.prog 133 = 0 from by kernel_rfl) (And.intro ag1 (And.intro sz1 (And.intro by1 (And.intro ze1 (And.intro Tryz.underlying1 (And.intro ag2 (And.intro sz2 (And.intro by2 (And.intro ze2 (And.intro Tryz.underlying2 (And.intro ag3 (And.intro sz3 (And.intro by3 (And.intro ze3 (And.intro Tryz.underlying3 (And.intro ag5 (And.intro sz5 (And.intro by5 (And.intro ze5 (And.intro Tryz.underlying5 (And.intro ag9 (And.intro sz9 (And.intro by9 (And.intro ze9 (And.intro Tryz.underlying9 (And.intro ag28 (And.intro sz28 (And.intro by28 (And.intro ze28 (And.intro Tryz.underlying28 (And.intro ag72 (And.intro sz72 (And.intro by72 (And.intro se72 (And.intro ze72 (And.intro Tryz.underlying72 (And.intro ag126 (And.intro sz126 (And.intro by126 (And.intro ze126 (And.intro Tryz.underlying126 (And.intro ag133 (And.intro sz133 (And.intro by133 (And.intro ze133 (And.intro Tryz.underlying133 (And.intro ag137 (And.intro sz137 (And.intro by137 (And.intro ze137 Tryz.underlying137))))))))))))))))))))))))))))))))))))))))))))))))))))
def g15 : Code :=
  .seq (.region 0 #[q 2 (.assign (.const (.string { data := #[] }))) 9] false) (.seq (.seq (.region 1 #[q 4 (.move (.tmp 0)) 2, q 5 (.binOp .lss 2 (.tmp 4) (ik 0) 2) 4, q 6 (.move (.tmp 5)) 4, qg 7 (.move (.tmp 0)) 2 2 false, qg 8 (.binOp .gtr 2 (.tmp 7) (ik 9999999999) 2) 4 2 false, q 9 (.pick (.tmp 6) (.const (.bool true)) (.tmp 8)) 4] false) (.cond (.tmp 9) (.seq (.region 2 #[q 2 (.assign (.const (.string { data := #[] }))) 9] false) .ret) .skip)) (.seq (.region 3 #[q 10 (.move (.tmp 0)) 2, q 11 (cl 46 #[.tmp 10] #[2]) 9, q 3 (.assign (.tmp 11)) 9] false) (.seq (.region 4 #[q 12 (.move (.tmp 3)) 9, q 13 (bi .len #[.tmp 12] #[9]) 3, q 14 (.binOp .sub 3 (ik 10) (.tmp 13) 3) 3, q 15 (cl 47 #[.const (.string { data := #[48] }), .tmp 14] #[9, 3]) 9, q 16 (.binOp .add 9 (.const (.string { data := #[115, 47] })) (.tmp 15) 9) 9, q 17 (.move (.tmp 3)) 9, q 18 (.binOp .add 9 (.tmp 16) (.tmp 17) 9) 9, q 2 (.assign (.tmp 18)) 9] false) .ret)))
theorem s15 : Tryz.f15.body.map (slim cfg) = some g15 := by kernel_rfl
def g16 : Code :=
  .seq (.region 0 #[q 2 (.assign (ik 0)) 2, q 3 (.assign (.const (.bool false))) 4] false) (.seq (.region 1 #[q 9 (.move (.tmp 0)) 9, q 10 (cl 37 #[.tmp 9, .const (.string { data := #[115, 47] })] #[9, 9]) 67, q 8 (.move (.tmp 10)) 67, q 11 (.extract (.tmp 8) 0) 9, q 12 (.extract (.tmp 8) 1) 4, q 4 (.assign (.tmp 11)) 9, q 5 (.assign (.tmp 12)) 4] false) (.seq (.seq (.region 2 #[q 13 (.move (.tmp 5)) 4, q 14 (.unOp .not 4 (.tmp 13)) 4, q 15 (.move (.tmp 14)) 4, qg 16 (.move (.tmp 4)) 9 2 false, qg 17 (bi .len #[.tmp 16] #[9]) 3 2 false, qg 18 (.binOp .neq 3 (.tmp 17) (ik 10) 3) 4 2 false, q 19 (.pick (.tmp 15) (.const (.bool true)) (.tmp 18)) 4] false) (.cond (.tmp 19) (.seq (.region 3 #[q 2 (.assign (ik 0)) 2, q 3 (.assign (.const (.bool false))) 4] false) .ret) .skip)) (.seq (.region 4 #[q 20 (.move (.tmp 4)) 9, q 21 (.slice 9 (.tmp 20) none (some (ik 9)) none) 9, q 22 (cl 48 #[.tmp 21, .const (.string { data := #[48] })] #[9, 9]) 9, q 23 (.move (.tmp 4)) 9, q 24 (.slice 9 (.tmp 23) (some (ik 9)) none none) 9, q 25 (.binOp .add 9 (.tmp 22) (.tmp 24) 9) 9, q 4 (.assign (.tmp 25)) 9] false) (.seq (.region 5 #[q 27 (.move (.tmp 4)) 9, q 28 (cl 49 #[.tmp 27] #[9]) 86, q 26 (.move (.tmp 28)) 86, q 29 (.extract (.tmp 26) 0) 2, q 30 (.extract (.tmp 26) 1) 28, q 6 (.assign (.tmp 29)) 2, q 7 (.assign (.tmp 30)) 28] false) (.seq (.seq (.region 6 #[q 31 (.move (.tmp 7)) 28, q 32 (.binOp .neq 28 (.tmp 31) (ik 0) 28) 4, q 33 (.move (.tmp 32)) 4, qg 34 (.move (.tmp 6)) 2 2 false, qg 35 (cl 15 #[.tmp 34] #[2]) 9 2 false, qg 36 (.move (.tmp 0)) 9 2 false, qg 37 (.binOp .neq 9 (.tmp 35) (.tmp 36) 9) 4 2 false, q 38 (.pick (.tmp 33) (.const (.bool true)) (.tmp 37)) 4] false) (.cond (.tmp 38) (.seq (.region 7 #[q 2 (.assign (ik 0)) 2, q 3 (.assign (.const (.bool false))) 4] false) .ret) .skip)) (.seq (.region 8 #[q 39 (.move (.tmp 6)) 2, q 2 (.assign (.tmp 39)) 2, q 3 (.assign (.const (.bool true))) 4] false) .ret))))))
theorem s16 : Tryz.f16.body.map (slim cfg) = some g16 := by kernel_rfl
def g17 : Code :=
  .seq (.region 0 #[q 2 (.assign (.const (.string { data := #[] }))) 9] false) (.seq (.seq (.region 1 #[q 4 (.move (.tmp 0)) 2, q 5 (.binOp .lss 2 (.tmp 4) (ik 0) 2) 4, q 6 (.move (.tmp 5)) 4, qg 7 (.move (.tmp 0)) 2 2 false, qg 8 (.binOp .gtr 2 (.tmp 7) (ik 9999999999) 2) 4 2 false, q 9 (.pick (.tmp 6) (.const (.bool true)) (.tmp 8)) 4] false) (.cond (.tmp 9) (.seq (.region 2 #[q 2 (.assign (.const (.string { data := #[] }))) 9] false) .ret) .skip)) (.seq (.region 3 #[q 10 (.move (.tmp 0)) 2, q 11 (cl 50 #[.tmp 10] #[2]) 9, q 3 (.assign (.tmp 11)) 9] false) (.seq (.block 0 (.loop (.seq (.seq (.region 4 #[q 12 (.move (.tmp 3)) 9, q 13 (bi .len #[.tmp 12] #[9]) 3, q 14 (.binOp .lss 3 (.tmp 13) (ik 10) 3) 4] false) (.cond (.tmp 14) .skip (.exit 0))) (.block 1 (.region 5 #[q 15 (.move (.tmp 3)) 9, q 16 (.binOp .add 9 (.const (.string { data := #[48] })) (.tmp 15) 9) 9, q 3 (.assign (.tmp 16)) 9] false))))) (.seq (.region 6 #[q 17 (.move (.tmp 3)) 9, q 18 (.binOp .add 9 (.const (.string { data := #[115, 47] })) (.tmp 17) 9) 9, q 2 (.assign (.tmp 18)) 9] false) .ret))))
theorem s17 : Tryz.f17.body.map (slim cfg) = some g17 := by kernel_rfl
def g50 : Code :=
  .seq (.region 0 #[q 2 (.assign (.const (.string { data := #[] }))) 9] false) (.seq (.seq (.region 1 #[q 4 (.move (.tmp 0)) 2, q 5 (.binOp .geq 2 (.tmp 4) (ik 0) 2) 4, q 6 (.move (.tmp 5)) 4, qg 7 (.move (.tmp 0)) 2 2 true, qg 8 (.binOp .lss 2 (.tmp 7) (ik 10) 2) 4 2 true, q 9 (.pick (.tmp 6) (.tmp 8) (.const (.bool false))) 4] false) (.cond (.tmp 9) (.seq (.region 2 #[q 10 (.move (.tmp 0)) 2, q 11 (.binOp .add 2 (ik 48) (.tmp 10) 2) 2, q 12 (.convert 2 5 (.tmp 11)) 5, q 13 (.buildSlice 72 1 #[(0, .tmp 12)]) 72, q 14 (.convert 72 9 (.tmp 13)) 9, q 2 (.assign (.tmp 14)) 9] false) .ret) .skip)) (.seq (.region 3 #[q 15 (.move (.tmp 0)) 2, q 16 (.binOp .rem 2 (.tmp 15) (ik 10) 2) 2, q 3 (.assign (.tmp 16)) 2] false) (.seq (.seq (.region 4 #[q 17 (.move (.tmp 0)) 2, q 18 (.binOp .geq 2 (.tmp 17) (ik 0) 2) 4] false) (.cond (.tmp 18) (.seq (.region 5 #[q 19 (.move (.tmp 0)) 2, q 20 (.binOp .quo 2 (.tmp 19) (ik 10) 2) 2, q 21 (cl 50 #[.tmp 20] #[2]) 9, q 22 (.move (.tmp 3)) 2, q 23 (cl 50 #[.tmp 22] #[2]) 9, q 24 (.binOp .add 9 (.tmp 21) (.tmp 23) 9) 9, q 2 (.assign (.tmp 24)) 9] false) .ret) .skip)) (.seq (.seq (.region 6 #[q 25 (.move (.tmp 0)) 2, q 26 (.binOp .gtr 2 (.tmp 25) (ik (-10)) 2) 4] false) (.cond (.tmp 26) (.seq (.region 7 #[q 27 (.move (.tmp 0)) 2, q 28 (.unOp .neg 2 (.tmp 27)) 2, q 29 (cl 50 #[.tmp 28] #[2]) 9, q 30 (.binOp .add 9 (.const (.string { data := #[45] })) (.tmp 29) 9) 9, q 2 (.assign (.tmp 30)) 9] false) .ret) .skip)) (.seq (.region 8 #[q 31 (.move (.tmp 0)) 2, q 32 (.binOp .quo 2 (.tmp 31) (ik 10) 2) 2, q 33 (cl 50 #[.tmp 32] #[2]) 9, q 34 (.move (.tmp 3)) 2, q 35 (.unOp .neg 2 (.tmp 34)) 2, q 36 (cl 50 #[.tmp 35] #[2]) 9, q 37 (.binOp .add 9 (.tmp 33) (.tmp 36) 9) 9, q 2 (.assign (.tmp 37)) 9] false) .ret)))))
theorem s50 : Tryz.f50.body.map (slim cfg) = some g50 := by kernel_rfl
def g46 : Code :=
  .seq (.region 0 #[q 2 (.assign (.const (.string { data := #[] }))) 9] false) (.seq (.seq (.region 1 #[q 3 (.move (.tmp 0)) 2, q 4 (.binOp .lss 2 (.tmp 3) (ik 0) 2) 4] false) (.cond (.tmp 4) (.seq (.region 2 #[q 5 (.move (.tmp 0)) 2, q 6 (.convert 2 126 (.tmp 5)) 126, q 7 (.unOp .neg 126 (.tmp 6)) 126, q 8 (cl 76 #[.tmp 7, .const (.int .u64 10)] #[126, 126]) 9, q 9 (.binOp .add 9 (.const (.string { data := #[45] })) (.tmp 8) 9) 9, q 2 (.assign (.tmp 9)) 9] false) .ret) .skip)) (.seq (.region 3 #[q 10 (.move (.tmp 0)) 2, q 11 (.convert 2 126 (.tmp 10)) 126, q 12 (cl 76 #[.tmp 11, .const (.int .u64 10)] #[126, 126]) 9, q 2 (.assign (.tmp 12)) 9] false) .ret))
theorem s46 : Tryz.f46.body.map (slim cfg) = some g46 := by kernel_rfl
def g48 : Code :=
  .seq (.region 0 #[q 4 (.assign (.const (.string { data := #[] }))) 9] false) (.seq (.seq (.region 1 #[q 7 (.move (.tmp 0)) 9, q 8 (.binOp .eql 9 (.tmp 7) (.const (.string { data := #[] })) 9) 4, q 9 (.move (.tmp 8)) 4, qg 10 (.move (.tmp 1)) 9 2 false, qg 11 (.binOp .eql 9 (.tmp 10) (.const (.string { data := #[] })) 9) 4 2 false, q 12 (.pick (.tmp 9) (.const (.bool true)) (.tmp 11)) 4] false) (.cond (.tmp 12) (.seq (.region 2 #[q 13 (.move (.tmp 0)) 9, q 4 (.assign (.tmp 13)) 9] false) .ret) .skip)) (.seq (.seq (.region 3 #[q 14 (.move (.tmp 1)) 9, q 15 (bi .len #[.tmp 14] #[9]) 3, q 16 (.binOp .eql 3 (.tmp 15) (ik 1) 3) 4, q 17 (.move (.tmp 16)) 4, qg 18 (.move (.tmp 1)) 9 3 true, qg 19 (.index 9 (.tmp 18) (ik 0)) 5 3 true, qg 20 (.binOp .lss 5 (.tmp 19) (.const (.int .u8 128)) 5) 4 3 true, q 21 (.pick (.tmp 17) (.tmp 20) (.const (.bool false))) 4] false) (.cond (.tmp 21) (.seq (.region 4 #[q 22 (.move (.tmp 0)) 9, q 23 (.move (.tmp 1)) 9, q 24 (.index 9 (.tmp 23) (ik 0)) 5, q 25 (cl 81 #[.tmp 22, .tmp 24] #[9, 5]) 9, q 4 (.assign (.tmp 25)) 9] false) .ret) .skip)) (.seq (.seq (.region 5 #[q 27 (.move (.tmp 1)) 9, q 28 (cl 82 #[.tmp 27] #[9]) 134, q 26 (.move (.tmp 28)) 134, q 29 (.extract (.tmp 26) 0) 133, q 30 (.extract (.tmp 26) 1) 4, q 5 (.alloc 133) 0, qn (.store 133 (.tmp 5) (.tmp 29)) 0, q 6 (.assign (.tmp 30)) 4] false) (.seq (.region 6 #[q 31 (.move (.tmp 6)) 4] false) (.cond (.tmp 31) (.seq (.region 7 #[q 32 (.move (.tmp 0)) 9, q 33 (cl 83 #[.tmp 32, .tmp 5] #[9, 137]) 9, q 4 (.assign (.tmp 33)) 9] false) .ret) .skip))) (.seq (.region 8 #[q 34 (.move (.tmp 0)) 9, q 35 (.move (.tmp 1)) 9, q 36 (cl 84 #[.tmp 34, .tmp 35] #[9, 9]) 9, q 4 (.assign (.tmp 36)) 9] false) .ret))))
theorem s48 : Tryz.f48.body.map (slim cfg) = some g48 := by kernel_rfl
def g81 : Code :=
  .seq (.region 0 #[q 4 (.assign (.const (.string { data := #[] }))) 9] false) (.seq (.block 0 (.loop (.seq (.seq (.region 1 #[q 5 (.move (.tmp 0)) 9, q 6 (bi .len #[.tmp 5] #[9]) 3, q 7 (.binOp .gtr 3 (.tmp 6) (ik 0) 3) 4, q 8 (.move (.tmp 7)) 4, qg 9 (.move (.tmp 0)) 9 3 true, qg 10 (.index 9 (.tmp 9) (ik 0)) 5 3 true, qg 11 (.move (.tmp 1)) 5 3 true, qg 12 (.binOp .eql 5 (.tmp 10) (.tmp 11) 5) 4 3 true, q 13 (.pick (.tmp 8) (.tmp 12) (.const (.bool false))) 4] false) (.cond (.tmp 13) .skip (.exit 0))) (.block 1 (.region 2 #[q 14 (.move (.tmp 0)) 9, q 15 (.slice 9 (.tmp 14) (some (ik 1)) none none) 9, q 0 (.assign (.tmp 15)) 9] false))))) (.seq (.region 3 #[q 16 (.move (.tmp 0)) 9, q 4 (.assign (.tmp 16)) 9] false) .ret))
theorem s81 : Tryz.f81.body.map (slim cfg) = some g81 := by kernel_rfl
theorem rz0 : aCall cfg 120 0 47 [.str [48], .int .i64 0] [] = some (.str [], none) := by kernel_rfl
theorem rz1 : aCall cfg 120 0 47 [.str [48], .int .i64 1] [] = some (.str [48], none) := by kernel_rfl
theorem rz2 : aCall cfg 120 0 47 [.str [48], .int .i64 2] [] = some (.str [48, 48], none) := by kernel_rfl
theorem rz3 : aCall cfg 120 0 47 [.str [48], .int .i64 3] [] = some (.str [48, 48, 48], none) := by kernel_rfl
theorem rz4 : aCall cfg 120 0 47 [.str [48], .int .i64 4] [] = some (.str [48, 48, 48, 48], none) := by kernel_rfl
theorem rz5 : aCall cfg 120 0 47 [.str [48], .int .i64 5] [] = some (.str [48, 48, 48, 48, 48], none) := by kernel_rfl
theorem rz6 : aCall cfg 120 0 47 [.str [48], .int .i64 6] [] = some (.str [48, 48, 48, 48, 48, 48], none) := by kernel_rfl
theorem rz7 : aCall cfg 120 0 47 [.str [48], .int .i64 7] [] = some (.str [48, 48, 48, 48, 48, 48, 48], none) := by kernel_rfl
theorem rz8 : aCall cfg 120 0 47 [.str [48], .int .i64 8] [] = some (.str [48, 48, 48, 48, 48, 48, 48, 48], none) := by kernel_rfl
theorem rz9 : aCall cfg 120 0 47 [.str [48], .int .i64 9] [] = some (.str [48, 48, 48, 48, 48, 48, 48, 48, 48], none) := by kernel_rfl
theorem repZ_ok (n : Nat) (h : n < 10) (prot : Nat) (H : Heap) : aLim cfg prot 47 [.str [48], .int .i64 n] H = some (.str (List.replicate n 48), none) :=
  match n, h with
  | 0, _ => lim_shut (k := 120) (by kernel_rfl) (by kernel_rfl) rz0 prot H
  | 1, _ => lim_shut (k := 120) (by kernel_rfl) (by kernel_rfl) rz1 prot H
  | 2, _ => lim_shut (k := 120) (by kernel_rfl) (by kernel_rfl) rz2 prot H
  | 3, _ => lim_shut (k := 120) (by kernel_rfl) (by kernel_rfl) rz3 prot H
  | 4, _ => lim_shut (k := 120) (by kernel_rfl) (by kernel_rfl) rz4 prot H
  | 5, _ => lim_shut (k := 120) (by kernel_rfl) (by kernel_rfl) rz5 prot H
  | 6, _ => lim_shut (k := 120) (by kernel_rfl) (by kernel_rfl) rz6 prot H
  | 7, _ => lim_shut (k := 120) (by kernel_rfl) (by kernel_rfl) rz7 prot H
  | 8, _ => lim_shut (k := 120) (by kernel_rfl) (by kernel_rfl) rz8 prot H
  | 9, _ => lim_shut (k := 120) (by kernel_rfl) (by kernel_rfl) rz9 prot H
theorem litI (c : Int) (H : Heap) : aBuildSlice Tryz.prog H 72 1 [(0, .int .u8 c)] = some (.vs [.int .u8 c] true, none) := by
  simp [aBuildSlice, se72, sz5, by5, ag5, ze5, AV.cells, fillA, zrep, splice, litOk, AV.scal, AV.plL, AV.pl, chunk, AV.leaf]
theorem cvI (n : Nat) (h : n < 10) (K : Heap) : aConvert Tryz.prog K 72 9 (.vs [.int .u8 ((48 + n : Nat) : Int)] true) = some (.str [UInt8.ofNat (48 + n)], none) := by
  have h1 : (48 : Int) + (n : Int) < 256 := by omega
  have h2 : (0 : Int) ≤ 48 + (n : Int) := by omega
  have h3 : (48 + (n : Int)).toNat = 48 + n := by omega
  simp [aConvert, Tryz.underlying72, Tryz.underlying9, Tryz.underlying5, elemCells, bytesOk, bytesOf, AV.cells, h1, h2, h3]

theorem rprint1_ok (n : Nat) (h : n < 10) (prot : Nat) (H : Heap) (hp : prot ≤ H.length) : aLim cfg prot 50 [.int .i64 n] H = some (.str [UInt8.ofNat (48 + n)], none) := by
  have hsnap : snap H [.int .i64 n] = some ([.int .i64 n], false) := rfl
  have c0 : decide ((0 : Int) ≤ (n : Int)) = true := decide_eq_true (by omega)
  have c0' : decide ((n : Int) ≥ 0) = true := decide_eq_true (by omega)
  have c1 : decide ((n : Int) < 10) = true := decide_eq_true (by omega)
  have w1 : IntKind.i64.wrap (48 + (n : Int)) = ((48 + n : Nat) : Int) := by rw [wrap64 (by omega) (by omega)]; simp
  have w2 : IntKind.u8.wrap ((48 + n : Nat) : Int) = ((48 + n : Nat) : Int) := by simp [IntKind.wrap, IntKind.bits, IntKind.signed]; omega
  have q1 := litI ((48 + n : Nat) : Int)
  have q2 := cvI n h
  generalize UInt8.ofNat (48 + n) = ch at *
  generalize ((48 + n : Nat) : Int) = v at *
  refine pure_slim rfl (by kernel_rfl) Tryz.func50 s50 hp hsnap (by simp [Tryz.f50]) fun fr hlen h => ?_
  simp only [Has, Nat.zero_add] at h
  obtain ⟨a0, -⟩ := h
  simp only [Tryz.f50] at hlen ⊢
  unfold g50
  simp only [wk, aBuiltin, AV.cells, AV.leaf, Nat.reduceEqDiff, Nat.reduceLT, Nat.reduceAdd, Nat.reduceLeDiff, reduceCtorEq, Nat.reduceMul, Nat.reduceMod, cfgP, u15, hlen, a0, c0, c0', c1, w1, w2, q1, q2, none_beq]
  exact Fin_pure (l := [.str [ch]]) (by simp [wk, aBuiltin, AV.cells, AV.leaf, Nat.reduceEqDiff, Nat.reduceLT, Nat.reduceAdd, Nat.reduceLeDiff, reduceCtorEq, Nat.reduceMul, Nat.reduceMod, cfgP, u15, aResults, aResult, hlen]) (.still rfl) (by simp)

theorem nprint_ok (v : Nat) (hv : v < 9223372036854775808) (prot : Nat) (H : Heap) (hp : prot ≤ H.length) : aLim cfg prot 46 [.int .i64 v] H = some (.str (digB 10 v), none) := by
  have hsnap : snap H [.int .i64 v] = some ([.int .i64 v], false) := rfl
  have n1 : aLim cfg H.length 76 [.int .u64 v, .int .u64 10] H = some (.str (digB 10 v), none) := based_ok 10 v (by omega) (by omega) (by omega) H.length H (Nat.le_refl _)
  have c1 : decide ((v : Int) < 0) = false := decide_eq_false (by omega)
  have c2 : IntKind.u64.wrap (v : Int) = v := wrapu64 (by omega) (by omega)
  refine pure_slim rfl (by kernel_rfl) Tryz.func46 s46 hp hsnap (by simp [Tryz.f46]) fun fr hlen h => ?_
  simp only [Has, Nat.zero_add] at h
  obtain ⟨a0, -⟩ := h
  simp only [Tryz.f46] at hlen ⊢
  unfold g46
  simp only [wk, aBuiltin, AV.cells, AV.leaf, Nat.reduceEqDiff, Nat.reduceLT, Nat.reduceAdd, Nat.reduceLeDiff, reduceCtorEq, Nat.reduceMul, Nat.reduceMod, cfgP, u15, hlen, a0, c1, c2, n1]
  exact Fin_pure (l := [.str (digB 10 v)]) (by simp [wk, aBuiltin, AV.cells, AV.leaf, Nat.reduceEqDiff, Nat.reduceLT, Nat.reduceAdd, Nat.reduceLeDiff, reduceCtorEq, Nat.reduceMul, Nat.reduceMod, cfgP, u15, aResults, aResult, hlen]) (.still rfl) (by simp)

theorem skey_ok (id : Int) (prot : Nat) (H : Heap) (hp : prot ≤ H.length) : aLim cfg prot 15 [.int .i64 id] H = some (.str (keyS id), none) := by
  have hsnap : snap H [.int .i64 id] = some ([.int .i64 id], false) := rfl
  by_cases h0 : id < 0
  · have c0 : decide (id < 0) = true := decide_eq_true h0
    rw [show keyS id = [] by unfold keyS; rw [if_pos (.inl h0)]]
    refine pure_slim rfl (by kernel_rfl) Tryz.func15 s15 hp hsnap (by simp [Tryz.f15]) fun fr hlen h => ?_
    simp only [Has, Nat.zero_add] at h
    obtain ⟨a0, -⟩ := h
    simp only [Tryz.f15] at hlen ⊢
    unfold g15
    simp only [wk, aBuiltin, AV.cells, AV.leaf, Nat.reduceEqDiff, Nat.reduceLT, Nat.reduceAdd, Nat.reduceLeDiff, reduceCtorEq, Nat.reduceMul, Nat.reduceMod, cfgP, u15, hlen, a0, c0, none_beq]
    exact Fin_pure (l := [.str []]) (by simp [wk, aBuiltin, AV.cells, AV.leaf, Nat.reduceEqDiff, Nat.reduceLT, Nat.reduceAdd, Nat.reduceLeDiff, reduceCtorEq, Nat.reduceMul, Nat.reduceMod, cfgP, u15, aResults, aResult, hlen]) (.still rfl) (by simp)
  · have c0 : decide (id < 0) = false := decide_eq_false h0
    by_cases h1 : 9999999999 < id
    · have c1 : decide (9999999999 < id) = true := decide_eq_true h1
      rw [show keyS id = [] by unfold keyS; rw [if_pos (.inr h1)]]
      refine pure_slim rfl (by kernel_rfl) Tryz.func15 s15 hp hsnap (by simp [Tryz.f15]) fun fr hlen h => ?_
      simp only [Has, Nat.zero_add] at h
      obtain ⟨a0, -⟩ := h
      simp only [Tryz.f15] at hlen ⊢
      unfold g15
      simp only [wk, aBuiltin, AV.cells, AV.leaf, Nat.reduceEqDiff, Nat.reduceLT, Nat.reduceAdd, Nat.reduceLeDiff, reduceCtorEq, Nat.reduceMul, Nat.reduceMod, cfgP, u15, hlen, a0, c0, c1, none_beq]
      exact Fin_pure (l := [.str []]) (by simp [wk, aBuiltin, AV.cells, AV.leaf, Nat.reduceEqDiff, Nat.reduceLT, Nat.reduceAdd, Nat.reduceLeDiff, reduceCtorEq, Nat.reduceMul, Nat.reduceMod, cfgP, u15, aResults, aResult, hlen]) (.still rfl) (by simp)
    · have c1 : decide (9999999999 < id) = false := decide_eq_false h1
      obtain ⟨v, rfl⟩ : ∃ v : Nat, id = v := ⟨id.toNat, by omega⟩
      have nv := nprint_ok v (by omega) H.length H (Nat.le_refl _)
      have hl := digB_dlen 10 v (by omega) (by omega)
      have hl0 : 0 < (digB 10 v).length := List.length_pos_iff.2 (digB_ne v)
      rw [show keyS (v : Int) = 115 :: 47 :: (List.replicate (10 - (digB 10 v).length) 48 ++ digB 10 v) by unfold keyS; rw [if_neg (by omega)]; rfl]
      generalize digB 10 v = D at *
      have hr := repZ_ok (10 - D.length) (by omega) H.length H
      have w1 : IntKind.i64.wrap (10 - (D.length : Int)) = ((10 - D.length : Nat) : Int) := by rw [wrap64 (by omega) (by omega)]; omega
      have hrl : (List.replicate (10 - D.length) (48 : UInt8)).length = 10 - D.length := List.length_replicate
      have hk10 : 10 - D.length ≤ 10 := by omega
      generalize 10 - D.length = k at *
      generalize List.replicate k (48 : UInt8) = R at *
      have e1 : aStr .add [115, 47] R = some (.str (115 :: 47 :: R)) := str_add (s := [115, 47]) (by simp; omega)
      have e2 : aStr .add (115 :: 47 :: R) D = some (.str (115 :: 47 :: (R ++ D))) := str_add (s := 115 :: 47 :: R) (by simp; omega)
      refine pure_slim rfl (by kernel_rfl) Tryz.func15 s15 hp hsnap (by simp [Tryz.f15]) fun fr hlen h => ?_
      simp only [Has, Nat.zero_add] at h
      obtain ⟨a0, -⟩ := h
      simp only [Tryz.f15] at hlen ⊢
      unfold g15
      simp only [wk, aBuiltin, AV.cells, AV.leaf, Nat.reduceEqDiff, Nat.reduceLT, Nat.reduceAdd, Nat.reduceLeDiff, reduceCtorEq, Nat.reduceMul, Nat.reduceMod, cfgP, u15, hlen, a0, c0, c1, nv, slen, w1, hr, e1, e2, none_beq]
      exact Fin_pure (l := [.str (115 :: 47 :: (R ++ D))]) (by simp [wk, aBuiltin, AV.cells, AV.leaf, Nat.reduceEqDiff, Nat.reduceLT, Nat.reduceAdd, Nat.reduceLeDiff, reduceCtorEq, Nat.reduceMul, Nat.reduceMod, cfgP, u15, aResults, aResult, hlen]) (.still rfl) (by simp)

theorem rprint_ok (v : Nat) : v < 9223372036854775808 → ∀ (prot : Nat) (H : Heap), prot ≤ H.length → aLim cfg prot 50 [.int .i64 v] H = some (.str (digB 10 v), none) := by
  induction v using Nat.strongRecOn with
  | _ v ih =>
  intro hv prot H hp
  by_cases hlt : v < 10
  · rw [digB_dec, if_pos hlt]; exact rprint1_ok v hlt prot H hp
  · have hsnap : snap H [.int .i64 v] = some ([.int .i64 v], false) := rfl
    have q1 : ∀ xo yo, aBin Tryz.prog .rem 2 xo yo (.int .i64 v) (.int .i64 10) = some (.int .i64 ((v % 10 : Nat))) := fun xo yo => bin_rem_nat (b := 10) (by omega)
    have q2 : ∀ xo yo, aBin Tryz.prog .quo 2 xo yo (.int .i64 v) (.int .i64 10) = some (.int .i64 ((v / 10 : Nat))) := fun xo yo => by
      rw [show (10 : Int) = ((10 : Nat) : Int) from rfl, bin_quo_nat (by omega), wrap64 (by omega) (by omega)]
    have c0 : decide ((0 : Int) ≤ (v : Int)) = true := decide_eq_true (by omega)
    have c0' : decide ((v : Int) ≥ 0) = true := decide_eq_true (by omega)
    have c1 : decide ((v : Int) < 10) = false := decide_eq_false (by omega)
    have n1 := ih (v / 10) (by omega) (by omega) H.length H (Nat.le_refl _)
    have n2 := rprint1_ok (v % 10) (by omega) H.length H (Nat.le_refl _)
    have l1 := digB_len 10 64 (v / 10) (by omega)
    have e : digB 10 v = digB 10 (v / 10) ++ [UInt8.ofNat (48 + v % 10)] := by rw [digB_dec, if_neg hlt]
    rw [e]
    have q5 := str_add (s := digB 10 (v / 10)) (u := [UInt8.ofNat (48 + v % 10)]) (by simp only [List.length_cons, List.length_nil]; omega)
    generalize UInt8.ofNat (48 + v % 10) = ch at *
    refine pure_slim rfl (by kernel_rfl) Tryz.func50 s50 hp hsnap (by simp [Tryz.f50]) fun fr hlen h => ?_
    simp only [Has, Nat.zero_add] at h
    obtain ⟨a0, -⟩ := h
    simp only [Tryz.f50] at hlen ⊢
    unfold g50
    simp only [wk, aBuiltin, AV.cells, AV.leaf, Nat.reduceEqDiff, Nat.reduceLT, Nat.reduceAdd, Nat.reduceLeDiff, reduceCtorEq, Nat.reduceMul, Nat.reduceMod, cfgP, u15, hlen, a0, c0, c0', c1, q1, q2, n1, n2, q5, none_beq]
    exact Fin_pure (l := [.str (digB 10 (v / 10) ++ [ch])]) (by simp [wk, aBuiltin, AV.cells, AV.leaf, Nat.reduceEqDiff, Nat.reduceLT, Nat.reduceAdd, Nat.reduceLeDiff, reduceCtorEq, Nat.reduceMul, Nat.reduceMod, cfgP, u15, aResults, aResult, hlen]) (.still rfl) (by simp)

theorem rskey_ok (id : Int) (prot : Nat) (H : Heap) (hp : prot ≤ H.length) : aLim cfg prot 17 [.int .i64 id] H = some (.str (keyS id), none) := by
  have hsnap : snap H [.int .i64 id] = some ([.int .i64 id], false) := rfl
  by_cases h0 : id < 0
  · have c0 : decide (id < 0) = true := decide_eq_true h0
    rw [show keyS id = [] by unfold keyS; rw [if_pos (.inl h0)]]
    refine pure_slim rfl (by kernel_rfl) Tryz.func17 s17 hp hsnap (by simp [Tryz.f17]) fun fr hlen h => ?_
    simp only [Has, Nat.zero_add] at h
    obtain ⟨a0, -⟩ := h
    simp only [Tryz.f17] at hlen ⊢
    unfold g17
    simp only [wk, aBuiltin, AV.cells, AV.leaf, Nat.reduceEqDiff, Nat.reduceLT, Nat.reduceAdd, Nat.reduceLeDiff, reduceCtorEq, Nat.reduceMul, Nat.reduceMod, cfgP, u15, hlen, a0, c0, none_beq]
    exact Fin_pure (l := [.str []]) (by simp [wk, aBuiltin, AV.cells, AV.leaf, Nat.reduceEqDiff, Nat.reduceLT, Nat.reduceAdd, Nat.reduceLeDiff, reduceCtorEq, Nat.reduceMul, Nat.reduceMod, cfgP, u15, aResults, aResult, hlen]) (.still rfl) (by simp)
  · have c0 : decide (id < 0) = false := decide_eq_false h0
    by_cases h1 : 9999999999 < id
    · have c1 : decide (9999999999 < id) = true := decide_eq_true h1
      rw [show keyS id = [] by unfold keyS; rw [if_pos (.inr h1)]]
      refine pure_slim rfl (by kernel_rfl) Tryz.func17 s17 hp hsnap (by simp [Tryz.f17]) fun fr hlen h => ?_
      simp only [Has, Nat.zero_add] at h
      obtain ⟨a0, -⟩ := h
      simp only [Tryz.f17] at hlen ⊢
      unfold g17
      simp only [wk, aBuiltin, AV.cells, AV.leaf, Nat.reduceEqDiff, Nat.reduceLT, Nat.reduceAdd, Nat.reduceLeDiff, reduceCtorEq, Nat.reduceMul, Nat.reduceMod, cfgP, u15, hlen, a0, c0, c1, none_beq]
      exact Fin_pure (l := [.str []]) (by simp [wk, aBuiltin, AV.cells, AV.leaf, Nat.reduceEqDiff, Nat.reduceLT, Nat.reduceAdd, Nat.reduceLeDiff, reduceCtorEq, Nat.reduceMul, Nat.reduceMod, cfgP, u15, aResults, aResult, hlen]) (.still rfl) (by simp)
    · have c1 : decide (9999999999 < id) = false := decide_eq_false h1
      obtain ⟨v, rfl⟩ : ∃ v : Nat, id = v := ⟨id.toNat, by omega⟩
      have nv := rprint_ok v (by omega) H.length H (Nat.le_refl _)
      have hl := digB_dlen 10 v (by omega) (by omega)
      rw [show keyS (v : Int) = 115 :: 47 :: (List.replicate (10 - (digB 10 v).length) 48 ++ digB 10 v) by unfold keyS; rw [if_neg (by omega)]; rfl]
      generalize digB 10 v = D at *
      refine pure_slim rfl (by kernel_rfl) Tryz.func17 s17 hp hsnap (by simp [Tryz.f17]) fun fr hlen h => ?_
      simp only [Has, Nat.zero_add] at h
      obtain ⟨a0, -⟩ := h
      simp only [Tryz.f17] at hlen ⊢
      unfold g17
      simp only [wk, aBuiltin, AV.cells, AV.leaf, Nat.reduceEqDiff, Nat.reduceLT, Nat.reduceAdd, Nat.reduceLeDiff, reduceCtorEq, Nat.reduceMul, Nat.reduceMod, cfgP, u15, hlen, a0, c0, c1, nv, none_beq]
      refine loop_rule (fun m fr H' => ∃ (k : Nat), m = 10 - (k + D.length) ∧ k + D.length ≤ 10 ∧ fr.length = 19 ∧ fget fr 3 = .str (List.replicate k 48 ++ D)) ?_ (10 - D.length) _ _ ⟨0, by simp [wk, aBuiltin, AV.cells, AV.leaf, Nat.reduceEqDiff, Nat.reduceLT, Nat.reduceAdd, Nat.reduceLeDiff, reduceCtorEq, Nat.reduceMul, Nat.reduceMod, cfgP, u15, hlen, a0]; omega⟩
      rintro m fr K ⟨k, rfl, hk, hlen, a3⟩ ih
      have hkl : (List.replicate k (48 : UInt8) ++ D).length = k + D.length := by simp
      have e1 : aStr .add [48] (List.replicate k 48 ++ D) = some (.str (List.replicate (k + 1) 48 ++ D)) := by rw [str_add (by simp; omega)]; rfl
      by_cases hlt : k + D.length < 10
      · have c2 : decide (((List.replicate k (48 : UInt8) ++ D).length : Int) < 10) = true := decide_eq_true (by omega)
        generalize hS : List.replicate k (48 : UInt8) ++ D = S at *
        generalize hS1 : List.replicate (k + 1) (48 : UInt8) ++ D = S1 at *
        simp only [wk, aBuiltin, AV.cells, AV.leaf, Nat.reduceEqDiff, Nat.reduceLT, Nat.reduceAdd, Nat.reduceLeDiff, reduceCtorEq, Nat.reduceMul, Nat.reduceMod, cfgP, u15, hlen, a3, slen, c2, e1]
        refine ih _ _ (10 - (k + 1 + D.length)) (by omega) ⟨k + 1, rfl, by omega, ?_⟩
        rw [hS1]
        simp [wk, aBuiltin, AV.cells, AV.leaf, Nat.reduceEqDiff, Nat.reduceLT, Nat.reduceAdd, Nat.reduceLeDiff, reduceCtorEq, Nat.reduceMul, Nat.reduceMod, cfgP, u15, hlen, a3]
      · have c2 : decide (((List.replicate k (48 : UInt8) ++ D).length : Int) < 10) = false := decide_eq_false (by omega)
        have ek : k = 10 - D.length := by omega
        rw [← ek]
        generalize hS : List.replicate k (48 : UInt8) ++ D = S at *
        have e2 : aStr .add [115, 47] S = some (.str (115 :: 47 :: S)) := str_add (s := [115, 47]) (by simp; omega)
        simp only [wk, aBuiltin, AV.cells, AV.leaf, Nat.reduceEqDiff, Nat.reduceLT, Nat.reduceAdd, Nat.reduceLeDiff, reduceCtorEq, Nat.reduceMul, Nat.reduceMod, cfgP, u15, hlen, a3, slen, c2, e2]
        exact Fin_pure (l := [.str (115 :: 47 :: S)]) (by simp [wk, aBuiltin, AV.cells, AV.leaf, Nat.reduceEqDiff, Nat.reduceLT, Nat.reduceAdd, Nat.reduceLeDiff, reduceCtorEq, Nat.reduceMul, Nat.reduceMod, cfgP, u15, aResults, aResult, hlen]) (.still rfl) (by simp)

theorem trimB_ok (s : List UInt8) (prot : Nat) (H : Heap) (hp : prot ≤ H.length) : aLim cfg prot 81 [.str s, .int .u8 48] H = some (.str (stripZ s), none) := by
  have hsnap : snap H [.str s, .int .u8 48] = some ([.str s, .int .u8 48], false) := rfl
  refine pure_slim rfl (by kernel_rfl) Tryz.func81 s81 hp hsnap (by simp [Tryz.f81]) fun fr hlen h => ?_
  simp only [Has, Nat.zero_add] at h
  obtain ⟨a0, a1, -⟩ := h
  simp only [Tryz.f81] at hlen ⊢
  unfold g81
  simp only [wk, aBuiltin, AV.cells, AV.leaf, Nat.reduceEqDiff, Nat.reduceLT, Nat.reduceAdd, Nat.reduceLeDiff, reduceCtorEq, Nat.reduceMul, Nat.reduceMod, cfgP, u15, hlen, a0, a1]
  refine loop_rule (fun m fr H' => ∃ (u : List UInt8), m = u.length ∧ fr.length = 17 ∧ fget fr 0 = .str u ∧ fget fr 1 = .int .u8 48 ∧ stripZ s = stripZ u) ?_ s.length _ _ ⟨s, by simp [wk, aBuiltin, AV.cells, AV.leaf, Nat.reduceEqDiff, Nat.reduceLT, Nat.reduceAdd, Nat.reduceLeDiff, reduceCtorEq, Nat.reduceMul, Nat.reduceMod, cfgP, u15, hlen, a0, a1]⟩
  rintro m fr K ⟨u, rfl, hlen, a0, a1, hs⟩ ih
  cases u with
  | nil =>
    rw [hs, show stripZ [] = [] from rfl]
    have c1 : decide ((0 : Int) < ((0 : Nat) : Int)) = false := rfl
    simp only [wk, aBuiltin, AV.cells, AV.leaf, Nat.reduceEqDiff, Nat.reduceLT, Nat.reduceAdd, Nat.reduceLeDiff, reduceCtorEq, Nat.reduceMul, Nat.reduceMod, cfgP, u15, hlen, a0, a1, slen, c1, none_beq]
    exact Fin_pure (l := [.str []]) (by simp [wk, aBuiltin, AV.cells, AV.leaf, Nat.reduceEqDiff, Nat.reduceLT, Nat.reduceAdd, Nat.reduceLeDiff, reduceCtorEq, Nat.reduceMul, Nat.reduceMod, cfgP, u15, aResults, aResult, hlen]) (.still rfl) (by simp)
  | cons c r =>
    have c1 : decide ((0 : Int) < ((c :: r).length : Nat)) = true := decide_eq_true (by simp only [List.length_cons]; omega)
    have e0 : aIndex Tryz.prog 9 (.str (c :: r)) (.int .i64 0) = some (.int .u8 c.toNat) := str_at (k := .i64) Tryz.underlying9 (c :: r) (i := 0) (by simp)
    have e1 : aSlice Tryz.prog 9 (.str (c :: r)) (some (.int .i64 1)) none none = some (.str r) := str_from (k := .i64) Tryz.underlying9 (c :: r) (a := 1) (by simp)
    have hs2 : stripZ (c :: r) = if c = 48 then stripZ r else c :: r := rfl
    have hlr : r.length < (c :: r).length := by simp
    generalize hu : c :: r = u at *
    by_cases h : c = 48
    · have c2 : decide ((c.toNat : Int) = 48) = true := decide_eq_true (by rw [h]; rfl)
      rw [if_pos h] at hs2
      simp only [wk, aBuiltin, AV.cells, AV.leaf, Nat.reduceEqDiff, Nat.reduceLT, Nat.reduceAdd, Nat.reduceLeDiff, reduceCtorEq, Nat.reduceMul, Nat.reduceMod, cfgP, u15, hlen, a0, a1, slen, c1, e0, c2, e1, none_beq]
      refine ih _ _ r.length hlr ⟨r, rfl, ?_⟩
      simp [wk, aBuiltin, AV.cells, AV.leaf, Nat.reduceEqDiff, Nat.reduceLT, Nat.reduceAdd, Nat.reduceLeDiff, reduceCtorEq, Nat.reduceMul, Nat.reduceMod, cfgP, u15, hlen, a0, a1]
      rw [hs, hs2]
    · have c2 : decide ((c.toNat : Int) = 48) = false := decide_eq_false (fun e => h (UInt8.toNat_inj.1 (by have : (48 : UInt8).toNat = 48 := rfl; omega)))
      rw [if_neg h] at hs2
      rw [hs, hs2]
      simp only [wk, aBuiltin, AV.cells, AV.leaf, Nat.reduceEqDiff, Nat.reduceLT, Nat.reduceAdd, Nat.reduceLeDiff, reduceCtorEq, Nat.reduceMul, Nat.reduceMod, cfgP, u15, hlen, a0, a1, slen, c1, e0, c2, none_beq]
      exact Fin_pure (l := [.str u]) (by simp [wk, aBuiltin, AV.cells, AV.leaf, Nat.reduceEqDiff, Nat.reduceLT, Nat.reduceAdd, Nat.reduceLeDiff, reduceCtorEq, Nat.reduceMul, Nat.reduceMod, cfgP, u15, aResults, aResult, hlen]) (.still rfl) (by simp)

theorem trimL_ok (s : List UInt8) (prot : Nat) (H : Heap) (hp : prot ≤ H.length) : aLim cfg prot 48 [.str s, .str [48]] H = some (.str (stripZ s), none) := by
  have hsnap : snap H [.str s, .str [48]] = some ([.str s, .str [48]], false) := rfl
  have n1 := trimB_ok s H.length H (Nat.le_refl _)
  have b1 : ([48] == ([] : List UInt8)) = false := rfl
  have e0 : aIndex Tryz.prog 9 (.str [48]) (.int .i64 0) = some (.int .u8 48) := str_at (k := .i64) Tryz.underlying9 [48] (i := 0) (by simp)
  by_cases h : s = []
  · have b0 : (s == []) = true := by rw [h]; rfl
    have hz : stripZ s = s := by rw [h]; rfl
    rw [hz]
    refine pure_slim rfl (by kernel_rfl) Tryz.func48 s48 hp hsnap (by simp [Tryz.f48]) fun fr hlen h => ?_
    simp only [Has, Nat.zero_add] at h
    obtain ⟨a0, a1, -⟩ := h
    simp only [Tryz.f48] at hlen ⊢
    unfold g48
    simp only [wk, aBuiltin, AV.cells, AV.leaf, Nat.reduceEqDiff, Nat.reduceLT, Nat.reduceAdd, Nat.reduceLeDiff, reduceCtorEq, Nat.reduceMul, Nat.reduceMod, cfgP, u15, hlen, a0, a1, str_eql, b0, none_beq]
    exact Fin_pure (l := [.str s]) (by simp [wk, aBuiltin, AV.cells, AV.leaf, Nat.reduceEqDiff, Nat.reduceLT, Nat.reduceAdd, Nat.reduceLeDiff, reduceCtorEq, Nat.reduceMul, Nat.reduceMod, cfgP, u15, aResults, aResult, hlen]) (.still rfl) (by simp)
  · have b0 : (s == []) = false := by simpa using h
    refine pure_slim rfl (by kernel_rfl) Tryz.func48 s48 hp hsnap (by simp [Tryz.f48]) fun fr hlen h => ?_
    simp only [Has, Nat.zero_add] at h
    obtain ⟨a0, a1, -⟩ := h
    simp only [Tryz.f48] at hlen ⊢
    unfold g48
    have c1 : decide (((1 : Nat) : Int) = 1) = true := rfl
    have c2 : decide ((48 : Int) < 128) = true := rfl
    simp only [wk, aBuiltin, AV.cells, AV.leaf, Nat.reduceEqDiff, Nat.reduceLT, Nat.reduceAdd, Nat.reduceLeDiff, reduceCtorEq, Nat.reduceMul, Nat.reduceMod, cfgP, u15, hlen, a0, a1, str_eql, b0, b1, slen, c1, c2, e0, n1, none_beq]
    exact Fin_pure (l := [.str (stripZ s)]) (by simp [wk, aBuiltin, AV.cells, AV.leaf, Nat.reduceEqDiff, Nat.reduceLT, Nat.reduceAdd, Nat.reduceLeDiff, reduceCtorEq, Nat.reduceMul, Nat.reduceMod, cfgP, u15, aResults, aResult, hlen]) (.still rfl) (by simp)
end Go.Proofs.YtnipaiklandliaaGreatDoor
/- Chapter 6's example. -/
namespace Go.Proofs.YtnipaiklandliaaGreatDoor
open Go Go.Abs AbsSeat Ty
theorem awake23_run : aCall cfg 4000 0 18 [] [] = some (.bool true, none) := by kernel_rfl
theorem awake23_ok (prot : Nat) (H : Heap) : aLim cfg prot 18 [] H = some (.bool true, none) :=
  lim_shut (k := 4000) (by kernel_rfl) (by kernel_rfl) awake23_run prot H
end Go.Proofs.YtnipaiklandliaaGreatDoor
/- The law SilenceKeys, walked. -/
set_option maxRecDepth 100000
namespace Go.Proofs.YtnipaiklandliaaGreatDoor
open Go Go.Abs AbsSeat Ty

theorem u4 : type_of% (And.intro ag2 (And.intro sz2 (And.intro by2 (And.intro ze2 (And.intro Tryz.underlying2 (And.intro ag4 (And.intro sz4 (And.intro by4 (And.intro ze4 (And.intro Tryz.underlying4 (And.intro ag9 (And.intro sz9 (And.intro by9 (And.intro ze9 Tryz.underlying9)))))))))))))) := And.intro ag2 (And.intro sz2 (And.intro by2 (And.intro ze2 (And.intro Tryz.underlying2 (And.intro ag4 (And.intro sz4 (And.intro by4 (And.intro ze4 (And.intro Tryz.underlying4 (And.intro ag9 (And.intro sz9 (And.intro by9 (And.intro ze9 Tryz.underlying9)))))))))))))
def g4 : Code :=
  .seq (.region 0 #[q 4 (.assign (.const (.bool false))) 4] false) (.seq (.region 1 #[q 10 (.move (.tmp 0)) 2, q 11 (cl 15 #[.tmp 10] #[2]) 9, q 5 (.assign (.tmp 11)) 9] false) (.seq (.region 2 #[q 13 (.move (.tmp 5)) 9, q 14 (cl 16 #[.tmp 13] #[9]) 38, q 12 (.move (.tmp 14)) 38, q 15 (.extract (.tmp 12) 0) 2, q 16 (.extract (.tmp 12) 1) 4, q 6 (.assign (.tmp 15)) 2, q 7 (.assign (.tmp 16)) 4] false) (.seq (.seq (.region 3 #[q 17 (.move (.tmp 5)) 9, q 18 (.move (.tmp 0)) 2, q 19 (cl 17 #[.tmp 18] #[2]) 9, q 20 (.binOp .neq 9 (.tmp 17) (.tmp 19) 9) 4, q 21 (.move (.tmp 20)) 4, qg 22 (.move (.tmp 7)) 4 4 false, qg 23 (.move (.tmp 5)) 9 4 false, qg 24 (.binOp .neq 9 (.tmp 23) (.const (.string { data := #[] })) 9) 4 4 false, qg 25 (.binOp .neq 4 (.tmp 22) (.tmp 24) 4) 4 4 false, q 26 (.pick (.tmp 21) (.const (.bool true)) (.tmp 25)) 4, q 27 (.move (.tmp 26)) 4, qg 28 (.move (.tmp 7)) 4 10 false, qg 29 (.move (.tmp 28)) 4 10 false, qg 30 (.move (.tmp 6)) 2 12 true, qg 31 (.move (.tmp 0)) 2 12 true, qg 32 (.binOp .neq 2 (.tmp 30) (.tmp 31) 2) 4 12 true, qg 33 (.pick (.tmp 29) (.tmp 32) (.const (.bool false))) 4 10 false, q 34 (.pick (.tmp 27) (.const (.bool true)) (.tmp 33)) 4] false) (.cond (.tmp 34) (.seq (.region 4 #[q 4 (.assign (.const (.bool false))) 4] false) .ret) .skip)) (.seq (.region 5 #[q 36 (.move (.tmp 1)) 9, q 37 (cl 16 #[.tmp 36] #[9]) 38, q 35 (.move (.tmp 37)) 38, q 38 (.extract (.tmp 35) 0) 2, q 39 (.extract (.tmp 35) 1) 4, q 8 (.assign (.tmp 38)) 2, q 9 (.assign (.tmp 39)) 4] false) (.seq (.region 6 #[q 40 (.move (.tmp 9)) 4, q 41 (.move (.tmp 40)) 4, qg 42 (.move (.tmp 8)) 2 1 true, qg 43 (cl 17 #[.tmp 42] #[2]) 9 1 true, qg 44 (.move (.tmp 1)) 9 1 true, qg 45 (.binOp .eql 9 (.tmp 43) (.tmp 44) 9) 4 1 true, q 46 (.pick (.tmp 41) (.tmp 45) (.const (.bool false))) 4, q 47 (.move (.tmp 46)) 4, qg 48 (.move (.tmp 1)) 9 7 true, qg 49 (.binOp .neq 9 (.tmp 48) (.const (.string { data := #[] })) 9) 4 7 true, q 50 (.pick (.tmp 47) (.tmp 49) (.const (.bool false))) 4, q 51 (.move (.tmp 50)) 4, qg 52 (.move (.tmp 9)) 4 11 false, qg 53 (.unOp .not 4 (.tmp 52)) 4 11 false, qg 54 (.move (.tmp 53)) 4 11 false, qg 55 (.move (.tmp 8)) 2 14 true, qg 56 (.binOp .eql 2 (.tmp 55) (ik 0) 2) 4 14 true, qg 57 (.pick (.tmp 54) (.tmp 56) (.const (.bool false))) 4 11 false, q 58 (.pick (.tmp 51) (.const (.bool true)) (.tmp 57)) 4, q 59 (.move (.tmp 58)) 4, qg 60 (cl 18 #[] #[]) 4 19 true, q 61 (.pick (.tmp 59) (.tmp 60) (.const (.bool false))) 4, q 4 (.assign (.tmp 61)) 4] false) .ret)))))
theorem s4 : Tryz.f4.body.map (slim cfg) = some g4 := by kernel_rfl
theorem stripZ_len : ∀ s : List UInt8, (stripZ s).length ≤ s.length
  | [] => Nat.le_refl _
  | c :: r => by
    unfold stripZ
    have := stripZ_len r
    split <;> simp <;> omega

theorem sofKey_ok (key : List UInt8) (prot : Nat) (H : Heap) (hp : prot ≤ H.length) : aLim cfg prot 16 [.str key] H = some (.tup [.int .i64 (ofKeyS key).1, .bool (ofKeyS key).2], none) := by
  have hsnap : snap H [.str key] = some ([.str key], false) := rfl
  have n1 := cutPre_ok key [115, 47] H.length H (Nat.le_refl _)
  cases hb : hasPre key [115, 47] with
  | false =>
    rw [hb] at n1
    simp only [Bool.false_eq_true, if_false] at n1
    rw [show ofKeyS key = (0, false) by unfold ofKeyS; rw [if_neg (by rw [hb]; simp)]]
    refine pure_slim rfl (by kernel_rfl) Tryz.func16 s16 hp hsnap (by simp [Tryz.f16]) fun fr hlen h => ?_
    simp only [Has, Nat.zero_add] at h
    obtain ⟨a0, -⟩ := h
    simp only [Tryz.f16] at hlen ⊢
    unfold g16
    simp only [wk, aBuiltin, AV.cells, AV.leaf, Nat.reduceEqDiff, Nat.reduceLT, Nat.reduceAdd, Nat.reduceLeDiff, reduceCtorEq, Nat.reduceMul, Nat.reduceMod, cfgP, u15, hlen, a0, n1, none_beq]
    exact Fin_pure (l := [.int .i64 0, .bool false]) (by simp [wk, aBuiltin, AV.cells, AV.leaf, Nat.reduceEqDiff, Nat.reduceLT, Nat.reduceAdd, Nat.reduceLeDiff, reduceCtorEq, Nat.reduceMul, Nat.reduceMod, cfgP, u15, hlen, aResults, aResult]) (ff2 rfl rfl) (by simp)
  | true =>
    have n1 : aLim cfg H.length 37 [.str key, .str [115, 47]] H = some (.tup [.str (key.drop 2), .bool true], none) := by
      rw [n1, hb]; rfl
    by_cases h10 : (key.drop 2).length = 10
    · have hv : ofKeyS key = if (numS (stripZ ((key.drop 2).take 9) ++ (key.drop 2).drop 9)).2 = 0 ∧ keyS (numS (stripZ ((key.drop 2).take 9) ++ (key.drop 2).drop 9)).1 = key then ((numS (stripZ ((key.drop 2).take 9) ++ (key.drop 2).drop 9)).1, true) else (0, false) := by
        unfold ofKeyS; rw [if_pos ⟨hb, h10⟩]
      generalize key.drop 2 = u at *
      have c0 : decide (¬ (u.length : Int) = 10) = false := decide_eq_false (by omega)
      have e1 : aSlice Tryz.prog 9 (.str u) none (some (.int .i64 9)) none = some (.str (u.take 9)) := str_upto (k := .i64) Tryz.underlying9 u (b := 9) (by omega)
      have e2 : aSlice Tryz.prog 9 (.str u) (some (.int .i64 9)) none none = some (.str (u.drop 9)) := str_from (k := .i64) Tryz.underlying9 u (a := 9) (by omega)
      have l1 := stripZ_len (u.take 9)
      simp only [List.length_take] at l1
      have l2 : (u.drop 9).length = 1 := by simp; omega
      have n2 := trimL_ok (u.take 9) H.length H (Nat.le_refl _)
      have e3 := str_add (s := stripZ (u.take 9)) (u := u.drop 9) (by omega)
      have n3 := parse_ok (stripZ (u.take 9) ++ u.drop 9) (by rw [List.length_append]; omega) H.length H (Nat.le_refl _)
      generalize stripZ (u.take 9) ++ u.drop 9 = w at *
      generalize stripZ (u.take 9) = w1 at *
      generalize u.drop 9 = w2 at *
      generalize u.take 9 = w3 at *
      generalize numS w = q at *
      obtain ⟨n, e⟩ := q
      have n4 := skey_ok n H.length H (Nat.le_refl _)
      simp only at hv n3
      by_cases he : e = 0
      · have c1 : decide (¬ e = 0) = false := decide_eq_false (fun h => h he)
        by_cases hk : keyS n = key
        · rw [if_pos ⟨he, hk⟩] at hv
          rw [hv]
          have c2 : (keyS n == key) = true := by rw [hk]; simp
          generalize keyS n = kn at *
          refine pure_slim rfl (by kernel_rfl) Tryz.func16 s16 hp hsnap (by simp [Tryz.f16]) fun fr hlen h => ?_
          simp only [Has, Nat.zero_add] at h
          obtain ⟨a0, -⟩ := h
          simp only [Tryz.f16] at hlen ⊢
          unfold g16
          simp only [wk, aBuiltin, AV.cells, AV.leaf, Nat.reduceEqDiff, Nat.reduceLT, Nat.reduceAdd, Nat.reduceLeDiff, reduceCtorEq, Nat.reduceMul, Nat.reduceMod, cfgP, u15, hlen, a0, n1, slen, c0, e1, e2, n2, e3, n3, c1, n4, str_neq, c2, none_beq]
          exact Fin_pure (l := [.int .i64 n, .bool true]) (by simp [wk, aBuiltin, AV.cells, AV.leaf, Nat.reduceEqDiff, Nat.reduceLT, Nat.reduceAdd, Nat.reduceLeDiff, reduceCtorEq, Nat.reduceMul, Nat.reduceMod, cfgP, u15, hlen, aResults, aResult]) (ff2 rfl rfl) (by simp)
        · rw [if_neg (fun h => hk h.2)] at hv
          rw [hv]
          have c2 : (keyS n == key) = false := by simpa using hk
          generalize keyS n = kn at *
          refine pure_slim rfl (by kernel_rfl) Tryz.func16 s16 hp hsnap (by simp [Tryz.f16]) fun fr hlen h => ?_
          simp only [Has, Nat.zero_add] at h
          obtain ⟨a0, -⟩ := h
          simp only [Tryz.f16] at hlen ⊢
          unfold g16
          simp only [wk, aBuiltin, AV.cells, AV.leaf, Nat.reduceEqDiff, Nat.reduceLT, Nat.reduceAdd, Nat.reduceLeDiff, reduceCtorEq, Nat.reduceMul, Nat.reduceMod, cfgP, u15, hlen, a0, n1, slen, c0, e1, e2, n2, e3, n3, c1, n4, str_neq, c2, none_beq]
          exact Fin_pure (l := [.int .i64 0, .bool false]) (by simp [wk, aBuiltin, AV.cells, AV.leaf, Nat.reduceEqDiff, Nat.reduceLT, Nat.reduceAdd, Nat.reduceLeDiff, reduceCtorEq, Nat.reduceMul, Nat.reduceMod, cfgP, u15, hlen, aResults, aResult]) (ff2 rfl rfl) (by simp)
      · have c1 : decide (¬ e = 0) = true := decide_eq_true he
        rw [if_neg (fun h => he h.1)] at hv
        rw [hv]
        refine pure_slim rfl (by kernel_rfl) Tryz.func16 s16 hp hsnap (by simp [Tryz.f16]) fun fr hlen h => ?_
        simp only [Has, Nat.zero_add] at h
        obtain ⟨a0, -⟩ := h
        simp only [Tryz.f16] at hlen ⊢
        unfold g16
        simp only [wk, aBuiltin, AV.cells, AV.leaf, Nat.reduceEqDiff, Nat.reduceLT, Nat.reduceAdd, Nat.reduceLeDiff, reduceCtorEq, Nat.reduceMul, Nat.reduceMod, cfgP, u15, hlen, a0, n1, slen, c0, e1, e2, n2, e3, n3, c1, none_beq]
        exact Fin_pure (l := [.int .i64 0, .bool false]) (by simp [wk, aBuiltin, AV.cells, AV.leaf, Nat.reduceEqDiff, Nat.reduceLT, Nat.reduceAdd, Nat.reduceLeDiff, reduceCtorEq, Nat.reduceMul, Nat.reduceMod, cfgP, u15, hlen, aResults, aResult]) (ff2 rfl rfl) (by simp)
    · rw [show ofKeyS key = (0, false) by unfold ofKeyS; rw [if_neg (fun h => h10 h.2)]]
      generalize key.drop 2 = u at *
      have c0 : decide (¬ (u.length : Int) = 10) = true := decide_eq_true (by omega)
      refine pure_slim rfl (by kernel_rfl) Tryz.func16 s16 hp hsnap (by simp [Tryz.f16]) fun fr hlen h => ?_
      simp only [Has, Nat.zero_add] at h
      obtain ⟨a0, -⟩ := h
      simp only [Tryz.f16] at hlen ⊢
      unfold g16
      simp only [wk, aBuiltin, AV.cells, AV.leaf, Nat.reduceEqDiff, Nat.reduceLT, Nat.reduceAdd, Nat.reduceLeDiff, reduceCtorEq, Nat.reduceMul, Nat.reduceMod, cfgP, u15, hlen, a0, n1, slen, c0, none_beq]
      exact Fin_pure (l := [.int .i64 0, .bool false]) (by simp [wk, aBuiltin, AV.cells, AV.leaf, Nat.reduceEqDiff, Nat.reduceLT, Nat.reduceAdd, Nat.reduceLeDiff, reduceCtorEq, Nat.reduceMul, Nat.reduceMod, cfgP, u15, hlen, aResults, aResult]) (ff2 rfl rfl) (by simp)

theorem silenceKeys_ok (id : Int) (key : List UInt8) (prot : Nat) (H : Heap) (hp : prot ≤ H.length) :
    aLim cfg prot 4 [.int .i64 id, .str key] H = some (.bool true, none) := by
  have hsnap : snap H [.int .i64 id, .str key] = some ([.int .i64 id, .str key], false) := rfl
  have n1 := skey_ok id H.length H (Nat.le_refl _)
  have n2 := sofKey_ok (keyS id) H.length H (Nat.le_refl _)
  have n3 := rskey_ok id H.length H (Nat.le_refl _)
  have n4 := sofKey_ok key H.length H (Nat.le_refl _)
  have n6 := awake23_ok H.length H
  have hbb : ∀ (xo yo : Operand) (b : Bool), aBin Tryz.prog .neq 4 xo yo (.bool b) (.bool b) = some (.bool false) := fun xo yo b => by rw [bin_neb Tryz.underlying4]; simp
  obtain ⟨n, ok, hback, hn, hok⟩ : ∃ (n : Int) (ok : Bool), ofKeyS (keyS id) = (n, ok) ∧ (ok = true → n = id) ∧ (keyS id == []) = !ok := by
    by_cases h : id < 0 ∨ 9999999999 < id
    · refine ⟨0, false, by rw [keyS_back, if_pos h], fun h => (by cases h), ?_⟩
      rw [show keyS id = [] by unfold keyS; rw [if_pos h]]; rfl
    · refine ⟨id, true, by rw [keyS_back, if_neg h], fun _ => rfl, ?_⟩
      rw [show keyS id = 115 :: 47 :: (List.replicate (10 - (digB 10 id.toNat).length) 48 ++ digB 10 id.toNat) by unfold keyS; rw [if_neg h]]; rfl
  rw [hback] at n2
  simp only at n2
  generalize keyS id = k at *
  have kk : (k == k) = true := by simp
  obtain ⟨m, is, hm⟩ : ∃ (m : Int) (is : Bool), ofKeyS key = (m, is) := ⟨_, _, rfl⟩
  have n5 := rskey_ok m H.length H (Nat.le_refl _)
  have t1 : is = true → keyS m = key ∧ key ≠ [] := fun h => by
    have := ofKeyS_true (key := key) (by rw [hm]; exact h)
    rw [hm] at this; exact this
  have t2 : is = false → m = 0 := fun h => by
    have := ofKeyS_false (key := key) (by rw [hm]; exact h)
    rw [hm] at this; exact this
  rw [hm] at n4
  simp only at n4
  clear hback hm
  cases ok with
  | true =>
    have hn := hn rfl
    subst hn
    have ii : decide (¬ n = n) = false := by simp
    cases is with
    | true =>
      obtain ⟨t1, t3⟩ := t1 rfl
      rw [t1] at n5
      have b1 : (key == key) = true := by simp
      have b2 : (key == []) = false := by simpa using t3
      refine pure_slim rfl (by kernel_rfl) Tryz.func4 s4 hp hsnap (by simp [Tryz.f4]) fun fr hlen h => ?_
      simp only [Has, Nat.zero_add] at h
      obtain ⟨a0, a1, -⟩ := h
      simp only [Tryz.f4] at hlen ⊢
      unfold g4
      simp only [wk, aBuiltin, AV.cells, AV.leaf, Nat.reduceEqDiff, Nat.reduceLT, Nat.reduceAdd, Nat.reduceLeDiff, reduceCtorEq, Nat.reduceMul, Nat.reduceMod, cfgP, u4, hlen, a0, a1, n1, n2, n3, n4, n5, n6, str_neq, str_eql, kk, hok, hbb, ii, b1, b2, none_beq]
      exact Fin_pure (l := [.bool true]) (by simp [wk, aBuiltin, AV.cells, AV.leaf, Nat.reduceEqDiff, Nat.reduceLT, Nat.reduceAdd, Nat.reduceLeDiff, reduceCtorEq, Nat.reduceMul, Nat.reduceMod, cfgP, u4, aResults, aResult, hlen]) (.still rfl) (by simp)
    | false =>
      obtain rfl := t2 rfl
      refine pure_slim rfl (by kernel_rfl) Tryz.func4 s4 hp hsnap (by simp [Tryz.f4]) fun fr hlen h => ?_
      simp only [Has, Nat.zero_add] at h
      obtain ⟨a0, a1, -⟩ := h
      simp only [Tryz.f4] at hlen ⊢
      unfold g4
      simp only [wk, aBuiltin, AV.cells, AV.leaf, Nat.reduceEqDiff, Nat.reduceLT, Nat.reduceAdd, Nat.reduceLeDiff, reduceCtorEq, Nat.reduceMul, Nat.reduceMod, cfgP, u4, hlen, a0, a1, n1, n2, n3, n4, n6, str_neq, str_eql, kk, hok, hbb, ii, none_beq]
      exact Fin_pure (l := [.bool true]) (by simp [wk, aBuiltin, AV.cells, AV.leaf, Nat.reduceEqDiff, Nat.reduceLT, Nat.reduceAdd, Nat.reduceLeDiff, reduceCtorEq, Nat.reduceMul, Nat.reduceMod, cfgP, u4, aResults, aResult, hlen]) (.still rfl) (by simp)
  | false =>
    cases is with
    | true =>
      obtain ⟨t1, t3⟩ := t1 rfl
      rw [t1] at n5
      have b1 : (key == key) = true := by simp
      have b2 : (key == []) = false := by simpa using t3
      refine pure_slim rfl (by kernel_rfl) Tryz.func4 s4 hp hsnap (by simp [Tryz.f4]) fun fr hlen h => ?_
      simp only [Has, Nat.zero_add] at h
      obtain ⟨a0, a1, -⟩ := h
      simp only [Tryz.f4] at hlen ⊢
      unfold g4
      simp only [wk, aBuiltin, AV.cells, AV.leaf, Nat.reduceEqDiff, Nat.reduceLT, Nat.reduceAdd, Nat.reduceLeDiff, reduceCtorEq, Nat.reduceMul, Nat.reduceMod, cfgP, u4, hlen, a0, a1, n1, n2, n3, n4, n5, n6, str_neq, str_eql, kk, hok, hbb, b1, b2, none_beq]
      exact Fin_pure (l := [.bool true]) (by simp [wk, aBuiltin, AV.cells, AV.leaf, Nat.reduceEqDiff, Nat.reduceLT, Nat.reduceAdd, Nat.reduceLeDiff, reduceCtorEq, Nat.reduceMul, Nat.reduceMod, cfgP, u4, aResults, aResult, hlen]) (.still rfl) (by simp)
    | false =>
      obtain rfl := t2 rfl
      refine pure_slim rfl (by kernel_rfl) Tryz.func4 s4 hp hsnap (by simp [Tryz.f4]) fun fr hlen h => ?_
      simp only [Has, Nat.zero_add] at h
      obtain ⟨a0, a1, -⟩ := h
      simp only [Tryz.f4] at hlen ⊢
      unfold g4
      simp only [wk, aBuiltin, AV.cells, AV.leaf, Nat.reduceEqDiff, Nat.reduceLT, Nat.reduceAdd, Nat.reduceLeDiff, reduceCtorEq, Nat.reduceMul, Nat.reduceMod, cfgP, u4, hlen, a0, a1, n1, n2, n3, n4, n6, str_neq, str_eql, kk, hok, hbb, none_beq]
      exact Fin_pure (l := [.bool true]) (by simp [wk, aBuiltin, AV.cells, AV.leaf, Nat.reduceEqDiff, Nat.reduceLT, Nat.reduceAdd, Nat.reduceLeDiff, reduceCtorEq, Nat.reduceMul, Nat.reduceMod, cfgP, u4, aResults, aResult, hlen]) (.still rfl) (by simp)
end Go.Proofs.YtnipaiklandliaaGreatDoor
/- The law SilenceKeys on what came in. -/
set_option maxRecDepth 100000
namespace Go.Proofs.YtnipaiklandliaaGreatDoor.silenceKeys
open Go Go.Abs AbsSeat
theorem abs (xs : List AV) (h : HasTs Tryz.prog Tryz.f4.params.toList xs) : ∃ k H', aCall cfg k 1 4 xs H0 = some (.bool true, H') := by
  rw [Tryz.params4] at h
  obtain ⟨x0, r0, rfl, h0, h⟩ := h.inv
  obtain ⟨x1, r1, rfl, h1, h⟩ := h.inv
  obtain rfl := h.done
  obtain ⟨id, rfl, -⟩ := h0.int Tryz.underlying2
  obtain ⟨key, rfl, -⟩ := h1.str Tryz.underlying9
  exact lim_call (silenceKeys_ok id key 1 H0 (by decide))
end Go.Proofs.YtnipaiklandliaaGreatDoor.silenceKeys
