import Derived.Test.YtoblikhnbddfmaaAbsSeat
import Derived.Test.YtoblikhnbddfmaaAbsTy
import Derived.Test.YtoblikhnbddfmaaAbsSet
/-! Chapter 2: runes as bytes: the program's, walked. -/
set_option linter.unusedSimpArgs false
namespace Go.Proofs.Ytoblikhnbddfmaa
open Go Go.Abs AbsSeat Ty
theorem cfgP : cfg.P = Try.prog := rfl
theorem none_beq (b : Bool) : ((none : Option Bool) == some b) = false := by cases b <;> rfl

theorem u98 : type_of% (And.intro (fun (K : Heap) (n : Int) => conv_int Try.underlying5 Try.underlying21 K n) (And.intro ag3 (And.intro sz3 (And.intro by3 (And.intro ze3 (And.intro Try.underlying3 (And.intro ag5 (And.intro sz5 (And.intro by5 (And.intro ze5 (And.intro Try.underlying5 (And.intro ag9 (And.intro sz9 (And.intro by9 (And.intro ze9 (And.intro Try.underlying9 (And.intro ag21 (And.intro sz21 (And.intro by21 (And.intro ze21 (And.intro Try.underlying21 (And.intro ag29 (And.intro sz29 (And.intro by29 (And.intro ze29 (And.intro Try.underlying29 (And.intro ag141 (And.intro sz141 (And.intro by141 (And.intro se141 (And.intro ze141 (And.intro Try.underlying141 (And.intro ag164 (And.intro sz164 (And.intro by164 (And.intro ze164 (And.intro Try.underlying164 (And.intro ag180 (And.intro sz180 (And.intro by180 (And.intro ze180 Try.underlying180))))))))))))))))))))))))))))))))))))))))) := And.intro (fun (K : Heap) (n : Int) => conv_int Try.underlying5 Try.underlying21 K n) (And.intro ag3 (And.intro sz3 (And.intro by3 (And.intro ze3 (And.intro Try.underlying3 (And.intro ag5 (And.intro sz5 (And.intro by5 (And.intro ze5 (And.intro Try.underlying5 (And.intro ag9 (And.intro sz9 (And.intro by9 (And.intro ze9 (And.intro Try.underlying9 (And.intro ag21 (And.intro sz21 (And.intro by21 (And.intro ze21 (And.intro Try.underlying21 (And.intro ag29 (And.intro sz29 (And.intro by29 (And.intro ze29 (And.intro Try.underlying29 (And.intro ag141 (And.intro sz141 (And.intro by141 (And.intro se141 (And.intro ze141 (And.intro Try.underlying141 (And.intro ag164 (And.intro sz164 (And.intro by164 (And.intro ze164 (And.intro Try.underlying164 (And.intro ag180 (And.intro sz180 (And.intro by180 (And.intro ze180 Try.underlying180))))))))))))))))))))))))))))))))))))))))
def g98 : Code :=
  .seq (.region 0 #[q 2 (.assign (ik 0)) 3] false) (.seq (.block 0 (.seq (.region 1 #[q 4 (.move (.tmp 0)) 5, q 5 (.binOp .lss 5 (.tmp 4) (.const (.int .u8 128)) 5) 4, q 3 (.assign (.tmp 5)) 4] false) (.cond (.tmp 3) (.seq (.region 2 #[q 2 (.assign (ik 1)) 3] false) .ret) (.seq (.region 3 #[q 7 (.move (.tmp 0)) 5, q 8 (.binOp .geq 5 (.tmp 7) (.const (.int .u8 194)) 5) 4, q 9 (.move (.tmp 8)) 4, qg 10 (.move (.tmp 0)) 5 2 true, qg 11 (.binOp .lss 5 (.tmp 10) (.const (.int .u8 224)) 5) 4 2 true, q 12 (.pick (.tmp 9) (.tmp 11) (.const (.bool false))) 4, q 6 (.assign (.tmp 12)) 4] false) (.cond (.tmp 6) (.seq (.region 4 #[q 2 (.assign (ik 2)) 3] false) .ret) (.seq (.region 5 #[q 14 (.move (.tmp 0)) 5, q 15 (.binOp .geq 5 (.tmp 14) (.const (.int .u8 224)) 5) 4, q 16 (.move (.tmp 15)) 4, qg 17 (.move (.tmp 0)) 5 2 true, qg 18 (.binOp .lss 5 (.tmp 17) (.const (.int .u8 240)) 5) 4 2 true, q 19 (.pick (.tmp 16) (.tmp 18) (.const (.bool false))) 4, q 13 (.assign (.tmp 19)) 4] false) (.cond (.tmp 13) (.seq (.region 6 #[q 2 (.assign (ik 3)) 3] false) .ret) (.seq (.region 7 #[q 21 (.move (.tmp 0)) 5, q 22 (.binOp .geq 5 (.tmp 21) (.const (.int .u8 240)) 5) 4, q 23 (.move (.tmp 22)) 4, qg 24 (.move (.tmp 0)) 5 2 true, qg 25 (.binOp .lss 5 (.tmp 24) (.const (.int .u8 245)) 5) 4 2 true, q 26 (.pick (.tmp 23) (.tmp 25) (.const (.bool false))) 4, q 20 (.assign (.tmp 26)) 4] false) (.cond (.tmp 20) (.seq (.region 8 #[q 2 (.assign (ik 4)) 3] false) .ret) .skip))))))))) (.seq (.region 9 #[q 2 (.assign (ik 0)) 3] false) .ret))
theorem s98 : Try.f98.body.map (slim cfg) = some g98 := by kernel_rfl
def g99 : Code :=
  .seq (.region 0 #[q 4 (.assign (.const (.bool false))) 4] false) (.seq (.region 1 #[q 5 (.assign (.const (.int .u8 128))) 5, q 6 (.assign (.const (.int .u8 191))) 5] false) (.seq (.seq (.region 2 #[q 8 (.move (.tmp 0)) 141, q 9 (.indexAddr 141 (.tmp 8) (ik 0)) 0, q 10 (.load 5 (.tmp 9)) 5] false) (.block 0 (.seq (.region 3 #[q 12 (.binOp .eql 5 (.tmp 10) (.const (.int .u8 224)) 5) 4, q 11 (.assign (.tmp 12)) 4] false) (.cond (.tmp 11) (.region 4 #[q 5 (.assign (.const (.int .u8 160))) 5] false) (.seq (.region 5 #[q 14 (.binOp .eql 5 (.tmp 10) (.const (.int .u8 237)) 5) 4, q 13 (.assign (.tmp 14)) 4] false) (.cond (.tmp 13) (.region 6 #[q 6 (.assign (.const (.int .u8 159))) 5] false) (.seq (.region 7 #[q 16 (.binOp .eql 5 (.tmp 10) (.const (.int .u8 240)) 5) 4, q 15 (.assign (.tmp 16)) 4] false) (.cond (.tmp 15) (.region 8 #[q 5 (.assign (.const (.int .u8 144))) 5] false) (.seq (.region 9 #[q 18 (.binOp .eql 5 (.tmp 10) (.const (.int .u8 244)) 5) 4, q 17 (.assign (.tmp 18)) 4] false) (.cond (.tmp 17) (.region 10 #[q 6 (.assign (.const (.int .u8 143))) 5] false) .skip)))))))))) (.seq (.seq (.region 11 #[q 7 (.assign (ik 1)) 3] false) (.block 1 (.loop (.seq (.seq (.region 12 #[q 19 (.move (.tmp 7)) 3, q 20 (.move (.tmp 1)) 3, q 21 (.move (.tmp 0)) 141, q 22 (bi .len #[.tmp 21] #[141]) 3, q 23 (bi .min #[.tmp 20, .tmp 22] #[3, 3]) 3, q 24 (.binOp .lss 3 (.tmp 19) (.tmp 23) 3) 4] false) (.cond (.tmp 24) .skip (.exit 1))) (.seq (.block 2 (.seq (.seq (.region 14 #[q 27 (.move (.tmp 0)) 141, q 28 (.move (.tmp 7)) 3, q 29 (.indexAddr 141 (.tmp 27) (.tmp 28)) 0, q 30 (.load 5 (.tmp 29)) 5, q 31 (.move (.tmp 5)) 5, q 32 (.binOp .lss 5 (.tmp 30) (.tmp 31) 5) 4, q 33 (.move (.tmp 32)) 4, qg 34 (.move (.tmp 0)) 141 6 false, qg 35 (.move (.tmp 7)) 3 6 false, qg 36 (.indexAddr 141 (.tmp 34) (.tmp 35)) 0 6 false, qg 37 (.load 5 (.tmp 36)) 5 6 false, qg 38 (.move (.tmp 6)) 5 6 false, qg 39 (.binOp .gtr 5 (.tmp 37) (.tmp 38) 5) 4 6 false, q 40 (.pick (.tmp 33) (.const (.bool true)) (.tmp 39)) 4] false) (.cond (.tmp 40) (.seq (.region 15 #[q 4 (.assign (.const (.bool false))) 4] false) .ret) .skip)) (.region 16 #[q 5 (.assign (.const (.int .u8 128))) 5, q 6 (.assign (.const (.int .u8 191))) 5] false))) (.region 13 #[q 25 (.move (.tmp 7)) 3, q 26 (.binOp .add 3 (.tmp 25) (ik 1) 3) 3, q 7 (.assign (.tmp 26)) 3] false)))))) (.seq (.region 17 #[q 4 (.assign (.const (.bool true))) 4] false) .ret))))
theorem s99 : Try.f99.body.map (slim cfg) = some g99 := by kernel_rfl
def g100 : Code :=
  .seq (.region 0 #[q 2 (.assign (.const (.int .i32 0))) 21] false) (.seq (.region 1 #[q 3 (.build 180 #[(0, .const (.int .i32 0)), (1, .const (.int .i32 0)), (2, .const (.int .i32 192)), (3, .const (.int .i32 224)), (4, .const (.int .i32 240))]) 180, q 4 (.move (.tmp 0)) 3, q 5 (.index 180 (.tmp 3) (.tmp 4)) 21, q 2 (.assign (.tmp 5)) 21] false) .ret)
theorem s100 : Try.f100.body.map (slim cfg) = some g100 := by kernel_rfl
def g81 : Code :=
  .seq (.region 0 #[q 2 (.assign (.const (.int .i32 0))) 21, q 3 (.assign (ik 0)) 3, q 4 (.assign (ik 0)) 29] false) (.seq (.seq (.region 1 #[q 9 (.move (.tmp 0)) 141, q 10 (bi .len #[.tmp 9] #[141]) 3, q 11 (.binOp .eql 3 (.tmp 10) (ik 0) 3) 4] false) (.cond (.tmp 11) (.seq (.region 2 #[q 2 (.assign (.const (.int .i32 0))) 21, q 3 (.assign (ik 0)) 3, q 4 (.assign (ik 6)) 29] false) .ret) .skip)) (.seq (.region 3 #[q 12 (.move (.tmp 0)) 141, q 13 (.indexAddr 141 (.tmp 12) (ik 0)) 0, q 14 (.load 5 (.tmp 13)) 5, q 15 (cl 98 #[.tmp 14] #[5]) 3, q 5 (.assign (.tmp 15)) 3] false) (.seq (.block 0 (.seq (.region 4 #[q 17 (.move (.tmp 5)) 3, q 18 (.binOp .eql 3 (.tmp 17) (ik 0) 3) 4, q 19 (.move (.tmp 18)) 4, qg 20 (.move (.tmp 0)) 141 2 false, qg 21 (.move (.tmp 5)) 3 2 false, qg 22 (cl 99 #[.tmp 20, .tmp 21] #[141, 3]) 4 2 false, qg 23 (.unOp .not 4 (.tmp 22)) 4 2 false, q 24 (.pick (.tmp 19) (.const (.bool true)) (.tmp 23)) 4, q 16 (.assign (.tmp 24)) 4] false) (.cond (.tmp 16) (.seq (.region 5 #[q 2 (.assign (.const (.int .i32 0))) 21, q 3 (.assign (ik 0)) 3, q 4 (.assign (ik 3)) 29] false) .ret) (.seq (.region 6 #[q 26 (.move (.tmp 0)) 141, q 27 (bi .len #[.tmp 26] #[141]) 3, q 28 (.move (.tmp 5)) 3, q 29 (.binOp .lss 3 (.tmp 27) (.tmp 28) 3) 4, q 25 (.assign (.tmp 29)) 4] false) (.cond (.tmp 25) (.seq (.region 7 #[q 2 (.assign (.const (.int .i32 0))) 21, q 3 (.assign (ik 0)) 3, q 4 (.assign (ik 11)) 29] false) .ret) .skip))))) (.seq (.region 8 #[q 30 (.move (.tmp 0)) 141, q 31 (.indexAddr 141 (.tmp 30) (ik 0)) 0, q 32 (.load 5 (.tmp 31)) 5, q 33 (.convert 5 21 (.tmp 32)) 21, q 34 (.move (.tmp 5)) 3, q 35 (cl 100 #[.tmp 34] #[3]) 21, q 36 (.binOp .andNot 21 (.tmp 33) (.tmp 35) 21) 21, q 6 (.assign (.tmp 36)) 21] false) (.seq (.seq (.region 9 #[q 37 (.move (.tmp 0)) 141, q 38 (.move (.tmp 5)) 3, q 39 (.slice 141 (.tmp 37) (some (ik 1)) (some (.tmp 38)) none) 141, q 40 (bi .len #[.tmp 39] #[141]) 3, q 41 (.move (ik 0)) 3] false) (.block 1 (.loop (.seq (.region 10 #[q 42 (.binOp .lss 3 (.tmp 41) (.tmp 40) 3) 0] false) (.seq (.cond (.tmp 42) .skip (.exit 1)) (.seq (.block 2 (.seq (.region 11 #[q 43 (.indexAddr 141 (.tmp 39) (.tmp 41)) 0, q 44 (.load 5 (.tmp 43)) 5, q 8 (.assign (.tmp 44)) 5] false) (.region 12 #[q 45 (.move (.tmp 6)) 21, q 46 (.binOp .shl 21 (.tmp 45) (.const (.int .u64 6)) 164) 21, q 47 (.move (.tmp 8)) 5, q 48 (.convert 5 21 (.tmp 47)) 21, q 49 (.binOp .and 21 (.tmp 48) (.const (.int .i32 63)) 21) 21, q 50 (.binOp .or 21 (.tmp 46) (.tmp 49) 21) 21, q 6 (.assign (.tmp 50)) 21] false))) (.region 13 #[q 51 (.binOp .add 3 (.tmp 41) (ik 1) 3) 3, q 41 (.move (.tmp 51)) 3] false))))))) (.seq (.region 14 #[q 52 (.move (.tmp 6)) 21, q 53 (.move (.tmp 5)) 3, q 2 (.assign (.tmp 52)) 21, q 3 (.assign (.tmp 53)) 3, q 4 (.assign (ik 0)) 29] false) .ret))))))
theorem s81 : Try.f81.body.map (slim cfg) = some g81 := by kernel_rfl
def g80 : Code :=
  .seq (.region 0 #[q 2 (.assign (ik 0)) 3, q 3 (.assign (ik 0)) 3] false) (.seq (.region 1 #[q 10 (.move (.tmp 0)) 9, q 11 (.convert 9 141 (.tmp 10)) 141, q 4 (.assign (.tmp 11)) 141] false) (.seq (.region 2 #[q 5 (.assign (ik 0)) 3, q 6 (.assign (ik 0)) 3] false) (.seq (.block 0 (.loop (.seq (.seq (.region 3 #[q 12 (.move (.tmp 5)) 3, q 13 (.move (.tmp 4)) 141, q 14 (bi .len #[.tmp 13] #[141]) 3, q 15 (.binOp .lss 3 (.tmp 12) (.tmp 14) 3) 4] false) (.cond (.tmp 15) .skip (.exit 0))) (.block 1 (.seq (.region 4 #[q 17 (.move (.tmp 4)) 141, q 18 (.move (.tmp 5)) 3, q 19 (.slice 141 (.tmp 17) (some (.tmp 18)) none none) 141, q 20 (cl 81 #[.tmp 19] #[141]) 151, q 16 (.move (.tmp 20)) 151, q 21 (.extract (.tmp 16) 0) 21, q 22 (.extract (.tmp 16) 1) 3, q 23 (.extract (.tmp 16) 2) 29, q 7 (.assign (.tmp 21)) 21, q 8 (.assign (.tmp 22)) 3, q 9 (.assign (.tmp 23)) 29] false) (.seq (.seq (.region 5 #[q 24 (.move (.tmp 9)) 29, q 25 (.binOp .neq 29 (.tmp 24) (ik 0) 29) 4] false) (.cond (.tmp 25) (.exit 0) .skip)) (.seq (.region 6 #[q 26 (.move (.tmp 5)) 3, q 27 (.move (.tmp 8)) 3, q 28 (.binOp .add 3 (.tmp 26) (.tmp 27) 3) 3, q 5 (.assign (.tmp 28)) 3] false) (.region 7 #[q 29 (.move (.tmp 6)) 3, q 30 (.binOp .add 3 (.tmp 29) (ik 1) 3) 3, q 6 (.assign (.tmp 30)) 3] false)))))))) (.seq (.region 8 #[q 31 (.move (.tmp 6)) 3, q 32 (.move (.tmp 5)) 3, q 2 (.assign (.tmp 31)) 3, q 3 (.assign (.tmp 32)) 3] false) .ret))))
theorem s80 : Try.f80.body.map (slim cfg) = some g80 := by kernel_rfl
def g55 : Code :=
  .seq (.region 0 #[q 2 (.assign (.const (.bool false))) 4] false) (.seq (.region 1 #[q 6 (.move (.tmp 0)) 9, q 7 (cl 80 #[.tmp 6] #[9]) 139, q 5 (.move (.tmp 7)) 139, q 8 (.extract (.tmp 5) 0) 3, q 9 (.extract (.tmp 5) 1) 3, q 3 (.assign (.tmp 8)) 3, q 4 (.assign (.tmp 9)) 3] false) (.seq (.region 2 #[q 10 (.move (.tmp 4)) 3, q 11 (.move (.tmp 0)) 9, q 12 (bi .len #[.tmp 11] #[9]) 3, q 13 (.binOp .eql 3 (.tmp 10) (.tmp 12) 3) 4, q 2 (.assign (.tmp 13)) 4] false) .ret))
theorem s55 : Try.f55.body.map (slim cfg) = some g55 := by kernel_rfl

def wantedU (c : Int) : Nat := if c < 128 then 1 else if 194 ≤ c ∧ c < 224 then 2 else if 224 ≤ c ∧ c < 240 then 3 else if 240 ≤ c ∧ c < 245 then 4 else 0

theorem wanted_ok (c : Int) (prot : Nat) (H : Heap) (hp : prot ≤ H.length) : aLim cfg prot 98 [.int .u8 c] H = some (.int .i64 (wantedU c), none) := by
  have hsnap : snap H [.int .u8 c] = some ([.int .u8 c], false) := rfl
  unfold wantedU
  refine pure_slim rfl (by kernel_rfl) Try.func98 s98 hp hsnap (by simp [Try.f98]) fun fr hlen h => ?_
  simp only [Has, Nat.zero_add] at h
  obtain ⟨a0, -⟩ := h
  simp only [Try.f98] at hlen ⊢
  unfold g98
  by_cases h1 : c < 128
  · simp only [wk, aBuiltin, AV.cells, AV.leaf, Nat.reduceEqDiff, Nat.reduceLT, Nat.reduceAdd, Nat.reduceLeDiff, reduceCtorEq, Nat.reduceMul, cfgP, u98, hlen, a0, h1]
    exact Fin_pure (l := [.int .i64 1]) (by simp [wk, aBuiltin, AV.cells, AV.leaf, Nat.reduceEqDiff, Nat.reduceLT, Nat.reduceAdd, Nat.reduceLeDiff, reduceCtorEq, Nat.reduceMul, cfgP, u98, aResults, aResult, hlen]) (.still rfl) (by simp)
  · by_cases h2 : 194 ≤ c
    · by_cases h3 : c < 224
      · simp only [wk, aBuiltin, AV.cells, AV.leaf, Nat.reduceEqDiff, Nat.reduceLT, Nat.reduceAdd, Nat.reduceLeDiff, reduceCtorEq, Nat.reduceMul, cfgP, u98, hlen, a0, h1, h2, h3, none_beq]
        exact Fin_pure (l := [.int .i64 2]) (by simp [wk, aBuiltin, AV.cells, AV.leaf, Nat.reduceEqDiff, Nat.reduceLT, Nat.reduceAdd, Nat.reduceLeDiff, reduceCtorEq, Nat.reduceMul, cfgP, u98, aResults, aResult, hlen]) (.still rfl) (by simp)
      · have h4 : 224 ≤ c := by omega
        by_cases h5 : c < 240
        · simp only [wk, aBuiltin, AV.cells, AV.leaf, Nat.reduceEqDiff, Nat.reduceLT, Nat.reduceAdd, Nat.reduceLeDiff, reduceCtorEq, Nat.reduceMul, cfgP, u98, hlen, a0, h1, h2, h3, h4, h5, none_beq]
          exact Fin_pure (l := [.int .i64 3]) (by simp [wk, aBuiltin, AV.cells, AV.leaf, Nat.reduceEqDiff, Nat.reduceLT, Nat.reduceAdd, Nat.reduceLeDiff, reduceCtorEq, Nat.reduceMul, cfgP, u98, aResults, aResult, hlen]) (.still rfl) (by simp)
        · have h6 : 240 ≤ c := by omega
          by_cases h7 : c < 245
          · simp only [wk, aBuiltin, AV.cells, AV.leaf, Nat.reduceEqDiff, Nat.reduceLT, Nat.reduceAdd, Nat.reduceLeDiff, reduceCtorEq, Nat.reduceMul, cfgP, u98, hlen, a0, h1, h2, h3, h4, h5, h6, h7, none_beq]
            exact Fin_pure (l := [.int .i64 4]) (by simp [wk, aBuiltin, AV.cells, AV.leaf, Nat.reduceEqDiff, Nat.reduceLT, Nat.reduceAdd, Nat.reduceLeDiff, reduceCtorEq, Nat.reduceMul, cfgP, u98, aResults, aResult, hlen]) (.still rfl) (by simp)
          · simp only [wk, aBuiltin, AV.cells, AV.leaf, Nat.reduceEqDiff, Nat.reduceLT, Nat.reduceAdd, Nat.reduceLeDiff, reduceCtorEq, Nat.reduceMul, cfgP, u98, hlen, a0, h1, h2, h3, h4, h5, h6, h7, none_beq]
            exact Fin_pure (l := [.int .i64 0]) (by simp [wk, aBuiltin, AV.cells, AV.leaf, Nat.reduceEqDiff, Nat.reduceLT, Nat.reduceAdd, Nat.reduceLeDiff, reduceCtorEq, Nat.reduceMul, cfgP, u98, aResults, aResult, hlen]) (.still rfl) (by simp)
    · have h4 : ¬ 224 ≤ c := by omega
      have h6 : ¬ 240 ≤ c := by omega
      simp only [wk, aBuiltin, AV.cells, AV.leaf, Nat.reduceEqDiff, Nat.reduceLT, Nat.reduceAdd, Nat.reduceLeDiff, reduceCtorEq, Nat.reduceMul, cfgP, u98, hlen, a0, h1, h2, h4, h6, none_beq]
      exact Fin_pure (l := [.int .i64 0]) (by simp [wk, aBuiltin, AV.cells, AV.leaf, Nat.reduceEqDiff, Nat.reduceLT, Nat.reduceAdd, Nat.reduceLeDiff, reduceCtorEq, Nat.reduceMul, cfgP, u98, aResults, aResult, hlen]) (.still rfl) (by simp)

def leadU (n : Nat) : Int := if n = 2 then 192 else if n = 3 then 224 else if n = 4 then 240 else 0

theorem lead_ok (n : Nat) (hn : n ≤ 4) (prot : Nat) (H : Heap) (hp : prot ≤ H.length) : aLim cfg prot 100 [.int .i64 n] H = some (.int .i32 (leadU n), none) := by
  have hsnap : snap H [.int .i64 n] = some ([.int .i64 n], false) := rfl
  have bu : aBuild Try.prog 180 [(0, .int .i32 0), (1, .int .i32 0), (2, .int .i32 192), (3, .int .i32 224), (4, .int .i32 240)] = some (.agg [.int .i32 0, .int .i32 0, .int .i32 192, .int .i32 224, .int .i32 240]) := by kernel_rfl
  have i0 : aIndex Try.prog 180 (.agg [.int .i32 0, .int .i32 0, .int .i32 192, .int .i32 224, .int .i32 240]) (.int .i64 0) = some (.int .i32 0) := by kernel_rfl
  have i1 : aIndex Try.prog 180 (.agg [.int .i32 0, .int .i32 0, .int .i32 192, .int .i32 224, .int .i32 240]) (.int .i64 1) = some (.int .i32 0) := by kernel_rfl
  have i2 : aIndex Try.prog 180 (.agg [.int .i32 0, .int .i32 0, .int .i32 192, .int .i32 224, .int .i32 240]) (.int .i64 2) = some (.int .i32 192) := by kernel_rfl
  have i3 : aIndex Try.prog 180 (.agg [.int .i32 0, .int .i32 0, .int .i32 192, .int .i32 224, .int .i32 240]) (.int .i64 3) = some (.int .i32 224) := by kernel_rfl
  have i4 : aIndex Try.prog 180 (.agg [.int .i32 0, .int .i32 0, .int .i32 192, .int .i32 224, .int .i32 240]) (.int .i64 4) = some (.int .i32 240) := by kernel_rfl
  have ix : aIndex Try.prog 180 (.agg [.int .i32 0, .int .i32 0, .int .i32 192, .int .i32 224, .int .i32 240]) (.int .i64 n) = some (.int .i32 (leadU n)) := by
    have : n = 0 ∨ n = 1 ∨ n = 2 ∨ n = 3 ∨ n = 4 := by omega
    rcases this with rfl | rfl | rfl | rfl | rfl
    · exact i0
    · exact i1
    · exact i2
    · exact i3
    · exact i4
  refine pure_slim rfl (by kernel_rfl) Try.func100 s100 hp hsnap (by simp [Try.f100]) fun fr hlen h => ?_
  simp only [Has, Nat.zero_add] at h
  obtain ⟨a0, -⟩ := h
  simp only [Try.f100] at hlen ⊢
  unfold g100
  simp only [wk, aBuiltin, AV.cells, AV.leaf, Nat.reduceEqDiff, Nat.reduceLT, Nat.reduceAdd, Nat.reduceLeDiff, reduceCtorEq, Nat.reduceMul, cfgP, u98, hlen, a0, bu, ix]
  exact Fin_pure (l := [.int .i32 (leadU n)]) (by simp [wk, aBuiltin, AV.cells, AV.leaf, Nat.reduceEqDiff, Nat.reduceLT, Nat.reduceAdd, Nat.reduceLeDiff, reduceCtorEq, Nat.reduceMul, cfgP, u98, aResults, aResult, hlen]) (.still rfl) (by simp)

def fitsGo : Int → Int → List UInt8 → Bool
  | _, _, [] => true
  | lo, hi, c :: r => if (c.toNat : Int) < lo ∨ hi < (c.toNat : Int) then false else fitsGo 128 191 r
def lowU (c : Int) : Int := if c = 224 then 160 else if c = 240 then 144 else 128
def highU (c : Int) : Int := if c = 237 then 159 else if c = 244 then 143 else 191
def fitsU (c : UInt8) (b : List UInt8) (n : Nat) : Bool := fitsGo (lowU c.toNat) (highU c.toNat) ((b.take n).drop 1)


theorem fits_ok (c : UInt8) (r : List UInt8) (n : Nat) (hn : n ≤ 4) (v : AV) (hv : Sl encB v (c :: r)) (hl : (c :: r).length ≤ 9223372036854775807) (prot : Nat) (H : Heap) (hp : prot ≤ H.length) :
    aLim cfg prot 99 [v, .int .i64 n] H = some (.bool (fitsU c (c :: r) n), none) := by
  have hsnap : snap H [v, .int .i64 n] = some ([v, .int .i64 n], false) := by cases hv <;> rfl
  have e0 : aIndexAddr Try.prog 141 v (.int .i64 0) = some (.vptr [.int .u8 (c.toNat : Int)] 0) := hv.at (k := .i64) (i := 0) Try.underlying141 sz5 encB_len (by simp)
  generalize hb : c :: r = b at *
  have hpos : 0 < b.length := by rw [← hb]; simp
  unfold fitsU
  generalize hc : (c.toNat : Int) = cn at *
  have hmin : ((min (n : Int) (b.length : Int)) : Int) = ((min n b.length : Nat) : Int) := by omega
  have hlen2 : (b.take n).length = min n b.length := by simp
  refine pure_slim rfl (by kernel_rfl) Try.func99 s99 hp hsnap (by simp [Try.f99]) fun fr hlen h => ?_
  simp only [Has, Nat.zero_add] at h
  obtain ⟨a0, a1, -⟩ := h
  simp only [Try.f99] at hlen ⊢
  unfold g99
  have hcase : (decide (cn = 224) = true ∧ decide (cn = 237) = false ∧ decide (cn = 240) = false ∧ decide (cn = 244) = false ∧ lowU cn = 160 ∧ highU cn = 191) ∨
      (decide (cn = 224) = false ∧ decide (cn = 237) = true ∧ decide (cn = 240) = false ∧ decide (cn = 244) = false ∧ lowU cn = 128 ∧ highU cn = 159) ∨
      (decide (cn = 224) = false ∧ decide (cn = 237) = false ∧ decide (cn = 240) = true ∧ decide (cn = 244) = false ∧ lowU cn = 144 ∧ highU cn = 191) ∨
      (decide (cn = 224) = false ∧ decide (cn = 237) = false ∧ decide (cn = 240) = false ∧ decide (cn = 244) = true ∧ lowU cn = 128 ∧ highU cn = 143) ∨
      (decide (cn = 224) = false ∧ decide (cn = 237) = false ∧ decide (cn = 240) = false ∧ decide (cn = 244) = false ∧ lowU cn = 128 ∧ highU cn = 191) := by
    unfold lowU highU
    by_cases k1 : cn = 224
    · subst k1; decide
    · by_cases k2 : cn = 237
      · subst k2; decide
      · by_cases k3 : cn = 240
        · subst k3; decide
        · by_cases k4 : cn = 244
          · subst k4; decide
          · simp [k1, k2, k3, k4]
  generalize lowU cn = lo0 at *
  generalize highU cn = hi0 at *
  generalize hg : fitsGo lo0 hi0 ((b.take n).drop 1) = g
  rcases hcase with ⟨d1, d2, d3, d4, hl0, hh0⟩ | ⟨d1, d2, d3, d4, hl0, hh0⟩ | ⟨d1, d2, d3, d4, hl0, hh0⟩ | ⟨d1, d2, d3, d4, hl0, hh0⟩ | ⟨d1, d2, d3, d4, hl0, hh0⟩
  all_goals
    simp only [wk, aBuiltin, AV.cells, AV.leaf, Nat.reduceEqDiff, Nat.reduceLT, Nat.reduceAdd, Nat.reduceLeDiff, reduceCtorEq, Nat.reduceMul, cfgP, u98, hlen, a0, a1, e0, d1, d2, d3, d4]
    refine loop_rule (fun m fr H' => ∃ (i : Nat) (lo hi : Int), m = b.length - i ∧ 1 ≤ i ∧ i ≤ b.length ∧ fr.length = 41 ∧ fget fr 0 = v ∧ fget fr 1 = .int .i64 n ∧ fget fr 5 = .int .u8 lo ∧ fget fr 6 = .int .u8 hi ∧ fget fr 7 = .int .i64 i
      ∧ H' = H ∧ g = fitsGo lo hi ((b.take n).drop i)) ?_ (b.length - 1) _ _ ⟨1, lo0, hi0, by simp [wk, aBuiltin, AV.cells, AV.leaf, Nat.reduceEqDiff, Nat.reduceLT, Nat.reduceAdd, Nat.reduceLeDiff, reduceCtorEq, Nat.reduceMul, cfgP, u98, hlen, a0, a1, hl0, hh0]; refine ⟨by omega, ?_⟩; rw [← hg, hl0, hh0]; simp⟩
    rintro m fr H' ⟨i, lo, hi, rfl, h1i, hi', hlen, a0, a1, a5, a6, a7, hHe, hc⟩ ih
    subst hHe
    simp only [wk, aBuiltin, AV.cells, AV.leaf, Nat.reduceEqDiff, Nat.reduceLT, Nat.reduceAdd, Nat.reduceLeDiff, reduceCtorEq, Nat.reduceMul, cfgP, u98, hlen, a0, a1, a5, a6, a7, hv.len Try.underlying141, hmin]
    refine RC_split (fun h => ?_) (fun h => ?_)
    · have hlt : i < min n b.length := by simpa using h
      have hw : IntKind.i64.wrap ((i : Int) + 1) = ((i + 1 : Nat) : Int) := by rw [wrap64 (by omega) (by omega)]; simp
      have hib : i < b.length := by omega
      have e1 := hv.at (k := .i64) Try.underlying141 sz5 encB_len hib
      have hit : i < (b.take n).length := by omega
      have hd : (b.take n).drop i = b[i] :: (b.take n).drop (i + 1) := by
        rw [List.drop_eq_getElem_cons hit]; simp
      rw [hd] at hc
      generalize b[i] = x at *
      rw [fitsGo] at hc
      simp only [encB, AV.cells] at e1
      by_cases q1 : (x.toNat : Int) < lo
      · simp only [wk, aBuiltin, AV.cells, AV.leaf, Nat.reduceEqDiff, Nat.reduceLT, Nat.reduceAdd, Nat.reduceLeDiff, reduceCtorEq, Nat.reduceMul, cfgP, u98, hlen, a0, a1, a5, a6, a7, e1, q1, none_beq]
        rw [hc, if_pos (.inl q1)]
        exact Fin_pure (l := [.bool false]) (by simp [wk, aBuiltin, AV.cells, AV.leaf, Nat.reduceEqDiff, Nat.reduceLT, Nat.reduceAdd, Nat.reduceLeDiff, reduceCtorEq, Nat.reduceMul, cfgP, u98, aResults, aResult, hlen]) (.still rfl) (by simp)
      · by_cases q2 : hi < (x.toNat : Int)
        · simp only [wk, aBuiltin, AV.cells, AV.leaf, Nat.reduceEqDiff, Nat.reduceLT, Nat.reduceAdd, Nat.reduceLeDiff, reduceCtorEq, Nat.reduceMul, cfgP, u98, hlen, a0, a1, a5, a6, a7, e1, q1, q2, none_beq]
          rw [hc, if_pos (.inr q2)]
          exact Fin_pure (l := [.bool false]) (by simp [wk, aBuiltin, AV.cells, AV.leaf, Nat.reduceEqDiff, Nat.reduceLT, Nat.reduceAdd, Nat.reduceLeDiff, reduceCtorEq, Nat.reduceMul, cfgP, u98, aResults, aResult, hlen]) (.still rfl) (by simp)
        · simp only [wk, aBuiltin, AV.cells, AV.leaf, Nat.reduceEqDiff, Nat.reduceLT, Nat.reduceAdd, Nat.reduceLeDiff, reduceCtorEq, Nat.reduceMul, cfgP, u98, hlen, a0, a1, a5, a6, a7, e1, q1, q2, none_beq, hw]
          rw [if_neg (by omega)] at hc
          refine ih _ _ (b.length - (i + 1)) (by omega) ⟨i + 1, 128, 191, rfl, by omega, by omega, ?_⟩
          simp [wk, aBuiltin, AV.cells, AV.leaf, Nat.reduceEqDiff, Nat.reduceLT, Nat.reduceAdd, Nat.reduceLeDiff, reduceCtorEq, Nat.reduceMul, cfgP, u98, hlen, a0, a1, hc]
    · have hnl : ¬ i < min n b.length := by simpa using h
      have he : (b.take n).drop i = [] := by rw [List.drop_eq_nil_iff]; omega
      rw [he, fitsGo] at hc
      rw [hc]
      simp only [wk, aBuiltin, AV.cells, AV.leaf, Nat.reduceEqDiff, Nat.reduceLT, Nat.reduceAdd, Nat.reduceLeDiff, reduceCtorEq, Nat.reduceMul, cfgP, u98, hlen, a0, a1]
      exact Fin_pure (l := [.bool true]) (by simp [wk, aBuiltin, AV.cells, AV.leaf, Nat.reduceEqDiff, Nat.reduceLT, Nat.reduceAdd, Nat.reduceLeDiff, reduceCtorEq, Nat.reduceMul, cfgP, u98, aResults, aResult, hlen]) (.still rfl) (by simp)

theorem Sl_mid {α : Type} {enc : α → AV} {v : AV} {l : List α} (h : Sl enc v l) {P : Program} {t e : TypeId} {sz lo hi : Nat} (hu : P.underlying t = some (.slice e)) (hsz : sizeT P e = some sz)
    (he : ∀ x, (enc x).cells.length = sz) (h1 : lo ≤ hi) (h2 : hi ≤ l.length) : ∃ v', aSlice P t v (some (.int .i64 (lo : Nat))) (some (.int .i64 (hi : Nat))) none = some v' ∧ Sl enc v' ((l.drop lo).take (hi - lo)) := by
  cases h with
  | nil =>
    have : hi = 0 := by simpa using h2
    subst this
    have : lo = 0 := by omega
    subst this
    exact ⟨.nilS, by simp [aSlice, hu, hsz, aBounds, asNat, optInt], .nil⟩
  | vs l full =>
    have h3 : ((l.map enc).all fun v => v.cells.length == sz) = true := by simp [he]
    refine ⟨.vs (((l.drop lo).take (hi - lo)).map enc) (fullOf full hi l.length none), ?_, .vs _ _⟩
    simp only [aSlice, hu, hsz, Option.bind_some, h3, if_true]
    simp [aBounds, asNat, optInt, h1, h2, List.map_take, List.map_drop]

def shl6 (r : Int) : Int := IntKind.i32.wrap (r * 2 ^ min (6 : Int).toNat IntKind.i32.bits)
def runeStep (r : Int) (c : Int) : Int := IntKind.i32.wrap (BitVec.ofInt IntKind.i32.bits (shl6 r) ||| BitVec.ofInt IntKind.i32.bits (IntKind.i32.wrap (BitVec.ofInt IntKind.i32.bits (IntKind.i32.wrap c) &&& BitVec.ofInt IntKind.i32.bits 63).toNat)).toNat
def runeFirst (c : Int) (n : Nat) : Int := IntKind.i32.wrap (BitVec.ofInt IntKind.i32.bits (IntKind.i32.wrap c) &&& ~~~ BitVec.ofInt IntKind.i32.bits (leadU n)).toNat
def runeGo : Int → List UInt8 → Int
  | r, [] => r
  | r, c :: m => runeGo (runeStep r c.toNat) m
/-- the rune at the beginning of bytes, how many they are, or why there is none. -/
def nextU : List UInt8 → Int × Nat × Int
  | [] => (0, 0, 6)
  | c :: r =>
    let n := wantedU c.toNat
    if n = 0 ∨ fitsU c (c :: r) n = false then (0, 0, 3)
    else if (c :: r).length < n then (0, 0, 11)
    else (runeGo (runeFirst c.toNat n) (((c :: r).drop 1).take (n - 1)), n, 0)
theorem nextU_eq {b : List UInt8} {c : UInt8} {r : List UInt8} (hb : b = c :: r) : nextU b = if wantedU c.toNat = 0 ∨ fitsU c b (wantedU c.toNat) = false then (0, 0, 3) else if b.length < wantedU c.toNat then (0, 0, 11)
    else (runeGo (runeFirst c.toNat (wantedU c.toNat)) ((b.drop 1).take (wantedU c.toNat - 1)), wantedU c.toNat, 0) := by subst hb; rfl
theorem wantedU_le (c : Int) : wantedU c ≤ 4 := by unfold wantedU; split <;> (try split) <;> (try split) <;> (try split) <;> omega


theorem next_ok (b : List UInt8) (o v : AV) (sn : Bool) (hv : Sl encB v b) (hl : b.length ≤ 9223372036854775807) (prot : Nat) (H : Heap) (hp : prot ≤ H.length) (hsnap : snap H [o] = some ([v], sn)) :
    aLim cfg prot 81 [o] H = some (.tup [.int .i32 (nextU b).1, .int .i64 (nextU b).2.1, .int .i64 (nextU b).2.2], none) := by
  refine pure_slim rfl (by kernel_rfl) Try.func81 s81 hp hsnap (by simp [Try.f81]) fun fr hlen h => ?_
  simp only [Has, Nat.zero_add] at h
  obtain ⟨a0, -⟩ := h
  simp only [Try.f81] at hlen ⊢
  unfold g81
  have hfz : ∀ (K : Heap) (x y z : AV), still x = true → still y = true → still z = true → Frz K H.length (packR [x, y, z]) (.tup [x, y, z]) := fun K x y z h1 h2 h3 => .tup (.cons (.still h1) (.cons (.still h2) (.cons (.still h3) .nil)))
  by_cases hb : b = []
  · subst hb
    have hn : ∀ K, aLen Try.prog K 141 v = some (.int .i64 0) := fun K => hv.len Try.underlying141
    simp only [wk, aBuiltin, AV.cells, AV.leaf, Nat.reduceEqDiff, Nat.reduceLT, Nat.reduceAdd, Nat.reduceLeDiff, reduceCtorEq, Nat.reduceMul, cfgP, u98, hlen, a0, hn]
    exact Fin_pure (l := [.int .i32 0, .int .i64 0, .int .i64 6]) (by simp [wk, aBuiltin, AV.cells, AV.leaf, Nat.reduceEqDiff, Nat.reduceLT, Nat.reduceAdd, Nat.reduceLeDiff, reduceCtorEq, Nat.reduceMul, cfgP, u98, hlen, aResults, aResult]) (hfz _ _ _ _ rfl rfl rfl) (by intro _; rfl)
  · obtain ⟨c, r, hb⟩ := List.exists_cons_of_ne_nil hb
    have hz : decide ((b.length : Int) = 0) = false := by rw [hb]; simp; omega
    have e0 : aIndexAddr Try.prog 141 v (.int .i64 0) = some (.vptr [.int .u8 (c.toNat : Int)] 0) := by
      subst hb
      exact hv.at (k := .i64) (i := 0) Try.underlying141 sz5 encB_len (by simp)
    have hw := fun K (hK : H.length ≤ K.length) => wanted_ok (c.toNat : Int) H.length K hK
    have hn4 := wantedU_le (c.toNat : Int)
    have hf := fun K (hK : H.length ≤ K.length) => fits_ok c r (wantedU (c.toNat : Int)) hn4 v (by rw [← hb]; exact hv) (by rw [← hb]; exact hl) H.length K hK
    have hld := fun K (hK : H.length ≤ K.length) => lead_ok (wantedU (c.toNat : Int)) hn4 H.length K hK
    rw [nextU_eq hb]
    rw [← hb] at hf
    generalize hn : wantedU (c.toNat : Int) = n at *
    by_cases hn0 : n = 0
    · subst hn0
      have hw : ∀ K, H.length ≤ K.length → aLim cfg H.length 98 [.int .u8 (c.toNat : Int)] K = some (.int .i64 0, none) := hw
      simp only [true_or, if_true]
      simp only [wk, aBuiltin, AV.cells, AV.leaf, Nat.reduceEqDiff, Nat.reduceLT, Nat.reduceAdd, Nat.reduceLeDiff, reduceCtorEq, Nat.reduceMul, cfgP, u98, hlen, a0, hv.len Try.underlying141, hz, e0, hw, none_beq]
      exact Fin_pure (l := [.int .i32 0, .int .i64 0, .int .i64 3]) (by simp [wk, aBuiltin, AV.cells, AV.leaf, Nat.reduceEqDiff, Nat.reduceLT, Nat.reduceAdd, Nat.reduceLeDiff, reduceCtorEq, Nat.reduceMul, cfgP, u98, hlen, aResults, aResult]) (hfz _ _ _ _ rfl rfl rfl) (by intro _; rfl)
    · have hnd : decide ((n : Int) = 0) = false := by simp; omega
      cases hfit : fitsU c b n with
      | false =>
        rw [hfit] at hf
        simp only [or_true, if_true]
        simp only [wk, aBuiltin, AV.cells, AV.leaf, Nat.reduceEqDiff, Nat.reduceLT, Nat.reduceAdd, Nat.reduceLeDiff, reduceCtorEq, Nat.reduceMul, cfgP, u98, hlen, a0, hv.len Try.underlying141, hz, e0, hw, hnd, hf, none_beq]
        exact Fin_pure (l := [.int .i32 0, .int .i64 0, .int .i64 3]) (by simp [wk, aBuiltin, AV.cells, AV.leaf, Nat.reduceEqDiff, Nat.reduceLT, Nat.reduceAdd, Nat.reduceLeDiff, reduceCtorEq, Nat.reduceMul, cfgP, u98, hlen, aResults, aResult]) (hfz _ _ _ _ rfl rfl rfl) (by intro _; rfl)
      | true =>
        rw [hfit] at hf
        rw [if_neg (by simp [hn0])]
        by_cases hlt : (b.length : Int) < n
        · rw [if_pos (by omega)]
          simp only [wk, aBuiltin, AV.cells, AV.leaf, Nat.reduceEqDiff, Nat.reduceLT, Nat.reduceAdd, Nat.reduceLeDiff, reduceCtorEq, Nat.reduceMul, cfgP, u98, hlen, a0, hv.len Try.underlying141, hz, e0, hw, hnd, hf, none_beq, hlt]
          exact Fin_pure (l := [.int .i32 0, .int .i64 0, .int .i64 11]) (by simp [wk, aBuiltin, AV.cells, AV.leaf, Nat.reduceEqDiff, Nat.reduceLT, Nat.reduceAdd, Nat.reduceLeDiff, reduceCtorEq, Nat.reduceMul, cfgP, u98, hlen, aResults, aResult]) (hfz _ _ _ _ rfl rfl rfl) (by intro _; rfl)
        · rw [if_neg (by omega)]
          obtain ⟨v2, e2, hv2⟩ := Sl_mid hv (lo := 1) (hi := n) Try.underlying141 sz5 encB_len (by omega) (by omega)
          have e2 : aSlice Try.prog 141 v (some (.int .i64 1)) (some (.int .i64 n)) none = some v2 := e2
          have hm : ((b.drop 1).take (n - 1)).length = n - 1 := by simp; omega
          generalize (b.drop 1).take (n - 1) = m at *
          simp only [wk, aBuiltin, AV.cells, AV.leaf, Nat.reduceEqDiff, Nat.reduceLT, Nat.reduceAdd, Nat.reduceLeDiff, reduceCtorEq, Nat.reduceMul, cfgP, u98, hlen, a0, hv.len Try.underlying141, hz, e0, hw, hnd, hf, none_beq, hlt, hld, e2, hv2.len Try.underlying141]
          refine loop_rule (fun k fr H' => ∃ (i : Nat) (x : Int), k = m.length - i ∧ i ≤ m.length ∧ fr.length = 54 ∧ fget fr 39 = v2 ∧ fget fr 40 = .int .i64 m.length ∧ fget fr 41 = .int .i64 i ∧ fget fr 6 = .int .i32 x ∧ fget fr 5 = .int .i64 n
            ∧ runeGo (runeFirst c.toNat n) m = runeGo x (m.drop i)) ?_ m.length _ _ ⟨0, runeFirst c.toNat n, by simp [wk, aBuiltin, AV.cells, AV.leaf, Nat.reduceEqDiff, Nat.reduceLT, Nat.reduceAdd, Nat.reduceLeDiff, reduceCtorEq, Nat.reduceMul, cfgP, u98, hlen, a0, runeFirst]⟩
          rintro k fr H' ⟨i, x, rfl, hi, hlen, a39, a40, a41, a6, a5, hc⟩ ih
          simp only [wk, aBuiltin, AV.cells, AV.leaf, Nat.reduceEqDiff, Nat.reduceLT, Nat.reduceAdd, Nat.reduceLeDiff, reduceCtorEq, Nat.reduceMul, cfgP, u98, hlen, a39, a40, a41, a6, a5]
          refine RC_split (fun h => ?_) (fun h => ?_)
          · have hlt : i < m.length := by simpa using h
            have hw : IntKind.i64.wrap ((i : Int) + 1) = ((i + 1 : Nat) : Int) := by rw [wrap64 (by omega) (by omega)]; simp
            have e1 := hv2.at (k := .i64) Try.underlying141 sz5 encB_len hlt
            have hd : m.drop i = m[i] :: m.drop (i + 1) := by simp
            have hs := fun (xo yo : Operand) => bin_shl (P := Try.prog) (t := 21) (xo := xo) (yo := yo) (k := .i32) (k' := .u64) (a := x) (b := 6) (by decide)
            rw [hd] at hc
            generalize m[i] = y at *
            simp only [encB, AV.cells] at e1
            simp only [wk, aBuiltin, AV.cells, AV.leaf, Nat.reduceEqDiff, Nat.reduceLT, Nat.reduceAdd, Nat.reduceLeDiff, reduceCtorEq, Nat.reduceMul, cfgP, u98, hlen, a39, a40, a41, a6, a5, e1, hs, hw]
            refine ih _ _ (m.length - (i + 1)) (by omega) ⟨i + 1, runeStep x y.toNat, rfl, hlt, ?_⟩
            rw [hc, runeGo]
            simp [wk, aBuiltin, AV.cells, AV.leaf, Nat.reduceEqDiff, Nat.reduceLT, Nat.reduceAdd, Nat.reduceLeDiff, reduceCtorEq, Nat.reduceMul, cfgP, u98, hlen, a39, a40, a5, runeStep, shl6]
          · have hnl : ¬ i < m.length := by simpa using h
            have he : m.drop i = [] := by simp; omega
            rw [he, runeGo] at hc
            rw [hc]
            simp only [wk, aBuiltin, AV.cells, AV.leaf, Nat.reduceEqDiff, Nat.reduceLT, Nat.reduceAdd, Nat.reduceLeDiff, reduceCtorEq, Nat.reduceMul, cfgP, u98, hlen, a6, a5]
            exact Fin_pure (l := [.int .i32 x, .int .i64 n, .int .i64 0]) (by simp [wk, aBuiltin, AV.cells, AV.leaf, Nat.reduceEqDiff, Nat.reduceLT, Nat.reduceAdd, Nat.reduceLeDiff, reduceCtorEq, Nat.reduceMul, cfgP, u98, hlen, aResults, aResult]) (hfz _ _ _ _ rfl rfl rfl) (by intro _; rfl)
end Go.Proofs.Ytoblikhnbddfmaa
