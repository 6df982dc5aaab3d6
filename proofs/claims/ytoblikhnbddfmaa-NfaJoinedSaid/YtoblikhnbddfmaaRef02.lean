import Derived.Test.YtoblikhnbddfmaaDec
import Derived.Test.YtoblikhnbddfmaaAbsMore
/-! Chapter 2 of the document, walked. -/
set_option linter.unusedSimpArgs false
namespace Go.Proofs.Ytoblikhnbddfmaa
open Go Go.Abs AbsSeat Ty

theorem u93 : type_of% (And.intro (fun (K : Heap) (n : Int) => conv_int Try.underlying3 Try.underlying5 K n) (And.intro (fun (K : Heap) (n : Int) => conv_int Try.underlying5 Try.underlying3 K n) (And.intro ag0 (And.intro sz0 (And.intro by0 (And.intro Try.underlying0 (And.intro ag1 (And.intro sz1 (And.intro by1 (And.intro ze1 (And.intro Try.underlying1 (And.intro ag2 (And.intro sz2 (And.intro by2 (And.intro ze2 (And.intro Try.underlying2 (And.intro ag3 (And.intro sz3 (And.intro by3 (And.intro ze3 (And.intro Try.underlying3 (And.intro ag4 (And.intro sz4 (And.intro by4 (And.intro ze4 (And.intro Try.underlying4 (And.intro ag5 (And.intro sz5 (And.intro by5 (And.intro ze5 (And.intro Try.underlying5 (And.intro ag6 (And.intro sz6 (And.intro by6 (And.intro ze6 (And.intro Try.underlying6 (And.intro ag9 (And.intro sz9 (And.intro by9 (And.intro ze9 (And.intro Try.underlying9 (And.intro ag90 (And.intro sz90 (And.intro by90 (And.intro se90 (And.intro ze90 (And.intro Try.underlying90 (And.intro ag141 (And.intro sz141 (And.intro by141 (And.intro se141 (And.intro ze141 Try.underlying141)))))))))))))))))))))))))))))))))))))))))))))))))))) := And.intro (fun (K : Heap) (n : Int) => conv_int Try.underlying3 Try.underlying5 K n) (And.intro (fun (K : Heap) (n : Int) => conv_int Try.underlying5 Try.underlying3 K n) (And.intro ag0 (And.intro sz0 (And.intro by0 (And.intro Try.underlying0 (And.intro ag1 (And.intro sz1 (And.intro by1 (And.intro ze1 (And.intro Try.underlying1 (And.intro ag2 (And.intro sz2 (And.intro by2 (And.intro ze2 (And.intro Try.underlying2 (And.intro ag3 (And.intro sz3 (And.intro by3 (And.intro ze3 (And.intro Try.underlying3 (And.intro ag4 (And.intro sz4 (And.intro by4 (And.intro ze4 (And.intro Try.underlying4 (And.intro ag5 (And.intro sz5 (And.intro by5 (And.intro ze5 (And.intro Try.underlying5 (And.intro ag6 (And.intro sz6 (And.intro by6 (And.intro ze6 (And.intro Try.underlying6 (And.intro ag9 (And.intro sz9 (And.intro by9 (And.intro ze9 (And.intro Try.underlying9 (And.intro ag90 (And.intro sz90 (And.intro by90 (And.intro se90 (And.intro ze90 (And.intro Try.underlying90 (And.intro ag141 (And.intro sz141 (And.intro by141 (And.intro se141 (And.intro ze141 Try.underlying141)))))))))))))))))))))))))))))))))))))))))))))))))))
def g93 : Code :=
  .seq (.region 0 #[q 2 (.assign (.const (.bool false))) 4] false) (.seq (.region 1 #[q 3 (.move (.tmp 0)) 3, q 4 (.binOp .geq 3 (.tmp 3) (ik 0) 3) 4, q 5 (.move (.tmp 4)) 4, qg 6 (.move (.tmp 0)) 3 2 true, qg 7 (.binOp .leq 3 (.tmp 6) (ik 1114111) 3) 4 2 true, q 8 (.pick (.tmp 5) (.tmp 7) (.const (.bool false))) 4, q 9 (.move (.tmp 8)) 4, qg 10 (.move (.tmp 0)) 3 6 true, qg 11 (.binOp .lss 3 (.tmp 10) (ik 55296) 3) 4 6 true, qg 12 (.move (.tmp 11)) 4 6 true, qg 13 (.move (.tmp 0)) 3 9 false, qg 14 (.binOp .gtr 3 (.tmp 13) (ik 57343) 3) 4 9 false, qg 15 (.pick (.tmp 12) (.const (.bool true)) (.tmp 14)) 4 6 true, q 16 (.pick (.tmp 9) (.tmp 15) (.const (.bool false))) 4, q 2 (.assign (.tmp 16)) 4] false) .ret)
theorem s93 : Try.f93.body.map (slim cfg) = some g93 := by kernel_rfl
def g94 : Code :=
  .seq (.region 0 #[q 2 (.assign (.const (.slice none 0 0))) 141] false) (.seq (.seq (.region 1 #[q 3 (.move (.tmp 0)) 3, q 4 (cl 93 #[.tmp 3] #[3]) 4, q 5 (.unOp .not 4 (.tmp 4)) 4] false) (.cond (.tmp 5) (.seq (.region 2 #[q 2 (.assign (.const (.slice none 0 0))) 141] false) .ret) .skip)) (.seq (.seq (.region 3 #[q 6 (.move (.tmp 0)) 3, q 7 (.binOp .lss 3 (.tmp 6) (ik 128) 3) 4] false) (.cond (.tmp 7) (.seq (.region 4 #[q 8 (.move (.tmp 0)) 3, q 9 (.convert 3 5 (.tmp 8)) 5, q 10 (.buildSlice 141 1 #[(0, .tmp 9)]) 141, q 2 (.assign (.tmp 10)) 141] false) .ret) .skip)) (.seq (.seq (.region 5 #[q 11 (.move (.tmp 0)) 3, q 12 (.binOp .lss 3 (.tmp 11) (ik 2048) 3) 4] false) (.cond (.tmp 12) (.seq (.region 6 #[q 13 (.move (.tmp 0)) 3, q 14 (.binOp .quo 3 (.tmp 13) (ik 64) 3) 3, q 15 (.binOp .add 3 (ik 192) (.tmp 14) 3) 3, q 16 (.convert 3 5 (.tmp 15)) 5, q 17 (.move (.tmp 0)) 3, q 18 (.binOp .rem 3 (.tmp 17) (ik 64) 3) 3, q 19 (.binOp .add 3 (ik 128) (.tmp 18) 3) 3, q 20 (.convert 3 5 (.tmp 19)) 5, q 21 (.buildSlice 141 2 #[(0, .tmp 16), (1, .tmp 20)]) 141, q 2 (.assign (.tmp 21)) 141] false) .ret) .skip)) (.seq (.seq (.region 7 #[q 22 (.move (.tmp 0)) 3, q 23 (.binOp .lss 3 (.tmp 22) (ik 65536) 3) 4] false) (.cond (.tmp 23) (.seq (.region 8 #[q 24 (.move (.tmp 0)) 3, q 25 (.binOp .quo 3 (.tmp 24) (ik 4096) 3) 3, q 26 (.binOp .add 3 (ik 224) (.tmp 25) 3) 3, q 27 (.convert 3 5 (.tmp 26)) 5, q 28 (.move (.tmp 0)) 3, q 29 (.binOp .quo 3 (.tmp 28) (ik 64) 3) 3, q 30 (.binOp .rem 3 (.tmp 29) (ik 64) 3) 3, q 31 (.binOp .add 3 (ik 128) (.tmp 30) 3) 3, q 32 (.convert 3 5 (.tmp 31)) 5, q 33 (.move (.tmp 0)) 3, q 34 (.binOp .rem 3 (.tmp 33) (ik 64) 3) 3, q 35 (.binOp .add 3 (ik 128) (.tmp 34) 3) 3, q 36 (.convert 3 5 (.tmp 35)) 5, q 37 (.buildSlice 141 3 #[(0, .tmp 27), (1, .tmp 32), (2, .tmp 36)]) 141, q 2 (.assign (.tmp 37)) 141] false) .ret) .skip)) (.seq (.region 9 #[q 38 (.move (.tmp 0)) 3, q 39 (.binOp .quo 3 (.tmp 38) (ik 262144) 3) 3, q 40 (.binOp .add 3 (ik 240) (.tmp 39) 3) 3, q 41 (.convert 3 5 (.tmp 40)) 5, q 42 (.move (.tmp 0)) 3, q 43 (.binOp .quo 3 (.tmp 42) (ik 4096) 3) 3, q 44 (.binOp .rem 3 (.tmp 43) (ik 64) 3) 3, q 45 (.binOp .add 3 (ik 128) (.tmp 44) 3) 3, q 46 (.convert 3 5 (.tmp 45)) 5, q 47 (.move (.tmp 0)) 3, q 48 (.binOp .quo 3 (.tmp 47) (ik 64) 3) 3, q 49 (.binOp .rem 3 (.tmp 48) (ik 64) 3) 3, q 50 (.binOp .add 3 (ik 128) (.tmp 49) 3) 3, q 51 (.convert 3 5 (.tmp 50)) 5, q 52 (.move (.tmp 0)) 3, q 53 (.binOp .rem 3 (.tmp 52) (ik 64) 3) 3, q 54 (.binOp .add 3 (ik 128) (.tmp 53) 3) 3, q 55 (.convert 3 5 (.tmp 54)) 5, q 56 (.buildSlice 141 4 #[(0, .tmp 41), (1, .tmp 46), (2, .tmp 51), (3, .tmp 55)]) 141, q 2 (.assign (.tmp 56)) 141] false) .ret)))))
theorem s94 : Try.f94.body.map (slim cfg) = some g94 := by kernel_rfl
def g92 : Code :=
  .seq (.region 0 #[q 4 (.assign (ik 0)) 3] false) (.seq (.region 1 #[{ dst := some 7, op := .move (.tmp 0), type := 141, pos := "ref.go:26", after := #[], guard := none }, { dst := some 8, op := .indexAddr 141 (.tmp 7) (ik 0), type := 0, pos := "ref.go:26", after := #[{ on := 0, ground := .data }], guard := none }, { dst := some 9, op := .load 5 (.tmp 8), type := 5, pos := "ref.go:26", after := #[{ on := 1, ground := .data }], guard := none }, { dst := some 10, op := .convert 5 3 (.tmp 9), type := 3, pos := "ref.go:26", after := #[{ on := 2, ground := .data }], guard := none }, { dst := some 11, op := .buildSlice 90 5 #[(0, ik 0), (1, ik 0), (2, ik 192), (3, ik 224), (4, ik 240)], type := 90, pos := "ref.go:26", after := #[], guard := none }, { dst := some 12, op := .move (.tmp 1), type := 3, pos := "ref.go:26", after := #[], guard := none }, { dst := some 13, op := .indexAddr 90 (.tmp 11) (.tmp 12), type := 0, pos := "ref.go:26", after := #[{ on := 4, ground := .data }, { on := 5, ground := .data }], guard := none }, { dst := some 14, op := .load 3 (.tmp 13), type := 3, pos := "ref.go:26", after := #[{ on := 6, ground := .data }], guard := none }, { dst := some 15, op := .binOp .sub 3 (.tmp 10) (.tmp 14) 3, type := 3, pos := "ref.go:26", after := #[{ on := 3, ground := .data }, { on := 7, ground := .data }], guard := none }, { dst := some 5, op := .assign (.tmp 15), type := 3, pos := "ref.go:26", after := #[{ on := 8, ground := .data }, { on := 0, ground := .phase }, { on := 1, ground := .phase }, { on := 2, ground := .phase }, { on := 3, ground := .phase }, { on := 4, ground := .phase }, { on := 5, ground := .phase }, { on := 6, ground := .phase }, { on := 7, ground := .phase }, { on := 8, ground := .phase }], guard := none }] true) (.seq (.seq (.region 2 #[q 6 (.assign (ik 1)) 3] false) (.block 0 (.loop (.seq (.seq (.region 3 #[q 16 (.move (.tmp 6)) 3, q 17 (.move (.tmp 1)) 3, q 18 (.binOp .lss 3 (.tmp 16) (.tmp 17) 3) 4] false) (.cond (.tmp 18) .skip (.exit 0))) (.seq (.block 1 (.region 5 #[q 21 (.move (.tmp 5)) 3, q 22 (.binOp .mul 3 (ik 64) (.tmp 21) 3) 3, q 23 (.move (.tmp 0)) 141, q 24 (.move (.tmp 6)) 3, q 25 (.indexAddr 141 (.tmp 23) (.tmp 24)) 0, q 26 (.load 5 (.tmp 25)) 5, q 27 (.convert 5 3 (.tmp 26)) 3, q 28 (.binOp .add 3 (.tmp 22) (.tmp 27) 3) 3, q 29 (.binOp .sub 3 (.tmp 28) (ik 128) 3) 3, q 5 (.assign (.tmp 29)) 3] false)) (.region 4 #[q 19 (.move (.tmp 6)) 3, q 20 (.binOp .add 3 (.tmp 19) (ik 1) 3) 3, q 6 (.assign (.tmp 20)) 3] false)))))) (.seq (.region 6 #[q 30 (.move (.tmp 5)) 3, q 4 (.assign (.tmp 30)) 3] false) .ret)))
theorem s92 : Try.f92.body.map (slim cfg) = some g92 := by kernel_rfl
def g95 : Code :=
  .seq (.region 0 #[q 2 (.assign (.const (.bool false))) 4] false) (.seq (.seq (.region 1 #[q 10 (.move (.tmp 0)) 141, q 11 (bi .len #[.tmp 10] #[141]) 3, q 12 (.binOp .eql 3 (.tmp 11) (ik 0) 3) 4, q 13 (.move (.tmp 12)) 4, qg 14 (.move (.tmp 0)) 141 3 false, qg 15 (bi .len #[.tmp 14] #[141]) 3 3 false, qg 16 (.binOp .gtr 3 (.tmp 15) (ik 3) 3) 4 3 false, q 17 (.pick (.tmp 13) (.const (.bool true)) (.tmp 16)) 4] false) (.cond (.tmp 17) (.seq (.region 2 #[q 2 (.assign (.const (.bool false))) 4] false) .ret) .skip)) (.seq (.seq (.region 3 #[q 18 (.move (.tmp 0)) 141, q 19 (bi .len #[.tmp 18] #[141]) 3, q 20 (.binOp .add 3 (.tmp 19) (ik 1) 3) 3, q 3 (.assign (.tmp 20)) 3] false) (.block 0 (.loop (.seq (.seq (.region 4 #[q 21 (.move (.tmp 3)) 3, q 22 (.binOp .leq 3 (.tmp 21) (ik 4) 3) 4] false) (.cond (.tmp 22) .skip (.exit 0))) (.seq (.block 1 (.seq (.region 6 #[q 25 (.buildSlice 141 6 #[(0, .const (.int .u8 128)), (1, .const (.int .u8 143)), (2, .const (.int .u8 144)), (3, .const (.int .u8 159)), (4, .const (.int .u8 160)), (5, .const (.int .u8 191))]) 141, q 26 (bi .len #[.tmp 25] #[141]) 3, q 27 (.move (ik 0)) 3] false) (.block 2 (.loop (.seq (.region 7 #[q 28 (.binOp .lss 3 (.tmp 27) (.tmp 26) 3) 0] false) (.seq (.cond (.tmp 28) .skip (.exit 2)) (.seq (.block 3 (.seq (.region 8 #[q 29 (.indexAddr 141 (.tmp 25) (.tmp 27)) 0, q 30 (.load 5 (.tmp 29)) 5, q 5 (.assign (.tmp 30)) 5] false) (.seq (.region 9 #[q 31 (.buildSlice 141 0 #[]) 141, q 32 (.move (.tmp 0)) 141, q 33 (bi .append #[.tmp 31, .tmp 32] #[141, 141]) 141, q 6 (.assign (.tmp 33)) 141] false) (.seq (.seq (.region 10 #[q 34 (.move (.tmp 0)) 141, q 35 (bi .len #[.tmp 34] #[141]) 3, q 7 (.assign (.tmp 35)) 3] false) (.block 4 (.loop (.seq (.seq (.region 11 #[q 36 (.move (.tmp 7)) 3, q 37 (.move (.tmp 3)) 3, q 38 (.binOp .lss 3 (.tmp 36) (.tmp 37) 3) 4] false) (.cond (.tmp 38) .skip (.exit 4))) (.seq (.block 5 (.seq (.region 13 #[q 8 (.assign (.const (.int .u8 128))) 5] false) (.seq (.seq (.region 14 #[q 41 (.move (.tmp 7)) 3, q 42 (.move (.tmp 0)) 141, q 43 (bi .len #[.tmp 42] #[141]) 3, q 44 (.binOp .eql 3 (.tmp 41) (.tmp 43) 3) 4] false) (.cond (.tmp 44) (.region 15 #[q 45 (.move (.tmp 5)) 5, q 8 (.assign (.tmp 45)) 5] false) .skip)) (.region 16 #[q 46 (.move (.tmp 6)) 141, q 47 (.move (.tmp 8)) 5, q 48 (.buildSlice 141 1 #[(0, .tmp 47)]) 141, q 49 (bi .append #[.tmp 46, .tmp 48] #[141, 141]) 141, q 6 (.assign (.tmp 49)) 141] false)))) (.region 12 #[q 39 (.move (.tmp 7)) 3, q 40 (.binOp .add 3 (.tmp 39) (ik 1) 3) 3, q 7 (.assign (.tmp 40)) 3] false)))))) (.seq (.region 17 #[q 50 (.move (.tmp 6)) 141, q 51 (.move (.tmp 3)) 3, q 52 (cl 92 #[.tmp 50, .tmp 51] #[141, 3]) 3, q 9 (.assign (.tmp 52)) 3] false) (.seq (.region 18 #[q 53 (.move (.tmp 9)) 3, q 54 (cl 93 #[.tmp 53] #[3]) 4, q 55 (.move (.tmp 54)) 4, qg 56 (.move (.tmp 9)) 3 2 true, qg 57 (cl 94 #[.tmp 56] #[3]) 141 2 true, qg 58 (.convert 141 9 (.tmp 57)) 9 2 true, qg 59 (.move (.tmp 6)) 141 2 true, qg 60 (.convert 141 9 (.tmp 59)) 9 2 true, qg 61 (.binOp .eql 9 (.tmp 58) (.tmp 60) 9) 4 2 true, q 62 (.pick (.tmp 55) (.tmp 61) (.const (.bool false))) 4] false) (.cond (.tmp 62) (.seq (.region 19 #[q 2 (.assign (.const (.bool true))) 4] false) .ret) .skip))))))) (.region 20 #[q 63 (.binOp .add 3 (.tmp 27) (ik 1) 3) 3, q 27 (.move (.tmp 63)) 3] false)))))))) (.region 5 #[q 23 (.move (.tmp 3)) 3, q 24 (.binOp .add 3 (.tmp 23) (ik 1) 3) 3, q 3 (.assign (.tmp 24)) 3] false)))))) (.seq (.region 21 #[q 2 (.assign (.const (.bool false))) 4] false) .ret)))
theorem s95 : Try.f95.body.map (slim cfg) = some g95 := by kernel_rfl
def g74 : Code :=
  .seq (.region 0 #[q 2 (.assign (ik 0)) 3, q 3 (.assign (ik 0)) 3] false) (.seq (.seq (.region 1 #[q 4 (.assign (ik 1)) 3] false) (.block 0 (.loop (.seq (.seq (.region 2 #[q 6 (.move (.tmp 4)) 3, q 7 (.binOp .leq 3 (.tmp 6) (ik 4) 3) 4, q 8 (.move (.tmp 7)) 4, qg 9 (.move (.tmp 4)) 3 2 true, qg 10 (.move (.tmp 0)) 141 2 true, qg 11 (bi .len #[.tmp 10] #[141]) 3 2 true, qg 12 (.binOp .leq 3 (.tmp 9) (.tmp 11) 3) 4 2 true, q 13 (.pick (.tmp 8) (.tmp 12) (.const (.bool false))) 4] false) (.cond (.tmp 13) .skip (.exit 0))) (.seq (.block 1 (.seq (.region 4 #[q 16 (.move (.tmp 0)) 141, q 17 (.move (.tmp 4)) 3, q 18 (cl 92 #[.tmp 16, .tmp 17] #[141, 3]) 3, q 5 (.assign (.tmp 18)) 3] false) (.seq (.region 5 #[q 19 (.move (.tmp 5)) 3, q 20 (cl 93 #[.tmp 19] #[3]) 4, q 21 (.move (.tmp 20)) 4, qg 22 (.move (.tmp 5)) 3 2 true, qg 23 (cl 94 #[.tmp 22] #[3]) 141 2 true, qg 24 (.convert 141 9 (.tmp 23)) 9 2 true, qg 25 (.move (.tmp 0)) 141 2 true, qg 26 (.move (.tmp 4)) 3 2 true, qg 27 (.slice 141 (.tmp 25) none (some (.tmp 26)) none) 141 2 true, qg 28 (.convert 141 9 (.tmp 27)) 9 2 true, qg 29 (.binOp .eql 9 (.tmp 24) (.tmp 28) 9) 4 2 true, q 30 (.pick (.tmp 21) (.tmp 29) (.const (.bool false))) 4] false) (.cond (.tmp 30) (.seq (.region 6 #[q 31 (.move (.tmp 5)) 3, q 32 (.move (.tmp 4)) 3, q 2 (.assign (.tmp 31)) 3, q 3 (.assign (.tmp 32)) 3] false) .ret) .skip)))) (.region 3 #[q 14 (.move (.tmp 4)) 3, q 15 (.binOp .add 3 (.tmp 14) (ik 1) 3) 3, q 4 (.assign (.tmp 15)) 3] false)))))) (.seq (.seq (.region 7 #[q 33 (.move (.tmp 0)) 141, q 34 (cl 95 #[.tmp 33] #[141]) 4] false) (.cond (.tmp 34) (.seq (.region 8 #[q 2 (.assign (ik 0)) 3, q 3 (.assign (ik (-1))) 3] false) .ret) .skip)) (.seq (.region 9 #[q 2 (.assign (ik 0)) 3, q 3 (.assign (ik 0)) 3] false) .ret)))
theorem s74 : Try.f74.body.map (slim cfg) = some g74 := by kernel_rfl


theorem is_ok (v : Int) (prot : Nat) (H : Heap) (hp : prot ≤ H.length) : aLim cfg prot 93 [.int .i64 v] H = some (.bool (isI v), none) := by
  have hsnap : snap H [.int .i64 v] = some ([.int .i64 v], false) := rfl
  unfold isI
  refine pure_slim rfl (by kernel_rfl) Try.func93 s93 hp hsnap (by simp [Try.f93]) fun fr hlen h => ?_
  simp only [Has, Nat.zero_add] at h
  obtain ⟨a0, -⟩ := h
  simp only [Try.f93] at hlen ⊢
  unfold g93
  by_cases h1 : 0 ≤ v
  · by_cases h2 : v ≤ 1114111
    · by_cases h3 : v < 55296
      · simp only [wk, aBuiltin, AV.cells, AV.leaf, Nat.reduceEqDiff, Nat.reduceLT, Nat.reduceAdd, Nat.reduceLeDiff, reduceCtorEq, Nat.reduceMul, cfgP, u93, hlen, a0, h1, h2, h3, none_beq]
        exact Fin_pure (l := [.bool true]) (by simp [wk, aBuiltin, AV.cells, AV.leaf, Nat.reduceEqDiff, Nat.reduceLT, Nat.reduceAdd, Nat.reduceLeDiff, reduceCtorEq, Nat.reduceMul, cfgP, u93, aResults, aResult, hlen]) (.still rfl) (by simp)
      · simp only [wk, aBuiltin, AV.cells, AV.leaf, Nat.reduceEqDiff, Nat.reduceLT, Nat.reduceAdd, Nat.reduceLeDiff, reduceCtorEq, Nat.reduceMul, cfgP, u93, hlen, a0, h1, h2, h3, none_beq]
        simp only [Bool.true_and, Bool.false_or, decide_true, decide_false]
        exact Fin_pure (l := [.bool (decide (57343 < v))]) (by simp [wk, aBuiltin, AV.cells, AV.leaf, Nat.reduceEqDiff, Nat.reduceLT, Nat.reduceAdd, Nat.reduceLeDiff, reduceCtorEq, Nat.reduceMul, cfgP, u93, aResults, aResult, hlen]) (.still rfl) (by simp)
    · simp only [wk, aBuiltin, AV.cells, AV.leaf, Nat.reduceEqDiff, Nat.reduceLT, Nat.reduceAdd, Nat.reduceLeDiff, reduceCtorEq, Nat.reduceMul, cfgP, u93, hlen, a0, h1, h2, none_beq]
      simp only [Bool.true_and, Bool.false_and, decide_true, decide_false]
      exact Fin_pure (l := [.bool false]) (by simp [wk, aBuiltin, AV.cells, AV.leaf, Nat.reduceEqDiff, Nat.reduceLT, Nat.reduceAdd, Nat.reduceLeDiff, reduceCtorEq, Nat.reduceMul, cfgP, u93, aResults, aResult, hlen]) (.still rfl) (by simp)
  · simp only [wk, aBuiltin, AV.cells, AV.leaf, Nat.reduceEqDiff, Nat.reduceLT, Nat.reduceAdd, Nat.reduceLeDiff, reduceCtorEq, Nat.reduceMul, cfgP, u93, hlen, a0, h1, none_beq]
    simp only [Bool.false_and, decide_false]
    exact Fin_pure (l := [.bool false]) (by simp [wk, aBuiltin, AV.cells, AV.leaf, Nat.reduceEqDiff, Nat.reduceLT, Nat.reduceAdd, Nat.reduceLeDiff, reduceCtorEq, Nat.reduceMul, cfgP, u93, aResults, aResult, hlen]) (.still rfl) (by simp)

theorem u8n (m : Nat) (h : m < 256) : IntKind.u8.wrap (m : Int) = (((UInt8.ofNat m).toNat : Nat) : Int) := by
  have e : (UInt8.ofNat m).toNat = m := by simp; omega
  rw [e]
  simp [IntKind.wrap, IntKind.bits, IntKind.signed]
  omega
theorem lit1B (c : UInt8) (H : Heap) : aBuildSlice Try.prog H 141 1 [(0, .int .u8 c.toNat)] = some (.vs ([c].map encB) true, none) := by
  simp [aBuildSlice, se141, sz5, by5, ag5, ze5, AV.cells, fillA, zrep, splice, litOk, AV.scal, AV.plL, AV.pl, chunk, AV.leaf, encB]
theorem lit2B (c d : UInt8) (H : Heap) : aBuildSlice Try.prog H 141 2 [(0, .int .u8 c.toNat), (1, .int .u8 d.toNat)] = some (.vs ([c, d].map encB) true, none) := by
  simp [aBuildSlice, se141, sz5, by5, ag5, ze5, AV.cells, fillA, zrep, List.range_succ, splice, litOk, AV.scal, AV.plL, AV.pl, chunk, AV.leaf, encB]
theorem lit3B (c d e : UInt8) (H : Heap) : aBuildSlice Try.prog H 141 3 [(0, .int .u8 c.toNat), (1, .int .u8 d.toNat), (2, .int .u8 e.toNat)] = some (.vs ([c, d, e].map encB) true, none) := by
  simp [aBuildSlice, se141, sz5, by5, ag5, ze5, AV.cells, fillA, zrep, List.range_succ, splice, litOk, AV.scal, AV.plL, AV.pl, chunk, AV.leaf, encB]
theorem lit4B (c d e f : UInt8) (H : Heap) : aBuildSlice Try.prog H 141 4 [(0, .int .u8 c.toNat), (1, .int .u8 d.toNat), (2, .int .u8 e.toNat), (3, .int .u8 f.toNat)] = some (.vs ([c, d, e, f].map encB) true, none) := by
  simp [aBuildSlice, se141, sz5, by5, ag5, ze5, AV.cells, fillA, zrep, List.range_succ, splice, litOk, AV.scal, AV.plL, AV.pl, chunk, AV.leaf, encB]


theorem put_ok (v : Int) (prot : Nat) (H : Heap) (hp : prot ≤ H.length) : ∃ o, Sl encB o (putU v) ∧ (o = .nilS ∨ ∃ es, o = .vs es true) ∧ aLim cfg prot 94 [.int .i64 v] H = some (o, none) := by
  have hsnap : snap H [.int .i64 v] = some ([.int .i64 v], false) := rfl
  have n1 := is_ok v H.length H (Nat.le_refl _)
  cases hi : isI v with
  | false =>
    rw [hi] at n1
    refine ⟨.nilS, by simp [putU, hi]; exact .nil, .inl rfl, ?_⟩
    refine pure_slim rfl (by kernel_rfl) Try.func94 s94 hp hsnap (by simp [Try.f94]) fun fr hlen h => ?_
    simp only [Has, Nat.zero_add] at h
    obtain ⟨a0, -⟩ := h
    simp only [Try.f94] at hlen ⊢
    unfold g94
    simp only [wk, aBuiltin, AV.cells, AV.leaf, Nat.reduceEqDiff, Nat.reduceLT, Nat.reduceAdd, Nat.reduceLeDiff, reduceCtorEq, Nat.reduceMul, cfgP, u93, hlen, a0, n1]
    exact Fin_pure (l := [.nilS]) (by simp [wk, aBuiltin, AV.cells, AV.leaf, Nat.reduceEqDiff, Nat.reduceLT, Nat.reduceAdd, Nat.reduceLeDiff, reduceCtorEq, Nat.reduceMul, cfgP, u93, aResults, aResult, hlen]) (.still rfl) (by simp)
  | true =>
    rw [hi] at n1
    obtain ⟨h0, hm, _⟩ := (isI_iff v).1 hi
    obtain ⟨m, rfl⟩ : ∃ m : Nat, v = m := ⟨v.toNat, by omega⟩
    have q : ∀ (d : Nat) (xo yo : Operand), 0 < d → aBin Try.prog .quo 3 xo yo (.int .i64 m) (.int .i64 d) = some (.int .i64 ((m / d : Nat))) := fun d xo yo hd => by
      have h1 := Nat.div_le_self m d
      rw [bin_quo_nat hd]
      generalize m / d = y at *
      rw [wrap64 (by omega) (by omega)]
    have q64 : ∀ xo yo, aBin Try.prog .quo 3 xo yo (.int .i64 m) (.int .i64 64) = some (.int .i64 ((m / 64 : Nat))) := fun xo yo => q 64 xo yo (by omega)
    have q4096 : ∀ xo yo, aBin Try.prog .quo 3 xo yo (.int .i64 m) (.int .i64 4096) = some (.int .i64 ((m / 4096 : Nat))) := fun xo yo => q 4096 xo yo (by omega)
    have q262144 : ∀ xo yo, aBin Try.prog .quo 3 xo yo (.int .i64 m) (.int .i64 262144) = some (.int .i64 ((m / 262144 : Nat))) := fun xo yo => q 262144 xo yo (by omega)
    have r64 : ∀ (x : Nat) (xo yo : Operand), aBin Try.prog .rem 3 xo yo (.int .i64 x) (.int .i64 64) = some (.int .i64 ((x % 64 : Nat))) := fun x xo yo => bin_rem_nat (b := 64) (by omega)
    have ad : ∀ (b x : Nat), b + x < 256 → IntKind.i64.wrap ((b : Int) + (x : Nat)) = ((b + x : Nat) : Int) := fun b x h => by rw [wrap64 (by omega) (by omega)]; simp
    by_cases h1 : m < 128
    · have c1 : decide ((m : Int) < 128) = true := decide_eq_true (by omega)
      have w1 := u8n m (by omega)
      refine ⟨.vs ([UInt8.ofNat m].map encB) true, by rw [put_one hi (by omega)]; exact .vs _ _, .inr ⟨_, rfl⟩, ?_⟩
      refine pure_slim rfl (by kernel_rfl) Try.func94 s94 hp hsnap (by simp [Try.f94]) fun fr hlen h => ?_
      simp only [Has, Nat.zero_add] at h
      obtain ⟨a0, -⟩ := h
      simp only [Try.f94] at hlen ⊢
      unfold g94
      simp only [wk, aBuiltin, AV.cells, AV.leaf, Nat.reduceEqDiff, Nat.reduceLT, Nat.reduceAdd, Nat.reduceLeDiff, reduceCtorEq, Nat.reduceMul, cfgP, u93, hlen, a0, n1, c1, w1, lit1B]
      exact Fin_pure (l := [.vs ([UInt8.ofNat m].map encB) true]) (by simp [wk, aBuiltin, AV.cells, AV.leaf, Nat.reduceEqDiff, Nat.reduceLT, Nat.reduceAdd, Nat.reduceLeDiff, reduceCtorEq, Nat.reduceMul, cfgP, u93, aResults, aResult, hlen]) (.still rfl) (by simp)
    have c1 : decide ((m : Int) < 128) = false := decide_eq_false (by omega)
    by_cases h2 : m < 2048
    · have c2 : decide ((m : Int) < 2048) = true := decide_eq_true (by omega)
      have a1 := ad 192 (m / 64) (by omega)
      have a2 := ad 128 (m % 64) (by omega)
      have w1 := u8n (192 + m / 64) (by omega)
      have w2 := u8n (128 + m % 64) (by omega)
      have a1 : IntKind.i64.wrap (192 + ((m / 64 : Nat) : Int)) = ((192 + m / 64 : Nat) : Int) := a1
      have a2 : IntKind.i64.wrap (128 + ((m % 64 : Nat) : Int)) = ((128 + m % 64 : Nat) : Int) := a2
      refine ⟨.vs ([UInt8.ofNat (192 + m / 64), UInt8.ofNat (128 + m % 64)].map encB) true, by rw [put_two hi (by omega) (by omega)]; exact .vs _ _, .inr ⟨_, rfl⟩, ?_⟩
      refine pure_slim rfl (by kernel_rfl) Try.func94 s94 hp hsnap (by simp [Try.f94]) fun fr hlen h => ?_
      simp only [Has, Nat.zero_add] at h
      obtain ⟨a0, -⟩ := h
      simp only [Try.f94] at hlen ⊢
      unfold g94
      simp only [wk, aBuiltin, AV.cells, AV.leaf, Nat.reduceEqDiff, Nat.reduceLT, Nat.reduceAdd, Nat.reduceLeDiff, reduceCtorEq, Nat.reduceMul, cfgP, u93, hlen, a0, n1, c1, c2, q64, r64, a1, a2, w1, w2, lit2B]
      exact Fin_pure (l := [.vs ([UInt8.ofNat (192 + m / 64), UInt8.ofNat (128 + m % 64)].map encB) true]) (by simp [wk, aBuiltin, AV.cells, AV.leaf, Nat.reduceEqDiff, Nat.reduceLT, Nat.reduceAdd, Nat.reduceLeDiff, reduceCtorEq, Nat.reduceMul, cfgP, u93, aResults, aResult, hlen]) (.still rfl) (by simp)
    have c2 : decide ((m : Int) < 2048) = false := decide_eq_false (by omega)
    by_cases h3 : m < 65536
    · have c3 : decide ((m : Int) < 65536) = true := decide_eq_true (by omega)
      have a1 : IntKind.i64.wrap (224 + ((m / 4096 : Nat) : Int)) = ((224 + m / 4096 : Nat) : Int) := ad 224 (m / 4096) (by omega)
      have a2 : IntKind.i64.wrap (128 + ((m / 64 % 64 : Nat) : Int)) = ((128 + m / 64 % 64 : Nat) : Int) := ad 128 (m / 64 % 64) (by omega)
      have a3 : IntKind.i64.wrap (128 + ((m % 64 : Nat) : Int)) = ((128 + m % 64 : Nat) : Int) := ad 128 (m % 64) (by omega)
      have w1 := u8n (224 + m / 4096) (by omega)
      have w2 := u8n (128 + m / 64 % 64) (by omega)
      have w3 := u8n (128 + m % 64) (by omega)
      refine ⟨.vs ([UInt8.ofNat (224 + m / 4096), UInt8.ofNat (128 + m / 64 % 64), UInt8.ofNat (128 + m % 64)].map encB) true, by rw [put_three hi (by omega) (by omega)]; exact .vs _ _, .inr ⟨_, rfl⟩, ?_⟩
      refine pure_slim rfl (by kernel_rfl) Try.func94 s94 hp hsnap (by simp [Try.f94]) fun fr hlen h => ?_
      simp only [Has, Nat.zero_add] at h
      obtain ⟨a0, -⟩ := h
      simp only [Try.f94] at hlen ⊢
      unfold g94
      simp only [wk, aBuiltin, AV.cells, AV.leaf, Nat.reduceEqDiff, Nat.reduceLT, Nat.reduceAdd, Nat.reduceLeDiff, reduceCtorEq, Nat.reduceMul, cfgP, u93, hlen, a0, n1, c1, c2, c3, q64, q4096, r64, a1, a2, a3, w1, w2, w3, lit3B]
      exact Fin_pure (l := [.vs ([UInt8.ofNat (224 + m / 4096), UInt8.ofNat (128 + m / 64 % 64), UInt8.ofNat (128 + m % 64)].map encB) true]) (by simp [wk, aBuiltin, AV.cells, AV.leaf, Nat.reduceEqDiff, Nat.reduceLT, Nat.reduceAdd, Nat.reduceLeDiff, reduceCtorEq, Nat.reduceMul, cfgP, u93, aResults, aResult, hlen]) (.still rfl) (by simp)
    have c3 : decide ((m : Int) < 65536) = false := decide_eq_false (by omega)
    have a1 : IntKind.i64.wrap (240 + ((m / 262144 : Nat) : Int)) = ((240 + m / 262144 : Nat) : Int) := ad 240 (m / 262144) (by omega)
    have a0' : IntKind.i64.wrap (128 + ((m / 4096 % 64 : Nat) : Int)) = ((128 + m / 4096 % 64 : Nat) : Int) := ad 128 (m / 4096 % 64) (by omega)
    have a2 : IntKind.i64.wrap (128 + ((m / 64 % 64 : Nat) : Int)) = ((128 + m / 64 % 64 : Nat) : Int) := ad 128 (m / 64 % 64) (by omega)
    have a3 : IntKind.i64.wrap (128 + ((m % 64 : Nat) : Int)) = ((128 + m % 64 : Nat) : Int) := ad 128 (m % 64) (by omega)
    have w1 := u8n (240 + m / 262144) (by omega)
    have w0 := u8n (128 + m / 4096 % 64) (by omega)
    have w2 := u8n (128 + m / 64 % 64) (by omega)
    have w3 := u8n (128 + m % 64) (by omega)
    refine ⟨.vs ([UInt8.ofNat (240 + m / 262144), UInt8.ofNat (128 + m / 4096 % 64), UInt8.ofNat (128 + m / 64 % 64), UInt8.ofNat (128 + m % 64)].map encB) true, by rw [put_four hi (by omega)]; exact .vs _ _, .inr ⟨_, rfl⟩, ?_⟩
    refine pure_slim rfl (by kernel_rfl) Try.func94 s94 hp hsnap (by simp [Try.f94]) fun fr hlen h => ?_
    simp only [Has, Nat.zero_add] at h
    obtain ⟨a0, -⟩ := h
    simp only [Try.f94] at hlen ⊢
    unfold g94
    simp only [wk, aBuiltin, AV.cells, AV.leaf, Nat.reduceEqDiff, Nat.reduceLT, Nat.reduceAdd, Nat.reduceLeDiff, reduceCtorEq, Nat.reduceMul, cfgP, u93, hlen, a0, n1, c1, c2, c3, q64, q4096, q262144, r64, a1, a0', a2, a3, w1, w0, w2, w3, lit4B]
    exact Fin_pure (l := [.vs ([UInt8.ofNat (240 + m / 262144), UInt8.ofNat (128 + m / 4096 % 64), UInt8.ofNat (128 + m / 64 % 64), UInt8.ofNat (128 + m % 64)].map encB) true]) (by simp [wk, aBuiltin, AV.cells, AV.leaf, Nat.reduceEqDiff, Nat.reduceLT, Nat.reduceAdd, Nat.reduceLeDiff, reduceCtorEq, Nat.reduceMul, cfgP, u93, aResults, aResult, hlen]) (.still rfl) (by simp)

theorem valGo_snoc (l : List UInt8) (c : UInt8) : ∀ v, valGo v (l ++ [c]) = 64 * valGo v l + c.toNat - 128 := by
  induction l with
  | nil => intro v; rfl
  | cons d r ih => intro v; exact ih _

theorem value_ok (b : List UInt8) (v : AV) (hv : Sl encB v b) (n : Nat) (h1 : 1 ≤ n) (h4 : n ≤ 4) (hl : n ≤ b.length) (prot : Nat) (H : Heap) (hp : prot ≤ H.length) : aLim cfg prot 92 [v, .int .i64 n] H = some (.int .i64 (valueU b n), none) := by
  have hsnap : snap H [v, .int .i64 n] = some ([v, .int .i64 n], false) := by cases hv <;> rfl
  obtain ⟨c, r, rfl⟩ : ∃ c r, b = c :: r := by
    cases b with
    | nil => simp at hl; omega
    | cons c r => exact ⟨c, r, rfl⟩
  have hc := c.toNat_lt
  have e0 : aIndexAddr Try.prog 141 v (.int .i64 0) = some (.vptr [.int .u8 (c.toNat : Int)] 0) := hv.at (k := .i64) (i := 0) Try.underlying141 sz5 encB_len (by simp)
  have hlit : ∀ K, aBuildSlice Try.prog K 90 5 [(0, .int .i64 0), (1, .int .i64 0), (2, .int .i64 192), (3, .int .i64 224), (4, .int .i64 240)] =
      some (.bs ⟨K.length, 0, 0, 5, 5, 1, false, true⟩, some (K ++ [Blk.cells 0 [.int .i64 0, .int .i64 0, .int .i64 192, .int .i64 224, .int .i64 240]])) := fun K => by kernel_rfl
  have e1 : ∀ b, aIndexAddr Try.prog 90 (.bs ⟨b, 0, 0, 5, 5, 1, false, true⟩) (.int .i64 n) = some (.ptr b 0 n) := fun b => by
    simp [aIndexAddr, asNat, Try.underlying90, sz3]; omega
  have e2 : ([.int .i64 0, .int .i64 0, .int .i64 192, .int .i64 224, .int .i64 240] : List AV)[n]? = some (.int .i64 (leadI n)) := by
    have : n = 1 ∨ n = 2 ∨ n = 3 ∨ n = 4 := by omega
    rcases this with rfl | rfl | rfl | rfl <;> rfl
  have w0 : IntKind.i64.wrap ((c.toNat : Nat) : Int) = ((c.toNat : Nat) : Int) := wrap64 (by omega) (by omega)
  have hld : 0 ≤ leadI n ∧ leadI n ≤ 240 := by unfold leadI; repeat' split
                                               all_goals omega
  have w1 : IntKind.i64.wrap ((c.toNat : Int) - leadI n) = (c.toNat : Int) - leadI n := wrap64 (by omega) (by omega)
  refine pure_slim rfl (by kernel_rfl) Try.func92 s92 hp hsnap (by simp [Try.f92]) fun fr hlen h => ?_
  simp only [Has, Nat.zero_add] at h
  obtain ⟨a0, a1, -⟩ := h
  simp only [Try.f92] at hlen ⊢
  unfold g92
  simp only [wk, aBuiltin, AV.cells, AV.leaf, Nat.reduceEqDiff, Nat.reduceLT, Nat.reduceAdd, Nat.reduceLeDiff, reduceCtorEq, Nat.reduceMul, cfgP, u93, hlen, a0, a1, e0, hlit, e1, e2, w0, w1]
  refine ⟨?_, ?_⟩
  · rw [show befs [] _ = [0, 1, 3, 7, 0, 0, 48, 112, 255, 511] from by kernel_rfl]
    simp [wk, aBuiltin, AV.cells, AV.leaf, Nat.reduceEqDiff, Nat.reduceLT, Nat.reduceAdd, Nat.reduceLeDiff, reduceCtorEq, Nat.reduceMul, cfgP, u93, hlen, drawOk, chained, mayAt, sameAt, bound, List.range_succ, Nat.testBit, a0, a1, e0, hlit, e1, e2, w0, w1, avbeq_refl]
  refine loop_rule (fun m fr H' => ∃ (k : Nat), m = n - k ∧ 1 ≤ k ∧ k ≤ n ∧ fr.length = 31 ∧ fget fr 0 = v ∧ fget fr 1 = .int .i64 n ∧ fget fr 5 = .int .i64 (valGo (c.toNat - leadI n) (r.take (k - 1))) ∧ fget fr 6 = .int .i64 k
    ∧ -(1000 ^ k : Nat) ≤ valGo (c.toNat - leadI n) (r.take (k - 1)) ∧ valGo (c.toNat - leadI n) (r.take (k - 1)) ≤ (1000 ^ k : Nat)) ?_ (n - 1) _ _ ⟨1, by
      refine ⟨by omega, by omega, by omega, ?_⟩
      simp [wk, aBuiltin, AV.cells, AV.leaf, Nat.reduceEqDiff, Nat.reduceLT, Nat.reduceAdd, Nat.reduceLeDiff, reduceCtorEq, Nat.reduceMul, cfgP, u93, hlen, a0, a1, valGo]
      omega⟩
  rintro m fr H' ⟨k, rfl, hk1, hkn, hlen, a0, a1, a5, a6, hb1, hb2⟩ ih
  simp only [wk, aBuiltin, AV.cells, AV.leaf, Nat.reduceEqDiff, Nat.reduceLT, Nat.reduceAdd, Nat.reduceLeDiff, reduceCtorEq, Nat.reduceMul, cfgP, u93, hlen, a0, a1, a5, a6]
  refine RC_split (fun h => ?_) (fun h => ?_)
  · have hlt : k < n := by simpa using h
    have hww : IntKind.i64.wrap ((k : Int) + 1) = ((k + 1 : Nat) : Int) := by rw [wrap64 (by omega) (by omega)]; simp
    have e3 := hv.at (k := .i64) (i := k) Try.underlying141 sz5 encB_len (by simp at hl ⊢; omega)
    have hrk : (c :: r)[k]'(by simp at hl ⊢; omega) = r[k - 1]'(by simp at hl; omega) := by
      rw [List.getElem_cons]; rw [dif_neg (by omega)]
    rw [hrk] at e3
    have hlr : k - 1 < r.length := by simp at hl; omega
    have htk : r.take (k + 1 - 1) = r.take (k - 1) ++ [r[k - 1]] := by
      rw [show k + 1 - 1 = (k - 1) + 1 by omega]; simp
    rw [show k + 1 - 1 = k by omega] at htk
    have hsn := valGo_snoc (r.take (k - 1)) r[k - 1] (c.toNat - leadI n)
    rw [← htk] at hsn
    generalize r[k - 1] = d at *
    have hd := d.toNat_lt
    have hpw : 1000 ^ (k + 1) = 1000 ^ k * 1000 := Nat.pow_succ ..
    have hp0 : 0 < 1000 ^ k := Nat.pow_pos (by omega)
    have hp4 : 1000 ^ k ≤ 1000 ^ 4 := Nat.pow_le_pow_right (by omega) (by omega)
    have hp4' : 1000 ^ k ≤ 1000000000000 := hp4
    generalize valGo (c.toNat - leadI n) (r.take (k - 1)) = x at *
    generalize 1000 ^ k = p at *
    have w2 : IntKind.i64.wrap (64 * x) = 64 * x := wrap64 (by omega) (by omega)
    have w3 : IntKind.i64.wrap ((d.toNat : Nat) : Int) = ((d.toNat : Nat) : Int) := wrap64 (by omega) (by omega)
    have w4 : IntKind.i64.wrap (64 * x + (d.toNat : Nat)) = 64 * x + (d.toNat : Nat) := wrap64 (by omega) (by omega)
    have w5 : IntKind.i64.wrap (64 * x + (d.toNat : Nat) - 128) = 64 * x + (d.toNat : Nat) - 128 := wrap64 (by omega) (by omega)
    simp only [wk, aBuiltin, AV.cells, AV.leaf, Nat.reduceEqDiff, Nat.reduceLT, Nat.reduceAdd, Nat.reduceLeDiff, reduceCtorEq, Nat.reduceMul, cfgP, u93, hlen, a0, a1, a5, a6, e3, encB, w2, w3, w4, w5, hww]
    refine ih _ _ (n - (k + 1)) (by omega) ⟨k + 1, rfl, by omega, by omega, ?_⟩
    rw [show k + 1 - 1 = k by omega, hsn, hpw]
    simp [wk, aBuiltin, AV.cells, AV.leaf, Nat.reduceEqDiff, Nat.reduceLT, Nat.reduceAdd, Nat.reduceLeDiff, reduceCtorEq, Nat.reduceMul, cfgP, u93, hlen, a0, a1]
    omega
  · have hnl : ¬ k < n := by simpa using h
    obtain rfl : k = n := by omega
    simp only [wk, aBuiltin, AV.cells, AV.leaf, Nat.reduceEqDiff, Nat.reduceLT, Nat.reduceAdd, Nat.reduceLeDiff, reduceCtorEq, Nat.reduceMul, cfgP, u93, hlen, a0, a1, a5, a6]
    exact Fin_pure (l := [.int .i64 (valGo (c.toNat - leadI k) (r.take (k - 1)))]) (by simp [wk, aBuiltin, AV.cells, AV.leaf, Nat.reduceEqDiff, Nat.reduceLT, Nat.reduceAdd, Nat.reduceLeDiff, reduceCtorEq, Nat.reduceMul, cfgP, u93, aResults, aResult, hlen]) (.still rfl) (by simp)

-- rows of bytes
theorem bfull0 {prot : Nat} {K : Heap} {x : AV} {m : List UInt8} (hx : elemCells K 1 x = some (m.length, cellsOf encB m)) (hm : 0 < m.length) (hr : m.length ≤ 140737488355328) :
    aAppend Try.prog prot K #[141, 141] (.vs [] true) x = some (.bs ⟨K.length, 0, 0, m.length, 0, 1, false, false⟩, some (K ++ [Blk.cells 0 (cellsOf encB m)])) := by
  have hl' : ∀ y ∈ cellsOf encB m, y.leaf = true := List.all_eq_true.1 (cellsOf_leaf encB_T m)
  have hm0 : ¬ m.length = 0 := by omega
  have hro : roomy m.length 1 = true := by simp [roomy]; omega
  simp [aAppend, Try.underlying141, se141, sz5, by5, ag5, ze5, AV.cells, hx, hm0, hro]
  exact hl'
theorem bgrow {prot : Nat} {K : Heap} {x : AV} {s m : List UInt8} {b ver : Nat} (hg : hget K b ver = some (cellsOf encB s)) (hv : ver % 4 = 0) (hb : prot ≤ b) (hx : elemCells K 1 x = some (m.length, cellsOf encB m)) (hm : 0 < m.length) (hr : s.length + m.length ≤ 140737488355328) :
    aAppend Try.prog prot K #[141, 141] (.bs ⟨b, ver, 0, s.length, 0, 1, false, false⟩) x = some (.bs ⟨b, ver + 4, 0, (s ++ m).length, 0, 1, false, false⟩, some (K.set b (.cells (ver + 4) (cellsOf encB (s ++ m))))) := by
  have hl' : ∀ y ∈ cellsOf encB m, y.leaf = true := List.all_eq_true.1 (cellsOf_leaf encB_T m)
  have hm0 : ¬ m.length = 0 := by omega
  have hro : roomy (s.length + m.length) 1 = true := by simp [roomy]; omega
  have hw : win (cellsOf encB s) 0 s.length = some (cellsOf encB s) := by
    have := cellsOf_drop encB_T s 0 (by simp)
    simpa using this
  have hok : rowOk ver 0 5 = true := rowOk_zero hv
  simp [aAppend, Try.underlying141, se141, sz5, by5, ag5, ze5, AV.cells, hx, hm0, hro, hg, hw, hb, hok, cellsOf_append]
  exact hl'
theorem conv_tree {K : Heap} {o : AV} {b : List UInt8} (h : Sl encB o b) : aConvert Try.prog K 141 9 o = some (.str b, none) := by
  have h1 := h.elems encB_T K
  have h2 := (bytesB2 b).2
  cases h <;> simp [aConvert, Try.underlying141, Try.underlying9, Try.underlying5, h1, h2]
theorem elem_bs {K : Heap} {b ver : Nat} {s : List UInt8} (hg : hget K b ver = some (cellsOf encB s)) : elemCells K 1 (.bs ⟨b, ver, 0, s.length, 0, 1, false, false⟩) = some (s.length, cellsOf encB s) := by
  have hw : win (cellsOf encB s) 0 s.length = some (cellsOf encB s) := by
    have := cellsOf_drop encB_T s 0 (by simp)
    simpa using this
  simp [elemCells, hg, hw]
theorem conv_bs {K : Heap} {b ver : Nat} {s : List UInt8} (hg : hget K b ver = some (cellsOf encB s)) : aConvert Try.prog K 141 9 (.bs ⟨b, ver, 0, s.length, 0, 1, false, false⟩) = some (.str s, none) := by
  have h1 := elem_bs hg
  have h2 := (bytesB2 s).2
  simp [aConvert, Try.underlying141, Try.underlying9, Try.underlying5, h1, h2]
theorem snap_bs {K : Heap} {b ver : Nat} {s : List UInt8} (hg : hget K b ver = some (cellsOf encB s)) {r r' : List AV} (hr : snap K r = some (r', false)) : snap K (.bs ⟨b, ver, 0, s.length, 0, 1, false, false⟩ :: r) = some (.vs (s.map encB) false :: r', true) := by
  have hw : win (cellsOf encB s) 0 s.length = some (cellsOf encB s) := by
    have := cellsOf_drop encB_T s 0 (by simp)
    simpa using this
  have hc := chunk_cellsOf encB_T (by decide) s
  simp [snap, hg, hw, plB, hr, hc]

def sigs : List UInt8 := [128, 143, 144, 159, 160, 191]
/-- bytes, with one behind them, and some more. -/
def ext (b : List UInt8) (x : UInt8) (n : Nat) : List UInt8 := b ++ (x :: [128, 128, 128]).take (n - b.length)
def beginsF (b : List UInt8) : Nat → Nat → Bool
  | 0, _ => false
  | k + 1, n => (sigs.any fun x => matchN (ext b x n) n) || beginsF b k (n + 1)
def beginsU (b : List UInt8) : Bool := if b.length = 0 ∨ 3 < b.length then false else beginsF b (4 - b.length) (b.length + 1)


theorem begins_ok (b : List UInt8) (v : AV) (hv : Sl encB v b) (hl : b.length ≤ 140737488355000) (prot : Nat) (H : Heap) (hp : prot ≤ H.length) : aLim cfg prot 95 [v] H = some (.bool (beginsU b), none) := by
  have hsnap : snap H [v] = some ([v], false) := by cases hv <;> rfl
  unfold beginsU
  by_cases h0 : b.length = 0
  · have c0 : decide ((b.length : Int) = 0) = true := decide_eq_true (by omega)
    rw [if_pos (.inl h0)]
    refine pure_slim rfl (by kernel_rfl) Try.func95 s95 hp hsnap (by simp [Try.f95]) fun fr hlen h => ?_
    simp only [Has, Nat.zero_add] at h
    obtain ⟨a0, -⟩ := h
    simp only [Try.f95] at hlen ⊢
    unfold g95
    simp only [wk, aBuiltin, AV.cells, AV.leaf, Nat.reduceEqDiff, Nat.reduceLT, Nat.reduceAdd, Nat.reduceLeDiff, reduceCtorEq, Nat.reduceMul, cfgP, u93, hlen, a0, hv.len Try.underlying141, c0, none_beq]
    exact Fin_pure (l := [.bool false]) (by simp [wk, aBuiltin, AV.cells, AV.leaf, Nat.reduceEqDiff, Nat.reduceLT, Nat.reduceAdd, Nat.reduceLeDiff, reduceCtorEq, Nat.reduceMul, cfgP, u93, aResults, aResult, hlen]) (.still rfl) (by simp)
  have c0 : decide ((b.length : Int) = 0) = false := decide_eq_false (by omega)
  by_cases h3 : 3 < b.length
  · have c1 : decide ((3 : Int) < b.length) = true := decide_eq_true (by omega)
    rw [if_pos (.inr h3)]
    refine pure_slim rfl (by kernel_rfl) Try.func95 s95 hp hsnap (by simp [Try.f95]) fun fr hlen h => ?_
    simp only [Has, Nat.zero_add] at h
    obtain ⟨a0, -⟩ := h
    simp only [Try.f95] at hlen ⊢
    unfold g95
    simp only [wk, aBuiltin, AV.cells, AV.leaf, Nat.reduceEqDiff, Nat.reduceLT, Nat.reduceAdd, Nat.reduceLeDiff, reduceCtorEq, Nat.reduceMul, cfgP, u93, hlen, a0, hv.len Try.underlying141, c0, c1, none_beq]
    exact Fin_pure (l := [.bool false]) (by simp [wk, aBuiltin, AV.cells, AV.leaf, Nat.reduceEqDiff, Nat.reduceLT, Nat.reduceAdd, Nat.reduceLeDiff, reduceCtorEq, Nat.reduceMul, cfgP, u93, aResults, aResult, hlen]) (.still rfl) (by simp)
  have c1 : decide ((3 : Int) < b.length) = false := decide_eq_false (by omega)
  rw [if_neg (by omega)]
  have w0 : IntKind.i64.wrap ((b.length : Int) + 1) = ((b.length + 1 : Nat) : Int) := by rw [wrap64 (by omega) (by omega)]; simp
  have hsig : ∀ K, aBuildSlice Try.prog K 141 6 [(0, .int .u8 128), (1, .int .u8 143), (2, .int .u8 144), (3, .int .u8 159), (4, .int .u8 160), (5, .int .u8 191)] = some (.vs (sigs.map encB) true, none) := fun K => by kernel_rfl
  have hnil : ∀ K, aBuildSlice Try.prog K 141 0 [] = some (.vs [] true, none) := fun K => by kernel_rfl
  have hsl : Sl encB (.vs (sigs.map encB) true) sigs := .vs _ _
  have hfn : cfg.P.funcs[92]? = some Try.f92 := Try.func92
  have hpu : cfg.pure 92 = true := by kernel_rfl
  have hbo : Try.f92.body.isSome = true := by kernel_rfl
  refine pure_slim rfl (by kernel_rfl) Try.func95 s95 hp hsnap (by simp [Try.f95]) fun fr hlen h => ?_
  simp only [Has, Nat.zero_add] at h
  obtain ⟨a0, -⟩ := h
  simp only [Try.f95] at hlen ⊢
  unfold g95
  simp only [wk, aBuiltin, AV.cells, AV.leaf, Nat.reduceEqDiff, Nat.reduceLT, Nat.reduceAdd, Nat.reduceLeDiff, reduceCtorEq, Nat.reduceMul, cfgP, u93, hlen, a0, hv.len Try.underlying141, c0, c1, w0, none_beq]
  refine loop_rule (fun m fr H' => ∃ (n : Nat), m = 5 - n ∧ b.length + 1 ≤ n ∧ n ≤ 5 ∧ fr.length = 64 ∧ fget fr 0 = v ∧ fget fr 3 = .int .i64 n ∧ H.length ≤ H'.length ∧ beginsF b (4 - b.length) (b.length + 1) = beginsF b (5 - n) n) ?_ (5 - (b.length + 1)) _ _ ⟨b.length + 1, by
    refine ⟨by omega, by omega, by omega, ?_⟩
    simp [wk, aBuiltin, AV.cells, AV.leaf, Nat.reduceEqDiff, Nat.reduceLT, Nat.reduceAdd, Nat.reduceLeDiff, reduceCtorEq, Nat.reduceMul, cfgP, u93, hlen, a0]⟩
  rintro m fr H' ⟨n, rfl, hn1, hn5, hlen, a0, a3, hH, hc⟩ ih
  simp only [wk, aBuiltin, AV.cells, AV.leaf, Nat.reduceEqDiff, Nat.reduceLT, Nat.reduceAdd, Nat.reduceLeDiff, reduceCtorEq, Nat.reduceMul, cfgP, u93, hlen, a0, a3]
  refine RC_split (fun h => ?_) (fun h => ?_)
  · have hn4 : n ≤ 4 := by have : (n : Int) ≤ 4 := by simpa using h
                           omega
    have hwn : IntKind.i64.wrap ((n : Int) + 1) = ((n + 1 : Nat) : Int) := by rw [wrap64 (by omega) (by omega)]; simp
    obtain ⟨k, hk⟩ : ∃ k, 5 - n = k + 1 := ⟨4 - n, by omega⟩
    rw [hk, beginsF] at hc
    have h6 : ∀ K, aLen Try.prog K 141 (.vs (sigs.map encB) true) = some (.int .i64 6) := fun K => hsl.len Try.underlying141
    simp only [wk, aBuiltin, AV.cells, AV.leaf, Nat.reduceEqDiff, Nat.reduceLT, Nat.reduceAdd, Nat.reduceLeDiff, reduceCtorEq, Nat.reduceMul, cfgP, u93, hlen, a0, a3, hsig, h6]
    refine loop_rule (fun m fr H' => ∃ (i : Nat), m = 6 - i ∧ i ≤ 6 ∧ fr.length = 64 ∧ fget fr 0 = v ∧ fget fr 3 = .int .i64 n ∧ fget fr 25 = .vs (sigs.map encB) true ∧ fget fr 26 = .int .i64 6 ∧ fget fr 27 = .int .i64 i ∧ H.length ≤ H'.length
      ∧ beginsF b (4 - b.length) (b.length + 1) = (((sigs.drop i).any fun x => matchN (ext b x n) n) || beginsF b k (n + 1))) ?_ 6 _ _ ⟨0, by simp [wk, aBuiltin, AV.cells, AV.leaf, Nat.reduceEqDiff, Nat.reduceLT, Nat.reduceAdd, Nat.reduceLeDiff, reduceCtorEq, Nat.reduceMul, cfgP, u93, hlen, a0, a3, hH]; exact hc⟩
    rintro m fr K ⟨i, rfl, hi, hlen, a0, a3, a25, a26, a27, hK, hc2⟩ ih2
    simp only [wk, aBuiltin, AV.cells, AV.leaf, Nat.reduceEqDiff, Nat.reduceLT, Nat.reduceAdd, Nat.reduceLeDiff, reduceCtorEq, Nat.reduceMul, cfgP, u93, hlen, a0, a3, a25, a26, a27]
    refine RC_split (fun h => ?_) (fun h => ?_)
    · have hi6 : i < 6 := by have : (i : Int) < 6 := by simpa using h
                             omega
      have hwi : IntKind.i64.wrap ((i : Int) + 1) = ((i + 1 : Nat) : Int) := by rw [wrap64 (by omega) (by omega)]; simp
      have hil : i < sigs.length := hi6
      have e1 := hsl.at (k := .i64) Try.underlying141 sz5 encB_len hil
      rw [List.drop_eq_getElem_cons hil, List.any_cons] at hc2
      generalize sigs[i] = x at *
      have hap := bfull0 (prot := H.length) (K := K) (x := v) (m := b) (hv.elems encB_T K) (by omega) (by omega)
      simp only [wk, aBuiltin, AV.cells, AV.leaf, Nat.reduceEqDiff, Nat.reduceLT, Nat.reduceAdd, Nat.reduceLeDiff, reduceCtorEq, Nat.reduceMul, cfgP, u93, hlen, a0, a3, a25, a26, a27, e1, encB, hnil, hap, hv.len Try.underlying141]
      refine loop_rule (fun m fr G => ∃ (k' ver : Nat), m = n - k' ∧ b.length ≤ k' ∧ k' ≤ n ∧ fr.length = 64 ∧ fget fr 0 = v ∧ fget fr 3 = .int .i64 n ∧ fget fr 25 = .vs (sigs.map encB) true ∧ fget fr 26 = .int .i64 6 ∧ fget fr 27 = .int .i64 i ∧ fget fr 5 = .int .u8 x.toNat
        ∧ fget fr 6 = .bs ⟨K.length, ver, 0, (ext b x k').length, 0, 1, false, false⟩ ∧ fget fr 7 = .int .i64 k' ∧ ver % 4 = 0 ∧ hget G K.length ver = some (cellsOf encB (ext b x k'))) ?_ (n - b.length) _ _ ⟨b.length, 0, by
          refine ⟨by omega, by omega, by omega, ?_⟩
          simp [wk, aBuiltin, AV.cells, AV.leaf, Nat.reduceEqDiff, Nat.reduceLT, Nat.reduceAdd, Nat.reduceLeDiff, reduceCtorEq, Nat.reduceMul, cfgP, u93, hlen, a0, a3, a25, a26, a27, ext]⟩
      rintro m fr G ⟨k', ver, rfl, hk1, hk2, hlen, a0, a3, a25, a26, a27, a5, a6, a7, hver, hg⟩ ih3
      have hGl : H.length ≤ G.length := by have := hget_lt hg; omega
      simp only [wk, aBuiltin, AV.cells, AV.leaf, Nat.reduceEqDiff, Nat.reduceLT, Nat.reduceAdd, Nat.reduceLeDiff, reduceCtorEq, Nat.reduceMul, cfgP, u93, hlen, a0, a3, a25, a26, a27, a5, a6, a7]
      refine RC_split (fun h => ?_) (fun h => ?_)
      · have hlt : k' < n := by simpa using h
        have hwk : IntKind.i64.wrap ((k' : Int) + 1) = ((k' + 1 : Nat) : Int) := by rw [wrap64 (by omega) (by omega)]; simp
        by_cases hkb : k' = b.length
        · have hex : ext b x (k' + 1) = ext b x k' ++ [x] := by
            unfold ext
            rw [hkb, show b.length + 1 - b.length = 1 by omega, Nat.sub_self]
            simp
          have cc : decide ((k' : Int) = b.length) = true := decide_eq_true (by omega)
          have hap := bgrow (prot := H.length) hg hver hK (elem_vs encB_T [x] true) (by simp) (by simp [ext]; omega)
          have hlb := lit1B x
          simp only [List.map_cons, List.map_nil, encB] at hap hlb
          simp only [wk, aBuiltin, AV.cells, AV.leaf, Nat.reduceEqDiff, Nat.reduceLT, Nat.reduceAdd, Nat.reduceLeDiff, reduceCtorEq, Nat.reduceMul, cfgP, u93, hlen, a0, a3, a25, a26, a27, a5, a6, a7, cc, hlb, hap, hwk, hv.len Try.underlying141]
          refine ih3 _ _ (n - (k' + 1)) (by omega) ⟨k' + 1, ver + 4, rfl, by omega, by omega, ?_⟩
          rw [hex]
          simp [wk, aBuiltin, AV.cells, AV.leaf, Nat.reduceEqDiff, Nat.reduceLT, Nat.reduceAdd, Nat.reduceLeDiff, reduceCtorEq, Nat.reduceMul, cfgP, u93, hlen, a0, a3, a25, a26, a27, a5]
          exact ⟨by omega, by rw [hget_set_same (hget_lt hg), if_pos rfl]⟩
        · have hex : ext b x (k' + 1) = ext b x k' ++ [128] := by
            unfold ext
            obtain ⟨j, hj⟩ : ∃ j, k' - b.length = j + 1 := ⟨k' - b.length - 1, by omega⟩
            rw [show k' + 1 - b.length = j + 2 by omega, hj]
            have : j = 0 ∨ j = 1 ∨ j = 2 := by omega
            rcases this with rfl | rfl | rfl <;> simp
          have cc : decide ((k' : Int) = b.length) = false := decide_eq_false (by omega)
          have hap := bgrow (prot := H.length) hg hver hK (elem_vs encB_T [128] true) (by simp) (by simp [ext]; omega)
          have hlb : ∀ K, aBuildSlice Try.prog K 141 1 [(0, .int .u8 128)] = some (.vs [.int .u8 128] true, none) := lit1B 128
          have hap : aAppend Try.prog H.length G #[141, 141] (.bs ⟨K.length, ver, 0, (ext b x k').length, 0, 1, false, false⟩) (.vs [.int .u8 128] true) = some (.bs ⟨K.length, ver + 4, 0, (ext b x k' ++ [128]).length, 0, 1, false, false⟩, some (G.set K.length (.cells (ver + 4) (cellsOf encB (ext b x k' ++ [128]))))) := hap
          simp only [wk, aBuiltin, AV.cells, AV.leaf, Nat.reduceEqDiff, Nat.reduceLT, Nat.reduceAdd, Nat.reduceLeDiff, reduceCtorEq, Nat.reduceMul, cfgP, u93, hlen, a0, a3, a25, a26, a27, a5, a6, a7, cc, hlb, hap, hwk, hv.len Try.underlying141]
          refine ih3 _ _ (n - (k' + 1)) (by omega) ⟨k' + 1, ver + 4, rfl, by omega, by omega, ?_⟩
          rw [hex]
          simp [wk, aBuiltin, AV.cells, AV.leaf, Nat.reduceEqDiff, Nat.reduceLT, Nat.reduceAdd, Nat.reduceLeDiff, reduceCtorEq, Nat.reduceMul, cfgP, u93, hlen, a0, a3, a25, a26, a27, a5]
          exact ⟨by omega, by rw [hget_set_same (hget_lt hg), if_pos rfl]⟩
      · have hnl : ¬ k' < n := by simpa using h
        obtain rfl : k' = n := by omega
        have hel : (ext b x k').length = k' := by
          simp [ext]; omega
        have hsn := snap_bs hg (r := [.int .i64 k']) (r' := [.int .i64 k']) rfl
        have n1 := lim_snap hpu hfn hbo hsn rfl (value_ok (ext b x k') _ (.vs _ _) k' (by omega) hn4 (by omega) H.length G hGl) rfl
        have n2 := is_ok (valueU (ext b x k') k') H.length G hGl
        obtain ⟨o, ho, _, n3⟩ := put_ok (valueU (ext b x k') k') H.length G hGl
        have hcv1 := conv_tree (K := G) ho
        have hcv2 := conv_bs hg
        have hm : matchN (ext b x k') k' = (isI (valueU (ext b x k') k') && putU (valueU (ext b x k') k') == ext b x k') := by
          unfold matchN; rw [List.take_of_length_le (by omega)]
        rw [hm] at hc2
        cases hi : isI (valueU (ext b x k') k') with
        | false =>
          rw [hi] at n2 hc2
          simp only [wk, aBuiltin, AV.cells, AV.leaf, Nat.reduceEqDiff, Nat.reduceLT, Nat.reduceAdd, Nat.reduceLeDiff, reduceCtorEq, Nat.reduceMul, cfgP, u93, hlen, a0, a3, a25, a26, a27, a5, a6, a7, n1, n2, none_beq, hwi]
          refine ih2 _ _ (6 - (i + 1)) (by omega) ⟨i + 1, rfl, by omega, ?_⟩
          simp [wk, aBuiltin, AV.cells, AV.leaf, Nat.reduceEqDiff, Nat.reduceLT, Nat.reduceAdd, Nat.reduceLeDiff, reduceCtorEq, Nat.reduceMul, cfgP, u93, hlen, a0, a3, a25, a26, a27, hGl]
          simpa using hc2
        | true =>
          rw [hi] at n2 hc2
          cases he : putU (valueU (ext b x k') k') == ext b x k' with
          | true =>
            rw [he] at hc2
            rw [hc2]
            simp only [wk, aBuiltin, AV.cells, AV.leaf, Nat.reduceEqDiff, Nat.reduceLT, Nat.reduceAdd, Nat.reduceLeDiff, reduceCtorEq, Nat.reduceMul, cfgP, u93, hlen, a0, a3, a25, a26, a27, a5, a6, a7, n1, n2, n3, hcv1, hcv2, str_eql, he, none_beq]
            exact Fin_pure (l := [.bool true]) (by simp [wk, aBuiltin, AV.cells, AV.leaf, Nat.reduceEqDiff, Nat.reduceLT, Nat.reduceAdd, Nat.reduceLeDiff, reduceCtorEq, Nat.reduceMul, cfgP, u93, aResults, aResult, hlen]) (.still rfl) (by simp)
          | false =>
            rw [he] at hc2
            simp only [wk, aBuiltin, AV.cells, AV.leaf, Nat.reduceEqDiff, Nat.reduceLT, Nat.reduceAdd, Nat.reduceLeDiff, reduceCtorEq, Nat.reduceMul, cfgP, u93, hlen, a0, a3, a25, a26, a27, a5, a6, a7, n1, n2, n3, hcv1, hcv2, str_eql, he, none_beq, hwi]
            refine ih2 _ _ (6 - (i + 1)) (by omega) ⟨i + 1, rfl, by omega, ?_⟩
            simp [wk, aBuiltin, AV.cells, AV.leaf, Nat.reduceEqDiff, Nat.reduceLT, Nat.reduceAdd, Nat.reduceLeDiff, reduceCtorEq, Nat.reduceMul, cfgP, u93, hlen, a0, a3, a25, a26, a27, hGl]
            simpa using hc2
    · have hnl : ¬ i < 6 := by have : ¬ (i : Int) < 6 := by simpa using h
                               omega
      have hd : sigs.drop i = [] := List.drop_eq_nil_of_le (by simp [sigs]; omega)
      rw [hd] at hc2
      simp only [wk, aBuiltin, AV.cells, AV.leaf, Nat.reduceEqDiff, Nat.reduceLT, Nat.reduceAdd, Nat.reduceLeDiff, reduceCtorEq, Nat.reduceMul, cfgP, u93, hlen, a0, a3, a25, a26, a27, hwn]
      refine ih _ _ (5 - (n + 1)) (by omega) ⟨n + 1, rfl, by omega, by omega, ?_⟩
      simp [wk, aBuiltin, AV.cells, AV.leaf, Nat.reduceEqDiff, Nat.reduceLT, Nat.reduceAdd, Nat.reduceLeDiff, reduceCtorEq, Nat.reduceMul, cfgP, u93, hlen, a0, a3, hK]
      rw [show 4 - n = k by omega]
      simpa using hc2
  · have hn4 : ¬ n ≤ 4 := by have : ¬ (n : Int) ≤ 4 := by simpa using h
                             omega
    rw [show 5 - n = 0 by omega, beginsF] at hc
    rw [hc]
    simp only [wk, aBuiltin, AV.cells, AV.leaf, Nat.reduceEqDiff, Nat.reduceLT, Nat.reduceAdd, Nat.reduceLeDiff, reduceCtorEq, Nat.reduceMul, cfgP, u93, hlen, a0, a3]
    exact Fin_pure (l := [.bool false]) (by simp [wk, aBuiltin, AV.cells, AV.leaf, Nat.reduceEqDiff, Nat.reduceLT, Nat.reduceAdd, Nat.reduceLeDiff, reduceCtorEq, Nat.reduceMul, cfgP, u93, aResults, aResult, hlen]) (.still rfl) (by simp)

/-- what the document's decoder answers. -/
def nextR (b : List UInt8) : Int × Int := if (nextU b).2.2 = 0 then ((nextU b).1, (nextU b).2.1) else (0, if beginsU b then -1 else 0)

theorem rnext_ok (b : List UInt8) (v : AV) (hv : Sl encB v b) (hl : b.length ≤ 140737488355000) (prot : Nat) (H : Heap) (hp : prot ≤ H.length) : aLim cfg prot 74 [v] H = some (.tup [.int .i64 (nextR b).1, .int .i64 (nextR b).2], none) := by
  have hsnap : snap H [v] = some ([v], false) := by cases hv <;> rfl
  have hfz : ∀ (K : Heap) (x y : AV), still x = true → still y = true → Frz K H.length (packR [x, y]) (.tup [x, y]) := fun K x y h1 h2 => .tup (.cons (.still h1) (.cons (.still h2) .nil))
  obtain ⟨hm1, hm2⟩ := nextU_match b
  refine pure_slim rfl (by kernel_rfl) Try.func74 s74 hp hsnap (by simp [Try.f74]) fun fr hlen h => ?_
  simp only [Has, Nat.zero_add] at h
  obtain ⟨a0, -⟩ := h
  simp only [Try.f74] at hlen ⊢
  unfold g74
  simp only [wk, aBuiltin, AV.cells, AV.leaf, Nat.reduceEqDiff, Nat.reduceLT, Nat.reduceAdd, Nat.reduceLeDiff, reduceCtorEq, Nat.reduceMul, cfgP, u93, hlen, a0]
  refine loop_rule (fun m fr H' => ∃ (n : Nat), m = 5 - n ∧ 1 ≤ n ∧ n ≤ 5 ∧ n ≤ b.length + 1 ∧ fr.length = 35 ∧ fget fr 0 = v ∧ fget fr 4 = .int .i64 n ∧ H' = H ∧ ∀ k, 1 ≤ k → k < n → matchN b k = false) ?_ 4 _ _ ⟨1, by
    refine ⟨by omega, by omega, by omega, by omega, ?_⟩
    simp [wk, aBuiltin, AV.cells, AV.leaf, Nat.reduceEqDiff, Nat.reduceLT, Nat.reduceAdd, Nat.reduceLeDiff, reduceCtorEq, Nat.reduceMul, cfgP, u93, hlen, a0]
    omega⟩
  rintro m fr K ⟨n, rfl, hn1, hn5, hnb, hlen, a0, a4, rfl, hno⟩ ih
  by_cases hlast : n ≤ 4 ∧ n ≤ b.length
  · obtain ⟨hn4, hnl⟩ := hlast
    have c1 : decide ((n : Int) ≤ 4) = true := decide_eq_true (by omega)
    have c2 : decide ((n : Int) ≤ b.length) = true := decide_eq_true (by omega)
    have hwn : IntKind.i64.wrap ((n : Int) + 1) = ((n + 1 : Nat) : Int) := by rw [wrap64 (by omega) (by omega)]; simp
    have n1 := value_ok b v hv n hn1 hn4 hnl K.length K (Nat.le_refl _)
    have n2 := is_ok (valueU b n) K.length K (Nat.le_refl _)
    obtain ⟨o, ho, _, n3⟩ := put_ok (valueU b n) K.length K (Nat.le_refl _)
    obtain ⟨p, hp1, hp2⟩ := hv.pre (k := .i64) (n := n) Try.underlying141 sz5 encB_len hnl
    have hcv1 := conv_tree (K := K) ho
    have hcv2 := conv_tree (K := K) hp2
    have hmm : matchN b n = (isI (valueU b n) && putU (valueU b n) == b.take n) := rfl
    have hstep : matchN b n = false → ∃ j : Nat, 5 - (n + 1) = 5 - j ∧ 1 ≤ j ∧ j ≤ 5 ∧ j ≤ b.length + 1 ∧ j = n + 1 ∧ ∀ k, 1 ≤ k → k < j → matchN b k = false := fun h => ⟨n + 1, rfl, by omega, by omega, by omega, rfl, fun k h1 h2 => by
      by_cases hk : k = n
      · rw [hk]; exact h
      · exact hno k h1 (by omega)⟩
    cases hi : isI (valueU b n) with
    | false =>
      rw [hi] at n2 hmm
      obtain ⟨j, g1, g2, g3, g4, rfl, g5⟩ := hstep hmm
      simp only [wk, aBuiltin, AV.cells, AV.leaf, Nat.reduceEqDiff, Nat.reduceLT, Nat.reduceAdd, Nat.reduceLeDiff, reduceCtorEq, Nat.reduceMul, cfgP, u93, hlen, a0, a4, hv.len Try.underlying141, c1, c2, n1, n2, none_beq, hwn]
      refine ih _ _ (5 - (n + 1)) (by omega) ⟨n + 1, g1, g2, g3, g4, ?_⟩
      simp [wk, aBuiltin, AV.cells, AV.leaf, Nat.reduceEqDiff, Nat.reduceLT, Nat.reduceAdd, Nat.reduceLeDiff, reduceCtorEq, Nat.reduceMul, cfgP, u93, hlen, a0]
      exact g5
    | true =>
      rw [hi] at n2 hmm
      cases he : putU (valueU b n) == b.take n with
      | true =>
        rw [he] at hmm
        have hmt : matchN b n = true := hmm
        have hn0 : (nextU b).2.2 = 0 := Classical.byContradiction fun h => by
          have := hm2 h n hn1 hn4 hnl
          rw [hmt] at this; cases this
        obtain ⟨q1, q2, q3⟩ := hm1 hn0
        have hpos := nextU_pos hn0
        have hnn : (nextU b).2.1 = n := by
          rcases Nat.lt_trichotomy (nextU b).2.1 n with h | h | h
          · have := hno _ (by omega) h
            rw [q1] at this; cases this
          · exact h
          · have := q3 n hn1 h
            rw [hmt] at this; cases this
        have hr : nextR b = (valueU b n, (n : Int)) := by
          unfold nextR
          rw [if_pos hn0, ← q2, hnn]
        rw [hr]
        simp only [wk, aBuiltin, AV.cells, AV.leaf, Nat.reduceEqDiff, Nat.reduceLT, Nat.reduceAdd, Nat.reduceLeDiff, reduceCtorEq, Nat.reduceMul, cfgP, u93, hlen, a0, a4, hv.len Try.underlying141, c1, c2, n1, n2, n3, hp1, hcv1, hcv2, str_eql, he, none_beq]
        exact Fin_pure (l := [.int .i64 (valueU b n), .int .i64 n]) (by simp [wk, aBuiltin, AV.cells, AV.leaf, Nat.reduceEqDiff, Nat.reduceLT, Nat.reduceAdd, Nat.reduceLeDiff, reduceCtorEq, Nat.reduceMul, cfgP, u93, hlen, aResults, aResult]) (hfz _ _ _ rfl rfl) (by simp)
      | false =>
        rw [he] at hmm
        obtain ⟨j, g1, g2, g3, g4, rfl, g5⟩ := hstep hmm
        simp only [wk, aBuiltin, AV.cells, AV.leaf, Nat.reduceEqDiff, Nat.reduceLT, Nat.reduceAdd, Nat.reduceLeDiff, reduceCtorEq, Nat.reduceMul, cfgP, u93, hlen, a0, a4, hv.len Try.underlying141, c1, c2, n1, n2, n3, hp1, hcv1, hcv2, str_eql, he, none_beq, hwn]
        refine ih _ _ (5 - (n + 1)) (by omega) ⟨n + 1, g1, g2, g3, g4, ?_⟩
        simp [wk, aBuiltin, AV.cells, AV.leaf, Nat.reduceEqDiff, Nat.reduceLT, Nat.reduceAdd, Nat.reduceLeDiff, reduceCtorEq, Nat.reduceMul, cfgP, u93, hlen, a0]
        exact g5
  · have hn0 : ¬ (nextU b).2.2 = 0 := fun h => by
      obtain ⟨q1, q2, q3⟩ := hm1 h
      have hpos := nextU_pos h
      have h4 : (nextU b).2.1 ≤ 4 := by
        cases b with
        | nil => simp [nextU] at h
        | cons c r =>
          have hw4 := wantedU_le (c.toNat : Int)
          rw [nextU_eq rfl] at h ⊢
          generalize wantedU (c.toNat : Int) = q at *
          split at h
          · simp at h
          · split at h
            · simp at h
            · rename_i g1 g2
              rw [if_neg g1, if_neg g2]
              exact hw4
      have := hno _ (by omega) (by omega : (nextU b).2.1 < n)
      rw [q1] at this; cases this
    have hr : nextR b = (0, if beginsU b then -1 else 0) := by unfold nextR; rw [if_neg hn0]
    rw [hr]
    have n1 := begins_ok b v hv hl K.length K (Nat.le_refl _)
    by_cases hn4 : n ≤ 4
    · have c1 : decide ((n : Int) ≤ 4) = true := decide_eq_true (by omega)
      have c2 : decide ((n : Int) ≤ b.length) = false := decide_eq_false (by omega)
      cases hb : beginsU b with
      | true =>
        rw [hb] at n1
        simp only [wk, aBuiltin, AV.cells, AV.leaf, Nat.reduceEqDiff, Nat.reduceLT, Nat.reduceAdd, Nat.reduceLeDiff, reduceCtorEq, Nat.reduceMul, cfgP, u93, hlen, a0, a4, hv.len Try.underlying141, c1, c2, n1, none_beq]
        exact Fin_pure (l := [.int .i64 0, .int .i64 (-1)]) (by simp [wk, aBuiltin, AV.cells, AV.leaf, Nat.reduceEqDiff, Nat.reduceLT, Nat.reduceAdd, Nat.reduceLeDiff, reduceCtorEq, Nat.reduceMul, cfgP, u93, hlen, aResults, aResult]) (hfz _ _ _ rfl rfl) (by simp)
      | false =>
        rw [hb] at n1
        simp only [wk, aBuiltin, AV.cells, AV.leaf, Nat.reduceEqDiff, Nat.reduceLT, Nat.reduceAdd, Nat.reduceLeDiff, reduceCtorEq, Nat.reduceMul, cfgP, u93, hlen, a0, a4, hv.len Try.underlying141, c1, c2, n1, none_beq]
        exact Fin_pure (l := [.int .i64 0, .int .i64 0]) (by simp [wk, aBuiltin, AV.cells, AV.leaf, Nat.reduceEqDiff, Nat.reduceLT, Nat.reduceAdd, Nat.reduceLeDiff, reduceCtorEq, Nat.reduceMul, cfgP, u93, hlen, aResults, aResult]) (hfz _ _ _ rfl rfl) (by simp)
    · have c1 : decide ((n : Int) ≤ 4) = false := decide_eq_false (by omega)
      cases hb : beginsU b with
      | true =>
        rw [hb] at n1
        simp only [wk, aBuiltin, AV.cells, AV.leaf, Nat.reduceEqDiff, Nat.reduceLT, Nat.reduceAdd, Nat.reduceLeDiff, reduceCtorEq, Nat.reduceMul, cfgP, u93, hlen, a0, a4, c1, n1, none_beq]
        exact Fin_pure (l := [.int .i64 0, .int .i64 (-1)]) (by simp [wk, aBuiltin, AV.cells, AV.leaf, Nat.reduceEqDiff, Nat.reduceLT, Nat.reduceAdd, Nat.reduceLeDiff, reduceCtorEq, Nat.reduceMul, cfgP, u93, hlen, aResults, aResult]) (hfz _ _ _ rfl rfl) (by simp)
      | false =>
        rw [hb] at n1
        simp only [wk, aBuiltin, AV.cells, AV.leaf, Nat.reduceEqDiff, Nat.reduceLT, Nat.reduceAdd, Nat.reduceLeDiff, reduceCtorEq, Nat.reduceMul, cfgP, u93, hlen, a0, a4, c1, n1, none_beq]
        exact Fin_pure (l := [.int .i64 0, .int .i64 0]) (by simp [wk, aBuiltin, AV.cells, AV.leaf, Nat.reduceEqDiff, Nat.reduceLT, Nat.reduceAdd, Nat.reduceLeDiff, reduceCtorEq, Nat.reduceMul, cfgP, u93, hlen, aResults, aResult]) (hfz _ _ _ rfl rfl) (by simp)
/-- of a text's bytes, as they lie. -/
theorem rnext_bs {K : Heap} {b ver : Nat} {s : List UInt8} (hg : hget K b ver = some (cellsOf encB s)) (hl : s.length ≤ 140737488355000) (prot : Nat) (hp : prot ≤ K.length) :
    aLim cfg prot 74 [.bs ⟨b, ver, 0, s.length, 0, 1, false, false⟩] K = some (.tup [.int .i64 (nextR s).1, .int .i64 (nextR s).2], none) := by
  have hfn : cfg.P.funcs[74]? = some Try.f74 := Try.func74
  exact lim_snap (by kernel_rfl) hfn (by kernel_rfl) (snap_bs hg (r := []) (r' := []) rfl) rfl (rnext_ok s _ (.vs _ _) hl prot K hp) rfl
theorem nextR_le (b : List UInt8) : ((nextR b).2 ≤ 0 ↔ (nextU b).2.2 ≠ 0) ∧ ((nextU b).2.2 = 0 → (nextR b).2 = (nextU b).2.1) := by
  unfold nextR
  by_cases h : (nextU b).2.2 = 0
  · have := nextU_pos h
    rw [if_pos h]
    simp only [h]
    refine ⟨?_, fun _ => trivial⟩
    simp; omega
  · rw [if_neg h]
    refine ⟨?_, fun e => absurd e h⟩
    simp only [h, ne_eq, not_false_eq_true, iff_true]
    split <;> omega
end Go.Proofs.Ytoblikhnbddfmaa
