import Derived.Test.YtoblikhnbddfmaaCharD
/-! Chapter 1 of the document, walked. -/
set_option linter.unusedSimpArgs false
namespace Go.Proofs.Ytoblikhnbddfmaa
open Go Go.Abs AbsSeat Ty

theorem u144 : type_of% (And.intro (fun (K : Heap) (n : Int) => conv_int Try.underlying5 Try.underlying3 K n) (And.intro ag3 (And.intro sz3 (And.intro by3 (And.intro ze3 (And.intro Try.underlying3 (And.intro ag5 (And.intro sz5 (And.intro by5 (And.intro ze5 Try.underlying5)))))))))) := And.intro (fun (K : Heap) (n : Int) => conv_int Try.underlying5 Try.underlying3 K n) (And.intro ag3 (And.intro sz3 (And.intro by3 (And.intro ze3 (And.intro Try.underlying3 (And.intro ag5 (And.intro sz5 (And.intro by5 (And.intro ze5 Try.underlying5)))))))))
def g144 : Code :=
  .seq (.region 0 #[q 6 (.assign (.const (.bool false))) 4] false) (.seq (.region 1 #[q 7 (.move (.tmp 0)) 5, q 8 (.convert 5 3 (.tmp 7)) 3, q 9 (.move (.tmp 1)) 3, q 10 (.binOp .geq 3 (.tmp 8) (.tmp 9) 3) 4, q 11 (.move (.tmp 10)) 4, qg 12 (.move (.tmp 0)) 5 4 true, qg 13 (.convert 5 3 (.tmp 12)) 3 4 true, qg 14 (.move (.tmp 2)) 3 4 true, qg 15 (.binOp .leq 3 (.tmp 13) (.tmp 14) 3) 4 4 true, q 16 (.pick (.tmp 11) (.tmp 15) (.const (.bool false))) 4, q 6 (.assign (.tmp 16)) 4] false) .ret)
theorem s144 : Try.f144.body.map (slim cfg) = some g144 := by kernel_rfl
def g138 : Code :=
  .seq (.region 0 #[q 2 (.assign (.const (.bool false))) 4] false) (.seq (.region 1 #[q 3 (.move (.tmp 0)) 5, q 4 (cl 144 #[.tmp 3, ik 65, ik 90] #[5, 3, 3]) 4, q 5 (.move (.tmp 4)) 4, qg 6 (.move (.tmp 0)) 5 2 false, qg 7 (cl 144 #[.tmp 6, ik 97, ik 122] #[5, 3, 3]) 4 2 false, q 8 (.pick (.tmp 5) (.const (.bool true)) (.tmp 7)) 4, q 2 (.assign (.tmp 8)) 4] false) .ret)
theorem s138 : Try.f138.body.map (slim cfg) = some g138 := by kernel_rfl
def g139 : Code :=
  .seq (.region 0 #[q 2 (.assign (.const (.bool false))) 4] false) (.seq (.region 1 #[q 3 (.move (.tmp 0)) 5, q 4 (cl 144 #[.tmp 3, ik 48, ik 57] #[5, 3, 3]) 4, q 2 (.assign (.tmp 4)) 4] false) .ret)
theorem s139 : Try.f139.body.map (slim cfg) = some g139 := by kernel_rfl


theorem ris_ok (c : UInt8) (lo hi : Int) (prot : Nat) (H : Heap) (hp : prot ≤ H.length) : aLim cfg prot 144 [.int .u8 c.toNat, .int .i64 lo, .int .i64 hi] H = some (.bool (decide (lo ≤ c.toNat) && decide ((c.toNat : Int) ≤ hi)), none) := by
  have hsnap : snap H [.int .u8 c.toNat, .int .i64 lo, .int .i64 hi] = some ([.int .u8 c.toNat, .int .i64 lo, .int .i64 hi], false) := rfl
  have w1 : IntKind.i64.wrap ((c.toNat : Nat) : Int) = ((c.toNat : Nat) : Int) := wrap64 (by have := c.toNat_lt; omega) (by have := c.toNat_lt; omega)
  refine pure_slim rfl (by kernel_rfl) Try.func144 s144 hp hsnap (by simp [Try.f144]) fun fr hlen h => ?_
  simp only [Has, Nat.zero_add] at h
  obtain ⟨a0, a1, a2, -⟩ := h
  simp only [Try.f144] at hlen ⊢
  unfold g144
  by_cases h1 : lo ≤ (c.toNat : Int)
  · simp only [wk, aBuiltin, AV.cells, AV.leaf, Nat.reduceEqDiff, Nat.reduceLT, Nat.reduceAdd, Nat.reduceLeDiff, reduceCtorEq, Nat.reduceMul, cfgP, u144, hlen, a0, a1, a2, w1, h1]
    simp only [Bool.true_and, decide_true]
    exact Fin_pure (l := [.bool (decide ((c.toNat : Int) ≤ hi))]) (by simp [wk, aBuiltin, AV.cells, AV.leaf, Nat.reduceEqDiff, Nat.reduceLT, Nat.reduceAdd, Nat.reduceLeDiff, reduceCtorEq, Nat.reduceMul, cfgP, u144, aResults, aResult, hlen]) (.still rfl) (by simp)
  · simp only [wk, aBuiltin, AV.cells, AV.leaf, Nat.reduceEqDiff, Nat.reduceLT, Nat.reduceAdd, Nat.reduceLeDiff, reduceCtorEq, Nat.reduceMul, cfgP, u144, hlen, a0, a1, a2, w1, h1, none_beq]
    simp only [Bool.false_and, decide_false]
    exact Fin_pure (l := [.bool false]) (by simp [wk, aBuiltin, AV.cells, AV.leaf, Nat.reduceEqDiff, Nat.reduceLT, Nat.reduceAdd, Nat.reduceLeDiff, reduceCtorEq, Nat.reduceMul, cfgP, u144, aResults, aResult, hlen]) (.still rfl) (by simp)

theorem rletter_ok (c : UInt8) (prot : Nat) (H : Heap) (hp : prot ≤ H.length) : aLim cfg prot 138 [.int .u8 c.toNat] H = some (.bool (letterC c.toNat), none) := by
  have hsnap : snap H [.int .u8 c.toNat] = some ([.int .u8 c.toNat], false) := rfl
  have n1 := ris_ok c 65 90 H.length H (Nat.le_refl _)
  have n2 := ris_ok c 97 122 H.length H (Nat.le_refl _)
  unfold letterC greatC
  generalize (decide ((65 : Int) ≤ c.toNat) && decide ((c.toNat : Int) ≤ 90)) = g at *
  generalize (decide ((97 : Int) ≤ c.toNat) && decide ((c.toNat : Int) ≤ 122)) = k at *
  refine pure_slim rfl (by kernel_rfl) Try.func138 s138 hp hsnap (by simp [Try.f138]) fun fr hlen h => ?_
  simp only [Has, Nat.zero_add] at h
  obtain ⟨a0, -⟩ := h
  simp only [Try.f138] at hlen ⊢
  unfold g138
  cases g with
  | true =>
    simp only [wk, aBuiltin, AV.cells, AV.leaf, Nat.reduceEqDiff, Nat.reduceLT, Nat.reduceAdd, Nat.reduceLeDiff, reduceCtorEq, Nat.reduceMul, cfgP, u144, hlen, a0, n1, none_beq]
    simp only [Bool.true_or]
    exact Fin_pure (l := [.bool true]) (by simp [wk, aBuiltin, AV.cells, AV.leaf, Nat.reduceEqDiff, Nat.reduceLT, Nat.reduceAdd, Nat.reduceLeDiff, reduceCtorEq, Nat.reduceMul, cfgP, u144, aResults, aResult, hlen]) (.still rfl) (by simp)
  | false =>
    simp only [wk, aBuiltin, AV.cells, AV.leaf, Nat.reduceEqDiff, Nat.reduceLT, Nat.reduceAdd, Nat.reduceLeDiff, reduceCtorEq, Nat.reduceMul, cfgP, u144, hlen, a0, n1, n2, none_beq]
    simp only [Bool.false_or]
    exact Fin_pure (l := [.bool k]) (by simp [wk, aBuiltin, AV.cells, AV.leaf, Nat.reduceEqDiff, Nat.reduceLT, Nat.reduceAdd, Nat.reduceLeDiff, reduceCtorEq, Nat.reduceMul, cfgP, u144, aResults, aResult, hlen]) (.still rfl) (by simp)

theorem rdigit_ok (c : UInt8) (prot : Nat) (H : Heap) (hp : prot ≤ H.length) : aLim cfg prot 139 [.int .u8 c.toNat] H = some (.bool (digitC c.toNat), none) := by
  have hsnap : snap H [.int .u8 c.toNat] = some ([.int .u8 c.toNat], false) := rfl
  have n1 := ris_ok c 48 57 H.length H (Nat.le_refl _)
  unfold digitC
  generalize (decide ((48 : Int) ≤ c.toNat) && decide ((c.toNat : Int) ≤ 57)) = g at *
  refine pure_slim rfl (by kernel_rfl) Try.func139 s139 hp hsnap (by simp [Try.f139]) fun fr hlen h => ?_
  simp only [Has, Nat.zero_add] at h
  obtain ⟨a0, -⟩ := h
  simp only [Try.f139] at hlen ⊢
  unfold g139
  simp only [wk, aBuiltin, AV.cells, AV.leaf, Nat.reduceEqDiff, Nat.reduceLT, Nat.reduceAdd, Nat.reduceLeDiff, reduceCtorEq, Nat.reduceMul, cfgP, u144, hlen, a0, n1]
  exact Fin_pure (l := [.bool g]) (by simp [wk, aBuiltin, AV.cells, AV.leaf, Nat.reduceEqDiff, Nat.reduceLT, Nat.reduceAdd, Nat.reduceLeDiff, reduceCtorEq, Nat.reduceMul, cfgP, u144, aResults, aResult, hlen]) (.still rfl) (by simp)

end Go.Proofs.Ytoblikhnbddfmaa
