import Derived.Test.YtoblikhnbddfmaaCharD
/-! chars.Digit, walked. -/
set_option linter.unusedSimpArgs false
namespace Go.Proofs.Ytoblikhnbddfmaa
open Go Go.Abs AbsSeat Ty

theorem u142 : type_of% (And.intro ag5 (And.intro sz5 (And.intro by5 (And.intro ze5 Try.underlying5)))) := And.intro ag5 (And.intro sz5 (And.intro by5 (And.intro ze5 Try.underlying5)))
def g142 : Code :=
  .seq (.region 0 #[q 2 (.assign (.const (.bool false))) 4] false) (.seq (.region 1 #[q 3 (.move (.tmp 0)) 5, q 4 (.binOp .geq 5 (.tmp 3) (.const (.int .u8 48)) 5) 4, q 5 (.move (.tmp 4)) 4, qg 6 (.move (.tmp 0)) 5 2 true, qg 7 (.binOp .leq 5 (.tmp 6) (.const (.int .u8 57)) 5) 4 2 true, q 8 (.pick (.tmp 5) (.tmp 7) (.const (.bool false))) 4, q 2 (.assign (.tmp 8)) 4] false) .ret)
theorem s142 : Try.f142.body.map (slim cfg) = some g142 := by kernel_rfl


theorem digit_ok (c : Int) (prot : Nat) (H : Heap) (hp : prot ≤ H.length) : aLim cfg prot 142 [.int .u8 c] H = some (.bool (digitC c), none) := by
  have hsnap : snap H [.int .u8 c] = some ([.int .u8 c], false) := rfl
  unfold digitC
  refine pure_slim rfl (by kernel_rfl) Try.func142 s142 hp hsnap (by simp [Try.f142]) fun fr hlen h => ?_
  simp only [Has, Nat.zero_add] at h
  obtain ⟨a0, -⟩ := h
  simp only [Try.f142] at hlen ⊢
  unfold g142
  by_cases h1 : 48 ≤ c
  · simp only [wk, aBuiltin, AV.cells, AV.leaf, Nat.reduceEqDiff, Nat.reduceLT, Nat.reduceAdd, Nat.reduceLeDiff, reduceCtorEq, Nat.reduceMul, cfgP, u142, hlen, a0, h1]
    simp only [Bool.true_and, decide_true]
    exact Fin_pure (l := [.bool (decide (c ≤ 57))]) (by simp [wk, aBuiltin, AV.cells, AV.leaf, Nat.reduceEqDiff, Nat.reduceLT, Nat.reduceAdd, Nat.reduceLeDiff, reduceCtorEq, Nat.reduceMul, cfgP, u142, aResults, aResult, hlen]) (.still rfl) (by simp)
  · simp only [wk, aBuiltin, AV.cells, AV.leaf, Nat.reduceEqDiff, Nat.reduceLT, Nat.reduceAdd, Nat.reduceLeDiff, reduceCtorEq, Nat.reduceMul, cfgP, u142, hlen, a0, h1, none_beq]
    simp only [Bool.false_and, decide_false]
    exact Fin_pure (l := [.bool false]) (by simp [wk, aBuiltin, AV.cells, AV.leaf, Nat.reduceEqDiff, Nat.reduceLT, Nat.reduceAdd, Nat.reduceLeDiff, reduceCtorEq, Nat.reduceMul, cfgP, u142, aResults, aResult, hlen]) (.still rfl) (by simp)
end Go.Proofs.Ytoblikhnbddfmaa
