import Derived.Test.YtoblikhnbddfmaaUtf2
/-! IndexByte, walked. -/
set_option linter.unusedSimpArgs false
namespace Go.Proofs.Ytoblikhnbddfmaa
open Go Go.Abs AbsSeat Ty

theorem u140 : type_of% (And.intro ag5 (And.intro sz5 (And.intro by5 (And.intro ze5 (And.intro Try.underlying5 (And.intro ag9 (And.intro sz9 (And.intro by9 (And.intro ze9 Try.underlying9))))))))) := And.intro ag5 (And.intro sz5 (And.intro by5 (And.intro ze5 (And.intro Try.underlying5 (And.intro ag9 (And.intro sz9 (And.intro by9 (And.intro ze9 Try.underlying9))))))))
def g140 : Code :=
  .seq (.region 0 #[q 4 (.assign (ik 0)) 3] false) (.seq (.region 1 #[q 5 (.move (.tmp 0)) 9, q 6 (.move (.tmp 1)) 5, q 7 (cl 145 #[.tmp 5, .tmp 6] #[9, 5]) 3, q 4 (.assign (.tmp 7)) 3] false) .ret)
theorem s140 : Try.f140.body.map (slim cfg) = some g140 := by kernel_rfl
def g136 : Code :=
  .seq (.region 0 #[q 4 (.assign (ik 0)) 3] false) (.seq (.region 1 #[q 5 (.move (.tmp 0)) 9, q 6 (.move (.tmp 1)) 5, q 7 (cl 140 #[.tmp 5, .tmp 6] #[9, 5]) 3, q 4 (.assign (.tmp 7)) 3] false) .ret)
theorem s136 : Try.f136.body.map (slim cfg) = some g136 := by kernel_rfl

theorem idxX_ok (s : List UInt8) (c : Int) (prot : Nat) (H : Heap) : aLim cfg prot 145 [.str s, .int .u8 c] H = some (.int .i64 (idxByte s c.toNat.toUInt8), none) := by
  have h1 : Try.f145.body = none := by kernel_rfl
  have h2 : Try.f145.name = "internal/bytealg.IndexByteString" := by kernel_rfl
  have h3 : Try.f145.origin = "" := by kernel_rfl
  have h4 : aExt Try.f145 [.str s, .int .u8 c] = some (.int .i64 (idxByte s c.toNat.toUInt8)) := by
    unfold aExt
    rw [h2, h3, if_pos ⟨rfl, rfl⟩]
  have h5 : cfg.P.funcs[145]? = some Try.f145 := Try.func145
  have h6 : cfg.ok 145 = true := by kernel_rfl
  exact lim_ext h6 h5 h1 h4 prot H

theorem idxL_ok (s : List UInt8) (c : UInt8) (prot : Nat) (H : Heap) (hp : prot ≤ H.length) : aLim cfg prot 140 [.str s, .int .u8 c.toNat] H = some (.int .i64 (idxByte s c), none) := by
  have hsnap : snap H [.str s, .int .u8 c.toNat] = some ([.str s, .int .u8 c.toNat], false) := rfl
  have n1 := idxX_ok s (c.toNat : Int) H.length H
  have e : ((c.toNat : Int)).toNat.toUInt8 = c := by simp
  rw [e] at n1
  refine pure_slim rfl (by kernel_rfl) Try.func140 s140 hp hsnap (by simp [Try.f140]) fun fr hlen h => ?_
  simp only [Has, Nat.zero_add] at h
  obtain ⟨a0, a1, -⟩ := h
  simp only [Try.f140] at hlen ⊢
  unfold g140
  simp only [wk, aBuiltin, AV.cells, AV.leaf, Nat.reduceEqDiff, Nat.reduceLT, Nat.reduceAdd, Nat.reduceLeDiff, reduceCtorEq, Nat.reduceMul, cfgP, u140, hlen, a0, a1, n1]
  exact Fin_pure (l := [.int .i64 (idxByte s c)]) (by simp [wk, aBuiltin, AV.cells, AV.leaf, Nat.reduceEqDiff, Nat.reduceLT, Nat.reduceAdd, Nat.reduceLeDiff, reduceCtorEq, Nat.reduceMul, cfgP, u140, aResults, aResult, hlen]) (.still rfl) (by simp)

theorem idxS_ok (s : List UInt8) (c : UInt8) (prot : Nat) (H : Heap) (hp : prot ≤ H.length) : aLim cfg prot 136 [.str s, .int .u8 c.toNat] H = some (.int .i64 (idxByte s c), none) := by
  have hsnap : snap H [.str s, .int .u8 c.toNat] = some ([.str s, .int .u8 c.toNat], false) := rfl
  have n1 := idxL_ok s c H.length H (Nat.le_refl _)
  refine pure_slim rfl (by kernel_rfl) Try.func136 s136 hp hsnap (by simp [Try.f136]) fun fr hlen h => ?_
  simp only [Has, Nat.zero_add] at h
  obtain ⟨a0, a1, -⟩ := h
  simp only [Try.f136] at hlen ⊢
  unfold g136
  simp only [wk, aBuiltin, AV.cells, AV.leaf, Nat.reduceEqDiff, Nat.reduceLT, Nat.reduceAdd, Nat.reduceLeDiff, reduceCtorEq, Nat.reduceMul, cfgP, u140, hlen, a0, a1, n1]
  exact Fin_pure (l := [.int .i64 (idxByte s c)]) (by simp [wk, aBuiltin, AV.cells, AV.leaf, Nat.reduceEqDiff, Nat.reduceLT, Nat.reduceAdd, Nat.reduceLeDiff, reduceCtorEq, Nat.reduceMul, cfgP, u140, aResults, aResult, hlen]) (.still rfl) (by simp)

end Go.Proofs.Ytoblikhnbddfmaa
