import Derived.Test.YtjhgmoaabflbfaaLabel2
/-! Chapter 14: a set of pairs, walked. -/
set_option linter.unusedSimpArgs false
namespace Go.Proofs.Ytjhgmoaabflbfaa
open Go Go.Abs AbsSeat Ty

theorem len_ok (n : Nat) (hn : n ≤ 12) : ∃ k : Int, ∀ (prot : Nat) (H : Heap), aLim cfg prot 66 [.int .u64 n] H = some (.int .i64 k, none) := by
  have h0 : ∀ (prot : Nat) (H : Heap), aLim cfg prot 66 [.int .u64 0] H = some (.int .i64 0, none) := lim_shut (k := 100) (by kernel_rfl) (by kernel_rfl) (by kernel_rfl)
  have h1 : ∀ (prot : Nat) (H : Heap), aLim cfg prot 66 [.int .u64 1] H = some (.int .i64 1, none) := lim_shut (k := 100) (by kernel_rfl) (by kernel_rfl) (by kernel_rfl)
  have h2 : ∀ (prot : Nat) (H : Heap), aLim cfg prot 66 [.int .u64 2] H = some (.int .i64 2, none) := lim_shut (k := 100) (by kernel_rfl) (by kernel_rfl) (by kernel_rfl)
  have h3 : ∀ (prot : Nat) (H : Heap), aLim cfg prot 66 [.int .u64 3] H = some (.int .i64 2, none) := lim_shut (k := 100) (by kernel_rfl) (by kernel_rfl) (by kernel_rfl)
  have h4 : ∀ (prot : Nat) (H : Heap), aLim cfg prot 66 [.int .u64 4] H = some (.int .i64 3, none) := lim_shut (k := 100) (by kernel_rfl) (by kernel_rfl) (by kernel_rfl)
  have h5 : ∀ (prot : Nat) (H : Heap), aLim cfg prot 66 [.int .u64 5] H = some (.int .i64 3, none) := lim_shut (k := 100) (by kernel_rfl) (by kernel_rfl) (by kernel_rfl)
  have h6 : ∀ (prot : Nat) (H : Heap), aLim cfg prot 66 [.int .u64 6] H = some (.int .i64 3, none) := lim_shut (k := 100) (by kernel_rfl) (by kernel_rfl) (by kernel_rfl)
  have h7 : ∀ (prot : Nat) (H : Heap), aLim cfg prot 66 [.int .u64 7] H = some (.int .i64 3, none) := lim_shut (k := 100) (by kernel_rfl) (by kernel_rfl) (by kernel_rfl)
  have h8 : ∀ (prot : Nat) (H : Heap), aLim cfg prot 66 [.int .u64 8] H = some (.int .i64 4, none) := lim_shut (k := 100) (by kernel_rfl) (by kernel_rfl) (by kernel_rfl)
  have h9 : ∀ (prot : Nat) (H : Heap), aLim cfg prot 66 [.int .u64 9] H = some (.int .i64 4, none) := lim_shut (k := 100) (by kernel_rfl) (by kernel_rfl) (by kernel_rfl)
  have h10 : ∀ (prot : Nat) (H : Heap), aLim cfg prot 66 [.int .u64 10] H = some (.int .i64 4, none) := lim_shut (k := 100) (by kernel_rfl) (by kernel_rfl) (by kernel_rfl)
  have h11 : ∀ (prot : Nat) (H : Heap), aLim cfg prot 66 [.int .u64 11] H = some (.int .i64 4, none) := lim_shut (k := 100) (by kernel_rfl) (by kernel_rfl) (by kernel_rfl)
  have h12 : ∀ (prot : Nat) (H : Heap), aLim cfg prot 66 [.int .u64 12] H = some (.int .i64 4, none) := lim_shut (k := 100) (by kernel_rfl) (by kernel_rfl) (by kernel_rfl)
  have : n = 0 ∨ n = 1 ∨ n = 2 ∨ n = 3 ∨ n = 4 ∨ n = 5 ∨ n = 6 ∨ n = 7 ∨ n = 8 ∨ n = 9 ∨ n = 10 ∨ n = 11 ∨ n = 12 := by omega
  rcases this with rfl | rfl | rfl | rfl | rfl | rfl | rfl | rfl | rfl | rfl | rfl | rfl | rfl
  · exact ⟨_, h0⟩
  · exact ⟨_, h1⟩
  · exact ⟨_, h2⟩
  · exact ⟨_, h3⟩
  · exact ⟨_, h4⟩
  · exact ⟨_, h5⟩
  · exact ⟨_, h6⟩
  · exact ⟨_, h7⟩
  · exact ⟨_, h8⟩
  · exact ⟨_, h9⟩
  · exact ⟨_, h10⟩
  · exact ⟨_, h11⟩
  · exact ⟨_, h12⟩

def isortP (l : List Pr) : List Pr := outGo (l.length - 1) l 1

theorem pdq_ok (l : List Pr) (b : Nat) (k : Int) (hl : l.length ≤ 12) (prot : Nat) (H : Heap) (hp : prot ≤ H.length) (hb : prot ≤ b) (hg : hget H b 0 = some (cellsOf encP l)) :
    aLim cfg prot 65 [.bs ⟨b, 0, 0, l.length, 0, 2, true, false⟩, .int .i64 0, .int .i64 l.length, .int .i64 k, .func 46 [] []] H = some (.tup [], some (H.set b (.cells 0 (cellsOf encP (isortP l))))) := by
  have n1 := isort_ok l b (by omega) prot H hp hb hg
  have w1 : IntKind.i64.wrap ((l.length : Int) - 0) = (l.length : Int) := by rw [wrap64 (by omega) (by omega)]; omega
  have h12 : (l.length : Int) ≤ 12 := by omega
  refine raw_slim rfl (by kernel_rfl) (by kernel_rfl) (by kernel_rfl) Try.func65 s65 (by simp [Try.f65]) fun fr hlen h => ?_
  simp only [Has, Nat.zero_add] at h
  obtain ⟨a0, a1, a2, a3, a4, -⟩ := h
  simp only [Try.f65] at hlen ⊢
  unfold g65
  simp only [wk0, wk1, wk2, wk3, wk4, wk5, wk6, aWanted, aYield, Region.wanted, aOp, quiet, loud, aEvals, aParts, aOpt, aBuiltin, rd, win, AV.cells, AV.leaf, aNew, splice, fillA, Nat.reduceEqDiff, Nat.reduceLT, Nat.reduceAdd, Nat.reduceLeDiff, reduceCtorEq, Nat.reduceMul, cfgP, u65, hlen, a0, a1, a2, a3, a4]
  rw [R_loop]
  simp only [wk0, wk1, wk2, wk3, wk4, wk5, wk6, aWanted, aYield, Region.wanted, aOp, quiet, loud, aEvals, aParts, aOpt, aBuiltin, rd, win, AV.cells, AV.leaf, aNew, splice, fillA, Nat.reduceEqDiff, Nat.reduceLT, Nat.reduceAdd, Nat.reduceLeDiff, reduceCtorEq, Nat.reduceMul, cfgP, u65, hlen, a0, a1, a2, a3, a4, w1, h12, n1]
  exact Fin_raw (l := []) (by simp [wk0, wk1, wk2, wk3, wk4, wk5, wk6, aWanted, aYield, Region.wanted, aOp, quiet, loud, aEvals, aParts, aOpt, aBuiltin, rd, win, AV.cells, AV.leaf, aNew, splice, fillA, Nat.reduceEqDiff, Nat.reduceLT, Nat.reduceAdd, Nat.reduceLeDiff, reduceCtorEq, Nat.reduceMul, cfgP, u65, hlen, aResults, aResult])

theorem sort_ok (l : List Pr) (b : Nat) (hl : l.length ≤ 12) (prot : Nat) (H : Heap) (hp : prot ≤ H.length) (hb : prot ≤ b) (hg : hget H b 0 = some (cellsOf encP l)) :
    aLim cfg prot 45 [.bs ⟨b, 0, 0, l.length, 0, 2, true, false⟩, .func 46 [] []] H = some (.tup [], some (H.set b (.cells 0 (cellsOf encP (isortP l))))) := by
  obtain ⟨k, hk⟩ := len_ok l.length hl
  have n1 := pdq_ok l b k hl prot H hp hb hg
  have w1 : IntKind.u64.wrap (l.length : Int) = (l.length : Int) := wrapu64 (by omega) (by omega)
  have hlen' : ∀ K, aLen Try.prog K 25 (.bs ⟨b, 0, 0, l.length, 0, 2, true, false⟩) = some (.int .i64 l.length) := fun K => by simp [aLen, Try.underlying25]
  refine raw_slim rfl (by kernel_rfl) (by kernel_rfl) (by kernel_rfl) Try.func45 s45 (by simp [Try.f45]) fun fr hlen h => ?_
  simp only [Has, Nat.zero_add] at h
  obtain ⟨a0, a1, -⟩ := h
  simp only [Try.f45] at hlen ⊢
  unfold g45
  simp only [wk0, wk1, wk2, wk3, wk4, wk5, wk6, aWanted, aYield, Region.wanted, aOp, quiet, loud, aEvals, aParts, aOpt, aBuiltin, rd, win, AV.cells, AV.leaf, aNew, splice, fillA, Nat.reduceEqDiff, Nat.reduceLT, Nat.reduceAdd, Nat.reduceLeDiff, reduceCtorEq, Nat.reduceMul, cfgP, u45, hlen, a0, a1, hlen', w1, hk, n1]
  exact Fin_raw (l := []) (by simp [wk0, wk1, wk2, wk3, wk4, wk5, wk6, aWanted, aYield, Region.wanted, aOp, quiet, loud, aEvals, aParts, aOpt, aBuiltin, rd, win, AV.cells, AV.leaf, aNew, splice, fillA, Nat.reduceEqDiff, Nat.reduceLT, Nat.reduceAdd, Nat.reduceLeDiff, reduceCtorEq, Nat.reduceMul, cfgP, u45, hlen, aResults, aResult])


theorem isort_nil (o : AV) (prot : Nat) (H : Heap) : aLim cfg prot 77 [o, .int .i64 0, .int .i64 0, .func 46 [] []] H = some (.tup [], some H) := by
  have hn0 : IntKind.i64.wrap ((0 : Int) + 1) = 1 := by decide
  have d1 : decide ((1 : Int) < 0) = false := rfl
  refine raw_slim rfl (by kernel_rfl) (by kernel_rfl) (by kernel_rfl) Try.func77 s77 (by simp [Try.f77]) fun fr hlen h => ?_
  simp only [Has, Nat.zero_add] at h
  obtain ⟨a0, a1, a2, a3, -⟩ := h
  simp only [Try.f77] at hlen ⊢
  unfold g77
  simp only [wk0, wk1, wk2, wk3, wk4, wk5, wk6, aWanted, aYield, Region.wanted, aOp, quiet, loud, aEvals, aParts, aOpt, aBuiltin, rd, win, AV.cells, AV.leaf, aNew, splice, fillA, Nat.reduceEqDiff, Nat.reduceLT, Nat.reduceAdd, Nat.reduceLeDiff, reduceCtorEq, Nat.reduceMul, cfgP, u77, hlen, a0, a1, a2, a3, hn0]
  rw [R_loop]
  simp only [wk0, wk1, wk2, wk3, wk4, wk5, wk6, aWanted, aYield, Region.wanted, aOp, quiet, loud, aEvals, aParts, aOpt, aBuiltin, rd, win, AV.cells, AV.leaf, aNew, splice, fillA, Nat.reduceEqDiff, Nat.reduceLT, Nat.reduceAdd, Nat.reduceLeDiff, reduceCtorEq, Nat.reduceMul, cfgP, u77, hlen, a0, a1, a2, a3, d1]
  exact Fin_raw (l := []) (by simp [wk0, wk1, wk2, wk3, wk4, wk5, wk6, aWanted, aYield, Region.wanted, aOp, quiet, loud, aEvals, aParts, aOpt, aBuiltin, rd, win, AV.cells, AV.leaf, aNew, splice, fillA, Nat.reduceEqDiff, Nat.reduceLT, Nat.reduceAdd, Nat.reduceLeDiff, reduceCtorEq, Nat.reduceMul, cfgP, u77, hlen, aResults, aResult])

theorem pdq_nil (o : AV) (k : Int) (prot : Nat) (H : Heap) : aLim cfg prot 65 [o, .int .i64 0, .int .i64 0, .int .i64 k, .func 46 [] []] H = some (.tup [], some H) := by
  have n1 := isort_nil o prot H
  have w1 : IntKind.i64.wrap ((0 : Int) - 0) = 0 := by decide
  have h12 : decide ((0 : Int) ≤ 12) = true := rfl
  refine raw_slim rfl (by kernel_rfl) (by kernel_rfl) (by kernel_rfl) Try.func65 s65 (by simp [Try.f65]) fun fr hlen h => ?_
  simp only [Has, Nat.zero_add] at h
  obtain ⟨a0, a1, a2, a3, a4, -⟩ := h
  simp only [Try.f65] at hlen ⊢
  unfold g65
  simp only [wk0, wk1, wk2, wk3, wk4, wk5, wk6, aWanted, aYield, Region.wanted, aOp, quiet, loud, aEvals, aParts, aOpt, aBuiltin, rd, win, AV.cells, AV.leaf, aNew, splice, fillA, Nat.reduceEqDiff, Nat.reduceLT, Nat.reduceAdd, Nat.reduceLeDiff, reduceCtorEq, Nat.reduceMul, cfgP, u65, hlen, a0, a1, a2, a3, a4]
  rw [R_loop]
  simp only [wk0, wk1, wk2, wk3, wk4, wk5, wk6, aWanted, aYield, Region.wanted, aOp, quiet, loud, aEvals, aParts, aOpt, aBuiltin, rd, win, AV.cells, AV.leaf, aNew, splice, fillA, Nat.reduceEqDiff, Nat.reduceLT, Nat.reduceAdd, Nat.reduceLeDiff, reduceCtorEq, Nat.reduceMul, cfgP, u65, hlen, a0, a1, a2, a3, a4, w1, h12, n1]
  exact Fin_raw (l := []) (by simp [wk0, wk1, wk2, wk3, wk4, wk5, wk6, aWanted, aYield, Region.wanted, aOp, quiet, loud, aEvals, aParts, aOpt, aBuiltin, rd, win, AV.cells, AV.leaf, aNew, splice, fillA, Nat.reduceEqDiff, Nat.reduceLT, Nat.reduceAdd, Nat.reduceLeDiff, reduceCtorEq, Nat.reduceMul, cfgP, u65, hlen, aResults, aResult])

theorem sort_nil (o : AV) (ho : o = .nilS ∨ o = .vs [] true) (prot : Nat) (H : Heap) : aLim cfg prot 45 [o, .func 46 [] []] H = some (.tup [], some H) := by
  obtain ⟨k, hk⟩ := len_ok 0 (by omega)
  have hk : ∀ (prot : Nat) (H : Heap), aLim cfg prot 66 [.int .u64 0] H = some (.int .i64 k, none) := hk
  have n1 := pdq_nil o k prot H
  have w1 : IntKind.u64.wrap (0 : Int) = 0 := by decide
  have hlen' : ∀ K, aLen Try.prog K 25 o = some (.int .i64 0) := fun K => by rcases ho with rfl | rfl <;> simp [aLen, Try.underlying25]
  refine raw_slim rfl (by kernel_rfl) (by kernel_rfl) (by kernel_rfl) Try.func45 s45 (by simp [Try.f45]) fun fr hlen h => ?_
  simp only [Has, Nat.zero_add] at h
  obtain ⟨a0, a1, -⟩ := h
  simp only [Try.f45] at hlen ⊢
  unfold g45
  simp only [wk0, wk1, wk2, wk3, wk4, wk5, wk6, aWanted, aYield, Region.wanted, aOp, quiet, loud, aEvals, aParts, aOpt, aBuiltin, rd, win, AV.cells, AV.leaf, aNew, splice, fillA, Nat.reduceEqDiff, Nat.reduceLT, Nat.reduceAdd, Nat.reduceLeDiff, reduceCtorEq, Nat.reduceMul, cfgP, u45, hlen, a0, a1, hlen', w1, hk, n1]
  exact Fin_raw (l := []) (by simp [wk0, wk1, wk2, wk3, wk4, wk5, wk6, aWanted, aYield, Region.wanted, aOp, quiet, loud, aEvals, aParts, aOpt, aBuiltin, rd, win, AV.cells, AV.leaf, aNew, splice, fillA, Nat.reduceEqDiff, Nat.reduceLT, Nat.reduceAdd, Nat.reduceLeDiff, reduceCtorEq, Nat.reduceMul, cfgP, u45, hlen, aResults, aResult])

def dupP : List Pr → Bool
  | x :: y :: r => (y.name == x.name) || dupP (y :: r)
  | _ => false
/-- a set of pairs, or why there is none: 0, 3 (Form), 10 (State). -/
def ofP (l : List Pr) : List Pr × Int := if l.any badP then ([], 3) else if dupP (isortP l) then ([], 10) else (isortP l, 0)
theorem outGo_len : ∀ (k : Nat) (l : List Pr) (i : Nat), (outGo k l i).length = l.length
  | 0, _, _ => rfl
  | k + 1, l, i => by rw [outGo, outGo_len k, insGo_len]
theorem isortP_len (l : List Pr) : (isortP l).length = l.length := outGo_len _ _ _


theorem of_ok (l : List Pr) (w : AV) (hw : Sl encP w l) (hl : l.length ≤ 12) (hls : ∀ x ∈ l, x.name.length ≤ 9223372036854775807 ∧ x.val.length ≤ 9223372036854775807) (prot : Nat) (H : Heap) (hp : prot ≤ H.length) :
    ∃ v, Sl encP v (ofP l).1 ∧ aLim cfg prot 18 [w] H = some (.tup [.agg [v], .int .i64 (ofP l).2], none) := by
  have hsnap : snap H [w] = some ([w], false) := by cases hw <;> rfl
  have hfz : ∀ (K : Heap) (e : Int), Frz K H.length (packR [.agg [.nilS], .int .i64 e]) (.tup [.agg [.nilS], .int .i64 e]) := fun K e => .tup (.cons (.agg (.cons (.still rfl) .nil)) (.cons (.still rfl) .nil))
  have n1 := contf_ok l w hw (by omega) hls H.length (H ++ [Blk.cells 0 [.nilS]]) (by simp)
  cases hbad : l.any badP with
  | true =>
    rw [hbad] at n1
    have e : ofP l = ([], 3) := by simp only [ofP, hbad, if_true]
    rw [e]
    refine ⟨.nilS, .nil, ?_⟩
    refine pure_slim rfl (by kernel_rfl) Try.func18 s18 hp hsnap (by simp [Try.f18]) fun fr hlen h => ?_
    simp only [Has, Nat.zero_add] at h
    obtain ⟨a0, -⟩ := h
    simp only [Try.f18] at hlen ⊢
    unfold g18
    simp only [wk0, wk1, wk2, wk3, wk4, wk5, wk6, aWanted, aYield, Region.wanted, aOp, quiet, loud, aEvals, aParts, aOpt, aBuiltin, rd, win, AV.cells, AV.leaf, aNew, splice, fillA, Nat.reduceEqDiff, Nat.reduceLT, Nat.reduceAdd, Nat.reduceLeDiff, reduceCtorEq, Nat.reduceMul, cfgP, u18, hlen, a0, n1]
    exact Fin_pure (l := [.agg [.nilS], .int .i64 3]) (by simp [wk0, wk1, wk2, wk3, wk4, wk5, wk6, aWanted, aYield, Region.wanted, aOp, quiet, loud, aEvals, aParts, aOpt, aBuiltin, rd, win, AV.cells, AV.leaf, aNew, splice, fillA, Nat.reduceEqDiff, Nat.reduceLT, Nat.reduceAdd, Nat.reduceLeDiff, reduceCtorEq, Nat.reduceMul, cfgP, u18, hlen, aResults, aResult]) (hfz _ _) (by simp)
  | false =>
    rw [hbad] at n1
    by_cases hz : l = []
    · subst hz
      have e : ofP [] = ([], 0) := by rfl
      rw [e]
      have hk : w = .nilS ∨ (∃ es f, w = .vs es f) ∨ ∃ s, w = .bs s := by cases hw with | nil => exact .inl rfl | vs _ f => exact .inr (.inl ⟨_, _, rfl⟩)
      obtain ⟨o, ho, n2⟩ := pclone_none w H.length (H ++ [Blk.cells 0 [.nilS]]) (hw.elems encP_T _) hk
      have n3 := sort_nil o ho H.length (H ++ [Blk.cells 0 [.nilS]])
      have hlen' : ∀ K, aLen Try.prog K 25 o = some (.int .i64 0) := fun K => by rcases ho with rfl | rfl <;> simp [aLen, Try.underlying25]
      have d1 : decide ((1 : Int) < 0) = false := rfl
      refine ⟨o, by rcases ho with rfl | rfl; exact .nil; exact .vs [] true, ?_⟩
      rcases ho with rfl | rfl
      · refine pure_slim rfl (by kernel_rfl) Try.func18 s18 hp hsnap (by simp [Try.f18]) fun fr hlen h => ?_
        simp only [Has, Nat.zero_add] at h
        obtain ⟨a0, -⟩ := h
        simp only [Try.f18] at hlen ⊢
        unfold g18
        simp only [wk0, wk1, wk2, wk3, wk4, wk5, wk6, aWanted, aYield, Region.wanted, aOp, quiet, loud, aEvals, aParts, aOpt, aBuiltin, rd, win, AV.cells, AV.leaf, aNew, splice, fillA, Nat.reduceEqDiff, Nat.reduceLT, Nat.reduceAdd, Nat.reduceLeDiff, reduceCtorEq, Nat.reduceMul, cfgP, u18, hlen, a0, n1, n2, n3]
        rw [R_loop]
        simp only [wk0, wk1, wk2, wk3, wk4, wk5, wk6, aWanted, aYield, Region.wanted, aOp, quiet, loud, aEvals, aParts, aOpt, aBuiltin, rd, win, AV.cells, AV.leaf, aNew, splice, fillA, Nat.reduceEqDiff, Nat.reduceLT, Nat.reduceAdd, Nat.reduceLeDiff, reduceCtorEq, Nat.reduceMul, cfgP, u18, hlen, a0, n1, n2, n3, hlen', d1]
        exact Fin_pure (l := [.agg [.nilS], .int .i64 0]) (by simp [wk0, wk1, wk2, wk3, wk4, wk5, wk6, aWanted, aYield, Region.wanted, aOp, quiet, loud, aEvals, aParts, aOpt, aBuiltin, rd, win, AV.cells, AV.leaf, aNew, splice, fillA, Nat.reduceEqDiff, Nat.reduceLT, Nat.reduceAdd, Nat.reduceLeDiff, reduceCtorEq, Nat.reduceMul, cfgP, u18, hlen, aResults, aResult]) (hfz _ _) (by simp)
      · refine pure_slim rfl (by kernel_rfl) Try.func18 s18 hp hsnap (by simp [Try.f18]) fun fr hlen h => ?_
        simp only [Has, Nat.zero_add] at h
        obtain ⟨a0, -⟩ := h
        simp only [Try.f18] at hlen ⊢
        unfold g18
        simp only [wk0, wk1, wk2, wk3, wk4, wk5, wk6, aWanted, aYield, Region.wanted, aOp, quiet, loud, aEvals, aParts, aOpt, aBuiltin, rd, win, AV.cells, AV.leaf, aNew, splice, fillA, Nat.reduceEqDiff, Nat.reduceLT, Nat.reduceAdd, Nat.reduceLeDiff, reduceCtorEq, Nat.reduceMul, cfgP, u18, hlen, a0, n1, n2, n3]
        rw [R_loop]
        simp only [wk0, wk1, wk2, wk3, wk4, wk5, wk6, aWanted, aYield, Region.wanted, aOp, quiet, loud, aEvals, aParts, aOpt, aBuiltin, rd, win, AV.cells, AV.leaf, aNew, splice, fillA, Nat.reduceEqDiff, Nat.reduceLT, Nat.reduceAdd, Nat.reduceLeDiff, reduceCtorEq, Nat.reduceMul, cfgP, u18, hlen, a0, n1, n2, n3, hlen', d1]
        exact Fin_pure (l := [.agg [.vs [] true], .int .i64 0]) (by simp [wk0, wk1, wk2, wk3, wk4, wk5, wk6, aWanted, aYield, Region.wanted, aOp, quiet, loud, aEvals, aParts, aOpt, aBuiltin, rd, win, AV.cells, AV.leaf, aNew, splice, fillA, Nat.reduceEqDiff, Nat.reduceLT, Nat.reduceAdd, Nat.reduceLeDiff, reduceCtorEq, Nat.reduceMul, cfgP, u18, hlen, aResults, aResult]) (.tup (.cons (.agg (.cons (.still rfl) .nil)) (.cons (.still rfl) .nil))) (by simp)
    · have hpos : 0 < l.length := List.length_pos_iff.2 hz
      have hk : (∃ es f, w = .vs es f) ∨ ∃ s, w = .bs s := by
        cases hw with
        | nil => exact absurd rfl hz
        | vs _ f => exact .inl ⟨_, _, rfl⟩
      have hsl := isortP_len l
      have e : ofP l = if dupP (isortP l) then ([], 10) else (isortP l, 0) := by simp [ofP, hbad]
      have n2 := pclone_some l w hz (by omega) H.length (H ++ [Blk.cells 0 [.nilS]]) (hw.elems encP_T _) hk
      have n3 := sort_ok l (H ++ [Blk.cells 0 [.nilS]]).length hl H.length (H ++ [Blk.cells 0 [.nilS]] ++ [Blk.cells 0 (cellsOf encP l)]) (by simp) (by simp) (by rw [hget_new rfl]; rfl)
      have hset : (H ++ [Blk.cells 0 [.nilS]] ++ [Blk.cells 0 (cellsOf encP l)]).set (H ++ [Blk.cells 0 [.nilS]]).length (Blk.cells 0 (cellsOf encP (isortP l))) = H ++ [Blk.cells 0 [.nilS]] ++ [Blk.cells 0 (cellsOf encP (isortP l))] := by simp
      rw [hset] at n3
      rw [e]
      generalize isortP l = s at *
      have hix : ∀ (j : Nat), j < l.length → aIndexAddr Try.prog 25 (.bs ⟨(H ++ [Blk.cells 0 [.nilS]]).length, 0, 0, l.length, 0, 2, true, false⟩) (.int .i64 j) = some (.ptr (H ++ [Blk.cells 0 [.nilS]]).length 0 (j * 2)) := fun j hj => by
        simp [aIndexAddr, asNat, Try.underlying25, sz59, hj]
      have hlen' : ∀ K b, aLen Try.prog K 25 (.bs ⟨b, 0, 0, l.length, 0, 2, true, false⟩) = some (.int .i64 l.length) := fun K b => by simp [aLen, Try.underlying25]
      have hputN : ∀ (x : AV) (B : Blk), x.leaf = true → hput H.length (H ++ [Blk.cells 0 [.nilS]] ++ [B]) H.length 0 0 [x] = some (H ++ [Blk.cells 0 [x]] ++ [B]) := fun x B hx => by
        rw [List.append_assoc, List.singleton_append, hput_new rfl (Nat.le_refl _) (by simp) (by simp [hx])]
        simp [splice]
      have hgr : ∀ (x : AV) (B : Blk), hget (H ++ [Blk.cells 0 [x]] ++ [B]) H.length 0 = some [x] := fun x B => by
        rw [List.append_assoc, List.singleton_append, hget_new rfl]; rfl
      have p1 := hputN .nilS (Blk.cells 0 (cellsOf encP s)) rfl
      have p2 := hputN (.bs ⟨(H ++ [Blk.cells 0 [.nilS]]).length, 0, 0, l.length, 0, 2, true, false⟩) (Blk.cells 0 (cellsOf encP s)) rfl
      have e0 : ∀ a b, aStr .eql a b = some (.bool (a == b)) := fun _ _ => rfl
      refine ⟨if dupP s then .nilS else .vs (s.map encP) false, by cases dupP s; exact .vs _ _; exact .nil, ?_⟩
      refine pure_slim rfl (by kernel_rfl) Try.func18 s18 hp hsnap (by simp [Try.f18]) fun fr hlen h => ?_
      simp only [Has, Nat.zero_add] at h
      obtain ⟨a0, -⟩ := h
      simp only [Try.f18] at hlen ⊢
      unfold g18
      simp only [wk0, wk1, wk2, wk3, wk4, wk5, wk6, aWanted, aYield, Region.wanted, aOp, quiet, loud, aEvals, aParts, aOpt, aBuiltin, rd, win, AV.cells, AV.leaf, aNew, splice, fillA, Nat.reduceEqDiff, Nat.reduceLT, Nat.reduceAdd, Nat.reduceLeDiff, reduceCtorEq, Nat.reduceMul, cfgP, u18, hlen, a0, n1, n2, n3]
      refine loop_rule (fun m fr H' => ∃ (i : Nat), m = l.length - i ∧ 1 ≤ i ∧ i ≤ l.length ∧ fr.length = 34 ∧ fget fr 2 = .ptr H.length 0 0 ∧ fget fr 4 = .bs ⟨(H ++ [Blk.cells 0 [.nilS]]).length, 0, 0, l.length, 0, 2, true, false⟩ ∧ fget fr 5 = .int .i64 i
        ∧ H' = H ++ [Blk.cells 0 [.nilS]] ++ [Blk.cells 0 (cellsOf encP s)] ∧ dupP s = dupP (s.drop (i - 1))) ?_ (l.length - 1) _ _ ⟨1, by simp [wk0, wk1, wk2, wk3, wk4, wk5, wk6, aWanted, aYield, Region.wanted, aOp, quiet, loud, aEvals, aParts, aOpt, aBuiltin, rd, win, AV.cells, AV.leaf, aNew, splice, fillA, Nat.reduceEqDiff, Nat.reduceLT, Nat.reduceAdd, Nat.reduceLeDiff, reduceCtorEq, Nat.reduceMul, cfgP, u18, hlen, a0]; omega⟩
      rintro m fr H' ⟨i, rfl, h1i, hi, hlen, a2, a4, a5, hHe, hc⟩ ih
      subst hHe
      simp only [wk0, wk1, wk2, wk3, wk4, wk5, wk6, aWanted, aYield, Region.wanted, aOp, quiet, loud, aEvals, aParts, aOpt, aBuiltin, rd, win, AV.cells, AV.leaf, aNew, splice, fillA, Nat.reduceEqDiff, Nat.reduceLT, Nat.reduceAdd, Nat.reduceLeDiff, reduceCtorEq, Nat.reduceMul, cfgP, u18, hlen, a2, a4, a5, hlen']
      refine RC_split (fun h => ?_) (fun h => ?_)
      · have hlt : i < l.length := by simpa using h
        have his : i < s.length := by omega
        have his1 : i - 1 < s.length := by omega
        have hww : IntKind.i64.wrap ((i : Int) + 1) = ((i + 1 : Nat) : Int) := by rw [wrap64 (by omega) (by omega)]; simp
        have w1 : IntKind.i64.wrap ((i : Int) - 1) = ((i - 1 : Nat) : Int) := by rw [wrap64 (by omega) (by omega)]; omega
        have ex := cellsOf_at encP_T s i his 0 (by decide)
        have ey := cellsOf_at encP_T s (i - 1) his1 0 (by decide)
        have i1 := hix i hlt
        have i2 := hix (i - 1) (by omega)
        have hd : s.drop (i - 1) = s[i - 1] :: s[i] :: s.drop (i + 1) := by
          rw [List.drop_eq_getElem_cons his1]
          have : i - 1 + 1 = i := by omega
          rw [this, List.drop_eq_getElem_cons his]
        have hd2 : s.drop (i + 1 - 1) = s[i] :: s.drop (i + 1) := by
          have : i + 1 - 1 = i := by omega
          rw [this, List.drop_eq_getElem_cons his]
        rw [hd, dupP] at hc
        rw [← hd2] at hc
        simp only [encP, AV.cells, List.getElem?_cons_zero, Nat.add_zero] at ex ey
        generalize s[i] = y at *
        generalize s[i - 1] = x at *
        cases hq : y.name == x.name with
        | true =>
          rw [hq, Bool.true_or] at hc
          rw [hc]
          simp only [if_true]
          simp only [wk0, wk1, wk2, wk3, wk4, wk5, wk6, aWanted, aYield, Region.wanted, aOp, quiet, loud, aEvals, aParts, aOpt, aBuiltin, rd, win, AV.cells, AV.leaf, aNew, splice, fillA, Nat.reduceEqDiff, Nat.reduceLT, Nat.reduceAdd, Nat.reduceLeDiff, reduceCtorEq, Nat.reduceMul, cfgP, u18, hlen, a2, a4, a5, i1, i2, w1, ex, ey, e0, hq, p1]
          exact Fin_pure (l := [.agg [.nilS], .int .i64 10]) (by simp only [wk0, wk1, wk2, wk3, wk4, wk5, wk6, aWanted, aYield, Region.wanted, aOp, quiet, loud, aEvals, aParts, aOpt, aBuiltin, rd, win, AV.cells, AV.leaf, aNew, splice, fillA, Nat.reduceEqDiff, Nat.reduceLT, Nat.reduceAdd, Nat.reduceLeDiff, reduceCtorEq, Nat.reduceMul, cfgP, u18, hlen, a2, hgr, aResults, aResult]) (hfz _ _) (by simp)
        | false =>
          rw [hq, Bool.false_or] at hc
          simp only [wk0, wk1, wk2, wk3, wk4, wk5, wk6, aWanted, aYield, Region.wanted, aOp, quiet, loud, aEvals, aParts, aOpt, aBuiltin, rd, win, AV.cells, AV.leaf, aNew, splice, fillA, Nat.reduceEqDiff, Nat.reduceLT, Nat.reduceAdd, Nat.reduceLeDiff, reduceCtorEq, Nat.reduceMul, cfgP, u18, hlen, a2, a4, a5, i1, i2, w1, ex, ey, e0, hq, hww]
          refine ih _ _ (l.length - (i + 1)) (by omega) ⟨i + 1, rfl, by omega, by omega, ?_⟩
          simp [wk0, wk1, wk2, wk3, wk4, wk5, wk6, aWanted, aYield, Region.wanted, aOp, quiet, loud, aEvals, aParts, aOpt, aBuiltin, rd, win, AV.cells, AV.leaf, aNew, splice, fillA, Nat.reduceEqDiff, Nat.reduceLT, Nat.reduceAdd, Nat.reduceLeDiff, reduceCtorEq, Nat.reduceMul, cfgP, u18, hlen, a2, a4]
          exact hc
      · have hnl : ¬ i < l.length := by simpa using h
        have hd : s.drop (i - 1) = [s[i - 1]] := by
          rw [List.drop_eq_getElem_cons (by omega)]
          have : s.drop (i - 1 + 1) = [] := by rw [List.drop_eq_nil_iff]; omega
          rw [this]
        rw [hd] at hc
        have hc : dupP s = false := hc
        rw [hc]
        simp only [Bool.false_eq_true, if_false]
        simp only [wk0, wk1, wk2, wk3, wk4, wk5, wk6, aWanted, aYield, Region.wanted, aOp, quiet, loud, aEvals, aParts, aOpt, aBuiltin, rd, win, AV.cells, AV.leaf, aNew, splice, fillA, Nat.reduceEqDiff, Nat.reduceLT, Nat.reduceAdd, Nat.reduceLeDiff, reduceCtorEq, Nat.reduceMul, cfgP, u18, hlen, a2, a4, a5, p2]
        have hr : Row encP 2 true H.length (H ++ [Blk.cells 0 [.bs ⟨(H ++ [Blk.cells 0 [.nilS]]).length, 0, 0, l.length, 0, 2, true, false⟩]] ++ [Blk.cells 0 (cellsOf encP s)]) (.bs ⟨(H ++ [Blk.cells 0 [.nilS]]).length, 0, 0, l.length, 0, 2, true, false⟩) s :=
          .inr ⟨_, 0, by rw [hsl], by simp, by rw [hget_new (by simp)]; rfl, rfl⟩
        have hsz : s ≠ [] := by intro h0; rw [h0] at hsl; simp at hsl; omega
        have hf := hr.frozen encP_T (by decide) rfl (.inr hsz)
        have es : slv encP s = .vs (s.map encP) false := by cases s with | nil => exact absurd rfl hsz | cons y r => rfl
        rw [es] at hf
        exact Fin_pure (l := [.agg [.bs ⟨(H ++ [Blk.cells 0 [.nilS]]).length, 0, 0, l.length, 0, 2, true, false⟩], .int .i64 0]) (by simp only [wk0, wk1, wk2, wk3, wk4, wk5, wk6, aWanted, aYield, Region.wanted, aOp, quiet, loud, aEvals, aParts, aOpt, aBuiltin, rd, win, AV.cells, AV.leaf, aNew, splice, fillA, Nat.reduceEqDiff, Nat.reduceLT, Nat.reduceAdd, Nat.reduceLeDiff, reduceCtorEq, Nat.reduceMul, cfgP, u18, hlen, a2, hgr, aResults, aResult]) (.tup (.cons (.agg (.cons hf .nil)) (.cons (.still rfl) .nil))) (by simp)
end Go.Proofs.Ytjhgmoaabflbfaa
