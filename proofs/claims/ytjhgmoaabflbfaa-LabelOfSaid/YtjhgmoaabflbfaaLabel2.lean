import Derived.Test.YtjhgmoaabflbfaaLabel
/-! Chapter 14: pairs sorted, walked. -/
set_option linter.unusedSimpArgs false
namespace Go.Proofs.Ytjhgmoaabflbfaa
open Go Go.Abs AbsSeat Ty


theorem pclone_some (m : List Pr) (v : AV) (hm : m ≠ []) (hl : m.length < 1000000) (prot : Nat) (H : Heap) (hx : elemCells H 2 v = some (m.length, cellsOf encP m)) (hk : (∃ es f, v = .vs es f) ∨ ∃ s, v = .bs s) :
    aLim cfg prot 44 [v] H = some (.bs ⟨H.length, 0, 0, m.length, 0, 2, true, false⟩, some (H ++ [Blk.cells 0 (cellsOf encP m)])) := by
  refine raw_slim rfl (by kernel_rfl) (by kernel_rfl) (by kernel_rfl) Try.func44 s44 (by simp [Try.f44]) fun fr hlen h => ?_
  simp only [Has, Nat.zero_add] at h
  obtain ⟨a0, -⟩ := h
  simp only [Try.f44] at hlen ⊢
  unfold g44
  have hpos : 0 < m.length := List.length_pos_iff.2 hm
  have ha := app_full (P := Try.prog) (prot := prot) (H := H) (enc := encP) rowPr hxtPr encP_T [] hx hpos (by simp [roomy]; omega)
  simp only [List.map_nil, List.nil_append] at ha
  rcases hk with ⟨es, f, rfl⟩ | ⟨s, rfl⟩
  · simp only [wk0, wk1, wk2, wk3, wk4, wk5, wk6, aWanted, aYield, Region.wanted, aOp, quiet, loud, aEvals, aParts, aOpt, aBuiltin, rd, win, AV.cells, AV.leaf, aNew, splice, fillA, Nat.reduceEqDiff, Nat.reduceLT, Nat.reduceAdd, Nat.reduceLeDiff, reduceCtorEq, Nat.reduceMul, cfgP, u44, hlen, a0, litPr0, ha]
    exact Fin_raw (l := [.bs ⟨H.length, 0, 0, m.length, 0, 2, true, false⟩]) (by simp [wk0, wk1, wk2, wk3, wk4, wk5, wk6, aWanted, aYield, Region.wanted, aOp, quiet, loud, aEvals, aParts, aOpt, aBuiltin, rd, win, AV.cells, AV.leaf, aNew, splice, fillA, Nat.reduceEqDiff, Nat.reduceLT, Nat.reduceAdd, Nat.reduceLeDiff, reduceCtorEq, Nat.reduceMul, cfgP, u44, hlen, aResults, aResult])
  · simp only [wk0, wk1, wk2, wk3, wk4, wk5, wk6, aWanted, aYield, Region.wanted, aOp, quiet, loud, aEvals, aParts, aOpt, aBuiltin, rd, win, AV.cells, AV.leaf, aNew, splice, fillA, Nat.reduceEqDiff, Nat.reduceLT, Nat.reduceAdd, Nat.reduceLeDiff, reduceCtorEq, Nat.reduceMul, cfgP, u44, hlen, a0, litPr0, ha]
    exact Fin_raw (l := [.bs ⟨H.length, 0, 0, m.length, 0, 2, true, false⟩]) (by simp [wk0, wk1, wk2, wk3, wk4, wk5, wk6, aWanted, aYield, Region.wanted, aOp, quiet, loud, aEvals, aParts, aOpt, aBuiltin, rd, win, AV.cells, AV.leaf, aNew, splice, fillA, Nat.reduceEqDiff, Nat.reduceLT, Nat.reduceAdd, Nat.reduceLeDiff, reduceCtorEq, Nat.reduceMul, cfgP, u44, hlen, aResults, aResult])
theorem pclone_none (v : AV) (prot : Nat) (H : Heap) (hx : elemCells H 2 v = some (0, [])) (hk : v = .nilS ∨ (∃ es f, v = .vs es f) ∨ ∃ s, v = .bs s) :
    ∃ o, (o = .nilS ∨ o = .vs [] true) ∧ aLim cfg prot 44 [v] H = some (o, some H) := by
  have ha := app_zero (P := Try.prog) (prot := prot) (H := H) rowPr hxtPr (s := .vs [] true) (.inr (.inl ⟨_, _, rfl⟩)) hx
  rcases hk with rfl | ⟨es, f, rfl⟩ | ⟨s, rfl⟩
  · refine ⟨.nilS, .inl rfl, ?_⟩
    refine raw_slim rfl (by kernel_rfl) (by kernel_rfl) (by kernel_rfl) Try.func44 s44 (by simp [Try.f44]) fun fr hlen h => ?_
    simp only [Has, Nat.zero_add] at h
    obtain ⟨a0, -⟩ := h
    simp only [Try.f44] at hlen ⊢
    unfold g44
    simp only [wk0, wk1, wk2, wk3, wk4, wk5, wk6, aWanted, aYield, Region.wanted, aOp, quiet, loud, aEvals, aParts, aOpt, aBuiltin, rd, win, AV.cells, AV.leaf, aNew, splice, fillA, Nat.reduceEqDiff, Nat.reduceLT, Nat.reduceAdd, Nat.reduceLeDiff, reduceCtorEq, Nat.reduceMul, cfgP, u44, hlen, a0, litPr0, ha]
    exact Fin_raw (l := [.nilS]) (by simp [wk0, wk1, wk2, wk3, wk4, wk5, wk6, aWanted, aYield, Region.wanted, aOp, quiet, loud, aEvals, aParts, aOpt, aBuiltin, rd, win, AV.cells, AV.leaf, aNew, splice, fillA, Nat.reduceEqDiff, Nat.reduceLT, Nat.reduceAdd, Nat.reduceLeDiff, reduceCtorEq, Nat.reduceMul, cfgP, u44, hlen, aResults, aResult])
  · refine ⟨.vs [] true, .inr rfl, ?_⟩
    refine raw_slim rfl (by kernel_rfl) (by kernel_rfl) (by kernel_rfl) Try.func44 s44 (by simp [Try.f44]) fun fr hlen h => ?_
    simp only [Has, Nat.zero_add] at h
    obtain ⟨a0, -⟩ := h
    simp only [Try.f44] at hlen ⊢
    unfold g44
    simp only [wk0, wk1, wk2, wk3, wk4, wk5, wk6, aWanted, aYield, Region.wanted, aOp, quiet, loud, aEvals, aParts, aOpt, aBuiltin, rd, win, AV.cells, AV.leaf, aNew, splice, fillA, Nat.reduceEqDiff, Nat.reduceLT, Nat.reduceAdd, Nat.reduceLeDiff, reduceCtorEq, Nat.reduceMul, cfgP, u44, hlen, a0, litPr0, ha]
    exact Fin_raw (l := [.vs [] true]) (by simp [wk0, wk1, wk2, wk3, wk4, wk5, wk6, aWanted, aYield, Region.wanted, aOp, quiet, loud, aEvals, aParts, aOpt, aBuiltin, rd, win, AV.cells, AV.leaf, aNew, splice, fillA, Nat.reduceEqDiff, Nat.reduceLT, Nat.reduceAdd, Nat.reduceLeDiff, reduceCtorEq, Nat.reduceMul, cfgP, u44, hlen, aResults, aResult])
  · refine ⟨.vs [] true, .inr rfl, ?_⟩
    refine raw_slim rfl (by kernel_rfl) (by kernel_rfl) (by kernel_rfl) Try.func44 s44 (by simp [Try.f44]) fun fr hlen h => ?_
    simp only [Has, Nat.zero_add] at h
    obtain ⟨a0, -⟩ := h
    simp only [Try.f44] at hlen ⊢
    unfold g44
    simp only [wk0, wk1, wk2, wk3, wk4, wk5, wk6, aWanted, aYield, Region.wanted, aOp, quiet, loud, aEvals, aParts, aOpt, aBuiltin, rd, win, AV.cells, AV.leaf, aNew, splice, fillA, Nat.reduceEqDiff, Nat.reduceLT, Nat.reduceAdd, Nat.reduceLeDiff, reduceCtorEq, Nat.reduceMul, cfgP, u44, hlen, a0, litPr0, ha]
    exact Fin_raw (l := [.vs [] true]) (by simp [wk0, wk1, wk2, wk3, wk4, wk5, wk6, aWanted, aYield, Region.wanted, aOp, quiet, loud, aEvals, aParts, aOpt, aBuiltin, rd, win, AV.cells, AV.leaf, aNew, splice, fillA, Nat.reduceEqDiff, Nat.reduceLT, Nat.reduceAdd, Nat.reduceLeDiff, reduceCtorEq, Nat.reduceMul, cfgP, u44, hlen, aResults, aResult])


theorem nanS_ok (a : List UInt8) (prot : Nat) (H : Heap) (hp : prot ≤ H.length) : aLim cfg prot 67 [.str a] H = some (.bool false, none) := by
  have hsnap : snap H [.str a] = some ([.str a], false) := rfl
  have e0 : aStr .neq a a = some (.bool false) := by simp [aStr]
  refine pure_slim rfl (by kernel_rfl) Try.func67 s67 hp hsnap (by simp [Try.f67]) fun fr hlen h => ?_
  simp only [Has, Nat.zero_add] at h
  obtain ⟨a0, -⟩ := h
  simp only [Try.f67] at hlen ⊢
  unfold g67
  simp only [wk0, wk1, wk2, wk3, wk4, wk5, wk6, aWanted, aYield, Region.wanted, aOp, quiet, loud, aEvals, aParts, aOpt, aBuiltin, rd, win, AV.cells, AV.leaf, aNew, splice, fillA, Nat.reduceEqDiff, Nat.reduceLT, Nat.reduceAdd, Nat.reduceLeDiff, reduceCtorEq, Nat.reduceMul, cfgP, u67, hlen, a0, e0]
  exact Fin_pure (l := [.bool false]) (by simp [wk0, wk1, wk2, wk3, wk4, wk5, wk6, aWanted, aYield, Region.wanted, aOp, quiet, loud, aEvals, aParts, aOpt, aBuiltin, rd, win, AV.cells, AV.leaf, aNew, splice, fillA, Nat.reduceEqDiff, Nat.reduceLT, Nat.reduceAdd, Nat.reduceLeDiff, reduceCtorEq, Nat.reduceMul, cfgP, u67, aResults, aResult, hlen]) (.still rfl) (by simp)
def cmpS (a b : List UInt8) : Int := if Op.bytesLess a b then -1 else if !(Op.bytesLess a b || a == b) then 1 else 0

theorem cmpS_ok (a b : List UInt8) (prot : Nat) (H : Heap) (hp : prot ≤ H.length) : aLim cfg prot 47 [.str a, .str b] H = some (.int .i64 (cmpS a b), none) := by
  have hsnap : snap H [.str a, .str b] = some ([.str a, .str b], false) := rfl
  have n1 := nanS_ok a H.length H (Nat.le_refl _)
  have n2 := nanS_ok b H.length H (Nat.le_refl _)
  have e1 : aStr .lss a b = some (.bool (Op.bytesLess a b)) := rfl
  have e2 : aStr .gtr a b = some (.bool (!(Op.bytesLess a b || a == b))) := rfl
  refine pure_slim rfl (by kernel_rfl) Try.func47 s47 hp hsnap (by simp [Try.f47]) fun fr hlen h => ?_
  simp only [Has, Nat.zero_add] at h
  obtain ⟨a0, a1, -⟩ := h
  simp only [Try.f47] at hlen ⊢
  unfold g47
  cases h1 : Op.bytesLess a b with
  | true =>
    rw [h1] at e1
    simp only [wk0, wk1, wk2, wk3, wk4, wk5, wk6, aWanted, aYield, Region.wanted, aOp, quiet, loud, aEvals, aParts, aOpt, aBuiltin, rd, win, AV.cells, AV.leaf, aNew, splice, fillA, Nat.reduceEqDiff, Nat.reduceLT, Nat.reduceAdd, Nat.reduceLeDiff, reduceCtorEq, Nat.reduceMul, cfgP, u47, hlen, a0, a1, n1, n2, e1]
    simp only [cmpS, h1, if_true]
    exact Fin_pure (l := [.int .i64 (-1)]) (by simp [wk0, wk1, wk2, wk3, wk4, wk5, wk6, aWanted, aYield, Region.wanted, aOp, quiet, loud, aEvals, aParts, aOpt, aBuiltin, rd, win, AV.cells, AV.leaf, aNew, splice, fillA, Nat.reduceEqDiff, Nat.reduceLT, Nat.reduceAdd, Nat.reduceLeDiff, reduceCtorEq, Nat.reduceMul, cfgP, u47, aResults, aResult, hlen]) (.still rfl) (by simp)
  | false =>
    rw [h1] at e1
    cases h2 : !(Op.bytesLess a b || a == b) with
    | true =>
      rw [h2] at e2
      simp only [wk0, wk1, wk2, wk3, wk4, wk5, wk6, aWanted, aYield, Region.wanted, aOp, quiet, loud, aEvals, aParts, aOpt, aBuiltin, rd, win, AV.cells, AV.leaf, aNew, splice, fillA, Nat.reduceEqDiff, Nat.reduceLT, Nat.reduceAdd, Nat.reduceLeDiff, reduceCtorEq, Nat.reduceMul, cfgP, u47, hlen, a0, a1, n1, n2, e1, e2]
      simp only [cmpS, h1, h2, if_true, Bool.false_eq_true, if_false]
      simp only [h1] at h2
      simp only [h2, if_true]
      exact Fin_pure (l := [.int .i64 1]) (by simp [wk0, wk1, wk2, wk3, wk4, wk5, wk6, aWanted, aYield, Region.wanted, aOp, quiet, loud, aEvals, aParts, aOpt, aBuiltin, rd, win, AV.cells, AV.leaf, aNew, splice, fillA, Nat.reduceEqDiff, Nat.reduceLT, Nat.reduceAdd, Nat.reduceLeDiff, reduceCtorEq, Nat.reduceMul, cfgP, u47, aResults, aResult, hlen]) (.still rfl) (by simp)
    | false =>
      rw [h2] at e2
      simp only [wk0, wk1, wk2, wk3, wk4, wk5, wk6, aWanted, aYield, Region.wanted, aOp, quiet, loud, aEvals, aParts, aOpt, aBuiltin, rd, win, AV.cells, AV.leaf, aNew, splice, fillA, Nat.reduceEqDiff, Nat.reduceLT, Nat.reduceAdd, Nat.reduceLeDiff, reduceCtorEq, Nat.reduceMul, cfgP, u47, hlen, a0, a1, n1, n2, e1, e2]
      simp only [cmpS, h1, h2, Bool.false_eq_true, if_false]
      simp only [h1] at h2
      simp only [h2, Bool.false_eq_true, if_false]
      exact Fin_pure (l := [.int .i64 0]) (by simp [wk0, wk1, wk2, wk3, wk4, wk5, wk6, aWanted, aYield, Region.wanted, aOp, quiet, loud, aEvals, aParts, aOpt, aBuiltin, rd, win, AV.cells, AV.leaf, aNew, splice, fillA, Nat.reduceEqDiff, Nat.reduceLT, Nat.reduceAdd, Nat.reduceLeDiff, reduceCtorEq, Nat.reduceMul, cfgP, u47, aResults, aResult, hlen]) (.still rfl) (by simp)

theorem of2_ok (x y : Pr) (prot : Nat) (H : Heap) (hp : prot ≤ H.length) : aLim cfg prot 46 [encP x, encP y] H = some (.int .i64 (cmpS x.name y.name), none) := by
  have hsnap : snap H [encP x, encP y] = some ([encP x, encP y], false) := rfl
  have n1 := fun (K : Heap) (hK : H.length ≤ K.length) => cmpS_ok x.name y.name H.length K hK
  have lt1 : ∀ (a : Blk), H.length < (H ++ [a]).length := fun a => by simp
  have le2 : ∀ (a b : Blk), H.length ≤ (H ++ [a] ++ [b]).length := fun a b => by simp
  refine pure_slim rfl (by kernel_rfl) Try.func46 s46 hp hsnap (by simp [Try.f46]) fun fr hlen h => ?_
  simp only [Has, Nat.zero_add] at h
  obtain ⟨a0, a1, -⟩ := h
  simp only [Try.f46] at hlen ⊢
  unfold g46
  simp only [wk0, wk1, wk2, wk3, wk4, wk5, wk6, aWanted, aYield, Region.wanted, aOp, quiet, loud, aEvals, aParts, aOpt, aBuiltin, rd, win, AV.cells, AV.leaf, aNew, splice, fillA, Nat.reduceEqDiff, Nat.reduceLT, Nat.reduceAdd, Nat.reduceLeDiff, reduceCtorEq, Nat.reduceMul, cfgP, u46, hlen, a0, a1, encP, n1, lt1, le2]
  exact Fin_pure (l := [.int .i64 (cmpS x.name y.name)]) (by simp [wk0, wk1, wk2, wk3, wk4, wk5, wk6, aWanted, aYield, Region.wanted, aOp, quiet, loud, aEvals, aParts, aOpt, aBuiltin, rd, win, AV.cells, AV.leaf, aNew, splice, fillA, Nat.reduceEqDiff, Nat.reduceLT, Nat.reduceAdd, Nat.reduceLeDiff, reduceCtorEq, Nat.reduceMul, cfgP, u46, aResults, aResult, hlen]) (.still rfl) (by simp)

def lessP (x y : Pr) : Bool := decide (cmpS x.name y.name < 0)
instance : Inhabited Pr := ⟨⟨[], []⟩⟩
/-- two neighbours changed places. -/
def swapP (l : List Pr) (j : Nat) : List Pr := (l.set j (l.getD (j - 1) default)).set (j - 1) (l.getD j default)
theorem swapP_len (l : List Pr) (j : Nat) : (swapP l j).length = l.length := by simp [swapP]
def insGo (l : List Pr) : Nat → List Pr
  | 0 => l
  | j + 1 => if lessP (l.getD (j + 1) default) (l.getD j default) then insGo (swapP l (j + 1)) j else l
theorem insGo_len : ∀ (j : Nat) (l : List Pr), (insGo l j).length = l.length
  | 0, _ => rfl
  | j + 1, l => by
    rw [insGo]
    split
    · rw [insGo_len j, swapP_len]
    · rfl
def outGo : Nat → List Pr → Nat → List Pr
  | 0, l, _ => l
  | k + 1, l, i => outGo k (insGo l i) (i + 1)


theorem isort_ok (l : List Pr) (b : Nat) (hl : l.length < 1000000) (prot : Nat) (H : Heap) (hp : prot ≤ H.length) (hb : prot ≤ b) (hg : hget H b 0 = some (cellsOf encP l)) :
    aLim cfg prot 77 [.bs ⟨b, 0, 0, l.length, 0, 2, true, false⟩, .int .i64 0, .int .i64 l.length, .func 46 [] []] H = some (.tup [], some (H.set b (.cells 0 (cellsOf encP (outGo (l.length - 1) l 1))))) := by
  have hblt := hget_lt hg
  have hself : H = H.set b (.cells 0 (cellsOf encP l)) := by
    refine (List.ext_getElem? fun k => ?_)
    by_cases hk : k = b
    · subst hk; rw [List.getElem?_set_self hblt]; exact alive_of_hget hg
    · rw [List.getElem?_set_ne (Ne.symm hk)]
  have hn : ∀ (k : Nat), k + 1 ≤ l.length → IntKind.i64.wrap (((k : Nat) : Int) + 1) = ((k + 1 : Nat) : Int) := fun k hk => by rw [wrap64 (by omega) (by omega)]; simp
  have hn0 : IntKind.i64.wrap ((0 : Int) + 1) = 1 := by decide
  have hgs : ∀ (C : List AV), hget (H.set b (.cells 0 C)) b 0 = some C := fun C => by rw [hget_set_same hblt]; rfl
  have hix : ∀ (j : Nat), j < l.length → aIndexAddr Try.prog 25 (.bs ⟨b, 0, 0, l.length, 0, 2, true, false⟩) (.int .i64 j) = some (.ptr b 0 (j * 2)) := fun j hj => by
    simp [aIndexAddr, asNat, Try.underlying25, sz59, hj]
  have hlenS : ∀ (C : List AV), prot ≤ (H.set b (.cells 0 C)).length := fun C => by simpa using hp
  refine raw_slim rfl (by kernel_rfl) (by kernel_rfl) (by kernel_rfl) Try.func77 s77 (by simp [Try.f77]) fun fr hlen h => ?_
  simp only [Has, Nat.zero_add] at h
  obtain ⟨a0, a1, a2, a3, -⟩ := h
  simp only [Try.f77] at hlen ⊢
  unfold g77
  simp only [wk0, wk1, wk2, wk3, wk4, wk5, wk6, aWanted, aYield, Region.wanted, aOp, quiet, loud, aEvals, aParts, aOpt, aBuiltin, rd, win, AV.cells, AV.leaf, aNew, splice, fillA, Nat.reduceEqDiff, Nat.reduceLT, Nat.reduceAdd, Nat.reduceLeDiff, reduceCtorEq, Nat.reduceMul, cfgP, u77, hlen, a0, a1, a2, a3, hn0]
  refine loop_rule (fun m fr H' => ∃ (i : Nat) (l' : List Pr), m = l.length - i ∧ 1 ≤ i ∧ (i ≤ l.length ∨ i = 1) ∧ fr.length = 53 ∧ fget fr 0 = .bs ⟨b, 0, 0, l.length, 0, 2, true, false⟩ ∧ fget fr 1 = .int .i64 0 ∧ fget fr 2 = .int .i64 l.length ∧ fget fr 3 = .func 46 [] [] ∧ fget fr 8 = .int .i64 i
    ∧ H' = H.set b (.cells 0 (cellsOf encP l')) ∧ l'.length = l.length ∧ outGo (l.length - 1) l 1 = outGo (l.length - i) l' i) ?_ (l.length - 1) _ _ ⟨1, l, by simp [wk0, wk1, wk2, wk3, wk4, wk5, wk6, aWanted, aYield, Region.wanted, aOp, quiet, loud, aEvals, aParts, aOpt, aBuiltin, rd, win, AV.cells, AV.leaf, aNew, splice, fillA, Nat.reduceEqDiff, Nat.reduceLT, Nat.reduceAdd, Nat.reduceLeDiff, reduceCtorEq, Nat.reduceMul, cfgP, u77, hlen, a0, a1, a2, a3]; exact hself⟩
  rintro m fr H' ⟨i, l1, rfl, h1i, hi, hlen, a0, a1, a2, a3, a8, hHe, hl1, hc⟩ ih
  subst hHe
  simp only [wk0, wk1, wk2, wk3, wk4, wk5, wk6, aWanted, aYield, Region.wanted, aOp, quiet, loud, aEvals, aParts, aOpt, aBuiltin, rd, win, AV.cells, AV.leaf, aNew, splice, fillA, Nat.reduceEqDiff, Nat.reduceLT, Nat.reduceAdd, Nat.reduceLeDiff, reduceCtorEq, Nat.reduceMul, cfgP, u77, hlen, a0, a1, a2, a3, a8]
  refine RC_split (fun h => ?_) (fun h => ?_)
  · have hlt : i < l.length := by simpa using h
    have hw := hn i (by omega)
    simp only [wk0, wk1, wk2, wk3, wk4, wk5, wk6, aWanted, aYield, Region.wanted, aOp, quiet, loud, aEvals, aParts, aOpt, aBuiltin, rd, win, AV.cells, AV.leaf, aNew, splice, fillA, Nat.reduceEqDiff, Nat.reduceLT, Nat.reduceAdd, Nat.reduceLeDiff, reduceCtorEq, Nat.reduceMul, cfgP, u77, hlen, a0, a1, a2, a3, a8]
    refine loop_rule (fun m fr H' => ∃ (j : Nat) (l2 : List Pr), m = j ∧ j ≤ i ∧ fr.length = 53 ∧ fget fr 0 = .bs ⟨b, 0, 0, l.length, 0, 2, true, false⟩ ∧ fget fr 1 = .int .i64 0 ∧ fget fr 2 = .int .i64 l.length ∧ fget fr 3 = .func 46 [] [] ∧ fget fr 8 = .int .i64 i ∧ fget fr 9 = .int .i64 j
      ∧ H' = H.set b (.cells 0 (cellsOf encP l2)) ∧ l2.length = l.length ∧ insGo l1 i = insGo l2 j) ?_ i _ _ ⟨i, l1, by simp [wk0, wk1, wk2, wk3, wk4, wk5, wk6, aWanted, aYield, Region.wanted, aOp, quiet, loud, aEvals, aParts, aOpt, aBuiltin, rd, win, AV.cells, AV.leaf, aNew, splice, fillA, Nat.reduceEqDiff, Nat.reduceLT, Nat.reduceAdd, Nat.reduceLeDiff, reduceCtorEq, Nat.reduceMul, cfgP, u77, hlen, a0, a1, a2, a3, a8, hl1]⟩
    rintro m fr H' ⟨j, l2, rfl, hji, hlen, a0, a1, a2, a3, a8, a9, hHe, hl2, hci⟩ ih2
    subst hHe
    cases m with
    | zero =>
      have e0 : insGo l1 i = l2 := hci
      simp only [wk0, wk1, wk2, wk3, wk4, wk5, wk6, aWanted, aYield, Region.wanted, aOp, quiet, loud, aEvals, aParts, aOpt, aBuiltin, rd, win, AV.cells, AV.leaf, aNew, splice, fillA, Nat.reduceEqDiff, Nat.reduceLT, Nat.reduceAdd, Nat.reduceLeDiff, reduceCtorEq, Nat.reduceMul, cfgP, u77, hlen, a0, a1, a2, a3, a8, a9, Int.lt_irrefl, none_beq, Int.ofNat_zero, hw]
      refine ih _ _ (l.length - (i + 1)) (by omega) ⟨i + 1, l2, rfl, by omega, .inl hlt, ?_⟩
      rw [hc, show l.length - i = (l.length - (i + 1)) + 1 by omega, outGo, e0]
      simp [wk0, wk1, wk2, wk3, wk4, wk5, wk6, aWanted, aYield, Region.wanted, aOp, quiet, loud, aEvals, aParts, aOpt, aBuiltin, rd, win, AV.cells, AV.leaf, aNew, splice, fillA, Nat.reduceEqDiff, Nat.reduceLT, Nat.reduceAdd, Nat.reduceLeDiff, reduceCtorEq, Nat.reduceMul, cfgP, u77, hlen, a0, a1, a2, a3, hl2]
    | succ j =>
      have hJ : j + 1 < l2.length := by omega
      have hj : j < l2.length := by omega
      have hzi : ((0 : Int) < ((j + 1 : Nat) : Int)) := by omega
      have w1 : IntKind.i64.wrap (((j + 1 : Nat) : Int) - 1) = ((j : Nat) : Int) := by rw [wrap64 (by omega) (by omega)]; omega
      have ex := cellsOf_win encP_T l2 (j + 1) hJ
      have ey := cellsOf_win encP_T l2 j hj
      have gx : l2.getD (j + 1) default = l2[j + 1] := by simp [List.getD, hJ]
      have gy : l2.getD j default = l2[j] := by simp [List.getD, hj]
      have i1 := hix (j + 1) (by omega)
      have i2 := hix j (by omega)
      have hsw : swapP l2 (j + 1) = (l2.set (j + 1) l2[j]).set j l2[j + 1] := by
        unfold swapP
        rw [Nat.add_sub_cancel, gx, gy]
      rw [insGo, gx, gy, hsw] at hci
      generalize l2[j + 1] = x at *
      generalize l2[j] = y at *
      have p1 := row_put encP_T (hgs (cellsOf encP l2)) hJ hb y
      have p2 := row_put (l := l2.set (j + 1) y) encP_T (hgs (cellsOf encP (l2.set (j + 1) y))) (i := j) (by simp; omega) hb x
      rw [List.set_set] at p1 p2
      have n1 := of2_ok x y prot (H.set b (.cells 0 (cellsOf encP l2))) (hlenS _)
      have hgl := hgs (cellsOf encP l2)
      simp only [encP, AV.cells, win] at ex ey p1 p2 n1
      unfold lessP at hci
      by_cases hless : cmpS x.name y.name < 0
      · rw [if_pos (by simpa using hless)] at hci
        simp only [wk0, wk1, wk2, wk3, wk4, wk5, wk6, aWanted, aYield, Region.wanted, aOp, quiet, loud, aEvals, aParts, aOpt, aBuiltin, rd, win, AV.cells, AV.leaf, aNew, splice, fillA, Nat.reduceEqDiff, Nat.reduceLT, Nat.reduceAdd, Nat.reduceLeDiff, reduceCtorEq, Nat.reduceMul, cfgP, u77, hlen, a0, a1, a2, a3, a8, a9, hzi, w1, i1, i2, hgl, ex, ey, n1, hless, p1, p2]
        refine ih2 _ _ j (by omega) ⟨j, (l2.set (j + 1) y).set j x, rfl, by omega, ?_⟩
        simp [wk0, wk1, wk2, wk3, wk4, wk5, wk6, aWanted, aYield, Region.wanted, aOp, quiet, loud, aEvals, aParts, aOpt, aBuiltin, rd, win, AV.cells, AV.leaf, aNew, splice, fillA, Nat.reduceEqDiff, Nat.reduceLT, Nat.reduceAdd, Nat.reduceLeDiff, reduceCtorEq, Nat.reduceMul, cfgP, u77, hlen, a0, a1, a2, a3, a8, hl2, hci]
      · rw [if_neg (by simpa using hless)] at hci
        simp only [wk0, wk1, wk2, wk3, wk4, wk5, wk6, aWanted, aYield, Region.wanted, aOp, quiet, loud, aEvals, aParts, aOpt, aBuiltin, rd, win, AV.cells, AV.leaf, aNew, splice, fillA, Nat.reduceEqDiff, Nat.reduceLT, Nat.reduceAdd, Nat.reduceLeDiff, reduceCtorEq, Nat.reduceMul, cfgP, u77, hlen, a0, a1, a2, a3, a8, a9, hzi, w1, i1, i2, hgl, ex, ey, n1, hless, hw]
        refine ih _ _ (l.length - (i + 1)) (by omega) ⟨i + 1, l2, rfl, by omega, .inl hlt, ?_⟩
        rw [hc, show l.length - i = (l.length - (i + 1)) + 1 by omega, outGo, hci]
        simp [wk0, wk1, wk2, wk3, wk4, wk5, wk6, aWanted, aYield, Region.wanted, aOp, quiet, loud, aEvals, aParts, aOpt, aBuiltin, rd, win, AV.cells, AV.leaf, aNew, splice, fillA, Nat.reduceEqDiff, Nat.reduceLT, Nat.reduceAdd, Nat.reduceLeDiff, reduceCtorEq, Nat.reduceMul, cfgP, u77, hlen, a0, a1, a2, a3, hl2]
  · simp only [wk0, wk1, wk2, wk3, wk4, wk5, wk6, aWanted, aYield, Region.wanted, aOp, quiet, loud, aEvals, aParts, aOpt, aBuiltin, rd, win, AV.cells, AV.leaf, aNew, splice, fillA, Nat.reduceEqDiff, Nat.reduceLT, Nat.reduceAdd, Nat.reduceLeDiff, reduceCtorEq, Nat.reduceMul, cfgP, u77, hlen, a0, a1, a2, a3, a8]
    have hnl : ¬ i < l.length := by simpa using h
    have e0 : l.length - i = 0 := by omega
    rw [e0, outGo] at hc
    rw [hc]
    exact Fin_raw (l := []) (by simp [wk0, wk1, wk2, wk3, wk4, wk5, wk6, aWanted, aYield, Region.wanted, aOp, quiet, loud, aEvals, aParts, aOpt, aBuiltin, rd, win, AV.cells, AV.leaf, aNew, splice, fillA, Nat.reduceEqDiff, Nat.reduceLT, Nat.reduceAdd, Nat.reduceLeDiff, reduceCtorEq, Nat.reduceMul, cfgP, u77, hlen, aResults, aResult])
end Go.Proofs.Ytjhgmoaabflbfaa
