import Derived.Test.YtoblikhnbddfmaaMk0
/-! Chapter 16: the sets that a machine is in, walked. -/
set_option linter.unusedSimpArgs false
namespace Go.Proofs.Ytoblikhnbddfmaa
open Go Go.Abs AbsSeat Ty

def Sg.has (x : Sg) (r : Int) : Bool := decide (x.lo ≤ r) && decide (r ≤ x.hi)
def inS (r : Int) (n : Bool) (l : List Sg) : Bool := if l.any (·.has r) then !n else n
theorem u38 : type_of% (And.intro (show tagT Try.prog 131 = 0 from by kernel_rfl) (And.intro (show tagT Try.prog 129 = 0 from by kernel_rfl) (And.intro (show tagT Try.prog 21 = 0 from by kernel_rfl) (And.intro ag3 (And.intro sz3 (And.intro by3 (And.intro ze3 (And.intro Try.underlying3 (And.intro ag4 (And.intro sz4 (And.intro by4 (And.intro ze4 (And.intro Try.underlying4 (And.intro ag21 (And.intro sz21 (And.intro by21 (And.intro ze21 (And.intro Try.underlying21 (And.intro ag38 (And.intro sz38 (And.intro by38 (And.intro se38 (And.intro ze38 (And.intro Try.underlying38 (And.intro ag44 (And.intro sz44 (And.intro by44 (And.intro se44 (And.intro ze44 (And.intro Try.underlying44 (And.intro ag129 (And.intro sz129 (And.intro by129 (And.intro ze129 (And.intro bu129 (And.intro Try.underlying129 (And.intro ag130 (And.intro sz130 (And.intro by130 (And.intro ze130 (And.intro Try.underlying130 (And.intro ag131 (And.intro sz131 (And.intro by131 (And.intro ze131 (And.intro bu131 (And.intro Try.underlying131 (And.intro fa129_0 (And.intro fd129_0 (And.intro fa129_1 (And.intro fd129_1 (And.intro fa131_0 (And.intro fd131_0 (And.intro fa131_1 fd131_1)))))))))))))))))))))))))))))))))))))))))))))))))))))) := And.intro (show tagT Try.prog 131 = 0 from by kernel_rfl) (And.intro (show tagT Try.prog 129 = 0 from by kernel_rfl) (And.intro (show tagT Try.prog 21 = 0 from by kernel_rfl) (And.intro ag3 (And.intro sz3 (And.intro by3 (And.intro ze3 (And.intro Try.underlying3 (And.intro ag4 (And.intro sz4 (And.intro by4 (And.intro ze4 (And.intro Try.underlying4 (And.intro ag21 (And.intro sz21 (And.intro by21 (And.intro ze21 (And.intro Try.underlying21 (And.intro ag38 (And.intro sz38 (And.intro by38 (And.intro se38 (And.intro ze38 (And.intro Try.underlying38 (And.intro ag44 (And.intro sz44 (And.intro by44 (And.intro se44 (And.intro ze44 (And.intro Try.underlying44 (And.intro ag129 (And.intro sz129 (And.intro by129 (And.intro ze129 (And.intro bu129 (And.intro Try.underlying129 (And.intro ag130 (And.intro sz130 (And.intro by130 (And.intro ze130 (And.intro Try.underlying130 (And.intro ag131 (And.intro sz131 (And.intro by131 (And.intro ze131 (And.intro bu131 (And.intro Try.underlying131 (And.intro fa129_0 (And.intro fd129_0 (And.intro fa129_1 (And.intro fd129_1 (And.intro fa131_0 (And.intro fd131_0 (And.intro fa131_1 fd131_1)))))))))))))))))))))))))))))))))))))))))))))))))))))
def g38 : Code :=
  .seq (.region 0 #[q 6 (.assign (.const (.bool false))) 4] false) (.seq (.seq (.region 1 #[q 9 (.move (.tmp 2)) 44, q 10 (bi .len #[.tmp 9] #[44]) 3, q 11 (.move (ik 0)) 3] false) (.block 0 (.loop (.seq (.region 2 #[q 12 (.binOp .lss 3 (.tmp 11) (.tmp 10) 3) 0] false) (.seq (.cond (.tmp 12) .skip (.exit 0)) (.seq (.block 1 (.seq (.region 3 #[q 13 (.indexAddr 44 (.tmp 9) (.tmp 11)) 0, q 14 (.load 131 (.tmp 13)) 131, q 8 (.alloc 131) 0, qn (.store 131 (.tmp 8) (.tmp 14)) 0] false) (.seq (.region 4 #[q 15 (.fieldAddr 131 (.tmp 8) 0) 0, q 16 (.load 21 (.tmp 15)) 21, q 17 (.move (.tmp 0)) 21, q 18 (.binOp .leq 21 (.tmp 16) (.tmp 17) 21) 4, q 19 (.move (.tmp 18)) 4, qg 20 (.move (.tmp 0)) 21 4 true, qg 21 (.fieldAddr 131 (.tmp 8) 1) 0 4 true, qg 22 (.load 21 (.tmp 21)) 21 4 true, qg 23 (.binOp .leq 21 (.tmp 20) (.tmp 22) 21) 4 4 true, q 24 (.pick (.tmp 19) (.tmp 23) (.const (.bool false))) 4] false) (.cond (.tmp 24) (.seq (.region 5 #[q 25 (.move (.tmp 1)) 4, q 26 (.unOp .not 4 (.tmp 25)) 4, q 6 (.assign (.tmp 26)) 4] false) .ret) .skip)))) (.region 6 #[q 27 (.binOp .add 3 (.tmp 11) (ik 1) 3) 3, q 11 (.move (.tmp 27)) 3] false))))))) (.seq (.region 7 #[q 28 (.move (.tmp 1)) 4, q 6 (.assign (.tmp 28)) 4] false) .ret))
theorem s38 : Try.f38.body.map (slim cfg) = some g38 := by kernel_rfl
def g69 : Code :=
  .seq (.region 0 #[q 2 (.box 129 (.tmp 0)) 0, q 3 (.assign (.const (.bool false))) 4] false) (.seq (.region 1 #[q 4 (.load 21 (.tmp 1)) 21, q 5 (.fieldAddr 129 (.tmp 2) 0) 0, q 6 (.load 21 (.tmp 5)) 21, q 7 (.binOp .geq 21 (.tmp 4) (.tmp 6) 21) 4, q 8 (.move (.tmp 7)) 4, qg 9 (.load 21 (.tmp 1)) 21 4 true, qg 10 (.fieldAddr 129 (.tmp 2) 1) 0 4 true, qg 11 (.load 21 (.tmp 10)) 21 4 true, qg 12 (.binOp .leq 21 (.tmp 9) (.tmp 11) 21) 4 4 true, q 13 (.pick (.tmp 8) (.tmp 12) (.const (.bool false))) 4, q 3 (.assign (.tmp 13)) 4] false) .ret)
theorem s69 : Try.f69.body.map (slim cfg) = some g69 := by kernel_rfl
def g89 : Code :=
  .seq (.region 0 #[q 4 (.assign (ik 0)) 3] false) (.seq (.seq (.region 1 #[q 6 (.move (.tmp 0)) 38, q 7 (bi .len #[.tmp 6] #[38]) 3, q 8 (.move (ik 0)) 3] false) (.block 0 (.loop (.seq (.region 2 #[q 9 (.binOp .lss 3 (.tmp 8) (.tmp 7) 3) 0] false) (.seq (.cond (.tmp 9) .skip (.exit 0)) (.seq (.block 1 (.seq (.region 3 #[q 10 (.move (.tmp 8)) 3, q 5 (.assign (.tmp 10)) 3] false) (.seq (.region 4 #[q 11 (.move (.tmp 1)) 130, q 12 (.move (.tmp 0)) 38, q 13 (.move (.tmp 5)) 3, q 14 (.indexAddr 38 (.tmp 12) (.tmp 13)) 0, q 15 (.load 129 (.tmp 14)) 129, q 16 (cv (.tmp 11) #[.tmp 15] #[129]) 4] false) (.cond (.tmp 16) (.seq (.region 5 #[q 17 (.move (.tmp 5)) 3, q 4 (.assign (.tmp 17)) 3] false) .ret) .skip)))) (.region 6 #[q 18 (.binOp .add 3 (.tmp 8) (ik 1) 3) 3, q 8 (.move (.tmp 18)) 3] false))))))) (.seq (.region 7 #[q 4 (.assign (ik (-1))) 3] false) .ret))
theorem s89 : Try.f89.body.map (slim cfg) = some g89 := by kernel_rfl
def g68 : Code :=
  .seq (.region 0 #[q 4 (.assign (.const (.bool false))) 4] false) (.seq (.region 1 #[q 5 (.move (.tmp 0)) 38, q 6 (.move (.tmp 1)) 130, q 7 (cl 89 #[.tmp 5, .tmp 6] #[38, 130]) 3, q 8 (.binOp .geq 3 (.tmp 7) (ik 0) 3) 4, q 4 (.assign (.tmp 8)) 4] false) .ret)
theorem s68 : Try.f68.body.map (slim cfg) = some g68 := by kernel_rfl
def g36 : Code :=
  .seq (.region 0 #[q 3 (.box 21 (.tmp 0)) 0, q 6 (.assign (.const (.bool false))) 4] false) (.seq (.region 1 #[q 7 (.move (.tmp 2)) 38, q 8 (.makeFunc (.func 69) #[] #[.tmp 3]) 130, q 9 (cl 68 #[.tmp 7, .tmp 8] #[38, 130]) 4, q 10 (.move (.tmp 1)) 4, q 11 (.binOp .neq 4 (.tmp 9) (.tmp 10) 4) 4, q 6 (.assign (.tmp 11)) 4] false) .ret)
theorem s36 : Try.f36.body.map (slim cfg) = some g36 := by kernel_rfl
theorem rinG_ok (l : List Sg) (r : Int) (n : Bool) (v : AV) (hv : Sl encG v l) (hl : l.length < 1000000000) (prot : Nat) (H : Heap) (hp : prot ≤ H.length) :
    aLim cfg prot 38 [.int .i32 r, .bool n, v] H = some (.bool (inS r n l), none) := by
  have hsnap : snap H [.int .i32 r, .bool n, v] = some ([.int .i32 r, .bool n, v], false) := by cases hv <;> rfl
  refine pure_slim rfl (by kernel_rfl) Try.func38 s38 hp hsnap (by simp [Try.f38]) fun fr hlen h => ?_
  simp only [Has, Nat.zero_add] at h
  obtain ⟨h0, h1, h2, -⟩ := h
  simp only [Try.f38] at hlen ⊢
  unfold g38
  simp only [wk, aBuiltin, AV.cells, AV.leaf, Nat.reduceEqDiff, Nat.reduceLT, Nat.reduceAdd, Nat.reduceLeDiff, reduceCtorEq, Nat.reduceMul, cfgP, u38, hlen, h0, h1, h2, hv.len Try.underlying44]
  refine loop_rule (fun m fr H' => ∃ (i : Nat), m = l.length - i ∧ i ≤ l.length ∧ fr.length = 29 ∧ fget fr 0 = .int .i32 r ∧ fget fr 1 = .bool n ∧ fget fr 9 = v ∧ fget fr 10 = .int .i64 l.length ∧ fget fr 11 = .int .i64 i
    ∧ H.length ≤ H'.length ∧ inS r n l = inS r n (l.drop i)) ?_ l.length _ _ ⟨0, by simp [wk, aBuiltin, AV.cells, AV.leaf, Nat.reduceEqDiff, Nat.reduceLT, Nat.reduceAdd, Nat.reduceLeDiff, reduceCtorEq, Nat.reduceMul, cfgP, u38, hlen, h0, h1, h2]⟩
  rintro m fr H' ⟨i, rfl, hi, hlen, h0, h1, h9, h10, h11, hH, hc⟩ ih
  simp only [wk, aBuiltin, AV.cells, AV.leaf, Nat.reduceEqDiff, Nat.reduceLT, Nat.reduceAdd, Nat.reduceLeDiff, reduceCtorEq, Nat.reduceMul, cfgP, u38, hlen, h0, h1, h9, h10, h11]
  refine RC_split (fun h => ?_) (fun h => ?_)
  · have hlt : i < l.length := by simpa using h
    have hw : IntKind.i64.wrap ((i : Int) + 1) = ((i + 1 : Nat) : Int) := by rw [wrap64 (by omega) (by omega)]; simp
    have e1 := hv.at (k := .i64) Try.underlying44 sz131 encG_len hlt
    have hd : l.drop i = l[i] :: l.drop (i + 1) := by simp
    generalize l[i] = x at *
    rw [hd] at hc
    by_cases hlo : x.lo ≤ r
    · simp only [wk, aBuiltin, AV.cells, AV.leaf, Nat.reduceEqDiff, Nat.reduceLT, Nat.reduceAdd, Nat.reduceLeDiff, reduceCtorEq, Nat.reduceMul, cfgP, u38, hlen, h0, h1, h9, h10, h11, e1, encG, hH, hlo]
      refine RC_split (fun h => ?_) (fun h => ?_)
      · simp only [wk, aBuiltin, AV.cells, AV.leaf, Nat.reduceEqDiff, Nat.reduceLT, Nat.reduceAdd, Nat.reduceLeDiff, reduceCtorEq, Nat.reduceMul, cfgP, u38, hlen, h0, h1, h9, h10, h11]
        have e : inS r n l = !n := by rw [hc]; simp [inS, Sg.has, hlo, of_decide_eq_true h]
        rw [e]
        exact Fin_pure (l := [.bool (!n)]) (by simp [wk, aBuiltin, AV.cells, AV.leaf, Nat.reduceEqDiff, Nat.reduceLT, Nat.reduceAdd, Nat.reduceLeDiff, reduceCtorEq, Nat.reduceMul, cfgP, u38, aResults, aResult, hlen]) (.still rfl) (by simp)
      · simp only [wk, aBuiltin, AV.cells, AV.leaf, Nat.reduceEqDiff, Nat.reduceLT, Nat.reduceAdd, Nat.reduceLeDiff, reduceCtorEq, Nat.reduceMul, cfgP, u38, hlen, h0, h1, h9, h10, h11, hw]
        refine ih _ _ (l.length - (i + 1)) (by omega) ⟨i + 1, rfl, hlt, ?_⟩
        have h' := of_decide_eq_false h
        rw [hc]
        simp [wk, aBuiltin, AV.cells, AV.leaf, Nat.reduceEqDiff, Nat.reduceLT, Nat.reduceAdd, Nat.reduceLeDiff, reduceCtorEq, Nat.reduceMul, cfgP, u38, hlen, h0, h1, h9, h10, h11, inS, Sg.has, h']
        omega
    · simp only [wk, aBuiltin, AV.cells, AV.leaf, Nat.reduceEqDiff, Nat.reduceLT, Nat.reduceAdd, Nat.reduceLeDiff, reduceCtorEq, Nat.reduceMul, cfgP, u38, hlen, h0, h1, h9, h10, h11, e1, encG, hH, hlo, none_beq, hw]
      refine ih _ _ (l.length - (i + 1)) (by omega) ⟨i + 1, rfl, hlt, ?_⟩
      rw [hc]
      simp [wk, aBuiltin, AV.cells, AV.leaf, Nat.reduceEqDiff, Nat.reduceLT, Nat.reduceAdd, Nat.reduceLeDiff, reduceCtorEq, Nat.reduceMul, cfgP, u38, hlen, h0, h1, h9, h10, h11, inS, Sg.has, hlo]
      omega
  · simp only [wk, aBuiltin, AV.cells, AV.leaf, Nat.reduceEqDiff, Nat.reduceLT, Nat.reduceAdd, Nat.reduceLeDiff, reduceCtorEq, Nat.reduceMul, cfgP, u38, hlen, h0, h1, h9, h10, h11]
    have hnl : ¬ i < l.length := by simpa using h
    have : l.drop i = [] := by simp; omega
    rw [this] at hc
    have e : inS r n l = n := by rw [hc]; rfl
    rw [e]
    exact Fin_pure (l := [.bool n]) (by simp [wk, aBuiltin, AV.cells, AV.leaf, Nat.reduceEqDiff, Nat.reduceLT, Nat.reduceAdd, Nat.reduceLeDiff, reduceCtorEq, Nat.reduceMul, cfgP, u38, aResults, aResult, hlen]) (.still rfl) (by simp)

theorem in1_ok (x : Sg) (r : Int) (b ver : Nat) (prot : Nat) (H : Heap) (hp : prot ≤ H.length) (hb : hget H b ver = some [.int .i32 r]) :
    aLim cfg prot 69 [encG x, .ptr b ver 0] H = some (.bool (x.has r), none) := by
  refine pure_slim rfl (by kernel_rfl) Try.func69 s69 hp rfl (by simp [Try.f69]) fun fr hlen h => ?_
  simp only [Has, Nat.zero_add] at h
  obtain ⟨h0, h1, -⟩ := h
  simp only [Try.f69] at hlen ⊢
  unfold g69
  have hb' := fun x => hget_mono hb x
  by_cases hlo : x.lo ≤ r
  · simp only [wk, aBuiltin, AV.cells, AV.leaf, Nat.reduceEqDiff, Nat.reduceLT, Nat.reduceAdd, Nat.reduceLeDiff, reduceCtorEq, Nat.reduceMul, cfgP, u38, hlen, h0, h1, encG, hb', hlo]
    exact Fin_pure (l := [.bool (x.has r)]) (by simp [wk, aBuiltin, AV.cells, AV.leaf, Nat.reduceEqDiff, Nat.reduceLT, Nat.reduceAdd, Nat.reduceLeDiff, reduceCtorEq, Nat.reduceMul, cfgP, u38, aResults, aResult, hlen, Sg.has, hlo]) (.still rfl) (by simp)
  · simp only [wk, aBuiltin, AV.cells, AV.leaf, Nat.reduceEqDiff, Nat.reduceLT, Nat.reduceAdd, Nat.reduceLeDiff, reduceCtorEq, Nat.reduceMul, cfgP, u38, hlen, h0, h1, encG, hb', hlo, none_beq]
    exact Fin_pure (l := [.bool (x.has r)]) (by simp [wk, aBuiltin, AV.cells, AV.leaf, Nat.reduceEqDiff, Nat.reduceLT, Nat.reduceAdd, Nat.reduceLeDiff, reduceCtorEq, Nat.reduceMul, cfgP, u38, aResults, aResult, hlen, Sg.has, hlo]) (.still rfl) (by simp)

def idxS (r : Int) : List Sg → Int → Int
  | [], _ => -1
  | x :: l, i => if x.has r then i else idxS r l (i + 1)
theorem idxS_ge (r : Int) : ∀ (l : List Sg) (i : Int), 0 ≤ i → (0 ≤ idxS r l i ↔ l.any (·.has r) = true)
  | [], i, _ => by simp [idxS]
  | x :: l, i, hi => by
    have := idxS_ge r l (i + 1) (by omega)
    by_cases h : x.has r
    · simp [idxS, h, hi]
    · simp [idxS, h, this]

theorem gidx_ok (l : List Sg) (r : Int) (b ver : Nat) (v : AV) (hv : Sl encG v l) (hl : l.length < 1000000000) (prot : Nat) (H : Heap) (hp : prot ≤ H.length) (hb : hget H b ver = some [.int .i32 r]) :
    aLim cfg prot 89 [v, .func 69 [] [.ptr b ver 0]] H = some (.int .i64 (idxS r l 0), none) := by
  have hsnap : snap H [v, .func 69 [] [.ptr b ver 0]] = some ([v, .func 69 [] [.ptr b ver 0]], false) := by cases hv <;> rfl
  refine pure_slim rfl (by kernel_rfl) Try.func89 s89 hp hsnap (by simp [Try.f89]) fun fr hlen h => ?_
  simp only [Has, Nat.zero_add] at h
  obtain ⟨h0, h1, -⟩ := h
  simp only [Try.f89] at hlen ⊢
  unfold g89
  simp only [wk, aBuiltin, AV.cells, AV.leaf, Nat.reduceEqDiff, Nat.reduceLT, Nat.reduceAdd, Nat.reduceLeDiff, reduceCtorEq, Nat.reduceMul, cfgP, u38, hlen, h0, h1, hv.len Try.underlying38]
  refine loop_rule (fun m fr H' => ∃ (i : Nat), m = l.length - i ∧ i ≤ l.length ∧ fr.length = 19 ∧ fget fr 0 = v ∧ fget fr 1 = .func 69 [] [.ptr b ver 0] ∧ fget fr 7 = .int .i64 l.length ∧ fget fr 8 = .int .i64 i
    ∧ H' = H ∧ idxS r l 0 = idxS r (l.drop i) i) ?_ l.length _ _ ⟨0, by simp [wk, aBuiltin, AV.cells, AV.leaf, Nat.reduceEqDiff, Nat.reduceLT, Nat.reduceAdd, Nat.reduceLeDiff, reduceCtorEq, Nat.reduceMul, cfgP, u38, hlen, h0, h1]⟩
  rintro m fr H' ⟨i, rfl, hi, hlen, h0, h1, h7, h8, hHe, hc⟩ ih
  subst hHe
  simp only [wk, aBuiltin, AV.cells, AV.leaf, Nat.reduceEqDiff, Nat.reduceLT, Nat.reduceAdd, Nat.reduceLeDiff, reduceCtorEq, Nat.reduceMul, cfgP, u38, hlen, h0, h1, h7, h8]
  refine RC_split (fun h => ?_) (fun h => ?_)
  · have hlt : i < l.length := by simpa using h
    have hw : IntKind.i64.wrap ((i : Int) + 1) = ((i + 1 : Nat) : Int) := by rw [wrap64 (by omega) (by omega)]; simp
    have e1 := hv.at (k := .i64) Try.underlying38 sz129 encG_len hlt
    have hd : l.drop i = l[i] :: l.drop (i + 1) := by simp
    generalize l[i] = x at *
    rw [hd, idxS] at hc
    have hcall := in1_ok x r b ver H'.length H' (Nat.le_refl _) hb
    simp only [encG] at hcall
    simp only [wk, aBuiltin, AV.cells, AV.leaf, Nat.reduceEqDiff, Nat.reduceLT, Nat.reduceAdd, Nat.reduceLeDiff, reduceCtorEq, Nat.reduceMul, cfgP, u38, hlen, h0, h1, h7, h8, e1, encG, hcall]
    refine RC_split (fun h => ?_) (fun h => ?_)
    · simp only [wk, aBuiltin, AV.cells, AV.leaf, Nat.reduceEqDiff, Nat.reduceLT, Nat.reduceAdd, Nat.reduceLeDiff, reduceCtorEq, Nat.reduceMul, cfgP, u38, hlen, h0, h1, h7, h8]
      rw [hc, if_pos h]
      exact Fin_pure (l := [.int .i64 i]) (by simp [wk, aBuiltin, AV.cells, AV.leaf, Nat.reduceEqDiff, Nat.reduceLT, Nat.reduceAdd, Nat.reduceLeDiff, reduceCtorEq, Nat.reduceMul, cfgP, u38, aResults, aResult, hlen]) (.still rfl) (by simp)
    · simp only [wk, aBuiltin, AV.cells, AV.leaf, Nat.reduceEqDiff, Nat.reduceLT, Nat.reduceAdd, Nat.reduceLeDiff, reduceCtorEq, Nat.reduceMul, cfgP, u38, hlen, h0, h1, h7, h8, hw]
      refine ih _ _ (l.length - (i + 1)) (by omega) ⟨i + 1, rfl, hlt, ?_⟩
      rw [hc]
      simp [wk, aBuiltin, AV.cells, AV.leaf, Nat.reduceEqDiff, Nat.reduceLT, Nat.reduceAdd, Nat.reduceLeDiff, reduceCtorEq, Nat.reduceMul, cfgP, u38, hlen, h0, h1, h7, h8, h]
  · simp only [wk, aBuiltin, AV.cells, AV.leaf, Nat.reduceEqDiff, Nat.reduceLT, Nat.reduceAdd, Nat.reduceLeDiff, reduceCtorEq, Nat.reduceMul, cfgP, u38, hlen, h0, h1, h7, h8]
    have hnl : ¬ i < l.length := by simpa using h
    have : l.drop i = [] := by simp; omega
    rw [this] at hc
    rw [hc]
    exact Fin_pure (l := [.int .i64 (-1)]) (by simp [wk, aBuiltin, AV.cells, AV.leaf, Nat.reduceEqDiff, Nat.reduceLT, Nat.reduceAdd, Nat.reduceLeDiff, reduceCtorEq, Nat.reduceMul, cfgP, u38, aResults, aResult, hlen]) (.still rfl) (by simp)

theorem ghas_ok (l : List Sg) (r : Int) (b ver : Nat) (v : AV) (hv : Sl encG v l) (hl : l.length < 1000000000) (prot : Nat) (H : Heap) (hp : prot ≤ H.length) (hb : hget H b ver = some [.int .i32 r]) :
    aLim cfg prot 68 [v, .func 69 [] [.ptr b ver 0]] H = some (.bool (l.any (·.has r)), none) := by
  have hsnap : snap H [v, .func 69 [] [.ptr b ver 0]] = some ([v, .func 69 [] [.ptr b ver 0]], false) := by cases hv <;> rfl
  refine pure_slim rfl (by kernel_rfl) Try.func68 s68 hp hsnap (by simp [Try.f68]) fun fr hlen h => ?_
  simp only [Has, Nat.zero_add] at h
  obtain ⟨h0, h1, -⟩ := h
  simp only [Try.f68] at hlen ⊢
  unfold g68
  have hcall := gidx_ok l r b ver v hv hl H.length H (Nat.le_refl _) hb
  have e : decide (idxS r l 0 ≥ 0) = l.any (·.has r) := by
    have := idxS_ge r l 0 (by omega)
    rw [Bool.eq_iff_iff, decide_eq_true_iff, ← this]
  simp only [wk, aBuiltin, AV.cells, AV.leaf, Nat.reduceEqDiff, Nat.reduceLT, Nat.reduceAdd, Nat.reduceLeDiff, reduceCtorEq, Nat.reduceMul, cfgP, u38, hlen, h0, h1, hcall, e]
  exact Fin_pure (l := [.bool (l.any (·.has r))]) (by simp [wk, aBuiltin, AV.cells, AV.leaf, Nat.reduceEqDiff, Nat.reduceLT, Nat.reduceAdd, Nat.reduceLeDiff, reduceCtorEq, Nat.reduceMul, cfgP, u38, aResults, aResult, hlen]) (.still rfl) (by simp)

theorem inG_ok (l : List Sg) (r : Int) (n : Bool) (v : AV) (hv : Sl encG v l) (hl : l.length < 1000000000) (prot : Nat) (H : Heap) (hp : prot ≤ H.length) :
    aLim cfg prot 36 [.int .i32 r, .bool n, v] H = some (.bool (inS r n l), none) := by
  have hsnap : snap H [.int .i32 r, .bool n, v] = some ([.int .i32 r, .bool n, v], false) := by cases hv <;> rfl
  refine pure_slim rfl (by kernel_rfl) Try.func36 s36 hp hsnap (by simp [Try.f36]) fun fr hlen h => ?_
  simp only [Has, Nat.zero_add] at h
  obtain ⟨h0, h1, h2, -⟩ := h
  simp only [Try.f36] at hlen ⊢
  unfold g36
  have hcall := ghas_ok l r H.length 0 v hv hl H.length (H ++ [Blk.cells 0 [.int .i32 r]]) (by simp) (by rw [hget_new rfl]; rfl)
  have e : (!(l.any (·.has r) == n)) = inS r n l := by
    unfold inS
    cases l.any (·.has r) <;> cases n <;> rfl
  simp only [wk, aBuiltin, AV.cells, AV.leaf, Nat.reduceEqDiff, Nat.reduceLT, Nat.reduceAdd, Nat.reduceLeDiff, reduceCtorEq, Nat.reduceMul, cfgP, u38, hlen, h0, h1, h2, hcall]
  exact Fin_pure (l := [.bool (inS r n l)]) (by simp [wk, aBuiltin, AV.cells, AV.leaf, Nat.reduceEqDiff, Nat.reduceLT, Nat.reduceAdd, Nat.reduceLeDiff, reduceCtorEq, Nat.reduceMul, cfgP, u38, aResults, aResult, hlen, e]) (.still rfl) (by simp)

end Go.Proofs.Ytoblikhnbddfmaa
namespace Go.Abs
open Go
theorem hmap_set_ne {H : Heap} {b r : Nat} {k : Blk} (h : r ≠ b) : hmap (H.set b k) r = hmap H r := by
  unfold hmap; rw [List.getElem?_set_ne (Ne.symm h)]
theorem hmap_set {H : Heap} {r : Nat} {es es' : List (AV × AV)} (h : hmap H r = some es) : hmap (H.set r (.map es')) r = some es' := by
  unfold hmap at h ⊢
  split at h
  · rename_i hb
    have := (List.getElem?_eq_some_iff.1 hb).1
    simp [this]
  · cases h
theorem hmap_lt {H : Heap} {r : Nat} {es : List (AV × AV)} (h : hmap H r = some es) : r < H.length := by
  unfold hmap at h
  split at h
  · rename_i hb; exact (List.getElem?_eq_some_iff.1 hb).1
  · cases h
theorem hmap_mono {H : Heap} {r : Nat} {es : List (AV × AV)} (h : hmap H r = some es) (x : List Blk) : hmap (H ++ x) r = some es := by
  have hl := hmap_lt h
  unfold hmap at h ⊢
  rw [List.getElem?_append_left hl]; exact h
theorem hget_set_map {H : Heap} {r b ver : Nat} {es : List (AV × AV)} (h : b ≠ r) : hget (H.set r (.map es)) b ver = hget H b ver := hget_set_ne h
end Go.Abs
namespace Go.Proofs.Ytoblikhnbddfmaa
open Go Go.Abs AbsSeat Ty

def encK (k : Nat) : AV := .int .i64 (k : Nat)
theorem encK_T : EncT encK 1 false where
  len _ := rfl
  leaf x c hc := by simp [encK, AV.cells] at hc; subst hc; rfl
  still x c hc := by simp [encK, AV.cells] at hc; subst hc; rfl
  shape _ := rfl
theorem cellsK (l : List Nat) : cellsOf encK l = l.map encK := by
  induction l with
  | nil => rfl
  | cons x r ih => simp only [cellsOf, List.flatMap_cons, List.map_cons] at ih ⊢; rw [ih]; rfl
theorem rowK : RowT Try.prog 90 3 1 8 false where
  un := Try.underlying90
  size := sz3
  bytes := by3
  agg := ag3
  zero := ⟨_, ze3, rfl⟩
  pos := by decide
  tree := rfl
theorem hxtK : (∃ e', Try.prog.underlying 90 = some (.slice e')) ∨ Try.prog.underlying 90 = some .string := .inl ⟨_, Try.underlying90⟩
/-- a literal of numbers: it lies in a block of its own. -/
theorem litK1 (a : Nat) (K : Heap) : aBuildSlice Try.prog K 90 1 [(0, .int .i64 (a : Nat))] = some (.bs ⟨K.length, 0, 0, 1, 1, 1, false, true⟩, some (K ++ [Blk.cells 0 ([a].map encK)])) := by
  have e2 : fillA (fun i => some (i * 1, 1)) (zrep 1 [.int .i64 0]) [(0, .int .i64 (a : Nat))] = some [.int .i64 (a : Nat)] := rfl
  unfold aBuildSlice
  rw [rowK.elem, Option.bind_some, rowK.size, Option.bind_some, rowK.agg, Option.bind_some, ze3, Option.bind_some]
  rw [if_pos ⟨by decide, rfl, by decide⟩]
  simp only [AV.cells]
  rw [e2, Option.bind_some, if_pos (show ([.int .i64 (a : Nat)] : List AV).all AV.leaf = true from rfl), if_neg (by decide)]
  rfl
theorem litK2 (a b : Nat) (K : Heap) : aBuildSlice Try.prog K 90 2 [(0, .int .i64 (a : Nat)), (1, .int .i64 (b : Nat))] = some (.bs ⟨K.length, 0, 0, 2, 2, 1, false, true⟩, some (K ++ [Blk.cells 0 ([a, b].map encK)])) := by
  have e2 : fillA (fun i => some (i * 1, 1)) (zrep 2 [.int .i64 0]) [(0, .int .i64 (a : Nat)), (1, .int .i64 (b : Nat))] = some [.int .i64 (a : Nat), .int .i64 (b : Nat)] := rfl
  unfold aBuildSlice
  rw [rowK.elem, Option.bind_some, rowK.size, Option.bind_some, rowK.agg, Option.bind_some, ze3, Option.bind_some]
  rw [if_pos ⟨by decide, rfl, by decide⟩]
  simp only [AV.cells]
  rw [e2, Option.bind_some, if_pos (show ([.int .i64 (a : Nat), .int .i64 (b : Nat)] : List AV).all AV.leaf = true from rfl), if_neg (by decide)]
  rfl
theorem elemK (l : List Nat) (K : Heap) (x : List Blk) : elemCells (K ++ Blk.cells 0 (l.map encK) :: x) 1 (.bs ⟨K.length, 0, 0, l.length, l.length, 1, false, true⟩) = some (l.length, cellsOf encK l) := by
  have hg : hget (K ++ Blk.cells 0 (l.map encK) :: x) K.length 0 = some (l.map encK) := by rw [hget_new rfl, if_pos rfl]
  have hw : win (l.map encK) 0 (l.length * 1) = some (l.map encK) := by
    simp only [win, Nat.zero_add, List.drop_zero]
    rw [if_pos (by simp), List.take_of_length_le (by simp)]
  simp only [elemCells, if_true, hg, Option.bind_some, hw, Option.map_some, cellsK]
/-- an entry of a set's table. -/
def ent (k : Nat) : AV × AV := (.int .i64 (k : Nat), .int .i64 1)
theorem mfind_ent (k : Nat) : ∀ (o : List Nat) (i : Nat), mfind (.int .i64 (k : Nat)) (o.map ent) i = some (if k ∈ o then some (i + o.idxOf k, .int .i64 1) else none)
  | [], i => rfl
  | x :: r, i => by
    rw [List.map_cons]
    unfold mfind
    simp only [ent, keyEq, if_true, Option.bind_some]
    by_cases h : x = k
    · subst h
      simp [List.idxOf_cons]
    · have h1 : (((k : Nat) : Int) == (x : Nat)) = false := by simp; omega
      have h2 : (x == k) = false := by simp [h]
      rw [h1]
      simp only [Bool.false_eq_true, if_false]
      rw [mfind_ent k r (i + 1)]
      by_cases h3 : k ∈ r
      · rw [if_pos h3, if_pos (by simp [h3])]
        simp [List.idxOf_cons, h2]
        omega
      · rw [if_neg h3, if_neg (by simp [h3]; omega)]
theorem look_ok {H : Heap} {r : Nat} {o : List Nat} (h : hmap H r = some (o.map ent)) (k : Nat) : aLookup Try.prog H 136 (.map r) (.int .i64 (k : Nat)) false = some (.int .i64 (if k ∈ o then 1 else 0)) := by
  have hk : keyT Try.prog 136 = some (3, 3) := by unfold keyT; rw [Try.underlying136]; simp only [Try.underlying3]
  have hf : keyFits Try.prog 3 (.int .i64 (k : Nat)) = true := by unfold keyFits; rw [Try.underlying3]
  unfold aLookup
  rw [hk, Option.bind_some]
  simp only [hf, if_true, h, Option.bind_some, mfind_ent]
  by_cases h1 : k ∈ o
  · simp [h1]
  · simp [h1, ze3]
theorem put_new {H : Heap} {prot r : Nat} {o : List Nat} (h : hmap H r = some (o.map ent)) {k : Nat} (hk : k ∉ o) (hp : prot ≤ r) : aMapPut Try.prog prot H 136 (.map r) (.int .i64 (k : Nat)) (.int .i64 1) = some (H.set r (Blk.map ((o ++ [k]).map ent))) := by
  have hkt : keyT Try.prog 136 = some (3, 3) := by unfold keyT; rw [Try.underlying136]; simp only [Try.underlying3]
  have hf : keyFits Try.prog 3 (.int .i64 (k : Nat)) = true := by unfold keyFits; rw [Try.underlying3]
  unfold aMapPut
  rw [hkt, Option.bind_some]
  simp only [hf, if_true, hp, h, Option.bind_some, mfind_ent, hk, if_false, Option.map_some, List.map_append]
  rfl
/-- a stack, in a block of its own. -/
def StkAt (b : Nat) (H : Heap) (w : AV) (st : List Nat) : Prop := ∃ ver cap ex cs, w = .bs ⟨b, ver, 0, st.length, cap, 1, false, ex⟩ ∧ hget H b ver = some cs ∧ win cs 0 (st.length * 1) = some (st.map encK) ∧ ver % 4 = 0 ∧ (ex = true → cap = 1 ∧ st.length ≤ 1)
theorem StkAt.len {b : Nat} {H : Heap} {w : AV} {st : List Nat} (h : StkAt b H w st) : aLen Try.prog H 90 w = some (.int .i64 (st.length : Nat)) := by
  obtain ⟨ver, cap, ex, cs, rfl, _⟩ := h
  simp [aLen, Try.underlying90]
theorem StkAt.len' {b : Nat} {H : Heap} {w : AV} {st : List Nat} (h : StkAt b H w st) (K : Heap) : aLen Try.prog K 90 w = some (.int .i64 (st.length : Nat)) := by
  obtain ⟨ver, cap, ex, cs, rfl, _⟩ := h
  simp [aLen, Try.underlying90]
theorem win_take {cs xs : List AV} {n m : Nat} (h : win cs 0 n = some xs) (hm : m ≤ n) : win cs 0 m = some (xs.take m) := by
  unfold win at h ⊢
  simp only [Nat.zero_add, List.drop_zero] at h ⊢
  split at h
  · cases h
    rw [if_pos (by omega), List.take_take, Nat.min_eq_left hm]
  · cases h
theorem win_get {cs xs : List AV} {n : Nat} (h : win cs 0 n = some xs) {i : Nat} (hi : i < n) : cs[i]? = xs[i]? := by
  unfold win at h
  simp only [Nat.zero_add, List.drop_zero] at h
  split at h
  · cases h
    rw [List.getElem?_take_of_lt hi]
  · cases h
/-- the last one of a stack is taken off. -/
theorem StkAt.pop {b : Nat} {H : Heap} {w : AV} {st : List Nat} {k : Nat} (h : StkAt b H w (st ++ [k])) : ∃ ver cs w', aIndexAddr Try.prog 90 w (.int .i64 (st.length : Nat)) = some (.ptr b ver st.length) ∧ hget H b ver = some cs ∧ cs[st.length]? = some (.int .i64 (k : Nat)) ∧
    aSlice Try.prog 90 w none (some (.int .i64 (st.length : Nat))) none = some w' ∧ StkAt b H w' st := by
  obtain ⟨ver, cap, ex, cs, rfl, hg, hw, hv, hx⟩ := h
  rw [List.length_append, List.length_singleton] at hw
  have hget : cs[st.length]? = some (.int .i64 (k : Nat)) := by
    rw [win_get hw (by omega)]
    simp [encK]
  have hw2 : win cs 0 (st.length * 1) = some (st.map encK) := by
    rw [win_take hw (by omega)]
    simp
  refine ⟨ver, cs, .bs ⟨b, ver, 0, st.length, cap, 1, false, ex⟩, ?_, hg, hget, ?_, ⟨ver, cap, ex, cs, rfl, hg, hw2, hv, fun h => ⟨(hx h).1, by have := (hx h).2; simp at this; simp [this]⟩⟩⟩
  · simp [aIndexAddr, asNat, Try.underlying90, sz3]
  · cases ex with
    | true =>
      obtain ⟨rfl, hl⟩ := hx rfl
      have h0 : st = [] := by simpa using hl
      subst h0
      simp [aSlice, Try.underlying90, sz3, aBounds, optInt]
    | false =>
      simp [aSlice, Try.underlying90, sz3, aBounds, optInt]
theorem StkAt.keep {b : Nat} {H K : Heap} {w : AV} {st : List Nat} (h : StkAt b H w st) (hk : ∀ ver cs, hget H b ver = some cs → hget K b ver = some cs) : StkAt b K w st := by
  obtain ⟨ver, cap, ex, cs, rfl, hg, hw, hv, hx⟩ := h
  exact ⟨ver, cap, ex, cs, rfl, hk _ _ hg, hw, hv, hx⟩
/-- two more on a stack. -/
theorem StkAt.push {b : Nat} {H : Heap} {w : AV} {st : List Nat} (h : StkAt b H w st) (hl : st.length ≤ 1000000) {prot : Nat} (hp : prot ≤ b) {x : AV} {m : List Nat} (hm : m.length = 2) (hx : elemCells H 1 x = some (m.length, cellsOf encK m)) :
    ∃ w' H' b', aAppend Try.prog prot H #[90, 90] w x = some (w', some H') ∧ StkAt b' H' w' (st ++ m) ∧ H.length ≤ H'.length ∧ (b' = b ∨ b' = H.length) ∧ (∀ z ver cs, z ≠ b → hget H z ver = some cs → hget H' z ver = some cs) ∧ ∀ r es, r ≠ b → hmap H r = some es → hmap H' r = some es := by
  obtain ⟨ver, cap, ex, cs, rfl, hg, hw, hv, he⟩ := h
  have hwin : win (st.map encK ++ m.map encK) 0 ((st ++ m).length * 1) = some ((st ++ m).map encK) := by
    simp only [win, Nat.zero_add, List.drop_zero, List.map_append]
    rw [if_pos (by simp), List.take_of_length_le (by simp)]
  have hlf : (cellsOf encK m).all AV.leaf = true := cellsOf_leaf encK_T m
  have hm0 : ¬ m.length = 0 := by omega
  have hro : roomy (st.length + m.length) 8 = true := by simp [roomy]; omega
  obtain ⟨zz, hzz, hzl⟩ := rowK.zero
  have h80 : ∀ v : Nat, (v : Nat) % 4 = 0 → (v + 4) % 4 = 0 := fun v h => by omega
  rw [cellsK] at hx hlf
  cases ex with
  | true =>
    obtain ⟨rfl, hst⟩ := he rfl
    have hc : ¬ st.length + m.length ≤ 1 := by omega
    refine ⟨.bs ⟨H.length, 0, 0, st.length + m.length, 0, 1, false, false⟩, H ++ [Blk.cells 0 (st.map encK ++ m.map encK)], H.length, ?_, ⟨0, 0, false, _, by rw [List.length_append], by rw [hget_new rfl, if_pos rfl], hwin, rfl, by simp⟩, by simp, .inr rfl, fun z ver cs _ h => hget_mono h _, fun r es _ h => hmap_mono h _⟩
    unfold aAppend
    simp only [List.getElem?_toArray, List.getElem?_cons_zero, List.getElem?_cons_succ, Option.bind_some, rowK.elem, rowK.size, rowK.bytes, rowK.agg, Try.underlying90, hzz, hzl, ne_eq, not_true_eq_false, if_false, hx, hlf, if_true, hm0, hg, hw, hro, hc]
  | false =>
    have hlt := hget_lt hg
    refine ⟨.bs ⟨b, ver + 4, 0, st.length + m.length, 0, 1, false, false⟩, H.set b (Blk.cells (ver + 4) (st.map encK ++ m.map encK)), b, ?_, ⟨ver + 4, 0, false, _, by rw [List.length_append], by rw [hget_set_same hlt, if_pos rfl], hwin, by omega, by simp⟩, by simp, .inl rfl, fun z ver cs hz h => by rw [hget_set_ne hz]; exact h, fun r es hr h => by rw [hmap_set_ne hr]; exact h⟩
    unfold aAppend
    simp only [List.getElem?_toArray, List.getElem?_cons_zero, List.getElem?_cons_succ, Option.bind_some, rowK.elem, rowK.size, rowK.bytes, rowK.agg, Try.underlying90, hzz, hzl, ne_eq, not_true_eq_false, if_false, hx, hlf, if_true, hm0, hg, hw, hro, Bool.false_eq_true, hp, rowOk_zero hv, and_self]
/-- a set, in its block, with its table. -/
def SetAt (H : Heap) (s r : Nat) (v : AV) (o : List Nat) : Prop := hget H s 0 = some [.map r, v] ∧ hmap H r = some (o.map ent) ∧ Row encK 1 false (s + 1) H v o
/-- what a set's change leaves as it was. -/
structure Frs (H H' : Heap) (s r : Nat) (v v' : AV) : Prop where
  len : H.length ≤ H'.length
  keep : ∀ z ver cs, z ≠ s → z ≠ r → (∀ b, v = .bs b → b.b ≠ z) → hget H z ver = some cs → hget H' z ver = some cs
  blk : ∀ b', v' = .bs b' → (∃ b, v = .bs b ∧ b'.b = b.b) ∨ H.length ≤ b'.b
theorem Frs.refl (H : Heap) (s r : Nat) (v : AV) : Frs H H s r v v := ⟨Nat.le_refl _, fun _ _ _ _ _ _ h => h, fun b' h => .inl ⟨b', h, rfl⟩⟩
theorem Frs.trans {H K L : Heap} {s r : Nat} {v w x : AV} (h : Frs H K s r v w) (k : Frs K L s r w x) : Frs H L s r v x := by
  refine ⟨Nat.le_trans h.len k.len, fun z ver cs h1 h2 h3 h4 => k.keep z ver cs h1 h2 (fun b hb => ?_) (h.keep z ver cs h1 h2 h3 h4), fun b' hb' => ?_⟩
  · rcases h.blk b hb with ⟨b0, e1, e2⟩ | h5
    · rw [e2]; exact h3 b0 e1
    · have := hget_lt h4; omega
  · rcases k.blk b' hb' with ⟨b, e1, e2⟩ | h5
    · rcases h.blk b e1 with ⟨b0, e3, e4⟩ | h6
      · exact .inl ⟨b0, e3, by rw [e2, e4]⟩
      · exact .inr (by omega)
    · exact .inr (Nat.le_trans h.len h5)
/-- where a Split leads. -/
def nxt (l : List St) (k j : Nat) : Prop := ∃ s, l[k]? = some s ∧ s.kind = 2 ∧ (s.one = (j : Nat) ∨ s.two = (j : Nat))
inductive Rch (l : List St) (k : Nat) : Nat → Prop where
  | refl : Rch l k k
  | step {a b : Nat} (h : Rch l k a) (n : nxt l a b) : Rch l k b
def Closed (l : List St) (o : List Nat) : Prop := ∀ x ∈ o, ∀ y, nxt l x y → y ∈ o
theorem Rch.closed {l : List St} {o : List Nat} (hc : Closed l o) {k x : Nat} (h : Rch l k x) (hk : k ∈ o) : x ∈ o := by
  induction h with
  | refl => exact hk
  | step _ n ih => exact hc _ ih _ n
/-- a machine's states lead to ones that there are. -/
def RightM (l : List St) : Prop := ∀ s ∈ l, (s.kind = 3 ∨ s.kind = 1 ∨ s.kind = 2) ∧ (s.kind < 3 → 0 ≤ s.one ∧ s.one < l.length) ∧ (s.kind = 2 → 0 ≤ s.two ∧ s.two < l.length)
/-- a machine, as a value. -/
def encM (l : List St) (a : Nat) : AV := .vptr [slv encSt l, .int .i64 (a : Nat)] 0
theorem nodup_len : ∀ (n : Nat) (o : List Nat), o.Nodup → (∀ x ∈ o, x < n) → o.length ≤ n
  | 0, o, _, h2 => by
    cases o with
    | nil => simp
    | cons x r => have := h2 x (by simp); omega
  | n + 1, o, h1, h2 => by
    by_cases h : n ∈ o
    · have h3 := nodup_len n (o.erase n) (h1.erase n) fun x hx => by
        rw [h1.mem_erase_iff] at hx
        have := h2 x hx.2
        omega
      rw [List.length_erase_of_mem h] at h3
      omega
    · have h3 := nodup_len n o h1 fun x hx => by
        have := h2 x hx
        have : x ≠ n := fun e => h (e ▸ hx)
        omega
      omega
theorem rowK_app {base : Nat} {H : Heap} {v : AV} {o : List Nat} (h : Row encK 1 false base H v o) {prot : Nat} {x : AV} {m : List Nat} (hx : elemCells H 1 x = some (m.length, cellsOf encK m)) (hm : 0 < m.length) (hr : o.length + m.length ≤ 1000000) (hp : prot ≤ base) (hb : base ≤ H.length) :
    ∃ v' H', aAppend Try.prog prot H #[90, 90] v x = some (v', some H') ∧ Row encK 1 false base H' v' (o ++ m) ∧ H.length ≤ H'.length ∧ (∀ z ver cs, (∀ s, v = .bs s → s.b ≠ z) → hget H z ver = some cs → hget H' z ver = some cs) ∧ (∀ r es, r < base → hmap H r = some es → hmap H' r = some es) ∧
      ∀ s', v' = .bs s' → (∃ s, v = .bs s ∧ s'.b = s.b) ∨ s'.b = H.length := by
  have hL : EncL encK 1 := ⟨encK_T.len, encK_T.leaf⟩
  rcases h with ⟨rfl, rfl⟩ | ⟨b, ver, rfl, h2, h3, hv4⟩
  · refine ⟨_, _, hL.app0 rowK hxtK hx hm (by simp [roomy]; simp at hr; omega), .inr ⟨H.length, 0, by simp, hb, by rw [hget_new rfl]; rfl, rfl⟩, by simp, fun z ver cs _ h => hget_mono h _, fun r es _ h => hmap_mono h _, fun s' h => .inr (by cases h; rfl)⟩
  · refine ⟨_, _, hL.app rowK hxtK h3 hv4 hx hm (by simp [roomy]; omega) (by omega), .inr ⟨b, ver + 4, by simp, h2, by rw [hget_set_same (hget_lt h3), if_pos rfl], by omega⟩, by simp, fun z ver cs hz h => by rw [hget_set_ne (Ne.symm (hz _ rfl))]; exact h, fun r es hr h => by rw [hmap_set_ne (by omega)]; exact h, fun s' h => .inl ⟨_, rfl, by cases h; rfl⟩⟩
theorem SetAt.keep {H K : Heap} {s r q : Nat} {v : AV} {o : List Nat} (h : SetAt H s r v o) (k1 : ∀ z ver cs, z ≠ q → hget H z ver = some cs → hget K z ver = some cs) (k2 : ∀ r es, r ≠ q → hmap H r = some es → hmap K r = some es) (hs : s ≠ q) (hr : r ≠ q) (hv : ∀ b, v = .bs b → b.b ≠ q) : SetAt K s r v o := by
  obtain ⟨h1, h2, h3⟩ := h
  refine ⟨k1 _ _ _ hs h1, k2 _ _ hr h2, ?_⟩
  rcases h3 with h3 | ⟨b, ver, rfl, g2, g3, g4⟩
  · exact .inl h3
  · exact .inr ⟨b, ver, rfl, g2, k1 _ _ _ (hv _ rfl) g3, g4⟩
theorem SetAt.more {H : Heap} {s r : Nat} {v : AV} {o : List Nat} (h : SetAt H s r v o) (x : List Blk) : SetAt (H ++ x) s r v o := ⟨hget_mono h.1 x, hmap_mono h.2.1 x, h.2.2.more x⟩
theorem SetAt.blk {H : Heap} {s r : Nat} {v : AV} {o : List Nat} (h : SetAt H s r v o) : ∀ b, v = .bs b → s + 1 ≤ b.b ∧ b.b < H.length := by
  intro b hb
  rcases h.2.2 with ⟨q, _⟩ | ⟨c, ver, q, g2, g3, _⟩
  · rw [q] at hb; cases hb
  · rw [q] at hb; cases hb; exact ⟨g2, hget_lt g3⟩
theorem Frs.more (H : Heap) (s r : Nat) (v : AV) (x : List Blk) : Frs H (H ++ x) s r v v := ⟨by simp, fun _ _ _ _ _ _ h => hget_mono h x, fun b' h => .inl ⟨b', h, rfl⟩⟩
/-- one state more in a set. -/
theorem set_add {H : Heap} {s r prot j : Nat} {v : AV} {o : List Nat} (h : SetAt H s r v o) (hj : j ∉ o) (hp : prot ≤ r) (hrs : r < s) (hl : o.length ≤ 100000) :
    ∃ K1 K3 K4 v', aMapPut Try.prog prot H 136 (.map r) (.int .i64 (j : Nat)) (.int .i64 1) = some K1 ∧ hget K1 s 0 = some [.map r, v] ∧ aAppend Try.prog prot (K1 ++ [Blk.cells 0 ([j].map encK)]) #[90, 90] v (.bs ⟨K1.length, 0, 0, 1, 1, 1, false, true⟩) = some (v', some K3) ∧
      (v'.leaf = true ∧ v'.cells = [v']) ∧ hput prot K3 s 0 1 [v'] = some K4 ∧ SetAt K4 s r v' (o ++ [j]) ∧ Frs H K4 s r v v' := by
  obtain ⟨h1, h2, h3⟩ := h
  have hb := SetAt.blk ⟨h1, h2, h3⟩
  have hm := hmap_lt h2
  have hs := hget_lt h1
  have hp1 := put_new h2 hj hp
  have k1s : hget (H.set r (Blk.map ((o ++ [j]).map ent))) s 0 = some [.map r, v] := by rw [hget_set_ne (by omega)]; exact h1
  have k1m := hmap_set (es' := (o ++ [j]).map ent) h2
  have k1r := h3.setne (b' := r) (by omega) (Blk.map ((o ++ [j]).map ent))
  have k1k : ∀ z ver cs, z ≠ r → hget H z ver = some cs → hget (H.set r (Blk.map ((o ++ [j]).map ent))) z ver = some cs := fun z ver cs hz hg => by rw [hget_set_ne hz]; exact hg
  have k1l : (H.set r (Blk.map ((o ++ [j]).map ent))).length = H.length := by simp
  generalize H.set r (Blk.map ((o ++ [j]).map ent)) = K1 at *
  obtain ⟨v', K3, happ, hrow3, hle3, hk3, hm3, hb3⟩ := rowK_app (prot := prot) (k1r.more [Blk.cells 0 ([j].map encK)]) (elemK [j] K1 []) (by simp) (by simp; omega) (by omega) (by simp; omega)
  have k3s := hk3 s 0 _ (fun b hbb => by have := hb b hbb; omega) (hget_mono k1s [Blk.cells 0 ([j].map encK)])
  have hvl : v'.leaf = true ∧ v'.cells = [v'] := by rcases hrow3 with ⟨q, _⟩ | ⟨b, ver, q, _⟩ <;> rw [q] <;> exact ⟨rfl, rfl⟩
  have hput1 : hput prot K3 s 0 1 [v'] = some (K3.set s (.cells 0 [.map r, v'])) := by
    rw [hput_eq k3s (by omega) (by simp) (by simp [hvl.1])]; rfl
  refine ⟨K1, K3, _, v', hp1, k1s, happ, hvl, hput1, ⟨hget_set_at (hget_lt k3s), ?_, hrow3.setne (by omega) _⟩, ?_, ?_, ?_⟩
  · rw [hmap_set_ne (by omega)]; exact hm3 _ _ (by omega) (hmap_mono k1m _)
  · simp at hle3 ⊢; omega
  · intro z ver cs h1 h2 h3 h4
    rw [hget_set_ne h1]
    exact hk3 z ver cs h3 (hget_mono (k1k z ver cs h2 h4) _)
  · intro b' hb'
    rcases hb3 b' hb' with h5 | h5
    · exact .inl h5
    · right; rw [h5]; simp; omega
theorem u90 : type_of% (And.intro (show tagT Try.prog 116 = 0 from by kernel_rfl) (And.intro (show tagT Try.prog 138 = 0 from by kernel_rfl) (And.intro (show tagT Try.prog 3 = 0 from by kernel_rfl) (And.intro (fun (xo yo : Operand) (b v o : Nat) => ptr_nil_eq (xo := xo) (yo := yo) Try.underlying75 b v o) (And.intro (fun (xo yo : Operand)  => nil_nil_eq (xo := xo) (yo := yo) Try.underlying75 ) (And.intro (show tagT Try.prog 75 = 0 from by kernel_rfl) (And.intro (show tagT Try.prog 9 = 0 from by kernel_rfl) (And.intro (show tagT Try.prog 4 = 0 from by kernel_rfl) (And.intro (show tagT Try.prog 143 = 0 from by kernel_rfl) (And.intro (show tagT Try.prog 41 = 0 from by kernel_rfl) (And.intro ag1 (And.intro sz1 (And.intro by1 (And.intro ze1 (And.intro Try.underlying1 (And.intro ag2 (And.intro sz2 (And.intro by2 (And.intro ze2 (And.intro Try.underlying2 (And.intro ag3 (And.intro sz3 (And.intro by3 (And.intro ze3 (And.intro Try.underlying3 (And.intro ag4 (And.intro sz4 (And.intro by4 (And.intro ze4 (And.intro Try.underlying4 (And.intro ag5 (And.intro sz5 (And.intro by5 (And.intro ze5 (And.intro Try.underlying5 (And.intro ag9 (And.intro sz9 (And.intro by9 (And.intro ze9 (And.intro Try.underlying9 (And.intro ag21 (And.intro sz21 (And.intro by21 (And.intro ze21 (And.intro Try.underlying21 (And.intro ag29 (And.intro sz29 (And.intro by29 (And.intro ze29 (And.intro Try.underlying29 (And.intro ag38 (And.intro sz38 (And.intro by38 (And.intro se38 (And.intro ze38 (And.intro Try.underlying38 (And.intro ag41 (And.intro sz41 (And.intro by41 (And.intro ze41 (And.intro bu41 (And.intro Try.underlying41 (And.intro ag53 (And.intro sz53 (And.intro by53 (And.intro se53 (And.intro ze53 (And.intro Try.underlying53 (And.intro ag75 (And.intro sz75 (And.intro by75 (And.intro ze75 (And.intro Try.underlying75 (And.intro ag80 (And.intro sz80 (And.intro by80 (And.intro se80 (And.intro ze80 (And.intro Try.underlying80 (And.intro ag90 (And.intro sz90 (And.intro by90 (And.intro se90 (And.intro ze90 (And.intro Try.underlying90 (And.intro ag116 (And.intro sz116 (And.intro by116 (And.intro ze116 (And.intro bu116 (And.intro Try.underlying116 (And.intro ag129 (And.intro sz129 (And.intro by129 (And.intro ze129 (And.intro bu129 (And.intro Try.underlying129 (And.intro ag133 (And.intro sz133 (And.intro by133 (And.intro ze133 (And.intro Try.underlying133 (And.intro ag135 (And.intro sz135 (And.intro by135 (And.intro ze135 (And.intro Try.underlying135 (And.intro ag136 (And.intro sz136 (And.intro by136 (And.intro ze136 (And.intro Try.underlying136 (And.intro ag138 (And.intro sz138 (And.intro by138 (And.intro ze138 (And.intro bu138 (And.intro Try.underlying138 (And.intro ag141 (And.intro sz141 (And.intro by141 (And.intro se141 (And.intro ze141 (And.intro Try.underlying141 (And.intro ag143 (And.intro sz143 (And.intro by143 (And.intro ze143 (And.intro bu143 (And.intro Try.underlying143 (And.intro fa116_0 (And.intro fd116_0 (And.intro fa116_1 (And.intro fd116_1 (And.intro fa116_2 (And.intro fd116_2 (And.intro fa116_3 (And.intro fd116_3 (And.intro fa116_4 (And.intro fd116_4 (And.intro fa138_0 (And.intro fd138_0 (And.intro fa138_1 (And.intro fd138_1 (And.intro fa143_0 (And.intro fd143_0 (And.intro fa143_1 fd143_1))))))))))))))))))))))))))))))))))))))))))))))))))))))))))))))))))))))))))))))))))))))))))))))))))))))))))))))))))))))))))))))))))))))))))))))))))) := And.intro (show tagT Try.prog 116 = 0 from by kernel_rfl) (And.intro (show tagT Try.prog 138 = 0 from by kernel_rfl) (And.intro (show tagT Try.prog 3 = 0 from by kernel_rfl) (And.intro (fun (xo yo : Operand) (b v o : Nat) => ptr_nil_eq (xo := xo) (yo := yo) Try.underlying75 b v o) (And.intro (fun (xo yo : Operand)  => nil_nil_eq (xo := xo) (yo := yo) Try.underlying75 ) (And.intro (show tagT Try.prog 75 = 0 from by kernel_rfl) (And.intro (show tagT Try.prog 9 = 0 from by kernel_rfl) (And.intro (show tagT Try.prog 4 = 0 from by kernel_rfl) (And.intro (show tagT Try.prog 143 = 0 from by kernel_rfl) (And.intro (show tagT Try.prog 41 = 0 from by kernel_rfl) (And.intro ag1 (And.intro sz1 (And.intro by1 (And.intro ze1 (And.intro Try.underlying1 (And.intro ag2 (And.intro sz2 (And.intro by2 (And.intro ze2 (And.intro Try.underlying2 (And.intro ag3 (And.intro sz3 (And.intro by3 (And.intro ze3 (And.intro Try.underlying3 (And.intro ag4 (And.intro sz4 (And.intro by4 (And.intro ze4 (And.intro Try.underlying4 (And.intro ag5 (And.intro sz5 (And.intro by5 (And.intro ze5 (And.intro Try.underlying5 (And.intro ag9 (And.intro sz9 (And.intro by9 (And.intro ze9 (And.intro Try.underlying9 (And.intro ag21 (And.intro sz21 (And.intro by21 (And.intro ze21 (And.intro Try.underlying21 (And.intro ag29 (And.intro sz29 (And.intro by29 (And.intro ze29 (And.intro Try.underlying29 (And.intro ag38 (And.intro sz38 (And.intro by38 (And.intro se38 (And.intro ze38 (And.intro Try.underlying38 (And.intro ag41 (And.intro sz41 (And.intro by41 (And.intro ze41 (And.intro bu41 (And.intro Try.underlying41 (And.intro ag53 (And.intro sz53 (And.intro by53 (And.intro se53 (And.intro ze53 (And.intro Try.underlying53 (And.intro ag75 (And.intro sz75 (And.intro by75 (And.intro ze75 (And.intro Try.underlying75 (And.intro ag80 (And.intro sz80 (And.intro by80 (And.intro se80 (And.intro ze80 (And.intro Try.underlying80 (And.intro ag90 (And.intro sz90 (And.intro by90 (And.intro se90 (And.intro ze90 (And.intro Try.underlying90 (And.intro ag116 (And.intro sz116 (And.intro by116 (And.intro ze116 (And.intro bu116 (And.intro Try.underlying116 (And.intro ag129 (And.intro sz129 (And.intro by129 (And.intro ze129 (And.intro bu129 (And.intro Try.underlying129 (And.intro ag133 (And.intro sz133 (And.intro by133 (And.intro ze133 (And.intro Try.underlying133 (And.intro ag135 (And.intro sz135 (And.intro by135 (And.intro ze135 (And.intro Try.underlying135 (And.intro ag136 (And.intro sz136 (And.intro by136 (And.intro ze136 (And.intro Try.underlying136 (And.intro ag138 (And.intro sz138 (And.intro by138 (And.intro ze138 (And.intro bu138 (And.intro Try.underlying138 (And.intro ag141 (And.intro sz141 (And.intro by141 (And.intro se141 (And.intro ze141 (And.intro Try.underlying141 (And.intro ag143 (And.intro sz143 (And.intro by143 (And.intro ze143 (And.intro bu143 (And.intro Try.underlying143 (And.intro fa116_0 (And.intro fd116_0 (And.intro fa116_1 (And.intro fd116_1 (And.intro fa116_2 (And.intro fd116_2 (And.intro fa116_3 (And.intro fd116_3 (And.intro fa116_4 (And.intro fd116_4 (And.intro fa138_0 (And.intro fd138_0 (And.intro fa138_1 (And.intro fd138_1 (And.intro fa143_0 (And.intro fd143_0 (And.intro fa143_1 fd143_1))))))))))))))))))))))))))))))))))))))))))))))))))))))))))))))))))))))))))))))))))))))))))))))))))))))))))))))))))))))))))))))))))))))))))))))))))
def g90 : Code :=
  .seq (.region 0 #[q 8 (.move (.tmp 2)) 3, q 9 (.buildSlice 90 1 #[(0, .tmp 8)]) 90, q 6 (.assign (.tmp 9)) 90] false) (.block 0 (.loop (.seq (.seq (.region 1 #[q 10 (.move (.tmp 6)) 90, q 11 (bi .len #[.tmp 10] #[90]) 3, q 12 (.binOp .gtr 3 (.tmp 11) (ik 0) 3) 4] false) (.cond (.tmp 12) .skip (.exit 0))) (.block 1 (.seq (.region 2 #[q 13 (.move (.tmp 6)) 90, q 14 (.move (.tmp 6)) 90, q 15 (bi .len #[.tmp 14] #[90]) 3, q 16 (.binOp .sub 3 (.tmp 15) (ik 1) 3) 3, q 17 (.indexAddr 90 (.tmp 13) (.tmp 16)) 0, q 18 (.load 3 (.tmp 17)) 3, q 2 (.assign (.tmp 18)) 3] false) (.seq (.region 3 #[q 19 (.move (.tmp 6)) 90, q 20 (.move (.tmp 6)) 90, q 21 (bi .len #[.tmp 20] #[90]) 3, q 22 (.binOp .sub 3 (.tmp 21) (ik 1) 3) 3, q 23 (.slice 90 (.tmp 19) none (some (.tmp 22)) none) 90, q 6 (.assign (.tmp 23)) 90] false) (.seq (.seq (.region 4 #[q 24 (.move (.tmp 0)) 133, q 25 (.nilCheck (.tmp 24)) 0, q 26 (.fieldAddr 138 (.tmp 25) 0) 0, q 27 (.load 136 (.tmp 26)) 136, q 28 (.move (.tmp 2)) 3, q 29 (.lookup 136 (.tmp 27) (.tmp 28) false) 3, q 30 (.binOp .gtr 3 (.tmp 29) (ik 0) 3) 4] false) (.cond (.tmp 30) (.exit 1) .skip)) (.seq (.region 5 #[q 31 (.move (.tmp 0)) 133, q 32 (.nilCheck (.tmp 31)) 0, q 33 (.fieldAddr 138 (.tmp 32) 0) 0, q 34 (.load 136 (.tmp 33)) 136, q 35 (.move (.tmp 2)) 3, qn (.mapUpdate 136 (.tmp 34) (.tmp 35) (ik 1)) 0] false) (.seq (.region 6 #[q 36 (.move (.tmp 0)) 133, q 37 (.move (.tmp 0)) 133, q 38 (.nilCheck (.tmp 37)) 0, q 39 (.fieldAddr 138 (.tmp 38) 1) 0, q 40 (.load 90 (.tmp 39)) 90, q 41 (.move (.tmp 2)) 3, q 42 (.buildSlice 90 1 #[(0, .tmp 41)]) 90, q 43 (bi .append #[.tmp 40, .tmp 42] #[90, 90]) 90, q 44 (.nilCheck (.tmp 36)) 0, q 45 (.fieldAddr 138 (.tmp 44) 1) 0, qn (.store 90 (.tmp 45) (.tmp 43)) 0] false) (.seq (.region 7 #[q 46 (.move (.tmp 1)) 75, q 47 (.nilCheck (.tmp 46)) 0, q 48 (.fieldAddr 143 (.tmp 47) 0) 0, q 49 (.load 53 (.tmp 48)) 53, q 50 (.move (.tmp 2)) 3, q 51 (.indexAddr 53 (.tmp 49) (.tmp 50)) 0, q 52 (.load 116 (.tmp 51)) 116, q 7 (.alloc 116) 0, qn (.store 116 (.tmp 7) (.tmp 52)) 0] false) (.seq (.region 8 #[q 53 (.fieldAddr 116 (.tmp 7) 0) 0, q 54 (.load 3 (.tmp 53)) 3, q 55 (.binOp .eql 3 (.tmp 54) (ik 2) 3) 4] false) (.cond (.tmp 55) (.region 9 #[q 56 (.move (.tmp 6)) 90, q 57 (.fieldAddr 116 (.tmp 7) 4) 0, q 58 (.load 3 (.tmp 57)) 3, q 59 (.fieldAddr 116 (.tmp 7) 3) 0, q 60 (.load 3 (.tmp 59)) 3, q 61 (.buildSlice 90 2 #[(0, .tmp 58), (1, .tmp 60)]) 90, q 62 (bi .append #[.tmp 56, .tmp 61] #[90, 90]) 90, q 6 (.assign (.tmp 62)) 90] false) .skip))))))))))))
theorem s90 : Try.f90.body.map (slim cfg) = some g90 := by kernel_rfl
def g91 : Code :=
  .seq (.region 0 #[q 10 (.move (.tmp 0)) 133, q 11 (.nilCheck (.tmp 10)) 0, q 12 (.fieldAddr 138 (.tmp 11) 1) 0, q 13 (.load 90 (.tmp 12)) 90, q 6 (.assign (.tmp 13)) 90] false) (.seq (.region 1 #[q 14 (.move (.tmp 0)) 133, q 15 (.nilCheck (.tmp 14)) 0, q 16 (.fieldAddr 138 (.tmp 15) 1) 0, qn (.store 90 (.tmp 16) (.const (.slice none 0 0))) 0] false) (.seq (.region 2 #[q 17 (.move (.tmp 0)) 133, q 18 (.nilCheck (.tmp 17)) 0, q 19 (.fieldAddr 138 (.tmp 18) 0) 0, q 20 (.load 136 (.tmp 19)) 136, qn (bi .clear #[.tmp 20] #[136]) 0] false) (.seq (.region 3 #[q 21 (.move (.tmp 6)) 90, q 22 (bi .len #[.tmp 21] #[90]) 3, q 23 (.move (ik 0)) 3] false) (.block 0 (.loop (.seq (.region 4 #[q 24 (.binOp .lss 3 (.tmp 23) (.tmp 22) 3) 0] false) (.seq (.cond (.tmp 24) .skip (.exit 0)) (.seq (.block 1 (.seq (.region 5 #[q 25 (.indexAddr 90 (.tmp 21) (.tmp 23)) 0, q 26 (.load 3 (.tmp 25)) 3, q 8 (.assign (.tmp 26)) 3] false) (.seq (.region 6 #[q 27 (.move (.tmp 1)) 75, q 28 (.nilCheck (.tmp 27)) 0, q 29 (.fieldAddr 143 (.tmp 28) 0) 0, q 30 (.load 53 (.tmp 29)) 53, q 31 (.move (.tmp 8)) 3, q 32 (.indexAddr 53 (.tmp 30) (.tmp 31)) 0, q 33 (.load 116 (.tmp 32)) 116, q 9 (.alloc 116) 0, qn (.store 116 (.tmp 9) (.tmp 33)) 0] false) (.seq (.region 7 #[q 34 (.fieldAddr 116 (.tmp 9) 0) 0, q 35 (.load 3 (.tmp 34)) 3, q 36 (.binOp .eql 3 (.tmp 35) (ik 1) 3) 4, q 37 (.move (.tmp 36)) 4, qg 38 (.move (.tmp 2)) 21 3 true, qg 39 (.fieldAddr 116 (.tmp 9) 1) 0 3 true, qg 40 (.load 4 (.tmp 39)) 4 3 true, qg 41 (.fieldAddr 116 (.tmp 9) 2) 0 3 true, qg 42 (.load 38 (.tmp 41)) 38 3 true, qg 43 (cl 36 #[.tmp 38, .tmp 40, .tmp 42] #[21, 4, 38]) 4 3 true, q 44 (.pick (.tmp 37) (.tmp 43) (.const (.bool false))) 4] false) (.cond (.tmp 44) (.region 8 #[q 45 (.move (.tmp 0)) 133, q 46 (.move (.tmp 1)) 75, q 47 (.fieldAddr 116 (.tmp 9) 3) 0, q 48 (.load 3 (.tmp 47)) 3, q 49 (cl 90 #[.tmp 45, .tmp 46, .tmp 48] #[133, 75, 3]) 0] false) .skip))))) (.region 9 #[q 50 (.binOp .add 3 (.tmp 23) (ik 1) 3) 3, q 23 (.move (.tmp 50)) 3] false)))))))))
theorem s91 : Try.f91.body.map (slim cfg) = some g91 := by kernel_rfl
def g72 : Code :=
  .seq (.region 0 #[q 4 (.assign (.const (.bool false))) 4] false) (.seq (.seq (.region 1 #[q 7 (.move (.tmp 0)) 133, q 8 (.nilCheck (.tmp 7)) 0, q 9 (.fieldAddr 138 (.tmp 8) 1) 0, q 10 (.load 90 (.tmp 9)) 90, q 11 (bi .len #[.tmp 10] #[90]) 3, q 12 (.move (ik 0)) 3] false) (.block 0 (.loop (.seq (.region 2 #[q 13 (.binOp .lss 3 (.tmp 12) (.tmp 11) 3) 0] false) (.seq (.cond (.tmp 13) .skip (.exit 0)) (.seq (.block 1 (.seq (.region 3 #[q 14 (.indexAddr 90 (.tmp 10) (.tmp 12)) 0, q 15 (.load 3 (.tmp 14)) 3, q 6 (.assign (.tmp 15)) 3] false) (.seq (.region 4 #[q 16 (.move (.tmp 1)) 75, q 17 (.nilCheck (.tmp 16)) 0, q 18 (.fieldAddr 143 (.tmp 17) 0) 0, q 19 (.load 53 (.tmp 18)) 53, q 20 (.move (.tmp 6)) 3, q 21 (.indexAddr 53 (.tmp 19) (.tmp 20)) 0, q 22 (.fieldAddr 116 (.tmp 21) 0) 0, q 23 (.load 3 (.tmp 22)) 3, q 24 (.binOp .eql 3 (.tmp 23) (ik 3) 3) 4] false) (.cond (.tmp 24) (.seq (.region 5 #[q 4 (.assign (.const (.bool true))) 4] false) .ret) .skip)))) (.region 6 #[q 25 (.binOp .add 3 (.tmp 12) (ik 1) 3) 3, q 12 (.move (.tmp 25)) 3] false))))))) (.seq (.region 7 #[q 4 (.assign (.const (.bool false))) 4] false) .ret))
theorem s72 : Try.f72.body.map (slim cfg) = some g72 := by kernel_rfl
def g70 : Code :=
  .seq (.region 0 #[q 6 (.assign (.const (.bool false))) 4] false) (.seq (.region 1 #[q 13 (.makeMap 136 none) 136, q 14 (.build 138 #[(0, .tmp 13)]) 138, q 15 (.box 138 (.tmp 14)) 133, q 7 (.assign (.tmp 15)) 133] false) (.seq (.region 2 #[q 16 (.move (.tmp 7)) 133, q 17 (.move (.tmp 0)) 75, q 18 (.move (.tmp 0)) 75, q 19 (.nilCheck (.tmp 18)) 0, q 20 (.fieldAddr 143 (.tmp 19) 1) 0, q 21 (.load 3 (.tmp 20)) 3, q 22 (cl 90 #[.tmp 16, .tmp 17, .tmp 21] #[133, 75, 3]) 0] false) (.seq (.region 3 #[q 23 (.move (.tmp 2)) 135, q 24 (.move (.tmp 7)) 133, q 25 (cv (.tmp 23) #[ik 0, .tmp 24] #[3, 133]) 0] false) (.seq (.region 4 #[q 26 (.move (.tmp 1)) 9, q 27 (.convert 9 141 (.tmp 26)) 141, q 8 (.assign (.tmp 27)) 141] false) (.seq (.seq (.region 5 #[q 9 (.assign (ik 0)) 3] false) (.block 0 (.loop (.seq (.seq (.region 6 #[q 28 (.move (.tmp 9)) 3, q 29 (.move (.tmp 8)) 141, q 30 (bi .len #[.tmp 29] #[141]) 3, q 31 (.binOp .lss 3 (.tmp 28) (.tmp 30) 3) 4] false) (.cond (.tmp 31) .skip (.exit 0))) (.block 1 (.seq (.region 7 #[q 33 (.move (.tmp 8)) 141, q 34 (.move (.tmp 9)) 3, q 35 (.slice 141 (.tmp 33) (some (.tmp 34)) none none) 141, q 36 (cl 81 #[.tmp 35] #[141]) 151, q 32 (.move (.tmp 36)) 151, q 37 (.extract (.tmp 32) 0) 21, q 38 (.extract (.tmp 32) 1) 3, q 39 (.extract (.tmp 32) 2) 29, q 10 (.assign (.tmp 37)) 21, q 11 (.assign (.tmp 38)) 3, q 12 (.assign (.tmp 39)) 29] false) (.seq (.seq (.region 8 #[q 40 (.move (.tmp 12)) 29, q 41 (.binOp .neq 29 (.tmp 40) (ik 0) 29) 4] false) (.cond (.tmp 41) (.seq (.region 9 #[q 6 (.assign (.const (.bool false))) 4] false) .ret) .skip)) (.seq (.region 10 #[q 42 (.move (.tmp 9)) 3, q 43 (.move (.tmp 11)) 3, q 44 (.binOp .add 3 (.tmp 42) (.tmp 43) 3) 3, q 9 (.assign (.tmp 44)) 3] false) (.seq (.region 11 #[q 45 (.move (.tmp 7)) 133, q 46 (.move (.tmp 0)) 75, q 47 (.move (.tmp 10)) 21, q 48 (cl 91 #[.tmp 45, .tmp 46, .tmp 47] #[133, 75, 21]) 0] false) (.region 12 #[q 49 (.move (.tmp 2)) 135, q 50 (.move (.tmp 9)) 3, q 51 (.move (.tmp 7)) 133, q 52 (cv (.tmp 49) #[.tmp 50, .tmp 51] #[3, 133]) 0] false)))))))))) (.seq (.region 13 #[q 6 (.assign (.const (.bool true))) 4] false) .ret))))))
theorem s70 : Try.f70.body.map (slim cfg) = some g70 := by kernel_rfl
def g43 : Code :=
  .seq (.region 0 #[q 4 (.assign (ik 0)) 3] false) (.seq (.region 1 #[q 5 (.alloc 3) 0, qn (.store 3 (.tmp 5) (ik 0)) 0] false) (.seq (.seq (.region 2 #[q 6 (.move (.tmp 0)) 75, q 7 (.binOp .eql 75 (.tmp 6) (.const (.pointer none)) 75) 4, q 8 (.move (.tmp 7)) 4, qg 9 (.move (.tmp 0)) 75 2 false, qg 10 (.move (.tmp 1)) 9 2 false, qg 11 (.makeFunc (.func 73) #[] #[.tmp 5]) 135 2 false, qg 12 (cl 70 #[.tmp 9, .tmp 10, .tmp 11] #[75, 9, 135]) 4 2 false, qg 13 (.unOp .not 4 (.tmp 12)) 4 2 false, q 14 (.pick (.tmp 8) (.const (.bool true)) (.tmp 13)) 4] false) (.cond (.tmp 14) (.seq (.region 3 #[q 4 (.assign (ik 0)) 3] false) .ret) .skip)) (.seq (.region 4 #[q 15 (.load 3 (.tmp 5)) 3, q 4 (.assign (.tmp 15)) 3] false) .ret)))
theorem s43 : Try.f43.body.map (slim cfg) = some g43 := by kernel_rfl
def g73 : Code :=
  .region 0 #[q 5 (.load 3 (.tmp 2)) 3, q 6 (.move (.tmp 1)) 133, q 7 (.nilCheck (.tmp 6)) 0, q 8 (.fieldAddr 138 (.tmp 7) 1) 0, q 9 (.load 90 (.tmp 8)) 90, q 10 (bi .len #[.tmp 9] #[90]) 3, q 11 (.binOp .add 3 (.tmp 5) (.tmp 10) 3) 3, qn (.store 3 (.tmp 2) (.tmp 11)) 0] false
theorem s73 : Try.f73.body.map (slim cfg) = some g73 := by kernel_rfl
def g41 : Code :=
  .seq (.region 0 #[q 2 (.box 75 (.tmp 0)) 0, q 3 (.box 9 (.tmp 1)) 0, q 4 (.assign (.const (.bool false))) 4] false) (.seq (.region 1 #[q 5 (.alloc 4) 0, qn (.store 4 (.tmp 5) (.const (.bool false))) 0] false) (.seq (.seq (.region 2 #[q 7 (.load 75 (.tmp 2)) 75, q 8 (.binOp .eql 75 (.tmp 7) (.const (.pointer none)) 75) 4] false) (.cond (.tmp 8) (.seq (.region 3 #[q 4 (.assign (.const (.bool false))) 4] false) .ret) .skip)) (.seq (.region 4 #[q 9 (.load 75 (.tmp 2)) 75, q 10 (.load 9 (.tmp 3)) 9, q 11 (.makeFunc (.func 71) #[] #[.tmp 3, .tmp 2, .tmp 5]) 135, q 12 (cl 70 #[.tmp 9, .tmp 10, .tmp 11] #[75, 9, 135]) 4, q 6 (.assign (.tmp 12)) 4] false) (.seq (.region 5 #[q 13 (.move (.tmp 6)) 4, q 14 (.move (.tmp 13)) 4, qg 15 (.load 4 (.tmp 5)) 4 1 true, q 16 (.pick (.tmp 14) (.tmp 15) (.const (.bool false))) 4, q 4 (.assign (.tmp 16)) 4] false) .ret))))
theorem s41 : Try.f41.body.map (slim cfg) = some g41 := by kernel_rfl
def g71 : Code :=
  .region 0 #[q 7 (.move (.tmp 0)) 3, q 8 (.load 9 (.tmp 2)) 9, q 9 (bi .len #[.tmp 8] #[9]) 3, q 10 (.binOp .eql 3 (.tmp 7) (.tmp 9) 3) 4, q 11 (.move (.tmp 10)) 4, qg 12 (.move (.tmp 1)) 133 4 true, qg 13 (.load 75 (.tmp 3)) 75 4 true, qg 14 (cl 72 #[.tmp 12, .tmp 13] #[133, 75]) 4 4 true, q 15 (.pick (.tmp 11) (.tmp 14) (.const (.bool false))) 4, qn (.store 4 (.tmp 4) (.tmp 15)) 0] false
theorem s71 : Try.f71.body.map (slim cfg) = some g71 := by kernel_rfl
def g52 : Code :=
  .seq (.region 0 #[q 2 (.box 75 (.tmp 0)) 0, q 4 (.assign (ik 0)) 3, q 5 (.assign (.const (.bool false))) 4] false) (.seq (.region 1 #[q 6 (.alloc 3) 0, q 7 (.alloc 4) 0, qn (.store 3 (.tmp 6) (ik 0)) 0, qn (.store 4 (.tmp 7) (.const (.bool false))) 0] false) (.seq (.seq (.region 2 #[q 8 (.load 75 (.tmp 2)) 75, q 9 (.binOp .eql 75 (.tmp 8) (.const (.pointer none)) 75) 4] false) (.cond (.tmp 9) (.seq (.region 3 #[q 4 (.assign (ik 0)) 3, q 5 (.assign (.const (.bool false))) 4] false) .ret) .skip)) (.seq (.region 4 #[q 10 (.load 75 (.tmp 2)) 75, q 11 (.move (.tmp 1)) 9, q 12 (.makeFunc (.func 78) #[] #[.tmp 2, .tmp 6, .tmp 7]) 135, q 13 (cl 70 #[.tmp 10, .tmp 11, .tmp 12] #[75, 9, 135]) 4] false) (.seq (.region 5 #[q 14 (.load 3 (.tmp 6)) 3, q 15 (.load 4 (.tmp 7)) 4, q 4 (.assign (.tmp 14)) 3, q 5 (.assign (.tmp 15)) 4] false) .ret))))
theorem s52 : Try.f52.body.map (slim cfg) = some g52 := by kernel_rfl
def g78 : Code :=
  .seq (.region 0 #[q 7 (.move (.tmp 1)) 133, q 8 (.load 75 (.tmp 2)) 75, q 9 (cl 72 #[.tmp 7, .tmp 8] #[133, 75]) 4] false) (.cond (.tmp 9) (.region 1 #[q 10 (.move (.tmp 0)) 3, qn (.store 3 (.tmp 3) (.tmp 10)) 0, qn (.store 4 (.tmp 4) (.const (.bool true))) 0] false) .skip)
theorem s78 : Try.f78.body.map (slim cfg) = some g78 := by kernel_rfl
def g45 : Code :=
  .seq (.region 0 #[q 2 (.assign (ik 0)) 3] false) (.seq (.seq (.region 1 #[q 3 (.move (.tmp 0)) 75, q 4 (.binOp .eql 75 (.tmp 3) (.const (.pointer none)) 75) 4] false) (.cond (.tmp 4) (.seq (.region 2 #[q 2 (.assign (ik 0)) 3] false) .ret) .skip)) (.seq (.region 3 #[q 5 (.move (.tmp 0)) 75, q 6 (.nilCheck (.tmp 5)) 0, q 7 (.fieldAddr 143 (.tmp 6) 0) 0, q 8 (.load 53 (.tmp 7)) 53, q 9 (bi .len #[.tmp 8] #[53]) 3, q 2 (.assign (.tmp 9)) 3] false) .ret))
theorem s45 : Try.f45.body.map (slim cfg) = some g45 := by kernel_rfl
def g47 : Code :=
  .seq (.region 0 #[q 4 (.assign (.const (.pointer none))) 75, q 5 (.assign (ik 0)) 29] false) (.seq (.seq (.region 1 #[q 9 (.move (.tmp 0)) 53, q 10 (bi .len #[.tmp 9] #[53]) 3, q 11 (.binOp .gtr 3 (.tmp 10) (ik 401) 3) 4, q 12 (.move (.tmp 11)) 4, qg 13 (.move (.tmp 0)) 53 3 false, qg 14 (.move (.tmp 1)) 3 3 false, qg 15 (cl 75 #[.tmp 13, .tmp 14] #[53, 3]) 4 3 false, qg 16 (.unOp .not 4 (.tmp 15)) 4 3 false, q 17 (.pick (.tmp 12) (.const (.bool true)) (.tmp 16)) 4] false) (.cond (.tmp 17) (.seq (.region 2 #[q 4 (.assign (.const (.pointer none))) 75, q 5 (.assign (ik 1)) 29] false) .ret) .skip)) (.seq (.region 3 #[q 18 (.move (.tmp 1)) 3, q 19 (.build 143 #[(1, .tmp 18)]) 143, q 20 (.box 143 (.tmp 19)) 75, q 6 (.assign (.tmp 20)) 75] false) (.seq (.seq (.region 4 #[q 21 (.move (.tmp 0)) 53, q 22 (bi .len #[.tmp 21] #[53]) 3, q 23 (.move (ik 0)) 3] false) (.block 0 (.loop (.seq (.region 5 #[q 24 (.binOp .lss 3 (.tmp 23) (.tmp 22) 3) 0] false) (.seq (.cond (.tmp 24) .skip (.exit 0)) (.seq (.block 1 (.seq (.region 6 #[q 25 (.indexAddr 53 (.tmp 21) (.tmp 23)) 0, q 26 (.load 116 (.tmp 25)) 116, q 8 (.alloc 116) 0, qn (.store 116 (.tmp 8) (.tmp 26)) 0] false) (.seq (.seq (.region 7 #[q 27 (.move (.tmp 0)) 53, q 28 (.load 116 (.tmp 8)) 116, q 29 (cl 76 #[.tmp 27, .tmp 28] #[53, 116]) 4, q 30 (.unOp .not 4 (.tmp 29)) 4] false) (.cond (.tmp 30) (.seq (.region 8 #[q 4 (.assign (.const (.pointer none))) 75, q 5 (.assign (ik 1)) 29] false) .ret) .skip)) (.seq (.region 9 #[q 31 (.fieldAddr 116 (.tmp 8) 2) 0, q 32 (.load 38 (.tmp 31)) 38, q 33 (bi .append #[.const (.slice none 0 0), .tmp 32] #[38, 38]) 38, q 34 (.fieldAddr 116 (.tmp 8) 2) 0, qn (.store 38 (.tmp 34) (.tmp 33)) 0] false) (.region 10 #[{ dst := some 35, op := .move (.tmp 6), type := 75, pos := "nfa.go:44", after := #[], guard := none }, { dst := some 36, op := .move (.tmp 6), type := 75, pos := "nfa.go:44", after := #[], guard := none }, { dst := some 37, op := .nilCheck (.tmp 36), type := 0, pos := "nfa.go:44", after := #[{ on := 1, ground := .data }], guard := none }, { dst := some 38, op := .fieldAddr 143 (.tmp 37) 0, type := 0, pos := "nfa.go:44", after := #[{ on := 2, ground := .data }], guard := none }, { dst := some 39, op := .load 53 (.tmp 38), type := 53, pos := "nfa.go:44", after := #[{ on := 3, ground := .data }], guard := none }, { dst := some 40, op := .load 116 (.tmp 8), type := 116, pos := "nfa.go:44", after := #[], guard := none }, { dst := some 41, op := .buildSlice 53 1 #[(0, .tmp 40)], type := 53, pos := "nfa.go:44", after := #[{ on := 5, ground := .data }], guard := none }, { dst := some 42, op := bi .append #[.tmp 39, .tmp 41] #[53, 53], type := 53, pos := "nfa.go:44", after := #[{ on := 4, ground := .data }, { on := 6, ground := .data }], guard := none }, { dst := some 43, op := .nilCheck (.tmp 35), type := 0, pos := "nfa.go:44", after := #[{ on := 0, ground := .data }, { on := 0, ground := .phase }, { on := 1, ground := .phase }, { on := 2, ground := .phase }, { on := 3, ground := .phase }, { on := 4, ground := .phase }, { on := 5, ground := .phase }, { on := 6, ground := .phase }, { on := 7, ground := .phase }], guard := none }, { dst := some 44, op := .fieldAddr 143 (.tmp 43) 0, type := 0, pos := "nfa.go:44", after := #[{ on := 8, ground := .data }, { on := 0, ground := .phase }, { on := 1, ground := .phase }, { on := 2, ground := .phase }, { on := 3, ground := .phase }, { on := 4, ground := .phase }, { on := 5, ground := .phase }, { on := 6, ground := .phase }, { on := 7, ground := .phase }], guard := none }, { dst := none, op := .store 53 (.tmp 44) (.tmp 42), type := 0, pos := "nfa.go:44", after := #[{ on := 9, ground := .data }, { on := 7, ground := .data }, { on := 7, ground := .chain }, { on := 0, ground := .phase }, { on := 1, ground := .phase }, { on := 2, ground := .phase }, { on := 3, ground := .phase }, { on := 4, ground := .phase }, { on := 5, ground := .phase }, { on := 6, ground := .phase }, { on := 7, ground := .phase }], guard := none }] true))))) (.region 11 #[q 45 (.binOp .add 3 (.tmp 23) (ik 1) 3) 3, q 23 (.move (.tmp 45)) 3] false))))))) (.seq (.region 12 #[q 46 (.move (.tmp 6)) 75, q 4 (.assign (.tmp 46)) 75, q 5 (.assign (ik 0)) 29] false) .ret))))
theorem s47 : Try.f47.body.map (slim cfg) = some g47 := by kernel_rfl
def g76 : Code :=
  .seq (.region 0 #[q 3 (.box 116 (.tmp 1)) 0, q 4 (.assign (.const (.bool false))) 4] false) (.seq (.seq (.region 1 #[q 5 (.fieldAddr 116 (.tmp 3) 0) 0, q 6 (.load 3 (.tmp 5)) 3] false) (.block 0 (.seq (.block 2 (.seq (.block 1 (.seq (.seq (.seq (.region 2 #[q 8 (.binOp .eql 3 (.tmp 6) (ik 2) 3) 4, q 7 (.assign (.tmp 8)) 4] false) (.cond (.tmp 7) (.exit 1) .skip)) (.seq (.region 3 #[q 10 (.binOp .eql 3 (.tmp 6) (ik 1) 3) 4, q 9 (.assign (.tmp 10)) 4] false) (.cond (.tmp 9) (.exit 2) .skip))) (.exit 0))) (.seq (.region 4 #[q 11 (.move (.tmp 0)) 53, q 12 (.fieldAddr 116 (.tmp 3) 4) 0, q 13 (.load 3 (.tmp 12)) 3, q 14 (cl 75 #[.tmp 11, .tmp 13] #[53, 3]) 4, q 15 (.unOp .not 4 (.tmp 14)) 4] false) (.cond (.tmp 15) (.seq (.region 5 #[q 4 (.assign (.const (.bool false))) 4] false) .ret) .skip)))) (.seq (.seq (.region 6 #[q 16 (.move (.tmp 0)) 53, q 17 (.fieldAddr 116 (.tmp 3) 3) 0, q 18 (.load 3 (.tmp 17)) 3, q 19 (cl 75 #[.tmp 16, .tmp 18] #[53, 3]) 4, q 4 (.assign (.tmp 19)) 4] false) .ret) (.exit 0))))) (.seq (.region 7 #[q 20 (.fieldAddr 116 (.tmp 3) 0) 0, q 21 (.load 3 (.tmp 20)) 3, q 22 (.binOp .eql 3 (.tmp 21) (ik 3) 3) 4, q 4 (.assign (.tmp 22)) 4] false) .ret))
theorem s76 : Try.f76.body.map (slim cfg) = some g76 := by kernel_rfl
def g75 : Code :=
  .seq (.region 0 #[q 4 (.assign (.const (.bool false))) 4] false) (.seq (.region 1 #[q 5 (.move (.tmp 1)) 3, q 6 (.binOp .geq 3 (.tmp 5) (ik 0) 3) 4, q 7 (.move (.tmp 6)) 4, qg 8 (.move (.tmp 1)) 3 2 true, qg 9 (.move (.tmp 0)) 53 2 true, qg 10 (bi .len #[.tmp 9] #[53]) 3 2 true, qg 11 (.binOp .lss 3 (.tmp 8) (.tmp 10) 3) 4 2 true, q 12 (.pick (.tmp 7) (.tmp 11) (.const (.bool false))) 4, q 4 (.assign (.tmp 12)) 4] false) .ret)
theorem s75 : Try.f75.body.map (slim cfg) = some g75 := by kernel_rfl
def g40 : Code :=
  .seq (.region 0 #[q 2 (.assign (.const (.pointer none))) 75, q 3 (.assign (ik 0)) 29] false) (.seq (.region 1 #[q 9 (.move (.tmp 0)) 9, q 10 (cl 20 #[.tmp 9] #[9]) 42, q 8 (.move (.tmp 10)) 42, q 11 (.extract (.tmp 8) 0) 41, q 12 (.extract (.tmp 8) 1) 29, q 4 (.alloc 41) 0, qn (.store 41 (.tmp 4) (.tmp 11)) 0, q 5 (.assign (.tmp 12)) 29] false) (.seq (.seq (.region 2 #[q 13 (.move (.tmp 5)) 29, q 14 (.binOp .neq 29 (.tmp 13) (ik 0) 29) 4] false) (.cond (.tmp 14) (.seq (.region 3 #[q 15 (.move (.tmp 5)) 29, q 2 (.assign (.const (.pointer none))) 75, q 3 (.assign (.tmp 15)) 29] false) .ret) .skip)) (.seq (.region 4 #[q 17 (.load 41 (.tmp 4)) 41, q 18 (cl 25 #[.tmp 17] #[41]) 54, q 16 (.move (.tmp 18)) 54, q 19 (.extract (.tmp 16) 0) 53, q 20 (.extract (.tmp 16) 1) 3, q 21 (.extract (.tmp 16) 2) 29, q 6 (.assign (.tmp 19)) 53, q 7 (.assign (.tmp 20)) 3, q 5 (.assign (.tmp 21)) 29] false) (.seq (.seq (.region 5 #[q 22 (.move (.tmp 5)) 29, q 23 (.binOp .neq 29 (.tmp 22) (ik 0) 29) 4] false) (.cond (.tmp 23) (.seq (.region 6 #[q 24 (.move (.tmp 5)) 29, q 2 (.assign (.const (.pointer none))) 75, q 3 (.assign (.tmp 24)) 29] false) .ret) .skip)) (.seq (.region 7 #[q 25 (.move (.tmp 6)) 53, q 26 (.move (.tmp 7)) 3, q 27 (cl 47 #[.tmp 25, .tmp 26] #[53, 3]) 76, q 28 (.extract (.tmp 27) 0) 75, q 29 (.extract (.tmp 27) 1) 29, q 2 (.assign (.tmp 28)) 75, q 3 (.assign (.tmp 29)) 29] false) .ret)))))
theorem s40 : Try.f40.body.map (slim cfg) = some g40 := by kernel_rfl
def g39 : Code :=
  .seq (.region 0 #[q 2 (.assign (.const (.string { data := #[] }))) 9] false) (.seq (.seq (.region 1 #[q 3 (.move (.tmp 0)) 9, q 4 (bi .len #[.tmp 3] #[9]) 3, q 5 (.binOp .gtr 3 (.tmp 4) (ik 24) 3) 4] false) (.cond (.tmp 5) (.seq (.region 2 #[q 6 (.move (.tmp 0)) 9, q 7 (.slice 9 (.tmp 6) none (some (ik 24)) none) 9, q 2 (.assign (.tmp 7)) 9] false) .ret) .skip)) (.seq (.region 3 #[q 8 (.move (.tmp 0)) 9, q 2 (.assign (.tmp 8)) 9] false) .ret))
theorem s39 : Try.f39.body.map (slim cfg) = some g39 := by kernel_rfl
def g10 : Code :=
  .seq (.region 0 #[q 4 (.assign (.const (.bool false))) 4] false) (.seq (.seq (.region 1 #[q 9 (.move (.tmp 0)) 9, q 10 (bi .len #[.tmp 9] #[9]) 3, q 11 (.binOp .gtr 3 (.tmp 10) (ik 40) 3) 4] false) (.cond (.tmp 11) (.region 2 #[q 12 (.move (.tmp 0)) 9, q 13 (.slice 9 (.tmp 12) none (some (ik 40)) none) 9, q 0 (.assign (.tmp 13)) 9] false) .skip)) (.seq (.region 3 #[q 14 (.move (.tmp 1)) 9, q 15 (cl 39 #[.tmp 14] #[9]) 9, q 1 (.assign (.tmp 15)) 9] false) (.seq (.region 4 #[q 17 (.move (.tmp 0)) 9, q 18 (cl 40 #[.tmp 17] #[9]) 76, q 16 (.move (.tmp 18)) 76, q 19 (.extract (.tmp 16) 0) 75, q 20 (.extract (.tmp 16) 1) 29, q 5 (.assign (.tmp 19)) 75, q 6 (.assign (.tmp 20)) 29] false) (.seq (.seq (.region 5 #[q 21 (.move (.tmp 6)) 29, q 22 (.binOp .neq 29 (.tmp 21) (ik 0) 29) 4] false) (.cond (.tmp 22) (.seq (.region 6 #[q 23 (.move (.tmp 5)) 75, q 24 (.move (.tmp 1)) 9, q 25 (cl 43 #[.tmp 23, .tmp 24] #[75, 9]) 3, q 26 (.binOp .eql 3 (.tmp 25) (ik 0) 3) 4, q 27 (.move (.tmp 26)) 4, qg 28 (cl 42 #[] #[]) 4 4 true, q 29 (.pick (.tmp 27) (.tmp 28) (.const (.bool false))) 4, q 4 (.assign (.tmp 29)) 4] false) .ret) .skip)) (.seq (.region 7 #[q 31 (.move (.tmp 1)) 9, q 32 (cl 44 #[.tmp 31] #[9]) 81, q 30 (.move (.tmp 32)) 81, q 33 (.extract (.tmp 30) 0) 80, q 34 (.extract (.tmp 30) 1) 4, q 7 (.assign (.tmp 33)) 80, q 8 (.assign (.tmp 34)) 4] false) (.seq (.seq (.region 8 #[q 35 (.move (.tmp 8)) 4, q 36 (.unOp .not 4 (.tmp 35)) 4] false) (.cond (.tmp 36) (.seq (.region 9 #[q 37 (.move (.tmp 5)) 75, q 38 (.move (.tmp 1)) 9, q 39 (cl 43 #[.tmp 37, .tmp 38] #[75, 9]) 3, q 40 (.binOp .eql 3 (.tmp 39) (ik 0) 3) 4, q 41 (.move (.tmp 40)) 4, qg 42 (.move (.tmp 5)) 75 4 true, qg 43 (.move (.tmp 1)) 9 4 true, qg 44 (cl 41 #[.tmp 42, .tmp 43] #[75, 9]) 4 4 true, qg 45 (.unOp .not 4 (.tmp 44)) 4 4 true, q 46 (.pick (.tmp 41) (.tmp 45) (.const (.bool false))) 4, q 47 (.move (.tmp 46)) 4, qg 48 (cl 42 #[] #[]) 4 10 true, q 49 (.pick (.tmp 47) (.tmp 48) (.const (.bool false))) 4, q 4 (.assign (.tmp 49)) 4] false) .ret) .skip)) (.seq (.region 10 #[q 50 (.move (.tmp 5)) 75, q 51 (.move (.tmp 1)) 9, q 52 (cl 43 #[.tmp 50, .tmp 51] #[75, 9]) 3, q 53 (.move (.tmp 5)) 75, q 54 (cl 45 #[.tmp 53] #[75]) 3, q 55 (.move (.tmp 7)) 80, q 56 (bi .len #[.tmp 55] #[80]) 3, q 57 (.binOp .add 3 (.tmp 56) (ik 1) 3) 3, q 58 (.binOp .mul 3 (.tmp 54) (.tmp 57) 3) 3, q 59 (.binOp .leq 3 (.tmp 52) (.tmp 58) 3) 4, q 60 (.move (.tmp 59)) 4, qg 61 (.move (.tmp 5)) 75 10 true, qg 62 (.move (.tmp 1)) 9 10 true, qg 63 (cl 43 #[.tmp 61, .tmp 62] #[75, 9]) 3 10 true, qg 64 (.binOp .geq 3 (.tmp 63) (ik 1) 3) 4 10 true, q 65 (.pick (.tmp 60) (.tmp 64) (.const (.bool false))) 4, q 66 (.move (.tmp 65)) 4, qg 67 (cl 42 #[] #[]) 4 16 true, q 68 (.pick (.tmp 66) (.tmp 67) (.const (.bool false))) 4, q 4 (.assign (.tmp 68)) 4] false) .ret)))))))
theorem s10 : Try.f10.body.map (slim cfg) = some g10 := by kernel_rfl

theorem enter_ok (l : List St) (hr : RightM l) (a k : Nat) (hk : k < l.length) (hln : l.length ≤ 100000) (s r prot : Nat) (v : AV) (o : List Nat) (H : Heap) (hp : prot ≤ r) (hrs : r < s) (hset : SetAt H s r v o) (hnd : o.Nodup) (hlt : ∀ x ∈ o, x < l.length) (hcl : Closed l o) :
    ∃ H', (∃ v' o', SetAt H' s r v' o' ∧ o'.Nodup ∧ (∀ x ∈ o', x < l.length) ∧ (∀ x, x ∈ o' ↔ x ∈ o ∨ Rch l k x) ∧ Frs H H' s r v v') ∧ aLim cfg prot 90 [.ptr s 0 0, encM l a, .int .i64 (k : Nat)] H = some (.tup [], some H') := by
  have hsl := hget_lt hset.1
  have hvS := slv_sl encSt l
  have hlit := litK1 k H
  refine raw_slimE rfl (by kernel_rfl) (by kernel_rfl) (by kernel_rfl) Try.func90 s90 (by simp [Try.f90]) fun fr hlen h => ?_
  simp only [Has, Nat.zero_add] at h
  obtain ⟨a0, a1, a2, -⟩ := h
  simp only [Try.f90] at hlen ⊢
  unfold g90
  unfold encM at a1
  simp only [wk, aBuiltin, AV.cells, AV.leaf, Nat.reduceEqDiff, Nat.reduceLT, Nat.reduceAdd, Nat.reduceLeDiff, reduceCtorEq, Nat.reduceMul, cfgP, u90, hlen, a0, a1, a2, hlit]
  refine loop_ruleE (fun m fr H' => ∃ (st : List Nat) (w v' : AV) (o' : List Nat) (sb : Nat), m = 3 * (l.length - o'.length) + st.length ∧ fr.length = 63 ∧ fget fr 0 = .ptr s 0 0 ∧ fget fr 1 = .vptr [slv encSt l, .int .i64 (a : Nat)] 0 ∧ fget fr 6 = w ∧
    StkAt sb H' w st ∧ st.length ≤ 2 * o'.length + 1 ∧ H.length ≤ sb ∧ (∀ b, v' = .bs b → b.b ≠ sb) ∧ SetAt H' s r v' o' ∧ o'.Nodup ∧ (∀ x ∈ o', x < l.length) ∧ (∀ x ∈ st, x < l.length) ∧ (∀ x ∈ o, x ∈ o') ∧ (∀ x ∈ o', x ∈ o ∨ Rch l k x) ∧ (∀ x ∈ st, Rch l k x) ∧
    (k ∈ o' ∨ k ∈ st) ∧ (∀ x ∈ o', ∀ y, nxt l x y → y ∈ o' ∨ y ∈ st) ∧ Frs H H' s r v v') ?_ (3 * (l.length - o.length) + 1) _ _
    ⟨[k], .bs ⟨H.length, 0, 0, 1, 1, 1, false, true⟩, v, o, H.length, rfl, by simp [wk, aBuiltin, AV.cells, AV.leaf, Nat.reduceEqDiff, Nat.reduceLT, Nat.reduceAdd, Nat.reduceLeDiff, reduceCtorEq, Nat.reduceMul, cfgP, u90, hlen], by simp [wk, aBuiltin, AV.cells, AV.leaf, Nat.reduceEqDiff, Nat.reduceLT, Nat.reduceAdd, Nat.reduceLeDiff, reduceCtorEq, Nat.reduceMul, cfgP, u90, hlen, a0], by simp [wk, aBuiltin, AV.cells, AV.leaf, Nat.reduceEqDiff, Nat.reduceLT, Nat.reduceAdd, Nat.reduceLeDiff, reduceCtorEq, Nat.reduceMul, cfgP, u90, hlen, a1], by simp [wk, aBuiltin, AV.cells, AV.leaf, Nat.reduceEqDiff, Nat.reduceLT, Nat.reduceAdd, Nat.reduceLeDiff, reduceCtorEq, Nat.reduceMul, cfgP, u90, hlen], ⟨0, 1, true, [k].map encK, rfl, by rw [hget_new rfl, if_pos rfl], rfl, rfl, by simp⟩, by simp, Nat.le_refl _, fun b hb => by have := hset.blk b hb; omega, hset.more _, hnd, hlt, by simpa using hk, fun x h => h, fun x h => .inl h, fun x hx => by rw [List.mem_singleton.1 hx]; exact .refl, .inr (by simp), fun x hx y hy => .inl (hcl x hx y hy), Frs.more _ _ _ _ _⟩
  clear a0 a1 a2 hlen fr
  rintro m fr H' ⟨st, w, v', o', sb, rfl, hlen, b0, b1, b6, hst, hsl2, hsb, hvb, hse, hnd', hlt', hst', hsub, hor, hsr, hki, hcl', f⟩ ih
  have hlenw := fun K => hst.len' K
  have hol := nodup_len l.length o' hnd' hlt'
  by_cases h0 : st = []
  · subst h0
    have d1 : decide ((0 : Int) < ((0 : Nat) : Int)) = false := rfl
    simp only [List.length_nil] at hlenw
    simp only [wk, aBuiltin, AV.cells, AV.leaf, Nat.reduceEqDiff, Nat.reduceLT, Nat.reduceAdd, Nat.reduceLeDiff, reduceCtorEq, Nat.reduceMul, cfgP, u90, hlen, b0, b1, b6, hlenw, d1]
    refine ⟨_, ⟨v', o', hse, hnd', hlt', fun x => ⟨hor x, fun h => ?_⟩, f⟩, Fin_raw (l := []) (by simp [wk, aBuiltin, AV.cells, AV.leaf, Nat.reduceEqDiff, Nat.reduceLT, Nat.reduceAdd, Nat.reduceLeDiff, reduceCtorEq, Nat.reduceMul, cfgP, u90, hlen, aResults, aResult])⟩
    rcases h with h | h
    · exact hsub x h
    · refine h.closed (fun y hy z hz => ?_) ?_
      · rcases hcl' y hy z hz with h | h
        · exact h
        · cases h
      · rcases hki with h | h
        · exact h
        · cases h
  · obtain ⟨st0, j, rfl⟩ : ∃ st0 j, st = st0 ++ [j] := ⟨st.dropLast, st.getLast h0, (List.dropLast_concat_getLast h0).symm⟩
    clear h0
    simp only [List.length_append, List.length_singleton] at hsl2 ih hlenw ⊢
    have d1 : decide ((0 : Int) < ((st0.length + 1 : Nat) : Int)) = true := decide_eq_true (by omega)
    have hw1 : IntKind.i64.wrap (((st0.length + 1 : Nat) : Int) - 1) = (st0.length : Nat) := by rw [wrap64 (by omega) (by omega)]; omega
    obtain ⟨ver, cs, w', eI, eg, ec, es, hst1⟩ := hst.pop
    have hlook := look_ok hse.2.1 j
    have hj0 : j < l.length := hst' j (by simp)
    by_cases hj : j ∈ o'
    · rw [if_pos hj] at hlook
      have d2 : decide ((0 : Int) < 1) = true := rfl
      simp only [wk, aBuiltin, AV.cells, AV.leaf, Nat.reduceEqDiff, Nat.reduceLT, Nat.reduceAdd, Nat.reduceLeDiff, reduceCtorEq, Nat.reduceMul, cfgP, u90, hlen, b0, b1, b6, hlenw, d1, hw1, eI, eg, ec, es, hse.1, hlook, d2]
      refine ih _ _ (3 * (l.length - o'.length) + st0.length) (by omega) ⟨st0, w', v', o', sb, rfl, by simp [wk, aBuiltin, AV.cells, AV.leaf, Nat.reduceEqDiff, Nat.reduceLT, Nat.reduceAdd, Nat.reduceLeDiff, reduceCtorEq, Nat.reduceMul, cfgP, u90, hlen], by simp [wk, aBuiltin, AV.cells, AV.leaf, Nat.reduceEqDiff, Nat.reduceLT, Nat.reduceAdd, Nat.reduceLeDiff, reduceCtorEq, Nat.reduceMul, cfgP, u90, hlen, b0], by simp [wk, aBuiltin, AV.cells, AV.leaf, Nat.reduceEqDiff, Nat.reduceLT, Nat.reduceAdd, Nat.reduceLeDiff, reduceCtorEq, Nat.reduceMul, cfgP, u90, hlen, b1], by simp [wk, aBuiltin, AV.cells, AV.leaf, Nat.reduceEqDiff, Nat.reduceLT, Nat.reduceAdd, Nat.reduceLeDiff, reduceCtorEq, Nat.reduceMul, cfgP, u90, hlen], hst1, by omega, hsb, hvb, hse, hnd', hlt', fun x hx => hst' x (by simp [hx]), hsub, hor, fun x hx => hsr x (by simp [hx]), ?_, fun x hx y hy => ?_, f⟩
      · rcases hki with h | h
        · exact .inl h
        · rcases List.mem_append.1 h with h | h
          · exact .inr h
          · rw [List.mem_singleton.1 h]; exact .inl hj
      · rcases hcl' x hx y hy with h | h
        · exact .inl h
        · rcases List.mem_append.1 h with h | h
          · exact .inr h
          · rw [List.mem_singleton.1 h]; exact .inl hj
    · rw [if_neg hj] at hlook
      have d2 : decide ((0 : Int) < 0) = false := rfl
      obtain ⟨K1, K3, K4, v2, hp1, k1s, happ, ⟨hvl, hvc⟩, hput1, hse4, f4⟩ := set_add hse hj hp hrs (by omega)
      have hlit1 := litK1 j K1
      have e1 := hvS.at (P := Try.prog) (k := .i64) (i := j) Try.underlying53 sz116 encSt_T.len hj0
      have hrj := hr l[j] (List.getElem_mem _)
      have hlj : l[j]? = some l[j] := List.getElem?_eq_getElem hj0
      generalize l[j] = sj at *
      have hspl := slvG_leaf sj.sp
      simp only [encSt, AV.cells] at e1
      unfold AV.leaf at hvl hspl; unfold AV.cells at hvc
      have hsl := hget_lt hse.1
      have hml := hmap_lt hse.2.1
      have hsbl := hget_lt eg
      have hle4 := f4.len
      have hp4 : prot ≤ K4.length := by omega
      have hnd2 : (o' ++ [j]).Nodup := List.nodup_append.2 ⟨hnd', by simp, fun a ha b hb => by simp at hb; subst hb; exact fun e => hj (e ▸ ha)⟩
      have hlt2 : ∀ x ∈ o' ++ [j], x < l.length := fun x hx => by
        rcases List.mem_append.1 hx with h | h
        · exact hlt' x h
        · rw [List.mem_singleton.1 h]; exact hj0
      have hol2 := nodup_len l.length _ hnd2 hlt2
      rw [List.length_append, List.length_singleton] at hol2
      have hst2 : StkAt sb K4 w' st0 := hst1.keep fun ver cs h => f4.keep sb ver cs (by omega) (by omega) hvb h
      have hvb2 : ∀ b, v2 = .bs b → b.b ≠ sb := fun b hb => by
        rcases f4.blk b hb with ⟨b0', e3, e4⟩ | h
        · rw [e4]; exact hvb b0' e3
        · omega
      have g4 := f.trans f4
      have hrj2 : Rch l k j := hsr j (by simp)
      have hor2 : ∀ x ∈ o' ++ [j], x ∈ o ∨ Rch l k x := fun x hx => by
        rcases List.mem_append.1 hx with h | h
        · exact hor x h
        · rw [List.mem_singleton.1 h]; exact .inr hrj2
      have hmv : ∀ y, y ∈ o' ∨ y ∈ st0 ++ [j] → y ∈ o' ++ [j] ∨ y ∈ st0 := fun y h => by
        rcases h with h | h
        · exact .inl (by simp [h])
        · rcases List.mem_append.1 h with h | h
          · exact .inr h
          · exact .inl (by simp [List.mem_singleton.1 h])
      by_cases hk2 : sj.kind = 2
      · have d3 : decide (sj.kind = 2) = true := decide_eq_true hk2
        have hn1 : ∃ x1 : Nat, sj.one = (x1 : Nat) := ⟨sj.one.toNat, by have := hrj.2.1 (by omega); omega⟩
        have hn2 : ∃ x2 : Nat, sj.two = (x2 : Nat) := ⟨sj.two.toNat, by have := hrj.2.2 hk2; omega⟩
        obtain ⟨x1, hx1⟩ := hn1
        obtain ⟨x2, hx2⟩ := hn2
        have hb1 := hrj.2.1 (by omega)
        have hb2 := hrj.2.2 hk2
        have hnj : ∀ y, nxt l j y → y = x1 ∨ y = x2 := fun y ⟨s', h1, h2, h3⟩ => by
          rw [hlj] at h1; cases h1
          rcases h3 with h3 | h3
          · left; omega
          · right; omega
        have hr1 : Rch l k x1 := hrj2.step ⟨sj, hlj, hk2, .inl hx1⟩
        have hr2 : Rch l k x2 := hrj2.step ⟨sj, hlj, hk2, .inr hx2⟩
        have hlit2 := litK2 x2 x1 (K4 ++ [Blk.cells 0 [.int .i64 sj.kind, .bool sj.no, slv encG sj.sp, .int .i64 (x1 : Nat), .int .i64 (x2 : Nat)]])
        have hel2 : elemCells ((K4 ++ [Blk.cells 0 [.int .i64 sj.kind, .bool sj.no, slv encG sj.sp, .int .i64 (x1 : Nat), .int .i64 (x2 : Nat)]]) ++ [Blk.cells 0 ([x2, x1].map encK)]) 1 (.bs ⟨(K4 ++ [Blk.cells 0 [.int .i64 sj.kind, .bool sj.no, slv encG sj.sp, .int .i64 (x1 : Nat), .int .i64 (x2 : Nat)]]).length, 0, 0, 2, 2, 1, false, true⟩) = some ([x2, x1].length, cellsOf encK [x2, x1]) := elemK [x2, x1] (K4 ++ [Blk.cells 0 [.int .i64 sj.kind, .bool sj.no, slv encG sj.sp, .int .i64 (x1 : Nat), .int .i64 (x2 : Nat)]]) []
        have hst3 := hst2.keep fun ver cs h => hget_mono (hget_mono h [Blk.cells 0 [.int .i64 sj.kind, .bool sj.no, slv encG sj.sp, .int .i64 (x1 : Nat), .int .i64 (x2 : Nat)]]) [Blk.cells 0 ([x2, x1].map encK)]
        have hse5 := (hse4.more [Blk.cells 0 [.int .i64 sj.kind, .bool sj.no, slv encG sj.sp, .int .i64 (x1 : Nat), .int .i64 (x2 : Nat)]]).more [Blk.cells 0 ([x2, x1].map encK)]
        obtain ⟨w2, K7, sb', hpush, hst4, hle7, hsb', hk7, hm7⟩ := hst3.push (prot := prot) (by omega) (by omega) rfl hel2
        have hse7 := hse5.keep hk7 hm7 (by omega) (by omega) hvb2
        simp only [List.length_append, List.length_singleton] at hle7 hsb'
        simp only [wk, aBuiltin, AV.cells, AV.leaf, Nat.reduceEqDiff, Nat.reduceLT, Nat.reduceAdd, Nat.reduceLeDiff, reduceCtorEq, Nat.reduceMul, cfgP, u90, hlen, b0, b1, b6, hlenw, d1, hw1, eI, eg, ec, es, hse.1, hlook, d2, hp1, k1s, hlit1, happ, hvl, hvc, hput1, e1, hspl, hp4, d3, hx1, hx2, hlit2, hpush, none_beq]
        refine ih _ _ (3 * (l.length - (o' ++ [j]).length) + (st0 ++ [x2, x1]).length) (by simp; omega) ⟨st0 ++ [x2, x1], w2, v2, o' ++ [j], sb', rfl, by simp [wk, aBuiltin, AV.cells, AV.leaf, Nat.reduceEqDiff, Nat.reduceLT, Nat.reduceAdd, Nat.reduceLeDiff, reduceCtorEq, Nat.reduceMul, cfgP, u90, hlen], by simp [wk, aBuiltin, AV.cells, AV.leaf, Nat.reduceEqDiff, Nat.reduceLT, Nat.reduceAdd, Nat.reduceLeDiff, reduceCtorEq, Nat.reduceMul, cfgP, u90, hlen, b0], by simp [wk, aBuiltin, AV.cells, AV.leaf, Nat.reduceEqDiff, Nat.reduceLT, Nat.reduceAdd, Nat.reduceLeDiff, reduceCtorEq, Nat.reduceMul, cfgP, u90, hlen, b1], by simp [wk, aBuiltin, AV.cells, AV.leaf, Nat.reduceEqDiff, Nat.reduceLT, Nat.reduceAdd, Nat.reduceLeDiff, reduceCtorEq, Nat.reduceMul, cfgP, u90, hlen], hst4, by simp; omega, by omega, fun b hb => ?_, hse7, hnd2, hlt2, fun x hx => ?_, fun x hx => by simp [hsub x hx], hor2, fun x hx => ?_, ?_, fun x hx y hy => ?_, ⟨by have := g4.len; omega, fun z ver cs h1 h2 h3 h4 => hk7 z ver cs (by have := hget_lt h4; omega) (hget_mono (hget_mono (g4.keep z ver cs h1 h2 h3 h4) _) _), g4.blk⟩⟩
        · rcases hsb' with h | h
          · rw [h]; exact hvb2 b hb
          · have := hse4.blk b hb
            omega
        · simp only [List.mem_append, List.mem_cons, List.not_mem_nil, or_false] at hx
          rcases hx with h | h | h
          · exact hst' x (by simp [h])
          · omega
          · omega
        · simp only [List.mem_append, List.mem_cons, List.not_mem_nil, or_false] at hx
          rcases hx with h | rfl | rfl
          · exact hsr x (by simp [h])
          · exact hr2
          · exact hr1
        · rcases hmv k hki with h | h
          · exact .inl h
          · exact .inr (by simp [h])
        · rcases List.mem_append.1 hx with h | h
          · rcases hmv y (hcl' x h y hy) with h | h
            · exact .inl h
            · exact .inr (by simp [h])
          · rw [List.mem_singleton.1 h] at hy
            rcases hnj y hy with h | h <;> exact .inr (by simp [h])
      · have d3 : decide (sj.kind = 2) = false := decide_eq_false hk2
        simp only [wk, aBuiltin, AV.cells, AV.leaf, Nat.reduceEqDiff, Nat.reduceLT, Nat.reduceAdd, Nat.reduceLeDiff, reduceCtorEq, Nat.reduceMul, cfgP, u90, hlen, b0, b1, b6, hlenw, d1, hw1, eI, eg, ec, es, hse.1, hlook, d2, hp1, k1s, hlit1, happ, hvl, hvc, hput1, e1, hspl, hp4, d3, none_beq]
        refine ih _ _ (3 * (l.length - (o' ++ [j]).length) + st0.length) (by simp; omega) ⟨st0, w', v2, o' ++ [j], sb, rfl, by simp [wk, aBuiltin, AV.cells, AV.leaf, Nat.reduceEqDiff, Nat.reduceLT, Nat.reduceAdd, Nat.reduceLeDiff, reduceCtorEq, Nat.reduceMul, cfgP, u90, hlen], by simp [wk, aBuiltin, AV.cells, AV.leaf, Nat.reduceEqDiff, Nat.reduceLT, Nat.reduceAdd, Nat.reduceLeDiff, reduceCtorEq, Nat.reduceMul, cfgP, u90, hlen, b0], by simp [wk, aBuiltin, AV.cells, AV.leaf, Nat.reduceEqDiff, Nat.reduceLT, Nat.reduceAdd, Nat.reduceLeDiff, reduceCtorEq, Nat.reduceMul, cfgP, u90, hlen, b1], by simp [wk, aBuiltin, AV.cells, AV.leaf, Nat.reduceEqDiff, Nat.reduceLT, Nat.reduceAdd, Nat.reduceLeDiff, reduceCtorEq, Nat.reduceMul, cfgP, u90, hlen], hst2.keep fun ver cs h => hget_mono h _, by simp; omega, hsb, hvb2, hse4.more _, hnd2, hlt2, fun x hx => hst' x (by simp [hx]), fun x hx => by simp [hsub x hx], hor2, fun x hx => hsr x (by simp [hx]), hmv k hki, fun x hx y hy => ?_, g4.trans (Frs.more _ _ _ _ _)⟩
        rcases List.mem_append.1 hx with h | h
        · exact hmv y (hcl' x h y hy)
        · rw [List.mem_singleton.1 h] at hy
          obtain ⟨s', h1, h2, h3⟩ := hy
          rw [hlj] at h1; cases h1
          exact absurd h2 hk2
end Go.Proofs.Ytoblikhnbddfmaa
/-! Chapter 16: a machine's step, walked. -/
namespace Go.Proofs.Ytoblikhnbddfmaa
open Go Go.Abs AbsSeat Ty

theorem rowK_at {base : Nat} {H : Heap} {v : AV} {o : List Nat} (h : Row encK 1 false base H v o) {i : Nat} (hi : i < o.length) : ∃ b ver, aIndexAddr Try.prog 90 v (.int .i64 (i : Nat)) = some (.ptr b ver i) ∧ hget H b ver = some (o.map encK) ∧ (o.map encK)[i]? = some (.int .i64 (o[i] : Nat)) := by
  rcases h with ⟨rfl, rfl⟩ | ⟨b, ver, rfl, h2, h3, hv4⟩
  · simp at hi
  · rw [cellsK] at h3
    exact ⟨b, ver, by simp [aIndexAddr, asNat, Try.underlying90, sz3, hi], h3, by simp [hi, encK]⟩
/-- where a rune leads. -/
def tk (l : List St) (c : Int) (k y : Nat) : Prop := ∃ s, l[k]? = some s ∧ s.kind = 1 ∧ inS c s.no s.sp = true ∧ s.one = (y : Nat)

theorem step_ok (l : List St) (hr : RightM l) (hsp : ∀ s ∈ l, s.sp.length < 1000000000) (a : Nat) (c : Int) (hln : l.length ≤ 100000) (s r prot : Nat) (v : AV) (o : List Nat) (H : Heap) (hp : prot ≤ r) (hrs : r < s) (hset : SetAt H s r v o) (hnd : o.Nodup) (hlt : ∀ x ∈ o, x < l.length) :
    ∃ H', (∃ v' o', SetAt H' s r v' o' ∧ o'.Nodup ∧ (∀ x ∈ o', x < l.length) ∧ Closed l o' ∧ (∀ x, x ∈ o' ↔ ∃ k ∈ o, ∃ y, tk l c k y ∧ Rch l y x) ∧ Frs H H' s r v v') ∧ aLim cfg prot 91 [.ptr s 0 0, encM l a, .int .i32 c] H = some (.tup [], some H') := by
  have hblk := hset.blk
  obtain ⟨h1, h2, h3⟩ := hset
  have hsl := hget_lt h1
  have hml := hmap_lt h2
  have hvS := slv_sl encSt l
  have hol := nodup_len l.length o hnd hlt
  have hput1 : hput prot H s 0 1 [.nilS] = some (H.set s (.cells 0 [.map r, .nilS])) := by
    rw [hput_eq h1 (by omega) (by simp) (by simp [AV.leaf])]; rfl
  have k1s : hget (H.set s (.cells 0 [.map r, .nilS])) s 0 = some [.map r, .nilS] := hget_set_at hsl
  have k1m : hmap (H.set s (.cells 0 [.map r, .nilS])) r = some (o.map ent) := by rw [hmap_set_ne (by omega)]; exact h2
  have k1k : ∀ z ver cs, z ≠ s → hget H z ver = some cs → hget (H.set s (.cells 0 [.map r, .nilS])) z ver = some cs := fun z ver cs hz hg => by rw [hget_set_ne hz]; exact hg
  have k1l : (H.set s (.cells 0 [.map r, .nilS])).length = H.length := by simp
  generalize H.set s (.cells 0 [.map r, .nilS]) = K1 at *
  have hclr : aClear prot K1 (.map r) = some (K1.set r (.map [])) := by simp [aClear, hp, k1m]
  have k2s : hget (K1.set r (.map [])) s 0 = some [.map r, .nilS] := by rw [hget_set_ne (by omega)]; exact k1s
  have k2m := hmap_set (es' := []) k1m
  have k2k : ∀ z ver cs, z ≠ s → z ≠ r → hget H z ver = some cs → hget (K1.set r (.map [])) z ver = some cs := fun z ver cs hz hz2 hg => by rw [hget_set_ne hz2]; exact k1k z ver cs hz hg
  have k2l : (K1.set r (.map [])).length = H.length := by simp [k1l]
  generalize K1.set r (.map []) = K2 at *
  have hse0 : SetAt K2 s r .nilS [] := ⟨k2s, k2m, Row.nil⟩
  have hrow : Row encK 1 false (s + 1) K2 v o := by
    rcases h3 with h | ⟨b, ver, rfl, g2, g3, g4⟩
    · exact .inl h
    · exact .inr ⟨b, ver, rfl, g2, k2k _ _ _ (by omega) (by omega) g3, g4⟩
  have hvl := hrow.len (P := Try.prog) Try.underlying90
  refine raw_slimE rfl (by kernel_rfl) (by kernel_rfl) (by kernel_rfl) Try.func91 s91 (by simp [Try.f91]) fun fr hlen h => ?_
  simp only [Has, Nat.zero_add] at h
  obtain ⟨a0, a1, a2, -⟩ := h
  simp only [Try.f91] at hlen ⊢
  unfold g91
  unfold encM at a1
  simp only [wk, aBuiltin, AV.cells, AV.leaf, Nat.reduceEqDiff, Nat.reduceLT, Nat.reduceAdd, Nat.reduceLeDiff, reduceCtorEq, Nat.reduceMul, cfgP, u90, hlen, a0, a1, a2, h1, hput1, k1s, hclr, hvl]
  refine loop_ruleE (fun m fr H' => ∃ (i : Nat) (vc : AV) (oc : List Nat), m = o.length - i ∧ i ≤ o.length ∧ fr.length = 51 ∧ fget fr 0 = .ptr s 0 0 ∧ fget fr 1 = .vptr [slv encSt l, .int .i64 (a : Nat)] 0 ∧ fget fr 2 = .int .i32 c ∧ fget fr 21 = v ∧ fget fr 22 = .int .i64 (o.length : Nat) ∧ fget fr 23 = .int .i64 (i : Nat) ∧
    SetAt H' s r vc oc ∧ oc.Nodup ∧ (∀ x ∈ oc, x < l.length) ∧ Closed l oc ∧ (∀ x, x ∈ oc ↔ ∃ k ∈ o.take i, ∃ y, tk l c k y ∧ Rch l y x) ∧ Frs K2 H' s r .nilS vc) ?_ o.length _ _
    ⟨0, .nilS, [], by omega, by omega, by simp [wk, aBuiltin, AV.cells, AV.leaf, Nat.reduceEqDiff, Nat.reduceLT, Nat.reduceAdd, Nat.reduceLeDiff, reduceCtorEq, Nat.reduceMul, cfgP, u90, hlen], by simp [wk, aBuiltin, AV.cells, AV.leaf, Nat.reduceEqDiff, Nat.reduceLT, Nat.reduceAdd, Nat.reduceLeDiff, reduceCtorEq, Nat.reduceMul, cfgP, u90, hlen, a0], by simp [wk, aBuiltin, AV.cells, AV.leaf, Nat.reduceEqDiff, Nat.reduceLT, Nat.reduceAdd, Nat.reduceLeDiff, reduceCtorEq, Nat.reduceMul, cfgP, u90, hlen, a1], by simp [wk, aBuiltin, AV.cells, AV.leaf, Nat.reduceEqDiff, Nat.reduceLT, Nat.reduceAdd, Nat.reduceLeDiff, reduceCtorEq, Nat.reduceMul, cfgP, u90, hlen, a2], by simp [wk, aBuiltin, AV.cells, AV.leaf, Nat.reduceEqDiff, Nat.reduceLT, Nat.reduceAdd, Nat.reduceLeDiff, reduceCtorEq, Nat.reduceMul, cfgP, u90, hlen], by simp [wk, aBuiltin, AV.cells, AV.leaf, Nat.reduceEqDiff, Nat.reduceLT, Nat.reduceAdd, Nat.reduceLeDiff, reduceCtorEq, Nat.reduceMul, cfgP, u90, hlen], by simp [wk, aBuiltin, AV.cells, AV.leaf, Nat.reduceEqDiff, Nat.reduceLT, Nat.reduceAdd, Nat.reduceLeDiff, reduceCtorEq, Nat.reduceMul, cfgP, u90, hlen], hse0, .nil, by simp, (fun x hx => nomatch hx), by simp, Frs.refl _ _ _ _⟩
  clear a0 a1 a2 hlen fr
  rintro m fr H' ⟨i, vc, oc, rfl, hi, hlen, b0, b1, b2, b21, b22, b23, hse, hndc, hltc, hclc, hmem, f⟩ ih
  by_cases hil : i < o.length
  · have d1 : decide (((i : Nat) : Int) < (o.length : Nat)) = true := decide_eq_true (by omega)
    have hw : IntKind.i64.wrap ((i : Int) + 1) = ((i + 1 : Nat) : Int) := by rw [wrap64 (by omega) (by omega)]; simp
    have hrow' : Row encK 1 false (s + 1) H' v o := by
      rcases hrow with h | ⟨b, ver, rfl, g2, g3, g4⟩
      · exact .inl h
      · exact .inr ⟨b, ver, rfl, g2, f.keep _ _ _ (by omega) (by omega) (fun _ h => by cases h) g3, g4⟩
    obtain ⟨vb, ver, eI, eg, ec⟩ := rowK_at hrow' hil
    have hj0 := hlt o[i] (List.getElem_mem hil)
    have htk : o.take (i + 1) = o.take i ++ [o[i]] := by simp
    generalize o[i] = j at *
    have e1 := hvS.at (P := Try.prog) (k := .i64) (i := j) Try.underlying53 sz116 encSt_T.len hj0
    have hrj := hr l[j] (List.getElem_mem _)
    have hspj := hsp l[j] (List.getElem_mem _)
    have hlj : l[j]? = some l[j] := List.getElem?_eq_getElem hj0
    generalize l[j] = sj at *
    have hspl := slvG_leaf sj.sp
    simp only [encSt, AV.cells] at e1
    unfold AV.leaf at hspl
    have hml' := hmap_lt hse.2.1
    have hpl : prot ≤ H'.length := by omega
    have hpl1 : prot ≤ H'.length + 1 := by omega
    have hl1 : ∀ Z, (H' ++ [Blk.cells 0 Z]).length = H'.length + 1 := fun Z => by simp
    have hns : ∀ (hno : ∀ y, ¬ tk l c j y) (x : Nat), x ∈ oc ↔ ∃ k ∈ o.take (i + 1), ∃ y, tk l c k y ∧ Rch l y x := fun hno x => by
      rw [hmem x, htk]
      constructor
      · rintro ⟨k, hk, h⟩; exact ⟨k, by simp [hk], h⟩
      · rintro ⟨k, hk, y, h1, h2⟩
        rcases List.mem_append.1 hk with h | h
        · exact ⟨k, h, y, h1, h2⟩
        · rw [List.mem_singleton.1 h] at h1; exact absurd h1 (hno y)
    by_cases hk1 : sj.kind = 1
    · have d2 : decide (sj.kind = 1) = true := decide_eq_true hk1
      have n1 := fun (K : Heap) (hK : prot ≤ K.length) => inG_ok sj.sp c sj.no (slv encG sj.sp) (slv_sl encG sj.sp) hspj prot K hK
      by_cases hin : inS c sj.no sj.sp = true
      · rw [hin] at n1
        obtain ⟨y, hy⟩ : ∃ y : Nat, sj.one = (y : Nat) := ⟨sj.one.toNat, by have := hrj.2.1 (by omega); omega⟩
        have hy1 := hrj.2.1 (by omega)
        have htj : tk l c j y := ⟨sj, hlj, hk1, hin, hy⟩
        obtain ⟨H2, ⟨v2, o2, hse2, hnd2, hlt2, hmem2, f2⟩, n2⟩ := enter_ok l hr a y (by omega) hln s r prot vc oc (H' ++ [Blk.cells 0 [.int .i64 sj.kind, .bool sj.no, slv encG sj.sp, .int .i64 (y : Nat), .int .i64 sj.two]]) hp hrs (hse.more _) hndc hltc hclc
        unfold encM at n2
        simp only [wk, aBuiltin, AV.cells, AV.leaf, Nat.reduceEqDiff, Nat.reduceLT, Nat.reduceAdd, Nat.reduceLeDiff, reduceCtorEq, Nat.reduceMul, cfgP, u90, hlen, b0, b1, b2, b21, b22, b23, d1, eI, eg, ec, e1, hspl, hpl, hpl1, hl1, d2, n1, hy, n2, hw]
        refine ih _ _ (o.length - (i + 1)) (by omega) ⟨i + 1, v2, o2, rfl, by omega, by simp [wk, aBuiltin, AV.cells, AV.leaf, Nat.reduceEqDiff, Nat.reduceLT, Nat.reduceAdd, Nat.reduceLeDiff, reduceCtorEq, Nat.reduceMul, cfgP, u90, hlen], by simp [wk, aBuiltin, AV.cells, AV.leaf, Nat.reduceEqDiff, Nat.reduceLT, Nat.reduceAdd, Nat.reduceLeDiff, reduceCtorEq, Nat.reduceMul, cfgP, u90, hlen, b0], by simp [wk, aBuiltin, AV.cells, AV.leaf, Nat.reduceEqDiff, Nat.reduceLT, Nat.reduceAdd, Nat.reduceLeDiff, reduceCtorEq, Nat.reduceMul, cfgP, u90, hlen, b1], by simp [wk, aBuiltin, AV.cells, AV.leaf, Nat.reduceEqDiff, Nat.reduceLT, Nat.reduceAdd, Nat.reduceLeDiff, reduceCtorEq, Nat.reduceMul, cfgP, u90, hlen, b2], by simp [wk, aBuiltin, AV.cells, AV.leaf, Nat.reduceEqDiff, Nat.reduceLT, Nat.reduceAdd, Nat.reduceLeDiff, reduceCtorEq, Nat.reduceMul, cfgP, u90, hlen, b21], by simp [wk, aBuiltin, AV.cells, AV.leaf, Nat.reduceEqDiff, Nat.reduceLT, Nat.reduceAdd, Nat.reduceLeDiff, reduceCtorEq, Nat.reduceMul, cfgP, u90, hlen, b22], by simp [wk, aBuiltin, AV.cells, AV.leaf, Nat.reduceEqDiff, Nat.reduceLT, Nat.reduceAdd, Nat.reduceLeDiff, reduceCtorEq, Nat.reduceMul, cfgP, u90, hlen], hse2, hnd2, hlt2, ?_, ?_, (f.trans (Frs.more _ _ _ _ _)).trans f2⟩
        · intro x hx z hz
          rw [hmem2] at hx ⊢
          rcases hx with h | h
          · exact .inl (hclc x h z hz)
          · exact .inr (h.step hz)
        · intro x
          rw [hmem2, hmem x, htk]
          constructor
          · rintro (⟨k, hk, h⟩ | h)
            · exact ⟨k, by simp [hk], h⟩
            · exact ⟨j, by simp, y, htj, h⟩
          · rintro ⟨k, hk, z, h1, h2⟩
            rcases List.mem_append.1 hk with h | h
            · exact .inl ⟨k, h, z, h1, h2⟩
            · rw [List.mem_singleton.1 h] at h1
              obtain ⟨s', q1, q2, q3, q4⟩ := h1
              rw [hlj] at q1; cases q1
              have : z = y := by omega
              subst this
              exact .inr h2
      · have hin := Bool.eq_false_iff.2 hin
        rw [hin] at n1
        have hno : ∀ y, ¬ tk l c j y := fun y ⟨s', q1, q2, q3, q4⟩ => by
          rw [hlj] at q1; cases q1
          rw [hin] at q3; cases q3
        simp only [wk, aBuiltin, AV.cells, AV.leaf, Nat.reduceEqDiff, Nat.reduceLT, Nat.reduceAdd, Nat.reduceLeDiff, reduceCtorEq, Nat.reduceMul, cfgP, u90, hlen, b0, b1, b2, b21, b22, b23, d1, eI, eg, ec, e1, hspl, hpl, hpl1, hl1, d2, n1, hw]
        exact ih _ _ (o.length - (i + 1)) (by omega) ⟨i + 1, vc, oc, rfl, by omega, by simp [wk, aBuiltin, AV.cells, AV.leaf, Nat.reduceEqDiff, Nat.reduceLT, Nat.reduceAdd, Nat.reduceLeDiff, reduceCtorEq, Nat.reduceMul, cfgP, u90, hlen], by simp [wk, aBuiltin, AV.cells, AV.leaf, Nat.reduceEqDiff, Nat.reduceLT, Nat.reduceAdd, Nat.reduceLeDiff, reduceCtorEq, Nat.reduceMul, cfgP, u90, hlen, b0], by simp [wk, aBuiltin, AV.cells, AV.leaf, Nat.reduceEqDiff, Nat.reduceLT, Nat.reduceAdd, Nat.reduceLeDiff, reduceCtorEq, Nat.reduceMul, cfgP, u90, hlen, b1], by simp [wk, aBuiltin, AV.cells, AV.leaf, Nat.reduceEqDiff, Nat.reduceLT, Nat.reduceAdd, Nat.reduceLeDiff, reduceCtorEq, Nat.reduceMul, cfgP, u90, hlen, b2], by simp [wk, aBuiltin, AV.cells, AV.leaf, Nat.reduceEqDiff, Nat.reduceLT, Nat.reduceAdd, Nat.reduceLeDiff, reduceCtorEq, Nat.reduceMul, cfgP, u90, hlen, b21], by simp [wk, aBuiltin, AV.cells, AV.leaf, Nat.reduceEqDiff, Nat.reduceLT, Nat.reduceAdd, Nat.reduceLeDiff, reduceCtorEq, Nat.reduceMul, cfgP, u90, hlen, b22], by simp [wk, aBuiltin, AV.cells, AV.leaf, Nat.reduceEqDiff, Nat.reduceLT, Nat.reduceAdd, Nat.reduceLeDiff, reduceCtorEq, Nat.reduceMul, cfgP, u90, hlen], hse.more _, hndc, hltc, hclc, hns hno, f.trans (Frs.more _ _ _ _ _)⟩
    · have d2 : decide (sj.kind = 1) = false := decide_eq_false hk1
      have hno : ∀ y, ¬ tk l c j y := fun y ⟨s', q1, q2, q3, q4⟩ => by
        rw [hlj] at q1; cases q1
        exact hk1 q2
      simp only [wk, aBuiltin, AV.cells, AV.leaf, Nat.reduceEqDiff, Nat.reduceLT, Nat.reduceAdd, Nat.reduceLeDiff, reduceCtorEq, Nat.reduceMul, cfgP, u90, hlen, b0, b1, b2, b21, b22, b23, d1, eI, eg, ec, e1, hspl, hpl, hpl1, hl1, d2, hw, none_beq]
      exact ih _ _ (o.length - (i + 1)) (by omega) ⟨i + 1, vc, oc, rfl, by omega, by simp [wk, aBuiltin, AV.cells, AV.leaf, Nat.reduceEqDiff, Nat.reduceLT, Nat.reduceAdd, Nat.reduceLeDiff, reduceCtorEq, Nat.reduceMul, cfgP, u90, hlen], by simp [wk, aBuiltin, AV.cells, AV.leaf, Nat.reduceEqDiff, Nat.reduceLT, Nat.reduceAdd, Nat.reduceLeDiff, reduceCtorEq, Nat.reduceMul, cfgP, u90, hlen, b0], by simp [wk, aBuiltin, AV.cells, AV.leaf, Nat.reduceEqDiff, Nat.reduceLT, Nat.reduceAdd, Nat.reduceLeDiff, reduceCtorEq, Nat.reduceMul, cfgP, u90, hlen, b1], by simp [wk, aBuiltin, AV.cells, AV.leaf, Nat.reduceEqDiff, Nat.reduceLT, Nat.reduceAdd, Nat.reduceLeDiff, reduceCtorEq, Nat.reduceMul, cfgP, u90, hlen, b2], by simp [wk, aBuiltin, AV.cells, AV.leaf, Nat.reduceEqDiff, Nat.reduceLT, Nat.reduceAdd, Nat.reduceLeDiff, reduceCtorEq, Nat.reduceMul, cfgP, u90, hlen, b21], by simp [wk, aBuiltin, AV.cells, AV.leaf, Nat.reduceEqDiff, Nat.reduceLT, Nat.reduceAdd, Nat.reduceLeDiff, reduceCtorEq, Nat.reduceMul, cfgP, u90, hlen, b22], by simp [wk, aBuiltin, AV.cells, AV.leaf, Nat.reduceEqDiff, Nat.reduceLT, Nat.reduceAdd, Nat.reduceLeDiff, reduceCtorEq, Nat.reduceMul, cfgP, u90, hlen], hse.more _, hndc, hltc, hclc, hns hno, f.trans (Frs.more _ _ _ _ _)⟩
  · have d1 : decide (((i : Nat) : Int) < (o.length : Nat)) = false := decide_eq_false (by omega)
    rw [List.take_of_length_le (by omega)] at hmem
    simp only [wk, aBuiltin, AV.cells, AV.leaf, Nat.reduceEqDiff, Nat.reduceLT, Nat.reduceAdd, Nat.reduceLeDiff, reduceCtorEq, Nat.reduceMul, cfgP, u90, hlen, b0, b1, b2, b21, b22, b23, d1]
    refine ⟨_, ⟨vc, oc, hse, hndc, hltc, hclc, hmem, ⟨by have := f.len; omega, fun z ver cs g1 g2 g3 g4 => f.keep z ver cs g1 g2 (fun _ h => by cases h) (k2k z ver cs g1 g2 g4), fun b' hb' => ?_⟩⟩, Fin_raw (l := []) (by simp [wk, aBuiltin, AV.cells, AV.leaf, Nat.reduceEqDiff, Nat.reduceLT, Nat.reduceAdd, Nat.reduceLeDiff, reduceCtorEq, Nat.reduceMul, cfgP, u90, hlen, aResults, aResult])⟩
    rcases f.blk b' hb' with ⟨_, h, _⟩ | h
    · cases h
    · right; omega
end Go.Proofs.Ytoblikhnbddfmaa
