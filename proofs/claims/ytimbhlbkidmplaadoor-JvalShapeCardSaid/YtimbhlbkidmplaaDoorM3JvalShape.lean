import Derived.Test.YtimbhlbkidmplaaDoorM2JvalShape
import Derived.Test.YtimbhlbkidmplaaDoorAbsMore
import Derived.Test.YtimbhlbkidmplaaDoorAbsTy
/-! Part 3 of the proof of JvalShape: the texts Jp3 Jl Jp4 Jp5 Jp6 Jp7 Jq1 Pr Jv1 Jp8 Un Jq2. -/
set_option linter.unusedSimpArgs false
/- jval's parser: key, begin, walked. -/
namespace Go.Proofs.YtimbhlbkidmplaaDoor
open Go Go.Abs AbsSeat Ty

theorem u49 : type_of% (And.intro ag1 (And.intro sz1 (And.intro by1 (And.intro ze1 (And.intro Tryd.underlying1 (And.intro ag3 (And.intro sz3 (And.intro by3 (And.intro ze3 (And.intro Tryd.underlying3 (And.intro ag9 (And.intro sz9 (And.intro by9 (And.intro ze9 (And.intro Tryd.underlying9 (And.intro ag23 (And.intro sz23 (And.intro by23 (And.intro se23 (And.intro ze23 (And.intro Tryd.underlying23 (And.intro ag25 (And.intro sz25 (And.intro by25 (And.intro ze25 (And.intro bu25 (And.intro Tryd.underlying25 (And.intro ag33 (And.intro sz33 (And.intro by33 (And.intro ze33 (And.intro Tryd.underlying33 (And.intro ag47 (And.intro sz47 (And.intro by47 (And.intro ze47 (And.intro Tryd.underlying47 (And.intro ag49 (And.intro sz49 (And.intro by49 (And.intro ze49 (And.intro bu49 (And.intro Tryd.underlying49 (And.intro ag51 (And.intro sz51 (And.intro by51 (And.intro ze51 (And.intro bu51 (And.intro Tryd.underlying51 (And.intro ag60 (And.intro sz60 (And.intro by60 (And.intro se60 (And.intro ze60 (And.intro Tryd.underlying60 (And.intro ag67 (And.intro sz67 (And.intro by67 (And.intro ze67 (And.intro bu67 (And.intro Tryd.underlying67 (And.intro fa25_5 (And.intro fd25_5 (And.intro fa49_0 (And.intro fd49_0 (And.intro fa49_3 (And.intro fd49_3 (And.intro fa51_1 (And.intro fd51_1 (And.intro fa51_2 (And.intro fd51_2 (And.intro fa51_4 (And.intro fd51_4 (And.intro fa67_0 (And.intro fd67_0 (And.intro fa67_2 fd67_2)))))))))))))))))))))))))))))))))))))))))))))))))))))))))))))))))))))))))))) := And.intro ag1 (And.intro sz1 (And.intro by1 (And.intro ze1 (And.intro Tryd.underlying1 (And.intro ag3 (And.intro sz3 (And.intro by3 (And.intro ze3 (And.intro Tryd.underlying3 (And.intro ag9 (And.intro sz9 (And.intro by9 (And.intro ze9 (And.intro Tryd.underlying9 (And.intro ag23 (And.intro sz23 (And.intro by23 (And.intro se23 (And.intro ze23 (And.intro Tryd.underlying23 (And.intro ag25 (And.intro sz25 (And.intro by25 (And.intro ze25 (And.intro bu25 (And.intro Tryd.underlying25 (And.intro ag33 (And.intro sz33 (And.intro by33 (And.intro ze33 (And.intro Tryd.underlying33 (And.intro ag47 (And.intro sz47 (And.intro by47 (And.intro ze47 (And.intro Tryd.underlying47 (And.intro ag49 (And.intro sz49 (And.intro by49 (And.intro ze49 (And.intro bu49 (And.intro Tryd.underlying49 (And.intro ag51 (And.intro sz51 (And.intro by51 (And.intro ze51 (And.intro bu51 (And.intro Tryd.underlying51 (And.intro ag60 (And.intro sz60 (And.intro by60 (And.intro se60 (And.intro ze60 (And.intro Tryd.underlying60 (And.intro ag67 (And.intro sz67 (And.intro by67 (And.intro ze67 (And.intro bu67 (And.intro Tryd.underlying67 (And.intro fa25_5 (And.intro fd25_5 (And.intro fa49_0 (And.intro fd49_0 (And.intro fa49_3 (And.intro fd49_3 (And.intro fa51_1 (And.intro fd51_1 (And.intro fa51_2 (And.intro fd51_2 (And.intro fa51_4 (And.intro fd51_4 (And.intro fa67_0 (And.intro fd67_0 (And.intro fa67_2 fd67_2)))))))))))))))))))))))))))))))))))))))))))))))))))))))))))))))))))))))))))
def g49 : Code :=
  .seq (.region 0 #[q 4 (.assign (ik 0)) 3] false) (.seq (.seq (.region 1 #[q 6 (.move (.tmp 0)) 23, q 7 (bi .len #[.tmp 6] #[23]) 3, q 8 (.move (ik 0)) 3] false) (.block 0 (.loop (.seq (.region 2 #[q 9 (.binOp .lss 3 (.tmp 8) (.tmp 7) 3) 0] false) (.seq (.cond (.tmp 9) .skip (.exit 0)) (.seq (.block 1 (.seq (.region 3 #[q 10 (.move (.tmp 8)) 3, q 5 (.assign (.tmp 10)) 3] false) (.seq (.region 4 #[q 11 (.move (.tmp 1)) 9, q 12 (.move (.tmp 0)) 23, q 13 (.move (.tmp 5)) 3, q 14 (.indexAddr 23 (.tmp 12) (.tmp 13)) 0, q 15 (.load 9 (.tmp 14)) 9, q 16 (.binOp .eql 9 (.tmp 11) (.tmp 15) 9) 4] false) (.cond (.tmp 16) (.seq (.region 5 #[q 17 (.move (.tmp 5)) 3, q 4 (.assign (.tmp 17)) 3] false) .ret) .skip)))) (.region 6 #[q 18 (.binOp .add 3 (.tmp 8) (ik 1) 3) 3, q 8 (.move (.tmp 18)) 3] false))))))) (.seq (.region 7 #[q 4 (.assign (ik (-1))) 3] false) .ret))
theorem s49 : Tryd.f49.body.map (slim cfg) = some g49 := by kernel_rfl
def g38 : Code :=
  .seq (.region 0 #[q 4 (.assign (.const (.bool false))) 4] false) (.seq (.region 1 #[q 5 (.move (.tmp 0)) 23, q 6 (.move (.tmp 1)) 9, q 7 (cl 49 #[.tmp 5, .tmp 6] #[23, 9]) 3, q 8 (.binOp .geq 3 (.tmp 7) (ik 0) 3) 4, q 4 (.assign (.tmp 8)) 4] false) .ret)
theorem s38 : Tryd.f38.body.map (slim cfg) = some g38 := by kernel_rfl
def g31 : Code :=
  .seq (.region 0 #[q 4 (.assign (.const (.bool false))) 4] false) (.seq (.seq (.region 1 #[q 5 (.move (.tmp 0)) 47, q 6 (.nilCheck (.tmp 5)) 0, q 7 (.fieldAddr 51 (.tmp 6) 2) 0, q 8 (.load 33 (.tmp 7)) 33, q 9 (.binOp .neq 33 (.tmp 8) (ik 0) 33) 4, q 10 (.move (.tmp 9)) 4, qg 11 (.move (.tmp 0)) 47 5 false, qg 12 (.nilCheck (.tmp 11)) 0 5 false, qg 13 (.fieldAddr 51 (.tmp 12) 1) 0 5 false, qg 14 (.fieldAddr 49 (.tmp 13) 0) 0 5 false, qg 15 (.load 3 (.tmp 14)) 3 5 false, qg 16 (.binOp .neq 3 (.tmp 15) (ik 7) 3) 4 5 false, q 17 (.pick (.tmp 10) (.const (.bool true)) (.tmp 16)) 4, q 18 (.move (.tmp 17)) 4, qg 19 (.move (.tmp 1)) 65 13 false, qg 20 (.nilCheck (.tmp 19)) 0 13 false, qg 21 (.fieldAddr 67 (.tmp 20) 0) 0 13 false, qg 22 (.fieldAddr 25 (.tmp 21) 5) 0 13 false, qg 23 (.load 23 (.tmp 22)) 23 13 false, qg 24 (.move (.tmp 0)) 47 13 false, qg 25 (.nilCheck (.tmp 24)) 0 13 false, qg 26 (.fieldAddr 51 (.tmp 25) 1) 0 13 false, qg 27 (.fieldAddr 49 (.tmp 26) 3) 0 13 false, qg 28 (.load 9 (.tmp 27)) 9 13 false, qg 29 (cl 38 #[.tmp 23, .tmp 28] #[23, 9]) 4 13 false, q 30 (.pick (.tmp 18) (.const (.bool true)) (.tmp 29)) 4] false) (.cond (.tmp 30) (.seq (.region 2 #[q 4 (.assign (.const (.bool false))) 4] false) .ret) .skip)) (.seq (.region 3 #[q 31 (.move (.tmp 1)) 65, q 32 (.move (.tmp 0)) 47, q 33 (.nilCheck (.tmp 32)) 0, q 34 (.fieldAddr 51 (.tmp 33) 1) 0, q 35 (.fieldAddr 49 (.tmp 34) 3) 0, q 36 (.load 9 (.tmp 35)) 9, q 37 (.nilCheck (.tmp 31)) 0, q 38 (.fieldAddr 67 (.tmp 37) 2) 0, qn (.store 9 (.tmp 38) (.tmp 36)) 0] false) (.seq (.region 4 #[q 39 (.move (.tmp 0)) 47, q 40 (cl 21 #[.tmp 39] #[47]) 0] false) (.seq (.region 5 #[q 41 (.move (.tmp 0)) 47, q 42 (cl 30 #[.tmp 41, ik 5] #[47, 3]) 4, q 4 (.assign (.tmp 42)) 4] false) .ret))))
theorem s31 : Tryd.f31.body.map (slim cfg) = some g31 := by kernel_rfl
def g29 : Code :=
  .seq (.region 0 #[q 4 (.assign (.const (.slice none 0 0))) 60, q 5 (.assign (.const (.bool false))) 4, q 6 (.assign (ik 0)) 33] false) (.seq (.region 1 #[q 7 (.assign (ik 4)) 3, q 8 (.assign (ik 4)) 3] false) (.seq (.block 0 (.seq (.region 2 #[q 10 (.move (.tmp 0)) 47, q 11 (.nilCheck (.tmp 10)) 0, q 12 (.fieldAddr 51 (.tmp 11) 2) 0, q 13 (.load 33 (.tmp 12)) 33, q 14 (.binOp .neq 33 (.tmp 13) (ik 0) 33) 4, q 9 (.assign (.tmp 14)) 4] false) (.cond (.tmp 9) (.seq (.region 3 #[q 15 (.move (.tmp 1)) 60, q 16 (.move (.tmp 0)) 47, q 17 (cl 24 #[.tmp 16] #[47]) 33, q 4 (.assign (.tmp 15)) 60, q 5 (.assign (.const (.bool false))) 4, q 6 (.assign (.tmp 17)) 33] false) .ret) (.seq (.region 4 #[q 19 (.move (.tmp 0)) 47, q 20 (.nilCheck (.tmp 19)) 0, q 21 (.fieldAddr 51 (.tmp 20) 1) 0, q 22 (.fieldAddr 49 (.tmp 21) 0) 0, q 23 (.load 3 (.tmp 22)) 3, q 24 (.binOp .eql 3 (.tmp 23) (ik 1) 3) 4, q 18 (.assign (.tmp 24)) 4] false) (.cond (.tmp 18) (.region 5 #[q 7 (.assign (ik 5)) 3, q 8 (.assign (ik 2)) 3] false) (.seq (.region 6 #[q 26 (.move (.tmp 0)) 47, q 27 (.nilCheck (.tmp 26)) 0, q 28 (.fieldAddr 51 (.tmp 27) 1) 0, q 29 (.fieldAddr 49 (.tmp 28) 0) 0, q 30 (.load 3 (.tmp 29)) 3, q 31 (.binOp .neq 3 (.tmp 30) (ik 3) 3) 4, q 25 (.assign (.tmp 31)) 4] false) (.cond (.tmp 25) (.seq (.region 7 #[q 32 (.move (.tmp 1)) 60, q 4 (.assign (.tmp 32)) 60, q 5 (.assign (.const (.bool false))) 4, q 6 (.assign (ik 3)) 33] false) .ret) .skip))))))) (.seq (.seq (.region 8 #[q 33 (.move (.tmp 1)) 60, q 34 (bi .len #[.tmp 33] #[60]) 3, q 35 (.move (.tmp 0)) 47, q 36 (.nilCheck (.tmp 35)) 0, q 37 (.fieldAddr 51 (.tmp 36) 4) 0, q 38 (.load 3 (.tmp 37)) 3, q 39 (.binOp .geq 3 (.tmp 34) (.tmp 38) 3) 4] false) (.cond (.tmp 39) (.seq (.region 9 #[q 40 (.move (.tmp 1)) 60, q 4 (.assign (.tmp 40)) 60, q 5 (.assign (.const (.bool false))) 4, q 6 (.assign (ik 4)) 33] false) .ret) .skip)) (.seq (.region 10 #[q 41 (.move (.tmp 0)) 47, q 42 (cl 21 #[.tmp 41] #[47]) 0] false) (.seq (.region 11 #[q 43 (.move (.tmp 1)) 60, q 44 (.move (.tmp 7)) 3, q 45 (.build 25 #[(0, .tmp 44)]) 25, q 46 (.move (.tmp 8)) 3, q 47 (.build 67 #[(0, .tmp 45), (1, .tmp 46)]) 67, q 48 (.buildSlice 60 1 #[(0, .tmp 47)]) 60, q 49 (bi .append #[.tmp 43, .tmp 48] #[60, 60]) 60, q 4 (.assign (.tmp 49)) 60, q 5 (.assign (.const (.bool true))) 4, q 6 (.assign (ik 0)) 33] false) .ret)))))
theorem s29 : Tryd.f29.body.map (slim cfg) = some g29 := by kernel_rfl
theorem strLen (x : List UInt8) : (AV.str x).cells.length = 1 := rfl
def inN (ns : List (List UInt8)) (x : List UInt8) : Bool := ns.any fun n => n == x
def idxS : List (List UInt8) → List UInt8 → Int → Int
  | [], _, _ => -1
  | n :: r, x, i => if x == n then i else idxS r x (i + 1)
theorem idxS_ge : ∀ (l : List (List UInt8)) (x : List UInt8) (i : Int), 0 ≤ i → (0 ≤ idxS l x i ↔ inN l x = true)
  | [], x, i, _ => by simp [idxS, inN]
  | n :: r, x, i, hi => by
    have := idxS_ge r x (i + 1) (by omega)
    unfold inN at this ⊢
    by_cases h : x = n
    · subst h; simp [idxS, hi]
    · have h2 : ¬ n = x := fun e => h e.symm
      simp [idxS, h, h2, this]


theorem indexS_ok (ns : List (List UInt8)) (x : List UInt8) (z : AV) (hz : Sl AV.str z ns) (hn : ns.length ≤ 9223372036854775807) (prot : Nat) (H : Heap) (hp : prot ≤ H.length) :
    aLim cfg prot 49 [z, .str x] H = some (.int .i64 (idxS ns x 0), none) := by
  have hsnap : snap H [z, .str x] = some ([z, .str x], false) := by cases hz <;> rfl
  have e0 : ∀ a b, aStr .eql a b = some (.bool (a == b)) := fun _ _ => rfl
  refine pure_slim rfl (by kernel_rfl) Tryd.func49 s49 hp hsnap (by simp [Tryd.f49]) fun fr hlen h => ?_
  simp only [Has, Nat.zero_add] at h
  obtain ⟨a0, a1, -⟩ := h
  simp only [Tryd.f49] at hlen ⊢
  unfold g49
  simp only [wk, aBuiltin, AV.cells, AV.leaf, Nat.reduceEqDiff, Nat.reduceLT, Nat.reduceAdd, Nat.reduceLeDiff, reduceCtorEq, Nat.reduceMul, Nat.reduceMod, cfgP, u49, hlen, a0, a1, hz.len Tryd.underlying23]
  refine loop_rule (fun m fr H' => ∃ (i : Nat), m = ns.length - i ∧ i ≤ ns.length ∧ fr.length = 19 ∧ fget fr 0 = z ∧ fget fr 1 = .str x ∧ fget fr 7 = .int .i64 ns.length ∧ fget fr 8 = .int .i64 i
    ∧ H' = H ∧ idxS ns x 0 = idxS (ns.drop i) x i) ?_ ns.length _ _ ⟨0, by simp [wk, aBuiltin, AV.cells, AV.leaf, Nat.reduceEqDiff, Nat.reduceLT, Nat.reduceAdd, Nat.reduceLeDiff, reduceCtorEq, Nat.reduceMul, Nat.reduceMod, cfgP, u49, hlen, a0, a1]⟩
  rintro m fr H' ⟨i, rfl, hi, hlen, a0, a1, a7, a8, hHe, hc⟩ ih
  subst hHe
  simp only [wk, aBuiltin, AV.cells, AV.leaf, Nat.reduceEqDiff, Nat.reduceLT, Nat.reduceAdd, Nat.reduceLeDiff, reduceCtorEq, Nat.reduceMul, Nat.reduceMod, cfgP, u49, hlen, a0, a1, a7, a8]
  refine RC_split (fun h => ?_) (fun h => ?_)
  · have hlt : i < ns.length := by simpa using h
    have hw : IntKind.i64.wrap ((i : Int) + 1) = ((i + 1 : Nat) : Int) := by rw [wrap64 (by omega) (by omega)]; simp
    have e1 := hz.at (k := .i64) Tryd.underlying23 sz9 strLen hlt
    have hd : ns.drop i = ns[i] :: ns.drop (i + 1) := by simp
    generalize ns[i] = n at *
    rw [hd, idxS] at hc
    simp only [wk, aBuiltin, AV.cells, AV.leaf, Nat.reduceEqDiff, Nat.reduceLT, Nat.reduceAdd, Nat.reduceLeDiff, reduceCtorEq, Nat.reduceMul, Nat.reduceMod, cfgP, u49, hlen, a0, a1, a7, a8, e1, e0]
    cases hq : x == n with
    | true =>
      rw [hq, if_pos rfl] at hc
      rw [hc]
      simp only [wk, aBuiltin, AV.cells, AV.leaf, Nat.reduceEqDiff, Nat.reduceLT, Nat.reduceAdd, Nat.reduceLeDiff, reduceCtorEq, Nat.reduceMul, Nat.reduceMod, cfgP, u49, hlen, a0, a1, a7, a8]
      exact Fin_pure (l := [.int .i64 i]) (by simp [wk, aBuiltin, AV.cells, AV.leaf, Nat.reduceEqDiff, Nat.reduceLT, Nat.reduceAdd, Nat.reduceLeDiff, reduceCtorEq, Nat.reduceMul, Nat.reduceMod, cfgP, u49, aResults, aResult, hlen]) (.still rfl) (by simp)
    | false =>
      rw [hq, if_neg (by simp)] at hc
      simp only [wk, aBuiltin, AV.cells, AV.leaf, Nat.reduceEqDiff, Nat.reduceLT, Nat.reduceAdd, Nat.reduceLeDiff, reduceCtorEq, Nat.reduceMul, Nat.reduceMod, cfgP, u49, hlen, a0, a1, a7, a8, hw]
      refine ih _ _ (ns.length - (i + 1)) (by omega) ⟨i + 1, rfl, hlt, ?_⟩
      rw [hc]
      simp [wk, aBuiltin, AV.cells, AV.leaf, Nat.reduceEqDiff, Nat.reduceLT, Nat.reduceAdd, Nat.reduceLeDiff, reduceCtorEq, Nat.reduceMul, Nat.reduceMod, cfgP, u49, hlen, a0, a1, a7, a8]
  · simp only [wk, aBuiltin, AV.cells, AV.leaf, Nat.reduceEqDiff, Nat.reduceLT, Nat.reduceAdd, Nat.reduceLeDiff, reduceCtorEq, Nat.reduceMul, Nat.reduceMod, cfgP, u49, hlen, a0, a1, a7, a8]
    have hnl : ¬ i < ns.length := by simpa using h
    have : ns.drop i = [] := by simp; omega
    rw [this] at hc
    rw [hc]
    exact Fin_pure (l := [.int .i64 (-1)]) (by simp [wk, aBuiltin, AV.cells, AV.leaf, Nat.reduceEqDiff, Nat.reduceLT, Nat.reduceAdd, Nat.reduceLeDiff, reduceCtorEq, Nat.reduceMul, Nat.reduceMod, cfgP, u49, aResults, aResult, hlen]) (.still rfl) (by simp)

theorem contS_ok (ns : List (List UInt8)) (x : List UInt8) (z : AV) (hz : Sl AV.str z ns) (hn : ns.length ≤ 9223372036854775807) (prot : Nat) (H : Heap) (hp : prot ≤ H.length) :
    aLim cfg prot 38 [z, .str x] H = some (.bool (inN ns x), none) := by
  have hsnap : snap H [z, .str x] = some ([z, .str x], false) := by cases hz <;> rfl
  have n1 := indexS_ok ns x z hz hn H.length H (Nat.le_refl _)
  have e : decide (idxS ns x 0 ≥ 0) = inN ns x := by
    have := idxS_ge ns x 0 (by omega)
    rw [Bool.eq_iff_iff, decide_eq_true_iff, ← this]
  refine pure_slim rfl (by kernel_rfl) Tryd.func38 s38 hp hsnap (by simp [Tryd.f38]) fun fr hlen h => ?_
  simp only [Has, Nat.zero_add] at h
  obtain ⟨a0, a1, -⟩ := h
  simp only [Tryd.f38] at hlen ⊢
  unfold g38
  simp only [wk, aBuiltin, AV.cells, AV.leaf, Nat.reduceEqDiff, Nat.reduceLT, Nat.reduceAdd, Nat.reduceLeDiff, reduceCtorEq, Nat.reduceMul, Nat.reduceMod, cfgP, u49, hlen, a0, a1, n1, e]
  exact Fin_pure (l := [.bool (inN ns x)]) (by simp [wk, aBuiltin, AV.cells, AV.leaf, Nat.reduceEqDiff, Nat.reduceLT, Nat.reduceAdd, Nat.reduceLeDiff, reduceCtorEq, Nat.reduceMul, Nat.reduceMod, cfgP, u49, aResults, aResult, hlen]) (.still rfl) (by simp)

theorem strT : EncT AV.str 1 false where
  len _ := rfl
  leaf x c hc := by simp [AV.cells] at hc; subst hc; rfl
  still x c hc := by simp [AV.cells] at hc; subst hc; rfl
  shape _ := rfl
theorem contRow {base : Nat} {K : Heap} {v : AV} {l : List (List UInt8)} (h : Row AV.str 1 false base K v l) (x : List UInt8) (hn : l.length ≤ 9223372036854775807) (prot : Nat) (hp : prot ≤ K.length) : aLim cfg prot 38 [v, .str x] K = some (.bool (inN l x), none) := by
  rcases h with ⟨rfl, rfl⟩ | ⟨c, ver, rfl, h2, h3, h4⟩
  · exact contS_ok [] x .nilS .nil (by simp) prot K hp
  · have hw : win (cellsOf AV.str l) 0 l.length = some (cellsOf AV.str l) := by
      have := cellsOf_length strT l
      simp only [win, Nat.zero_add, List.drop_zero]
      rw [if_pos (by omega), List.take_of_length_le (by omega)]
    have hc := chunk_cellsOf strT (by decide) l
    have hpl : AV.plL (cellsOf AV.str l) = true := by
      clear hc hw h3 hn
      induction l with
      | nil => rfl
      | cons a r ih => simp only [cellsOf, List.flatMap_cons, AV.cells, List.cons_append, List.nil_append, AV.plL, AV.pl, Bool.true_and]; exact ih
    have hs : snap K [.bs ⟨c, ver, 0, l.length, 0, 1, false, false⟩, .str x] = some ([.vs (l.map AV.str) false, .str x], true) := by
      simp [snap, h3, hw, hpl, hc]
    exact lim_snap (by kernel_rfl) Tryd.func38 (by kernel_rfl) hs rfl (contS_ok l x _ (.vs l false) hn prot K hp) rfl
def keyP (s : List UInt8) (p : Ps) (keys : List (List UInt8)) : Bool × Ps := if p.e = 0 ∧ p.kind = 7 ∧ inN keys p.text = false then takesP s (stepP s p) 5 else (false, p)
theorem splice_one {cs : List AV} {i : Nat} (x : AV) (h : i < cs.length) : splice cs i [x] = cs.set i x := by
  unfold splice
  rw [List.set_eq_take_append_cons_drop, if_pos h]
  simp
theorem stepP_to (s : List UInt8) (p : Ps) (h : p.to ≤ s.length) : (stepP s p).to ≤ s.length ∧ (stepP s p).at_ ≤ s.length := by
  unfold stepP
  cases htk : tokS ((s.drop p.to).drop (runS blankC (s.drop p.to))) with
  | bad e => exact ⟨h, h⟩
  | tok t =>
    obtain ⟨p1, p2⟩ := tokS_pos htk
    simp only [List.length_drop] at p2
    exact ⟨by dsimp only; omega, h⟩

theorem key_ok (s : List UInt8) (hl : s.length < 1000000000) (p : Ps) (d : Int) (hto : p.to ≤ s.length) (b prot : Nat) (K : Heap) (hg : hget K b 0 = some (cellsPs s p d)) (hg0 : hget K 0 (gver 0) = some [ET]) (hp : prot ≤ b)
    (c cv off base : Nat) (cs : List AV) (kv : AV) (keys : List (List UInt8)) (hc : hget K c cv = some cs) (hpc : prot ≤ c) (hbc : b ≠ c) (h5 : cs[off + 5]? = some kv) (hlen8 : off + 8 ≤ cs.length) (hv4 : cv % 4 = 0) (hrow : Row AV.str 1 false base K kv keys) (hkl : keys.length ≤ 1000000000) :
    aLim cfg prot 31 [.ptr b 0 0, .ptr c cv off] K = some (.bool (keyP s p keys).1, some (if p.e = 0 ∧ p.kind = 7 ∧ inN keys p.text = false then (K.set c (.cells cv (cs.set (off + 7) (.str p.text)))).set b (.cells 0 (cellsPs s (keyP s p keys).2 d)) else K)) := by
  have hlt := hget_lt hg
  have hltc := hget_lt hc
  have nc := contRow hrow p.text (by omega) prot (by omega)
  unfold keyP
  by_cases he : p.e = 0
  · have d1 : decide (¬ p.e = 0) = false := by simp [he]
    by_cases hk : p.kind = 7
    · have d2 : decide (¬ p.kind = 7) = false := by simp [hk]
      cases hin : inN keys p.text with
      | true =>
        rw [hin] at nc
        rw [if_neg (by simp), if_neg (by simp)]
        simp only [cellsPs] at hg
        refine raw_slim rfl (by kernel_rfl) (by kernel_rfl) (by kernel_rfl) Tryd.func31 s31 (by simp [Tryd.f31]) fun fr hlen h => ?_
        simp only [Has, Nat.zero_add] at h
        obtain ⟨a0, a1, -⟩ := h
        simp only [Tryd.f31] at hlen ⊢
        unfold g31
        simp only [wk, aBuiltin, AV.cells, AV.leaf, Nat.reduceEqDiff, Nat.reduceLT, Nat.reduceAdd, Nat.reduceLeDiff, reduceCtorEq, Nat.reduceMul, Nat.reduceMod, cfgP, u49, hlen, a0, a1, hg, d1, d2, none_beq, hc, h5, nc]
        exact Fin_raw (l := [.bool false]) (by simp [wk, aBuiltin, AV.cells, AV.leaf, Nat.reduceEqDiff, Nat.reduceLT, Nat.reduceAdd, Nat.reduceLeDiff, reduceCtorEq, Nat.reduceMul, Nat.reduceMod, cfgP, u49, hlen, aResults, aResult])
      | false =>
        rw [hin] at nc
        rw [if_pos ⟨he, hk, rfl⟩, if_pos ⟨he, hk, rfl⟩]
        have hput1 : hput prot K c cv (off + 7) [.str p.text] = some (K.set c (.cells cv (cs.set (off + 7) (.str p.text)))) := by
          rw [hput_eq hc hpc (by simp; omega) rfl, splice_one _ (by omega)]
        have hgb1 : hget (K.set c (.cells cv (cs.set (off + 7) (.str p.text)))) b 0 = some (cellsPs s p d) := by rw [hget_set_ne hbc]; exact hg
        have h0c : (0 : Nat) ≠ c := by
          rintro rfl
          have e1 := alive_of_hget hg0
          have e2 := alive_of_hget hc
          rw [e1] at e2
          injection (Option.some.inj e2) with e3 _
          simp only [gver] at e3
          omega
        have hg01 : hget (K.set c (.cells cv (cs.set (off + 7) (.str p.text)))) 0 (gver 0) = some [ET] := by rw [hget_set_ne h0c]; exact hg0
        have hltK : b < (K.set c (.cells cv (cs.set (off + 7) (.str p.text)))).length := by simpa using hlt
        generalize hK1 : K.set c (.cells cv (cs.set (off + 7) (.str p.text))) = K1 at *
        have n1 := step_ok s hl p d hto b prot K1 hgb1 hg01 hp
        have hb0 := ne_glob hg01 hgb1
        have n2 := takes_ok s hl (stepP s p) d 5 (stepP_to s p hto).1 b prot (K1.set b (.cells 0 (cellsPs s (stepP s p) d))) (hget_set_at hltK) (by rw [hget_set_ne (Ne.symm hb0)]; exact hg01) hp
        rw [List.set_set] at n2
        simp only [cellsPs] at hg hgb1
        refine raw_slim rfl (by kernel_rfl) (by kernel_rfl) (by kernel_rfl) Tryd.func31 s31 (by simp [Tryd.f31]) fun fr hlen h => ?_
        simp only [Has, Nat.zero_add] at h
        obtain ⟨a0, a1, -⟩ := h
        simp only [Tryd.f31] at hlen ⊢
        unfold g31
        simp only [wk, aBuiltin, AV.cells, AV.leaf, Nat.reduceEqDiff, Nat.reduceLT, Nat.reduceAdd, Nat.reduceLeDiff, reduceCtorEq, Nat.reduceMul, Nat.reduceMod, cfgP, u49, hlen, a0, a1, hg, d1, d2, none_beq, hc, h5, nc, hput1, hgb1, n1, n2]
        exact Fin_raw (l := [.bool (takesP s (stepP s p) 5).1]) (by simp [wk, aBuiltin, AV.cells, AV.leaf, Nat.reduceEqDiff, Nat.reduceLT, Nat.reduceAdd, Nat.reduceLeDiff, reduceCtorEq, Nat.reduceMul, Nat.reduceMod, cfgP, u49, hlen, aResults, aResult])
    · have d2 : decide (¬ p.kind = 7) = true := decide_eq_true hk
      rw [if_neg (fun h => hk h.2.1), if_neg (fun h => hk h.2.1)]
      simp only [cellsPs] at hg
      refine raw_slim rfl (by kernel_rfl) (by kernel_rfl) (by kernel_rfl) Tryd.func31 s31 (by simp [Tryd.f31]) fun fr hlen h => ?_
      simp only [Has, Nat.zero_add] at h
      obtain ⟨a0, a1, -⟩ := h
      simp only [Tryd.f31] at hlen ⊢
      unfold g31
      simp only [wk, aBuiltin, AV.cells, AV.leaf, Nat.reduceEqDiff, Nat.reduceLT, Nat.reduceAdd, Nat.reduceLeDiff, reduceCtorEq, Nat.reduceMul, Nat.reduceMod, cfgP, u49, hlen, a0, a1, hg, d1, d2, none_beq]
      exact Fin_raw (l := [.bool false]) (by simp [wk, aBuiltin, AV.cells, AV.leaf, Nat.reduceEqDiff, Nat.reduceLT, Nat.reduceAdd, Nat.reduceLeDiff, reduceCtorEq, Nat.reduceMul, Nat.reduceMod, cfgP, u49, hlen, aResults, aResult])
  · have d1 : decide (¬ p.e = 0) = true := decide_eq_true he
    rw [if_neg (fun h => he h.1), if_neg (fun h => he h.1)]
    simp only [cellsPs] at hg
    refine raw_slim rfl (by kernel_rfl) (by kernel_rfl) (by kernel_rfl) Tryd.func31 s31 (by simp [Tryd.f31]) fun fr hlen h => ?_
    simp only [Has, Nat.zero_add] at h
    obtain ⟨a0, a1, -⟩ := h
    simp only [Tryd.f31] at hlen ⊢
    unfold g31
    simp only [wk, aBuiltin, AV.cells, AV.leaf, Nat.reduceEqDiff, Nat.reduceLT, Nat.reduceAdd, Nat.reduceLeDiff, reduceCtorEq, Nat.reduceMul, Nat.reduceMod, cfgP, u49, hlen, a0, a1, hg, d1, none_beq]
    exact Fin_raw (l := [.bool false]) (by simp [wk, aBuiltin, AV.cells, AV.leaf, Nat.reduceEqDiff, Nat.reduceLT, Nat.reduceAdd, Nat.reduceLeDiff, reduceCtorEq, Nat.reduceMul, Nat.reduceMod, cfgP, u49, hlen, aResults, aResult])
end Go.Proofs.YtimbhlbkidmplaaDoor
/- Literals of one element that lie in the heap. -/
namespace Go.Abs
open Go
theorem lit1b {α : Type} {enc : α → AV} {P : Program} {H : Heap} {t e : TypeId} {sz by_ : Nat} {ag : Bool} (ht : RowT P t e sz by_ ag) (he : EncT enc sz ag) {z : AV} (hz : zeroT P e = some z) (hs : litOk z ag sz = false) (hsz : sz ≤ 16777216) (x : α) :
    aBuildSlice P H t 1 [(0, enc x)] = some (.bs ⟨H.length, 0, 0, 1, 1, sz, ag, true⟩, some (H ++ [Blk.cells 0 (enc x).cells])) := by
  obtain ⟨z', hz', hzl⟩ := ht.zero
  rw [hz] at hz'; cases hz'
  have h1 : (zrep 1 z.cells).length = sz := by simp [zrep, hzl]
  have h2 : fillA (fun i => some (i * sz, sz)) (zrep 1 z.cells) [(0, enc x)] = some (enc x).cells := by
    simp only [fillA, Option.bind_some, he.len, Nat.zero_mul, Nat.zero_add, h1, Nat.le_refl, and_self, if_true, splice, List.take_zero, List.nil_append]
    rw [List.drop_eq_nil_of_le (by omega), List.append_nil]
  have h3 : (enc x).cells.all AV.leaf = true := List.all_eq_true.2 (he.leaf x)
  unfold aBuildSlice
  simp only [ht.elem, ht.size, ht.agg, hz, Option.bind_some, Nat.one_mul, hsz, hzl, ht.pos, and_self, if_true, h2, h3, hs, Bool.false_eq_true, if_false]
theorem elem_b1 {α : Type} {enc : α → AV} {sz : Nat} {ag : Bool} {H : Heap} (he : EncT enc sz ag) (x : α) {b : Nat} (hg : hget H b 0 = some (enc x).cells) : elemCells H sz (.bs ⟨b, 0, 0, 1, 1, sz, ag, true⟩) = some (([x] : List α).length, cellsOf enc [x]) := by
  have hw : win (enc x).cells 0 (1 * sz) = some (enc x).cells := by
    have := he.len x
    simp only [win, Nat.zero_add, List.drop_zero, Nat.one_mul]
    rw [if_pos (by omega), List.take_of_length_le (by omega)]
  simp only [elemCells, if_true, hg, Option.bind_some, hw, Option.map_some]
  simp [cellsOf]
end Go.Abs
/- jval's parser: begin, walked. -/
namespace Go.Proofs.YtimbhlbkidmplaaDoor
open Go Go.Abs AbsSeat Ty

def litC (x : Int × Int) : List AV := [.int .i64 x.1, .bool false, .int .i64 0, .str [], .nilS, .nilS, .int .i64 x.2, .str []]
def encOp (x : Int × Int) : AV := .agg (litC x)
theorem encOp_T : EncT encOp 8 true where
  len _ := rfl
  leaf x c hc := by simp [encOp, litC, AV.cells] at hc; rcases hc with rfl | rfl | rfl | rfl | rfl | rfl | rfl | rfl <;> rfl
  still x c hc := by simp [encOp, litC, AV.cells] at hc; rcases hc with rfl | rfl | rfl | rfl | rfl | rfl | rfl | rfl <;> rfl
  shape _ := rfl
theorem rowOp : RowT Tryd.prog 60 67 8 112 true where
  un := Tryd.underlying60
  size := sz67
  bytes := by67
  agg := ag67
  zero := ⟨_, ze67, rfl⟩
  pos := by decide
  tree := rfl
theorem litOp (k e : Int) (H : Heap) : aBuildSlice Tryd.prog H 60 1 [(0, .agg [.int .i64 k, .bool false, .int .i64 0, .str [], .nilS, .nilS, .int .i64 e, .str []])] = some (.bs ⟨H.length, 0, 0, 1, 1, 8, true, true⟩, some (H ++ [Blk.cells 0 [.int .i64 k, .bool false, .int .i64 0, .str [], .nilS, .nilS, .int .i64 e, .str []]])) :=
  lit1b rowOp encOp_T ze67 rfl (by decide) (k, e)
/-- what is open, as it lies: 'n' of them, their cells. -/
def StkR (p : Nat) (K : Heap) (v : AV) (n : Nat) (cells : List AV) : Prop :=
  (v = .nilS ∧ n = 0 ∧ cells = []) ∨ ∃ c cv rest, v = .bs ⟨c, cv, 0, n, 0, 8, true, false⟩ ∧ hget K c cv = some (cells ++ rest) ∧ cells.length = n * 8 ∧ cv % 4 = 0 ∧ p ≤ c
theorem StkR.len {p : Nat} {K : Heap} {v : AV} {n : Nat} {cells : List AV} (h : StkR p K v n cells) (K' : Heap) : aLen Tryd.prog K' 60 v = some (.int .i64 n) := by
  rcases h with ⟨rfl, rfl, rfl⟩ | ⟨c, cv, rest, rfl, h2, h3, h4, h5⟩ <;> simp [aLen, Tryd.underlying60]
def stkB : AV → List Nat
  | .bs s => [s.b]
  | _ => []
theorem StkR.push {p : Nat} {K : Heap} {v : AV} {n : Nat} {cells : List AV} (h : StkR p K v n cells) (x : Int × Int) (y : AV) (hy : elemCells K 8 y = some (1, litC x)) (hn : n < 1000000000) (hp : p ≤ K.length) :
    ∃ c cv K', aAppend Tryd.prog p K #[60, 60] v y = some (.bs ⟨c, cv, 0, n + 1, 0, 8, true, false⟩, some K') ∧ hget K' c cv = some (cells ++ litC x) ∧ cv % 4 = 0 ∧ p ≤ c ∧ K.length ≤ K'.length ∧ c < K'.length ∧
      (stkB v = [c] ∨ stkB v = [] ∧ c = K.length) ∧ ∀ z, z < K.length → z ≠ c → K'[z]? = K[z]? := by
  obtain ⟨z, hz, hzl⟩ := rowOp.zero
  have hel := hy
  have hlf : (litC x).all AV.leaf = true := rfl
  rcases h with ⟨rfl, rfl, rfl⟩ | ⟨c, cv, rest, rfl, h2, h3, h4, h5⟩
  · refine ⟨K.length, 0, K ++ [Blk.cells 0 (litC x)], ?_, by rw [hget_new rfl, if_pos rfl]; rfl, rfl, hp, by simp, by simp, .inr ⟨rfl, rfl⟩, fun z hz _ => by rw [List.getElem?_append_left hz]⟩
    unfold aAppend
    simp only [rowOp.row0, List.getElem?_toArray, List.getElem?_cons_zero, List.getElem?_cons_succ, Option.bind_some, rowOp.elem, rowOp.size, rowOp.bytes, rowOp.agg, hz, hzl, Tryd.underlying60, hel, ne_eq, not_true_eq_false, if_false, hlf, if_true]
    rfl
  · have hlt := hget_lt h2
    have hw : win (cells ++ rest) 0 (n * 8) = some cells := by
      simp only [win, Nat.zero_add, List.drop_zero]
      rw [if_pos (by simp; omega), List.take_left' h3]
    have hro : roomy (n + 1) 112 = true := by simp [roomy]; omega
    refine ⟨c, cv + 4, K.set c (Blk.cells (cv + 4) (cells ++ litC x)), ?_, hget_set_at hlt, by omega, h5, by simp, by simpa using hlt, .inl rfl, fun z hz hne => by rw [List.getElem?_set_ne (Ne.symm hne)]⟩
    unfold aAppend
    simp only [List.getElem?_toArray, List.getElem?_cons_zero, List.getElem?_cons_succ, Option.bind_some, rowOp.elem, rowOp.size, rowOp.bytes, rowOp.agg, hz, hzl, Tryd.underlying60, hel, ne_eq, not_true_eq_false, if_false, hlf, if_true, List.length_cons, List.length_nil, Nat.zero_add, Nat.one_ne_zero, h2, hw, hro, Bool.false_eq_true, h5, rowOk_zero h4, and_self]
    try rfl
def beginK (p : Ps) : Option (Int × Int) := if p.kind = 1 then some (5, 2) else if p.kind = 3 then some (4, 4) else none
/-- why nothing begins. -/
def beginE (p : Ps) (n : Nat) (d : Int) : Int := if p.e = 0 then (match beginK p with | none => 3 | some _ => if d ≤ n then 4 else 0) else amissP p

theorem begin_no (s : List UInt8) (p : Ps) (d : Int) (b prot : Nat) (K : Heap) (hg : hget K b 0 = some (cellsPs s p d)) (hp : prot ≤ b) (v : AV) (n : Nat) (cells : List AV) (hst : StkR prot K v n cells) (he : beginE p n d ≠ 0) :
    aLim cfg prot 29 [.ptr b 0 0, v] K = some (.tup [v, .bool false, .int .i64 (beginE p n d)], some K) := by
  have hlt := hget_lt hg
  have na := amiss_ok s p d b prot K hg (by omega)
  have hln := hst.len
  unfold beginE at he ⊢
  simp only [cellsPs] at hg
  by_cases h0 : p.e = 0
  · have d1 : decide (¬ p.e = 0) = false := by simp [h0]
    rw [if_pos h0] at he ⊢
    unfold beginK at he ⊢
    by_cases h1 : p.kind = 1
    · have d2 : decide (p.kind = 1) = true := decide_eq_true h1
      rw [if_pos h1] at he ⊢
      dsimp only at he ⊢
      by_cases hd : d ≤ n
      · rw [if_pos hd]
        have d3 : decide (d ≤ (n : Int)) = true := decide_eq_true hd
        refine raw_slim rfl (by kernel_rfl) (by kernel_rfl) (by kernel_rfl) Tryd.func29 s29 (by simp [Tryd.f29]) fun fr hlen h => ?_
        simp only [Has, Nat.zero_add] at h
        obtain ⟨a0, a1, -⟩ := h
        simp only [Tryd.f29] at hlen ⊢
        unfold g29
        simp only [wk, aBuiltin, AV.cells, AV.leaf, Nat.reduceEqDiff, Nat.reduceLT, Nat.reduceAdd, Nat.reduceLeDiff, reduceCtorEq, Nat.reduceMul, Nat.reduceMod, cfgP, u49, hlen, a0, a1, hg, d1, d2, hln, d3]
        exact Fin_raw (l := [v, .bool false, .int .i64 4]) (by simp [wk, aBuiltin, AV.cells, AV.leaf, Nat.reduceEqDiff, Nat.reduceLT, Nat.reduceAdd, Nat.reduceLeDiff, reduceCtorEq, Nat.reduceMul, Nat.reduceMod, cfgP, u49, hlen, aResults, aResult])
      · rw [if_neg hd] at he; exact absurd rfl he
    · have d2 : decide (p.kind = 1) = false := decide_eq_false h1
      rw [if_neg h1] at he ⊢
      by_cases h3 : p.kind = 3
      · have d4 : decide (¬ p.kind = 3) = false := by simp [h3]
        rw [if_pos h3] at he ⊢
        dsimp only at he ⊢
        by_cases hd : d ≤ n
        · rw [if_pos hd]
          have d3 : decide (d ≤ (n : Int)) = true := decide_eq_true hd
          refine raw_slim rfl (by kernel_rfl) (by kernel_rfl) (by kernel_rfl) Tryd.func29 s29 (by simp [Tryd.f29]) fun fr hlen h => ?_
          simp only [Has, Nat.zero_add] at h
          obtain ⟨a0, a1, -⟩ := h
          simp only [Tryd.f29] at hlen ⊢
          unfold g29
          simp only [wk, aBuiltin, AV.cells, AV.leaf, Nat.reduceEqDiff, Nat.reduceLT, Nat.reduceAdd, Nat.reduceLeDiff, reduceCtorEq, Nat.reduceMul, Nat.reduceMod, cfgP, u49, hlen, a0, a1, hg, d1, d2, d4, hln, d3]
          exact Fin_raw (l := [v, .bool false, .int .i64 4]) (by simp [wk, aBuiltin, AV.cells, AV.leaf, Nat.reduceEqDiff, Nat.reduceLT, Nat.reduceAdd, Nat.reduceLeDiff, reduceCtorEq, Nat.reduceMul, Nat.reduceMod, cfgP, u49, hlen, aResults, aResult])
        · rw [if_neg hd] at he; exact absurd rfl he
      · have d4 : decide (¬ p.kind = 3) = true := decide_eq_true h3
        rw [if_neg h3]
        dsimp only
        refine raw_slim rfl (by kernel_rfl) (by kernel_rfl) (by kernel_rfl) Tryd.func29 s29 (by simp [Tryd.f29]) fun fr hlen h => ?_
        simp only [Has, Nat.zero_add] at h
        obtain ⟨a0, a1, -⟩ := h
        simp only [Tryd.f29] at hlen ⊢
        unfold g29
        simp only [wk, aBuiltin, AV.cells, AV.leaf, Nat.reduceEqDiff, Nat.reduceLT, Nat.reduceAdd, Nat.reduceLeDiff, reduceCtorEq, Nat.reduceMul, Nat.reduceMod, cfgP, u49, hlen, a0, a1, hg, d1, d2, d4]
        exact Fin_raw (l := [v, .bool false, .int .i64 3]) (by simp [wk, aBuiltin, AV.cells, AV.leaf, Nat.reduceEqDiff, Nat.reduceLT, Nat.reduceAdd, Nat.reduceLeDiff, reduceCtorEq, Nat.reduceMul, Nat.reduceMod, cfgP, u49, hlen, aResults, aResult])
  · have d1 : decide (¬ p.e = 0) = true := decide_eq_true h0
    rw [if_neg h0]
    refine raw_slim rfl (by kernel_rfl) (by kernel_rfl) (by kernel_rfl) Tryd.func29 s29 (by simp [Tryd.f29]) fun fr hlen h => ?_
    simp only [Has, Nat.zero_add] at h
    obtain ⟨a0, a1, -⟩ := h
    simp only [Tryd.f29] at hlen ⊢
    unfold g29
    simp only [wk, aBuiltin, AV.cells, AV.leaf, Nat.reduceEqDiff, Nat.reduceLT, Nat.reduceAdd, Nat.reduceLeDiff, reduceCtorEq, Nat.reduceMul, Nat.reduceMod, cfgP, u49, hlen, a0, a1, hg, d1, na]
    exact Fin_raw (l := [v, .bool false, .int .i64 (amissP p)]) (by simp [wk, aBuiltin, AV.cells, AV.leaf, Nat.reduceEqDiff, Nat.reduceLT, Nat.reduceAdd, Nat.reduceLeDiff, reduceCtorEq, Nat.reduceMul, Nat.reduceMod, cfgP, u49, hlen, aResults, aResult])
theorem begin_yes (s : List UInt8) (hl : s.length < 1000000000) (p : Ps) (d : Int) (hto : p.to ≤ s.length) (b prot : Nat) (K : Heap) (hg : hget K b 0 = some (cellsPs s p d)) (hg0 : hget K 0 (gver 0) = some [ET]) (hp : prot ≤ b) (v : AV) (n : Nat) (cells : List AV) (hst : StkR prot K v n cells) (hn : n < 1000000000)
    (hbs : b ∉ stkB v) (h0 : p.e = 0) (x : Int × Int) (hk : beginK p = some x) (hd : ¬ d ≤ n) :
    ∃ c cv K', aLim cfg prot 29 [.ptr b 0 0, v] K = some (.tup [.bs ⟨c, cv, 0, n + 1, 0, 8, true, false⟩, .bool true, .int .i64 0], some K') ∧ hget K' c cv = some (cells ++ litC x) ∧ cv % 4 = 0 ∧ prot ≤ c ∧ K.length ≤ K'.length ∧ (stkB v = [c] ∨ stkB v = [] ∧ K.length ≤ c) ∧ b ≠ c ∧
      hget K' b 0 = some (cellsPs s (stepP s p) d) ∧ ∀ z, z < K.length → z ≠ c → z ≠ b → K'[z]? = K[z]? := by
  have hlt := hget_lt hg
  have hln := hst.len
  have d1 : decide (¬ p.e = 0) = false := by simp [h0]
  have d3 : decide (d ≤ (n : Int)) = false := decide_eq_false hd
  have st := step_ok s hl p d hto b prot K hg hg0 hp
  have hK1 : hget (K.set b (.cells 0 (cellsPs s (stepP s p) d))) b 0 = some (cellsPs s (stepP s p) d) := hget_set_at hlt
  have hst1 : StkR prot (K.set b (.cells 0 (cellsPs s (stepP s p) d))) v n cells := by
    rcases hst with h | ⟨c, cv, rest, rfl, h2, h3, h4, h5⟩
    · exact .inl h
    · refine .inr ⟨c, cv, rest, rfl, ?_, h3, h4, h5⟩
      rw [hget_set_ne (fun h => hbs (by simp [stkB, h]))]; exact h2
  have hold1 : ∀ z, z ≠ b → (K.set b (.cells 0 (cellsPs s (stepP s p) d)))[z]? = K[z]? := fun z hz => by rw [List.getElem?_set_ne (Ne.symm hz)]
  have hlen1 : (K.set b (.cells 0 (cellsPs s (stepP s p) d))).length = K.length := by simp
  generalize hK1' : K.set b (.cells 0 (cellsPs s (stepP s p) d)) = K1 at *
  have hst2 : StkR prot (K1 ++ [Blk.cells 0 (litC x)]) v n cells := by
    rcases hst1 with h | ⟨c, cv, rest, rfl, h2, h3, h4, h5⟩
    · exact .inl h
    · exact .inr ⟨c, cv, rest, rfl, hget_mono h2 _, h3, h4, h5⟩
  have hel : elemCells (K1 ++ [Blk.cells 0 (litC x)]) 8 (.bs ⟨K.length, 0, 0, 1, 1, 8, true, true⟩) = some (1, litC x) := by
    have := elem_b1 (H := K1 ++ [Blk.cells 0 (litC x)]) encOp_T x (b := K.length) (by rw [hget_new hlen1.symm, if_pos rfl]; rfl)
    rw [this]; simp [cellsOf, encOp, AV.cells]
  obtain ⟨c, cv, K', ha, hgc, hv4, hpc, hle, hlc, hcc, hold⟩ := hst2.push x _ hel hn (by simp; omega)
  have lt := fun k e => litOp k e K1
  have hbK1 : b < K1.length := by omega
  have hbc : b ≠ c := by
    rcases hcc with h | ⟨h, h'⟩
    · rintro rfl; exact hbs (by rw [h]; simp)
    · simp at h'; omega
  refine ⟨c, cv, K', ?_, hgc, hv4, hpc, ?_, ?_, hbc, ?_, ?_⟩
  · unfold beginK at hk
    simp only [cellsPs] at hg
    rw [hlen1] at lt
    by_cases h1 : p.kind = 1
    · have d2 : decide (p.kind = 1) = true := decide_eq_true h1
      rw [if_pos h1] at hk
      cases hk
      simp only [litC] at ha
      refine raw_slim rfl (by kernel_rfl) (by kernel_rfl) (by kernel_rfl) Tryd.func29 s29 (by simp [Tryd.f29]) fun fr hlen h => ?_
      simp only [Has, Nat.zero_add] at h
      obtain ⟨a0, a1, -⟩ := h
      simp only [Tryd.f29] at hlen ⊢
      unfold g29
      simp only [wk, aBuiltin, AV.cells, AV.leaf, Nat.reduceEqDiff, Nat.reduceLT, Nat.reduceAdd, Nat.reduceLeDiff, reduceCtorEq, Nat.reduceMul, Nat.reduceMod, cfgP, u49, hlen, a0, a1, hg, d1, d2, hln, d3, st, lt, ha]
      exact Fin_raw (l := [.bs ⟨c, cv, 0, n + 1, 0, 8, true, false⟩, .bool true, .int .i64 0]) (by simp [wk, aBuiltin, AV.cells, AV.leaf, Nat.reduceEqDiff, Nat.reduceLT, Nat.reduceAdd, Nat.reduceLeDiff, reduceCtorEq, Nat.reduceMul, Nat.reduceMod, cfgP, u49, hlen, aResults, aResult])
    · have d2 : decide (p.kind = 1) = false := decide_eq_false h1
      rw [if_neg h1] at hk
      by_cases h3 : p.kind = 3
      · have d4 : decide (¬ p.kind = 3) = false := by simp [h3]
        rw [if_pos h3] at hk
        cases hk
        simp only [litC] at ha
        refine raw_slim rfl (by kernel_rfl) (by kernel_rfl) (by kernel_rfl) Tryd.func29 s29 (by simp [Tryd.f29]) fun fr hlen h => ?_
        simp only [Has, Nat.zero_add] at h
        obtain ⟨a0, a1, -⟩ := h
        simp only [Tryd.f29] at hlen ⊢
        unfold g29
        simp only [wk, aBuiltin, AV.cells, AV.leaf, Nat.reduceEqDiff, Nat.reduceLT, Nat.reduceAdd, Nat.reduceLeDiff, reduceCtorEq, Nat.reduceMul, Nat.reduceMod, cfgP, u49, hlen, a0, a1, hg, d1, d2, d4, hln, d3, st, lt, ha]
        exact Fin_raw (l := [.bs ⟨c, cv, 0, n + 1, 0, 8, true, false⟩, .bool true, .int .i64 0]) (by simp [wk, aBuiltin, AV.cells, AV.leaf, Nat.reduceEqDiff, Nat.reduceLT, Nat.reduceAdd, Nat.reduceLeDiff, reduceCtorEq, Nat.reduceMul, Nat.reduceMod, cfgP, u49, hlen, aResults, aResult])
      · rw [if_neg h3] at hk; cases hk
  · simp at hle; omega
  · rcases hcc with h | ⟨h, h'⟩
    · exact .inl h
    · exact .inr ⟨h, by simp at h'; omega⟩
  · have h2 := hold b (by simp; omega) hbc
    unfold hget at hK1 ⊢
    rw [h2, List.getElem?_append_left hbK1]; exact hK1
  · intro z hz hzc hzb
    rw [hold z (by simp; omega) hzc, List.getElem?_append_left (by omega), hold1 z hzb]
end Go.Proofs.YtimbhlbkidmplaaDoor
/- jval's parser: put, walked. -/
namespace Go.Proofs.YtimbhlbkidmplaaDoor
open Go Go.Abs AbsSeat Ty

theorem u32 : type_of% (And.intro (show tagT Tryd.prog 25 = 0 from by kernel_rfl) (And.intro ag1 (And.intro sz1 (And.intro by1 (And.intro ze1 (And.intro Tryd.underlying1 (And.intro ag3 (And.intro sz3 (And.intro by3 (And.intro ze3 (And.intro Tryd.underlying3 (And.intro ag9 (And.intro sz9 (And.intro by9 (And.intro ze9 (And.intro Tryd.underlying9 (And.intro ag22 (And.intro sz22 (And.intro by22 (And.intro se22 (And.intro ze22 (And.intro Tryd.underlying22 (And.intro ag23 (And.intro sz23 (And.intro by23 (And.intro se23 (And.intro ze23 (And.intro Tryd.underlying23 (And.intro ag25 (And.intro sz25 (And.intro by25 (And.intro ze25 (And.intro bu25 (And.intro Tryd.underlying25 (And.intro ag67 (And.intro sz67 (And.intro by67 (And.intro ze67 (And.intro bu67 (And.intro Tryd.underlying67 (And.intro fa25_0 (And.intro fd25_0 (And.intro fa25_4 (And.intro fd25_4 (And.intro fa25_5 (And.intro fd25_5 (And.intro fa67_0 (And.intro fd67_0 (And.intro fa67_2 fd67_2))))))))))))))))))))))))))))))))))))))))))))))))) := And.intro (show tagT Tryd.prog 25 = 0 from by kernel_rfl) (And.intro ag1 (And.intro sz1 (And.intro by1 (And.intro ze1 (And.intro Tryd.underlying1 (And.intro ag3 (And.intro sz3 (And.intro by3 (And.intro ze3 (And.intro Tryd.underlying3 (And.intro ag9 (And.intro sz9 (And.intro by9 (And.intro ze9 (And.intro Tryd.underlying9 (And.intro ag22 (And.intro sz22 (And.intro by22 (And.intro se22 (And.intro ze22 (And.intro Tryd.underlying22 (And.intro ag23 (And.intro sz23 (And.intro by23 (And.intro se23 (And.intro ze23 (And.intro Tryd.underlying23 (And.intro ag25 (And.intro sz25 (And.intro by25 (And.intro ze25 (And.intro bu25 (And.intro Tryd.underlying25 (And.intro ag67 (And.intro sz67 (And.intro by67 (And.intro ze67 (And.intro bu67 (And.intro Tryd.underlying67 (And.intro fa25_0 (And.intro fd25_0 (And.intro fa25_4 (And.intro fd25_4 (And.intro fa25_5 (And.intro fd25_5 (And.intro fa67_0 (And.intro fd67_0 (And.intro fa67_2 fd67_2))))))))))))))))))))))))))))))))))))))))))))))))
def g32 : Code :=
  .seq (.region 0 #[q 3 (.box 25 (.tmp 1)) 0] false) (.seq (.region 1 #[{ dst := some 4, op := .move (.tmp 0), type := 65, pos := "jval.go:206", after := #[], guard := none }, { dst := some 5, op := .nilCheck (.tmp 4), type := 0, pos := "jval.go:206", after := #[{ on := 0, ground := .data }], guard := none }, { dst := some 6, op := .fieldAddr 67 (.tmp 5) 0, type := 0, pos := "jval.go:206", after := #[{ on := 1, ground := .data }], guard := none }, { dst := some 7, op := .fieldAddr 25 (.tmp 6) 4, type := 0, pos := "jval.go:206", after := #[{ on := 2, ground := .data }], guard := none }, { dst := some 8, op := .load 22 (.tmp 7), type := 22, pos := "jval.go:206", after := #[{ on := 3, ground := .data }], guard := none }, { dst := some 9, op := .load 25 (.tmp 3), type := 25, pos := "jval.go:206", after := #[], guard := none }, { dst := some 10, op := bi .len #[.tmp 8] #[22], type := 3, pos := "jval.go:206", after := #[{ on := 4, ground := .data }], guard := none }, { dst := some 11, op := .buildSlice 22 1 #[(0, .const (.agg #[.int .i64 0, .bool false, .int .i64 0, .string { data := #[] }, .slice none 0 0, .slice none 0 0]))], type := 22, pos := "jval.go:206", after := #[], guard := none }, { dst := some 12, op := bi .append #[.tmp 8, .tmp 11] #[22, 22], type := 22, pos := "jval.go:206", after := #[{ on := 4, ground := .data }, { on := 7, ground := .data }, { on := 0, ground := .phase }, { on := 1, ground := .phase }, { on := 2, ground := .phase }, { on := 3, ground := .phase }, { on := 4, ground := .phase }, { on := 5, ground := .phase }, { on := 6, ground := .phase }, { on := 7, ground := .phase }], guard := none }, { dst := some 13, op := .indexAddr 22 (.tmp 12) (.tmp 10), type := 0, pos := "jval.go:206", after := #[{ on := 8, ground := .data }, { on := 6, ground := .data }, { on := 0, ground := .phase }, { on := 1, ground := .phase }, { on := 2, ground := .phase }, { on := 3, ground := .phase }, { on := 4, ground := .phase }, { on := 5, ground := .phase }, { on := 6, ground := .phase }, { on := 7, ground := .phase }, { on := 8, ground := .phase }, { on := 14, ground := .gcOnly .appendInPlace }], guard := none }, { dst := none, op := .store 25 (.tmp 13) (.tmp 9), type := 0, pos := "jval.go:206", after := #[{ on := 9, ground := .data }, { on := 5, ground := .data }, { on := 8, ground := .chain }, { on := 0, ground := .phase }, { on := 1, ground := .phase }, { on := 2, ground := .phase }, { on := 3, ground := .phase }, { on := 4, ground := .phase }, { on := 5, ground := .phase }, { on := 6, ground := .phase }, { on := 7, ground := .phase }, { on := 8, ground := .phase }, { on := 14, ground := .gcOnly .appendInPlace }], guard := none }, { dst := some 14, op := .nilCheck (.tmp 4), type := 0, pos := "jval.go:206", after := #[{ on := 0, ground := .data }, { on := 0, ground := .phase }, { on := 1, ground := .phase }, { on := 2, ground := .phase }, { on := 3, ground := .phase }, { on := 4, ground := .phase }, { on := 5, ground := .phase }, { on := 6, ground := .phase }, { on := 7, ground := .phase }, { on := 8, ground := .phase }, { on := 9, ground := .textOnly .appendInPlace }, { on := 10, ground := .textOnly .appendInPlace }], guard := none }, { dst := some 15, op := .fieldAddr 67 (.tmp 14) 0, type := 0, pos := "jval.go:206", after := #[{ on := 11, ground := .data }, { on := 0, ground := .phase }, { on := 1, ground := .phase }, { on := 2, ground := .phase }, { on := 3, ground := .phase }, { on := 4, ground := .phase }, { on := 5, ground := .phase }, { on := 6, ground := .phase }, { on := 7, ground := .phase }, { on := 8, ground := .phase }, { on := 9, ground := .textOnly .appendInPlace }, { on := 10, ground := .textOnly .appendInPlace }], guard := none }, { dst := some 16, op := .fieldAddr 25 (.tmp 15) 4, type := 0, pos := "jval.go:206", after := #[{ on := 12, ground := .data }, { on := 0, ground := .phase }, { on := 1, ground := .phase }, { on := 2, ground := .phase }, { on := 3, ground := .phase }, { on := 4, ground := .phase }, { on := 5, ground := .phase }, { on := 6, ground := .phase }, { on := 7, ground := .phase }, { on := 8, ground := .phase }, { on := 9, ground := .textOnly .appendInPlace }, { on := 10, ground := .textOnly .appendInPlace }], guard := none }, { dst := none, op := .store 22 (.tmp 16) (.tmp 12), type := 0, pos := "jval.go:206", after := #[{ on := 13, ground := .data }, { on := 8, ground := .data }, { on := 8, ground := .chain }, { on := 10, ground := .textOnly .appendInPlace }, { on := 0, ground := .phase }, { on := 1, ground := .phase }, { on := 2, ground := .phase }, { on := 3, ground := .phase }, { on := 4, ground := .phase }, { on := 5, ground := .phase }, { on := 6, ground := .phase }, { on := 7, ground := .phase }, { on := 8, ground := .phase }, { on := 9, ground := .textOnly .appendInPlace }, { on := 10, ground := .textOnly .appendInPlace }], guard := none }] true) (.seq (.region 2 #[q 17 (.move (.tmp 0)) 65, q 18 (.nilCheck (.tmp 17)) 0, q 19 (.fieldAddr 67 (.tmp 18) 0) 0, q 20 (.fieldAddr 25 (.tmp 19) 0) 0, q 21 (.load 3 (.tmp 20)) 3, q 22 (.binOp .eql 3 (.tmp 21) (ik 5) 3) 4] false) (.cond (.tmp 22) (.region 3 #[q 23 (.move (.tmp 0)) 65, q 24 (.move (.tmp 0)) 65, q 25 (.nilCheck (.tmp 24)) 0, q 26 (.fieldAddr 67 (.tmp 25) 0) 0, q 27 (.fieldAddr 25 (.tmp 26) 5) 0, q 28 (.load 23 (.tmp 27)) 23, q 29 (.move (.tmp 0)) 65, q 30 (.nilCheck (.tmp 29)) 0, q 31 (.fieldAddr 67 (.tmp 30) 2) 0, q 32 (.load 9 (.tmp 31)) 9, q 33 (.buildSlice 23 1 #[(0, .tmp 32)]) 23, q 34 (bi .append #[.tmp 28, .tmp 33] #[23, 23]) 23, q 35 (.nilCheck (.tmp 23)) 0, q 36 (.fieldAddr 67 (.tmp 35) 0) 0, q 37 (.fieldAddr 25 (.tmp 36) 5) 0, qn (.store 23 (.tmp 37) (.tmp 34)) 0] false) .skip)))
theorem s32 : Tryd.f32.body.map (slim cfg) = some g32 := by kernel_rfl
theorem beqBlk_r (k : Blk) : beqBlk k k = true := by
  cases k <;> simp [beqBlk, beqL_refl, beqE_refl]
theorem beqHp_r : ∀ (K : Heap), beqHp K K = true
  | [] => rfl
  | a :: r => by rw [beqHp, beqBlk_r, beqHp_r r]; rfl
def zeroV : AV := .agg [.int .i64 0, .bool false, .int .i64 0, .str [], .nilS, .nilS]

theorem put_core (prot : Nat) (K : Heap) (c cv off : Nat) (cs : List AV) (v0 v1 v2 v3 v4 v5 iv t12 : AV) (k : Int) (n bI vI offI : Nat) (HB HA HS1 HS2 HF : Heap)
    (h4 : cs[off + 4]? = some iv) (hcl : ∀ x ∈ [v0, v1, v2, v3, v4, v5], x.cells = [x]) (hlf : [v0, v1, v2, v3, v4, v5].all AV.leaf = true)
    (ht : t12.cells = [t12])
    (hln : ∀ H, aLen Tryd.prog H 22 iv = some (.int .i64 n))
    (hB : aBuildSlice Tryd.prog (K ++ [.cells 0 [v0, v1, v2, v3, v4, v5]]) 22 1 [(0, zeroV)] = some (.bs ⟨K.length + 1, 0, 0, 1, 1, 6, true, true⟩, some HB))
    (hA : aAppend Tryd.prog prot HB #[22, 22] iv (.bs ⟨K.length + 1, 0, 0, 1, 1, 6, true, true⟩) = some (t12, some HA))
    (hI : aIndexAddr Tryd.prog 22 t12 (.int .i64 n) = some (.ptr bI vI offI))
    (hS1 : hput prot HA bI vI offI [v0, v1, v2, v3, v4, v5] = some HS1) (hS2 : hput prot HA c cv (off + 4) [t12] = some HS2)
    (hS12 : hput prot HS1 c cv (off + 4) [t12] = some HF) (hS21 : hput prot HS2 bI vI offI [v0, v1, v2, v3, v4, v5] = some HF)
    (gc0 : hget (K ++ [.cells 0 [v0, v1, v2, v3, v4, v5]]) c cv = some cs) (gcB : hget HB c cv = some cs)
    (gv0 : hget (K ++ [.cells 0 [v0, v1, v2, v3, v4, v5]]) K.length 0 = some [v0, v1, v2, v3, v4, v5]) (gvB : hget HB K.length 0 = some [v0, v1, v2, v3, v4, v5]) (gvA : hget HA K.length 0 = some [v0, v1, v2, v3, v4, v5]) (gvS : hget HS2 K.length 0 = some [v0, v1, v2, v3, v4, v5])
    (hk : k ≠ 5) (cs' : List AV) (gF : hget HF c cv = some cs') (gF0 : cs'[off]? = some (.int .i64 k)) :
    aLim cfg prot 32 [.ptr c cv off, .agg [v0, v1, v2, v3, v4, v5]] K = some (.tup [], some HF) := by
  have d5 : decide (k = 5) = false := decide_eq_false hk
  have c0 := hcl v0 (by simp)
  have c1 := hcl v1 (by simp)
  have c2 := hcl v2 (by simp)
  have c3 := hcl v3 (by simp)
  have c4 := hcl v4 (by simp)
  have c5 := hcl v5 (by simp)
  simp only [zeroV] at hB
  have hofv : ofV (Value.agg #[.int .i64 0, .bool false, .int .i64 0, .string ⟨#[]⟩, .slice none 0 0, .slice none 0 0]) = some (.agg [.int .i64 0, .bool false, .int .i64 0, .str [], .nilS, .nilS]) := by kernel_rfl
  unfold AV.cells at ht
  simp only [List.all_cons, List.all_nil, AV.leaf, Bool.and_true] at hlf
  refine raw_slim rfl (by kernel_rfl) (by kernel_rfl) (by kernel_rfl) Tryd.func32 s32 (by simp [Tryd.f32]) fun fr hlen h => ?_
  simp only [Has, Nat.zero_add] at h
  obtain ⟨a0, a1, -⟩ := h
  simp only [Tryd.f32] at hlen ⊢
  unfold g32
  simp only [wk, aBuiltin, AV.cells, AV.leaf, Nat.reduceEqDiff, Nat.reduceLT, Nat.reduceAdd, Nat.reduceLeDiff, reduceCtorEq, Nat.reduceMul, Nat.reduceMod, cfgP, u32, hlen, a0, a1, hlf, h4, gc0, gv0, hln, hofv, hB, hA, hI, hS1, hS12, ht]
  refine ⟨?_, ?_⟩
  · rw [show befs [] _ = [0, 1, 3, 7, 15, 0, 31, 0, 255, 511, 1023, 511, 2559, 6655, 14847] from by kernel_rfl]
    refine Bool.or_eq_true_iff.2 (.inr ?_)
    simp [wk, aBuiltin, AV.cells, AV.leaf, Nat.reduceEqDiff, Nat.reduceLT, Nat.reduceAdd, Nat.reduceLeDiff, reduceCtorEq, Nat.reduceMul, Nat.reduceMod, cfgP, u32, hlen, drawOk2, downs, compatD, KDl, addD, bound, sameAt, Nat.testBit, a0, a1, h4, hln, hofv, hB, hA, hI, hS1, hS2, hS12, hS21, ht, gc0, gcB, gv0, gvB, gvA, gvS, avbeq_refl, beqHp_r, -List.append_assoc]
  · simp only [wk, aBuiltin, AV.cells, AV.leaf, Nat.reduceEqDiff, Nat.reduceLT, Nat.reduceAdd, Nat.reduceLeDiff, reduceCtorEq, Nat.reduceMul, Nat.reduceMod, cfgP, u32, hlen, a0, a1, gF, gF0, d5]
    exact Fin_raw (l := []) (by simp [wk, aBuiltin, AV.cells, AV.leaf, Nat.reduceEqDiff, Nat.reduceLT, Nat.reduceAdd, Nat.reduceLeDiff, reduceCtorEq, Nat.reduceMul, Nat.reduceMod, cfgP, u32, hlen, aResults, aResult])
theorem put_core5 (prot : Nat) (K : Heap) (c cv off : Nat) (cs : List AV) (v0 v1 v2 v3 v4 v5 iv t12 : AV) (n bI vI offI : Nat) (HB HA HS1 HS2 HF HK HL : Heap) (kv t34 : AV) (key : List UInt8)
    (h4 : cs[off + 4]? = some iv) (hcl : ∀ x ∈ [v0, v1, v2, v3, v4, v5], x.cells = [x]) (hlf : [v0, v1, v2, v3, v4, v5].all AV.leaf = true)
    (ht : t12.cells = [t12])
    (hln : ∀ H, aLen Tryd.prog H 22 iv = some (.int .i64 n))
    (hB : aBuildSlice Tryd.prog (K ++ [.cells 0 [v0, v1, v2, v3, v4, v5]]) 22 1 [(0, zeroV)] = some (.bs ⟨K.length + 1, 0, 0, 1, 1, 6, true, true⟩, some HB))
    (hA : aAppend Tryd.prog prot HB #[22, 22] iv (.bs ⟨K.length + 1, 0, 0, 1, 1, 6, true, true⟩) = some (t12, some HA))
    (hI : aIndexAddr Tryd.prog 22 t12 (.int .i64 n) = some (.ptr bI vI offI))
    (hS1 : hput prot HA bI vI offI [v0, v1, v2, v3, v4, v5] = some HS1) (hS2 : hput prot HA c cv (off + 4) [t12] = some HS2)
    (hS12 : hput prot HS1 c cv (off + 4) [t12] = some HF) (hS21 : hput prot HS2 bI vI offI [v0, v1, v2, v3, v4, v5] = some HF)
    (gc0 : hget (K ++ [.cells 0 [v0, v1, v2, v3, v4, v5]]) c cv = some cs) (gcB : hget HB c cv = some cs)
    (gv0 : hget (K ++ [.cells 0 [v0, v1, v2, v3, v4, v5]]) K.length 0 = some [v0, v1, v2, v3, v4, v5]) (gvB : hget HB K.length 0 = some [v0, v1, v2, v3, v4, v5]) (gvA : hget HA K.length 0 = some [v0, v1, v2, v3, v4, v5]) (gvS : hget HS2 K.length 0 = some [v0, v1, v2, v3, v4, v5])
    (cs' : List AV) (gF : hget HF c cv = some cs') (gF0 : cs'[off]? = some (.int .i64 5)) 
    (gF5 : cs'[off + 5]? = some kv) (gF7 : cs'[off + 7]? = some (.str key)) (ht34 : t34.cells = [t34]) (hL : ∀ H, aBuildSlice Tryd.prog H 23 1 [(0, .str key)] = some (.vs [.str key] true, none))
    (hK : aAppend Tryd.prog prot HF #[23, 23] kv (.vs [.str key] true) = some (t34, some HK)) (hLp : hput prot HK c cv (off + 5) [t34] = some HL) :
    aLim cfg prot 32 [.ptr c cv off, .agg [v0, v1, v2, v3, v4, v5]] K = some (.tup [], some HL) := by
  have d5 : decide ((5 : Int) = 5) = true := by decide
  have c0 := hcl v0 (by simp)
  have c1 := hcl v1 (by simp)
  have c2 := hcl v2 (by simp)
  have c3 := hcl v3 (by simp)
  have c4 := hcl v4 (by simp)
  have c5 := hcl v5 (by simp)
  simp only [zeroV] at hB
  have hofv : ofV (Value.agg #[.int .i64 0, .bool false, .int .i64 0, .string ⟨#[]⟩, .slice none 0 0, .slice none 0 0]) = some (.agg [.int .i64 0, .bool false, .int .i64 0, .str [], .nilS, .nilS]) := by kernel_rfl
  unfold AV.cells at ht ht34
  simp only [List.all_cons, List.all_nil, AV.leaf, Bool.and_true] at hlf
  refine raw_slim rfl (by kernel_rfl) (by kernel_rfl) (by kernel_rfl) Tryd.func32 s32 (by simp [Tryd.f32]) fun fr hlen h => ?_
  simp only [Has, Nat.zero_add] at h
  obtain ⟨a0, a1, -⟩ := h
  simp only [Tryd.f32] at hlen ⊢
  unfold g32
  simp only [wk, aBuiltin, AV.cells, AV.leaf, Nat.reduceEqDiff, Nat.reduceLT, Nat.reduceAdd, Nat.reduceLeDiff, reduceCtorEq, Nat.reduceMul, Nat.reduceMod, cfgP, u32, hlen, a0, a1, hlf, h4, gc0, gv0, hln, hofv, hB, hA, hI, hS1, hS12, ht]
  refine ⟨?_, ?_⟩
  · rw [show befs [] _ = [0, 1, 3, 7, 15, 0, 31, 0, 255, 511, 1023, 511, 2559, 6655, 14847] from by kernel_rfl]
    refine Bool.or_eq_true_iff.2 (.inr ?_)
    simp [wk, aBuiltin, AV.cells, AV.leaf, Nat.reduceEqDiff, Nat.reduceLT, Nat.reduceAdd, Nat.reduceLeDiff, reduceCtorEq, Nat.reduceMul, Nat.reduceMod, cfgP, u32, hlen, drawOk2, downs, compatD, KDl, addD, bound, sameAt, Nat.testBit, a0, a1, h4, hln, hofv, hB, hA, hI, hS1, hS2, hS12, hS21, ht, gc0, gcB, gv0, gvB, gvA, gvS, avbeq_refl, beqHp_r, -List.append_assoc]
  · simp only [wk, aBuiltin, AV.cells, AV.leaf, Nat.reduceEqDiff, Nat.reduceLT, Nat.reduceAdd, Nat.reduceLeDiff, reduceCtorEq, Nat.reduceMul, Nat.reduceMod, cfgP, u32, hlen, a0, a1, gF, gF0, d5, gF5, gF7, hL, hK, hLp, ht34]
    exact Fin_raw (l := []) (by simp [wk, aBuiltin, AV.cells, AV.leaf, Nat.reduceEqDiff, Nat.reduceLT, Nat.reduceAdd, Nat.reduceLeDiff, reduceCtorEq, Nat.reduceMul, Nat.reduceMod, cfgP, u32, hlen, aResults, aResult])
end Go.Proofs.YtimbhlbkidmplaaDoor
/- jval's parser: values that are being built, as they lie in the heap. -/
namespace Go.Proofs.YtimbhlbkidmplaaDoor
open Go Go.Abs AbsSeat Ty

def FzL (K : Heap) (base : Nat) (S : List Nat) (v r : List AV) : Prop := ∀ K' : Heap, (∀ z ∈ S, K'[z]? = K[z]?) → FrzL K' base v r
theorem FzL.agree {K K2 : Heap} {base : Nat} {S : List Nat} {v r : List AV} (h : FzL K base S v r) (h2 : ∀ z ∈ S, K2[z]? = K[z]?) : FzL K2 base S v r := fun K' h' => h K' fun z hz => by rw [h' z hz, h2 z hz]
theorem FzL.sub {K : Heap} {base : Nat} {S S' : List Nat} {v r : List AV} (h : FzL K base S v r) (hs : ∀ z ∈ S, z ∈ S') : FzL K base S' v r := fun K' h' => h K' fun z hz => h' z (hs z hz)
theorem FrzL.app {H : Heap} {base : Nat} : ∀ {v r v2 r2 : List AV}, FrzL H base v r → FrzL H base v2 r2 → FrzL H base (v ++ v2) (r ++ r2)
  | [], r, v2, r2, h, h2 => by
    obtain ⟨n, hn⟩ := h
    cases n with
    | zero => simp [frL] at hn; subst hn; exact h2
    | succ n => simp [frL] at hn; subst hn; exact h2
  | a :: v, r, v2, r2, h, h2 => by
    obtain ⟨n, hn⟩ := h
    cases n with
    | zero => simp [frL] at hn
    | succ n =>
      simp only [frL, Option.bind_eq_some_iff, Option.map_eq_some_iff] at hn
      obtain ⟨x, hx, y, hy, rfl⟩ := hn
      exact FrzL.cons ⟨n, hx⟩ (FrzL.app ⟨n, hy⟩ h2)
theorem FzL.app {K : Heap} {base : Nat} {S S2 : List Nat} {v r v2 r2 : List AV} (h : FzL K base S v r) (h2 : FzL K base S2 v2 r2) : FzL K base (S ++ S2) (v ++ v2) (r ++ r2) :=
  fun K' h' => FrzL.app (h K' fun z hz => h' z (by simp [hz])) (h2 K' fun z hz => h' z (by simp [hz]))
def cellsJs (l : List JV) : List AV := l.flatMap fun j => (encJ j).cells
/-- a value that is done: its six cells, and the blocks that it has. -/
structure VR (K : Heap) (base : Nat) (S : List Nat) (vs : List AV) (j : JV) : Prop where
  len : vs.length = 6
  leaf : vs.all AV.leaf = true
  fz : FzL K base S vs (encJ j).cells
  low : ∀ z ∈ S, z < K.length ∧ base ≤ z
/-- a row of values that grows. -/
def IR (K : Heap) (base : Nat) (S : List Nat) (iv : AV) (items : List JV) : Prop :=
  (iv = .nilS ∧ items = [] ∧ S = []) ∨ ∃ b ver cells S', iv = .bs ⟨b, ver, 0, items.length, 0, 6, true, false⟩ ∧ S = b :: S' ∧ hget K b ver = some cells ∧ ver % 4 = 0 ∧ base ≤ b ∧ b ∉ S' ∧ 0 < items.length ∧ cells.length = items.length * 6 ∧
    cells.all AV.leaf = true ∧ FzL K base S' cells (cellsJs items) ∧ ∀ z ∈ S', z < K.length ∧ base ≤ z
def zeroC : List AV := [.int .i64 0, .bool false, .int .i64 0, .str [], .nilS, .nilS]
theorem leaf_cells {v : AV} (h : v.leaf = true) : v.cells = [v] := by cases v <;> first | rfl | simp [AV.leaf] at h
theorem IR.len {K : Heap} {base : Nat} {S : List Nat} {iv : AV} {items : List JV} (h : IR K base S iv items) (K' : Heap) : aLen Tryd.prog K' 22 iv = some (.int .i64 items.length) := by
  rcases h with ⟨rfl, rfl, rfl⟩ | ⟨b, ver, cells, S', rfl, _⟩ <;> simp [aLen, Tryd.underlying22]
theorem hget_same {K K' : Heap} {z v : Nat} {x : List AV} (h : K'[z]? = K[z]?) (hg : hget K z v = some x) : hget K' z v = some x := by
  unfold hget at hg ⊢
  rw [h]; exact hg
theorem IR.agree {K K2 : Heap} {base : Nat} {S : List Nat} {iv : AV} {items : List JV} (h : IR K base S iv items) (hl : K.length ≤ K2.length) (h2 : ∀ z ∈ S, K2[z]? = K[z]?) : IR K2 base S iv items := by
  rcases h with h | ⟨b, ver, cells, S', rfl, rfl, g, v4, hb, hnb, h0, hcl, hlf, fz, low⟩
  · exact .inl h
  · exact .inr ⟨b, ver, cells, S', rfl, rfl, hget_same (h2 b (by simp)) g, v4, hb, hnb, h0, hcl, hlf, fz.agree fun z hz => h2 z (by simp [hz]), fun z hz => ⟨by have := (low z hz).1; omega, (low z hz).2⟩⟩
/-- a zero value behind a row of values. -/
theorem IR.push {K HB : Heap} {base prot : Nat} {S : List Nat} {iv : AV} {items : List JV} (h : IR K base S iv items) (hle : K.length ≤ HB.length) (hs : ∀ z, z < K.length → HB[z]? = K[z]?) (y : AV) (hy : elemCells HB 6 y = some (1, zeroC)) (hn : items.length < 1000000000) (hp : prot = base) (hb : prot ≤ HB.length) :
    ∃ bI vI HA old, aAppend Tryd.prog prot HB #[22, 22] iv y = some (.bs ⟨bI, vI, 0, items.length + 1, 0, 6, true, false⟩, some HA) ∧ hget HA bI vI = some (old ++ zeroC) ∧ old.length = items.length * 6 ∧ vI % 4 = 0 ∧ base ≤ bI ∧
      HB.length ≤ HA.length ∧ (∀ z, z < HB.length → z ≠ bI → HA[z]? = HB[z]?) ∧ (bI ∈ S ∨ HB.length ≤ bI) ∧ old.all AV.leaf = true ∧ ∃ S', (∀ z ∈ S', z ∈ S) ∧ (∀ z ∈ S, z ∈ S' ∨ z = bI) ∧ bI ∉ S' ∧ FzL K base S' old (cellsJs items) ∧ ∀ z ∈ S', z < K.length ∧ base ≤ z := by
  subst hp
  obtain ⟨z, hz, hzl⟩ := rowJ.zero
  have hlf0 : zeroC.all AV.leaf = true := rfl
  rcases h with ⟨rfl, rfl, rfl⟩ | ⟨b, ver, cells, S', rfl, rfl, g, v4, hbb, hnb, h0, hcl, hlf, fz, low⟩
  · refine ⟨HB.length, 0, HB ++ [Blk.cells 0 zeroC], [], ?_, by rw [hget_new rfl, if_pos rfl]; rfl, rfl, rfl, hb, by simp, fun z hz _ => by rw [List.getElem?_append_left hz], .inr (Nat.le_refl _), rfl, [], by simp, by simp, by simp, fun _ _ => FrzL.nil, by simp⟩
    unfold aAppend
    simp only [rowJ.row0, List.getElem?_toArray, List.getElem?_cons_zero, List.getElem?_cons_succ, Option.bind_some, rowJ.elem, rowJ.size, rowJ.bytes, rowJ.agg, hz, hzl, Tryd.underlying22, hy, ne_eq, not_true_eq_false, if_false, hlf0, if_true]
    rfl
  · have hlt := hget_lt g
    have g2 := hget_same (hs b hlt) g
    have hw : win cells 0 (items.length * 6) = some cells := by
      simp only [win, Nat.zero_add, List.drop_zero]
      rw [if_pos (by omega), List.take_of_length_le (by omega)]
    have hro : roomy (items.length + 1) 88 = true := by simp [roomy]; omega
    refine ⟨b, ver + 4, HB.set b (Blk.cells (ver + 4) (cells ++ zeroC)), cells, ?_, hget_set_at (by omega), hcl, by omega, hbb, by simp, fun z hz hne => by rw [List.getElem?_set_ne (Ne.symm hne)], .inl (by simp), hlf, S', by simp +contextual, by simp +contextual [or_comm], hnb, fz, low⟩
    unfold aAppend
    simp only [List.getElem?_toArray, List.getElem?_cons_zero, List.getElem?_cons_succ, Option.bind_some, rowJ.elem, rowJ.size, rowJ.bytes, rowJ.agg, hz, hzl, Tryd.underlying22, hy, ne_eq, not_true_eq_false, if_false, hlf0, if_true, Nat.one_ne_zero, g2, hw, hro, Bool.false_eq_true, hbb, rowOk_zero v4, and_self]
    try rfl
theorem rowAgree {K K2 : Heap} {base : Nat} {kv : AV} {keys : List (List UInt8)} (h : Row AV.str 1 false base K kv keys) (h2 : ∀ z ∈ stkB kv, K2[z]? = K[z]?) : Row AV.str 1 false base K2 kv keys := by
  rcases h with h | ⟨b, ver, rfl, h3, h4, h5⟩
  · exact .inl h
  · exact .inr ⟨b, ver, rfl, h3, hget_same (h2 b (by simp [stkB])) h4, h5⟩
theorem rowLt {K : Heap} {base : Nat} {kv : AV} {keys : List (List UInt8)} (h : Row AV.str 1 false base K kv keys) {z : Nat} (hz : z ∈ stkB kv) : z < K.length := by
  rcases h with ⟨rfl, _⟩ | ⟨b, ver, rfl, h3, h4, h5⟩
  · simp [stkB] at hz
  · simp [stkB] at hz; subst hz; exact hget_lt h4
theorem IR.lt {K : Heap} {base : Nat} {S : List Nat} {iv : AV} {items : List JV} (h : IR K base S iv items) {z : Nat} (hz : z ∈ S) : z < K.length := by
  rcases h with ⟨rfl, rfl, rfl⟩ | ⟨b, ver, cells, S', rfl, rfl, g, v4, hb, hnb, h0, hcl, hlf, fz, low⟩
  · cases hz
  · rcases List.mem_cons.1 hz with rfl | h
    · exact hget_lt g
    · exact (low z h).1
theorem set_mid4 (pre post : List AV) (a0 a1 a2 a3 a4 a5 a6 a7 x : AV) : (pre ++ [a0, a1, a2, a3, a4, a5, a6, a7] ++ post).set (pre.length + 4) x = pre ++ [a0, a1, a2, a3, x, a5, a6, a7] ++ post := by simp [List.set_append]
theorem set_mid5 (pre post : List AV) (a0 a1 a2 a3 a4 a5 a6 a7 x : AV) : (pre ++ [a0, a1, a2, a3, a4, a5, a6, a7] ++ post).set (pre.length + 5) x = pre ++ [a0, a1, a2, a3, a4, x, a6, a7] ++ post := by simp [List.set_append]
theorem get_mid (pre post : List AV) (ec : List AV) (i : Nat) (h : i < ec.length) : (pre ++ ec ++ post)[pre.length + i]? = ec[i]? := by
  rw [List.append_assoc, List.getElem?_append_right (by omega), List.getElem?_append_left (by omega)]
  simp
theorem litK (key : List UInt8) (H : Heap) : aBuildSlice Tryd.prog H 23 1 [(0, .str key)] = some (.vs [.str key] true, none) := by
  simp [aBuildSlice, se23, sz9, by9, ag9, ze9, AV.cells, fillA, zrep, splice, litOk, AV.scal, AV.plL, AV.pl, chunk, AV.leaf]
theorem rowStr : RowT Tryd.prog 23 9 1 16 false where
  un := Tryd.underlying23
  size := sz9
  bytes := by9
  agg := ag9
  zero := ⟨_, ze9, rfl⟩
  pos := by decide
  tree := rfl
theorem rowPush {H : Heap} {base : Nat} {v : AV} {l : List (List UInt8)} (h : Row AV.str 1 false base H v l) (key : List UInt8) (hl : l.length < 1000000000) (hb : base ≤ H.length) :
    ∃ v' H', aAppend Tryd.prog base H #[23, 23] v (.vs [.str key] true) = some (v', some H') ∧ Row AV.str 1 false base H' v' (l ++ [key]) ∧ H.length ≤ H'.length ∧ (∀ z, z < H.length → z ∉ stkB v → H'[z]? = H[z]?) ∧ (∀ z ∈ stkB v', z ∈ stkB v ∨ H.length ≤ z) ∧ v'.leaf = true := by
  obtain ⟨z, hz, hzl⟩ := rowStr.zero
  have hel := elem_vs (H := H) strT [key] true
  have hx : cellsOf AV.str [key] = [.str key] := rfl
  rw [hx] at hel
  simp only [List.map_cons, List.map_nil] at hel
  have hlf : ([.str key] : List AV).all AV.leaf = true := rfl
  rcases h with ⟨rfl, rfl⟩ | ⟨b, ver, rfl, h3, h4, h5⟩
  · refine ⟨.bs ⟨H.length, 0, 0, 1, 0, 1, false, false⟩, H ++ [Blk.cells 0 [.str key]], ?_, .inr ⟨H.length, 0, rfl, hb, by rw [hget_new rfl, if_pos rfl]; rfl, rfl⟩, by simp, fun z hz _ => by rw [List.getElem?_append_left hz], fun z hz => .inr (by simp [stkB] at hz; omega), rfl⟩
    unfold aAppend
    simp only [rowStr.row0, List.getElem?_toArray, List.getElem?_cons_zero, List.getElem?_cons_succ, Option.bind_some, rowStr.elem, rowStr.size, rowStr.bytes, rowStr.agg, hz, hzl, Tryd.underlying23, hel, ne_eq, not_true_eq_false, if_false, hlf, if_true]
    rfl
  · have hlt := hget_lt h4
    have hw : win (cellsOf AV.str l) 0 (l.length * 1) = some (cellsOf AV.str l) := by
      have := cellsOf_length strT l
      simp only [win, Nat.zero_add, List.drop_zero]
      rw [if_pos (by omega), List.take_of_length_le (by omega)]
    have hro : roomy (l.length + 1) 16 = true := by simp [roomy]; omega
    refine ⟨.bs ⟨b, ver + 4, 0, l.length + 1, 0, 1, false, false⟩, H.set b (Blk.cells (ver + 4) (cellsOf AV.str l ++ [.str key])), ?_, .inr ⟨b, ver + 4, by simp, h3, by rw [hget_set_at hlt, cellsOf_append]; rfl, by omega⟩, by simp, fun z hz hn => by rw [List.getElem?_set_ne (fun e => hn (by simp [stkB, e]))], fun z hz => .inl hz, rfl⟩
    unfold aAppend
    simp only [List.getElem?_toArray, List.getElem?_cons_zero, List.getElem?_cons_succ, Option.bind_some, rowStr.elem, rowStr.size, rowStr.bytes, rowStr.agg, hz, hzl, Tryd.underlying23, hel, ne_eq, not_true_eq_false, if_false, hlf, if_true, List.length_cons, List.length_nil, Nat.zero_add, Nat.one_ne_zero, h4, hw, hro, Bool.false_eq_true, h3, rowOk_zero h5, and_self]
    try rfl
def opC (kind end_ : Int) (iv kv : AV) (key : List UInt8) : List AV := [.int .i64 kind, .bool false, .int .i64 0, .str [], iv, kv, .int .i64 end_, .str key]

theorem oput_ok (base : Nat) (K : Heap) (c cv : Nat) (pre post : List AV) (kind end_ : Int) (iv kv : AV) (key : List UInt8) (S Sv : List Nat) (items : List JV) (keys : List (List UInt8)) (vs : List AV) (j : JV)
    (hc : hget K c cv = some (pre ++ opC kind end_ iv kv key ++ post)) (hv4 : cv % 4 = 0) (hbc : base ≤ c) (hI : IR K base S iv items) (hR : Row AV.str 1 false base K kv keys) (hV : VR K base Sv vs j)
    (hcS : c ∉ S) (hcv : c ∉ Sv) (hck : c ∉ stkB kv) (hkS : ∀ z ∈ stkB kv, z ∉ S ∧ z ∉ Sv) (hSd : ∀ z ∈ S, z ∉ Sv) (hn : items.length < 1000000000) (hkn : keys.length < 1000000000) :
    ∃ K' iv' kv' S', aLim cfg base 32 [.ptr c cv pre.length, .agg vs] K = some (.tup [], some K') ∧ hget K' c cv = some (pre ++ opC kind end_ iv' kv' key ++ post) ∧ IR K' base S' iv' (items ++ [j]) ∧
      Row AV.str 1 false base K' kv' (if kind = 5 then keys ++ [key] else keys) ∧ K.length ≤ K'.length ∧ (∀ z, z < K.length → z ≠ c → z ∉ S → z ∉ stkB kv → K'[z]? = K[z]?) ∧ (∀ z ∈ S', z ∈ S ∨ z ∈ Sv ∨ K.length ≤ z) ∧
      (∀ z ∈ stkB kv', z ∈ stkB kv ∨ K.length ≤ z) ∧ (∀ z ∈ stkB kv', z ∉ S') ∧ c ∉ S' ∧ c ∉ stkB kv' ∧ ((kv = .nilS ∨ keys ≠ []) → kv' = .nilS ∨ (if kind = 5 then keys ++ [key] else keys) ≠ []) := by
  have hlt := hget_lt hc
  have hbK : base ≤ K.length := by omega
  obtain ⟨v0, v1, v2, v3, v4, v5, rfl⟩ : ∃ v0 v1 v2 v3 v4 v5, vs = [v0, v1, v2, v3, v4, v5] := by
    have := hV.len
    match vs, this with
    | [v0, v1, v2, v3, v4, v5], _ => exact ⟨v0, v1, v2, v3, v4, v5, rfl⟩
  have hvl := List.all_eq_true.1 hV.leaf
  have hvc : ∀ x ∈ [v0, v1, v2, v3, v4, v5], x.cells = [x] := fun x hx => leaf_cells (hvl x hx)
  have hz0 : encJ (.mk 0 false 0 [] 0 [] 0 []) = zeroV := enc0 0 false 0 []
  have hzc : (encJ (.mk 0 false 0 [] 0 [] 0 [])).cells = zeroC := by rw [hz0]; rfl
  have hB := lit1b (H := K ++ [.cells 0 [v0, v1, v2, v3, v4, v5]]) rowJ encJ_T ze25 rfl (by decide) (.mk 0 false 0 [] 0 [] 0 [])
  rw [hzc, hz0, show (K ++ [Blk.cells 0 [v0, v1, v2, v3, v4, v5]]).length = K.length + 1 by simp] at hB
  have hel := elem_b1 (H := K ++ [.cells 0 [v0, v1, v2, v3, v4, v5]] ++ [.cells 0 zeroC]) encJ_T (.mk 0 false 0 [] 0 [] 0 []) (b := K.length + 1) (by rw [hget_new (by simp), if_pos rfl, hzc])
  have hel : elemCells (K ++ [.cells 0 [v0, v1, v2, v3, v4, v5]] ++ [.cells 0 zeroC]) 6 (.bs ⟨K.length + 1, 0, 0, 1, 1, 6, true, true⟩) = some (1, zeroC) := by rw [hel]; simp [cellsOf, hzc]
  have gc0 : hget (K ++ [.cells 0 [v0, v1, v2, v3, v4, v5]]) c cv = some (pre ++ opC kind end_ iv kv key ++ post) := hget_mono hc _
  have gcB : hget (K ++ [.cells 0 [v0, v1, v2, v3, v4, v5]] ++ [.cells 0 zeroC]) c cv = some (pre ++ opC kind end_ iv kv key ++ post) := hget_mono gc0 _
  have gv0 : hget (K ++ [.cells 0 [v0, v1, v2, v3, v4, v5]]) K.length 0 = some [v0, v1, v2, v3, v4, v5] := by rw [hget_new rfl, if_pos rfl]
  have gvB : hget (K ++ [.cells 0 [v0, v1, v2, v3, v4, v5]] ++ [.cells 0 zeroC]) K.length 0 = some [v0, v1, v2, v3, v4, v5] := hget_mono gv0 _
  have hBK : ∀ z, z < K.length → (K ++ [Blk.cells 0 [v0, v1, v2, v3, v4, v5]] ++ [Blk.cells 0 zeroC])[z]? = K[z]? := fun z hz => by
    rw [List.append_assoc, List.getElem?_append_left hz]
  have hBl : (K ++ [Blk.cells 0 [v0, v1, v2, v3, v4, v5]] ++ [Blk.cells 0 zeroC]).length = K.length + 2 := by simp
  generalize K ++ [Blk.cells 0 [v0, v1, v2, v3, v4, v5]] ++ [Blk.cells 0 zeroC] = HB at *
  obtain ⟨bI, vI, HA, old, hA, hgA, hol, hvI4, hbI, hlA, hAB, hbS, hof, So, so1, so2, so3, sfz, slow⟩ := hI.push (by omega) hBK _ hel hn rfl (by omega)
  have hbc' : c ≠ bI := by
    rintro rfl
    rcases hbS with h | h
    · exact hcS h
    · omega
  have hKb : K.length ≠ bI := by
    rintro rfl
    rcases hbS with h | h
    · have := hI.lt h; omega
    · omega
  have gcA : hget HA c cv = some (pre ++ opC kind end_ iv kv key ++ post) := hget_same (hAB c (by omega) hbc') gcB
  have gvA : hget HA K.length 0 = some [v0, v1, v2, v3, v4, v5] := hget_same (hAB _ (by omega) hKb) gvB
  have hltA := hget_lt hgA
  have hS1 : hput base HA bI vI (items.length * 6) [v0, v1, v2, v3, v4, v5] = some (HA.set bI (.cells vI (old ++ [v0, v1, v2, v3, v4, v5]))) := by
    rw [hput_eq hgA hbI (by simp [zeroC]; omega) hV.leaf]
    simp [splice, ← hol, zeroC]
  have hput4 : ∀ (HX : Heap), hget HX c cv = some (pre ++ opC kind end_ iv kv key ++ post) → hput base HX c cv (pre.length + 4) [.bs ⟨bI, vI, 0, items.length + 1, 0, 6, true, false⟩] = some (HX.set c (.cells cv (pre ++ opC kind end_ (.bs ⟨bI, vI, 0, items.length + 1, 0, 6, true, false⟩) kv key ++ post))) := fun HX hg => by
    rw [hput_eq hg hbc (by simp [opC]; omega) rfl, splice_one _ (by simp [opC]), opC, set_mid4, ← opC]
  have gcS1 : hget (HA.set bI (.cells vI (old ++ [v0, v1, v2, v3, v4, v5]))) c cv = some (pre ++ opC kind end_ iv kv key ++ post) := by rw [hget_set_ne hbc']; exact gcA
  have hS2 := hput4 HA gcA
  have hS12 := hput4 _ gcS1
  have hS21 : hput base (HA.set c (.cells cv (pre ++ opC kind end_ (.bs ⟨bI, vI, 0, items.length + 1, 0, 6, true, false⟩) kv key ++ post))) bI vI (items.length * 6) [v0, v1, v2, v3, v4, v5] = some ((HA.set bI (.cells vI (old ++ [v0, v1, v2, v3, v4, v5]))).set c (.cells cv (pre ++ opC kind end_ (.bs ⟨bI, vI, 0, items.length + 1, 0, 6, true, false⟩) kv key ++ post))) := by
    rw [hput_eq (cs := old ++ zeroC) (by rw [hget_set_ne (Ne.symm hbc')]; exact hgA) hbI (by simp [zeroC]; omega) hV.leaf, List.set_comm _ _ hbc']
    simp [splice, ← hol, zeroC]
  have gvS : hget (HA.set c (.cells cv (pre ++ opC kind end_ (.bs ⟨bI, vI, 0, items.length + 1, 0, 6, true, false⟩) kv key ++ post))) K.length 0 = some [v0, v1, v2, v3, v4, v5] := by rw [hget_set_ne (by omega)]; exact gvA
  have hII : aIndexAddr Tryd.prog 22 (.bs ⟨bI, vI, 0, items.length + 1, 0, 6, true, false⟩) (.int .i64 (items.length : Nat)) = some (.ptr bI vI (items.length * 6)) := by
    simp [aIndexAddr, Tryd.underlying22, asNat, sz25]
  have hHFl : ((HA.set bI (.cells vI (old ++ [v0, v1, v2, v3, v4, v5]))).set c (.cells cv (pre ++ opC kind end_ (.bs ⟨bI, vI, 0, items.length + 1, 0, 6, true, false⟩) kv key ++ post))).length = HA.length := by simp
  have gF : hget ((HA.set bI (.cells vI (old ++ [v0, v1, v2, v3, v4, v5]))).set c (.cells cv (pre ++ opC kind end_ (.bs ⟨bI, vI, 0, items.length + 1, 0, 6, true, false⟩) kv key ++ post))) c cv = some (pre ++ opC kind end_ (.bs ⟨bI, vI, 0, items.length + 1, 0, 6, true, false⟩) kv key ++ post) := hget_set_at (by simp; omega)
  have gFI : hget ((HA.set bI (.cells vI (old ++ [v0, v1, v2, v3, v4, v5]))).set c (.cells cv (pre ++ opC kind end_ (.bs ⟨bI, vI, 0, items.length + 1, 0, 6, true, false⟩) kv key ++ post))) bI vI = some (old ++ [v0, v1, v2, v3, v4, v5]) := by
    rw [hget_set_ne (Ne.symm hbc')]; exact hget_set_at hltA
  have hFK : ∀ z, z < K.length → z ≠ c → z ≠ bI → ((HA.set bI (.cells vI (old ++ [v0, v1, v2, v3, v4, v5]))).set c (.cells cv (pre ++ opC kind end_ (.bs ⟨bI, vI, 0, items.length + 1, 0, 6, true, false⟩) kv key ++ post)))[z]? = K[z]? := fun z hz h1 h2 => by
    rw [List.getElem?_set_ne (Ne.symm h1), List.getElem?_set_ne (Ne.symm h2), hAB z (by omega) h2, hBK z hz]
  have hbSv : bI ∉ Sv := by
    rcases hbS with h | h
    · exact hSd bI h
    · intro h2; have := (hV.low bI h2).1; omega
  have hIR : ∀ HX : Heap, HA.length ≤ HX.length → hget HX bI vI = some (old ++ [v0, v1, v2, v3, v4, v5]) → (∀ z ∈ So ++ Sv, HX[z]? = K[z]?) → IR HX base (bI :: (So ++ Sv)) (.bs ⟨bI, vI, 0, items.length + 1, 0, 6, true, false⟩) (items ++ [j]) := fun HX hl hg hsame => by
    refine .inr ⟨bI, vI, _, So ++ Sv, by simp, rfl, hg, hvI4, hbI, by simp [so3, hbSv], by simp, by simp; omega, by rw [List.all_append, hof, hV.leaf]; rfl, ?_, ?_⟩
    · have := (sfz.app hV.fz).agree hsame
      rw [show cellsJs (items ++ [j]) = cellsJs items ++ (encJ j).cells by simp [cellsJs]]
      exact this
    · intro z hz
      rcases List.mem_append.1 hz with h | h
      · exact ⟨by have := (slow z h).1; omega, (slow z h).2⟩
      · exact ⟨by have := (hV.low z h).1; omega, (hV.low z h).2⟩
  have hSS : ∀ z ∈ So ++ Sv, z < K.length ∧ z ≠ c ∧ z ≠ bI := fun z hz => by
    rcases List.mem_append.1 hz with h | h
    · exact ⟨(slow z h).1, fun e => hcS (e ▸ so1 z h), fun e => so3 (e ▸ h)⟩
    · exact ⟨(hV.low z h).1, fun e => hcv (e ▸ h), fun e => hbSv (e ▸ h)⟩
  have gv4 := fun (cs : List AV) => get_mid pre post
  have q4 : (pre ++ opC kind end_ iv kv key ++ post)[pre.length + 4]? = some iv := by rw [get_mid _ _ _ _ (by simp [opC])]; rfl
  generalize hHF : (HA.set bI (.cells vI (old ++ [v0, v1, v2, v3, v4, v5]))).set c (.cells cv (pre ++ opC kind end_ (.bs ⟨bI, vI, 0, items.length + 1, 0, 6, true, false⟩) kv key ++ post)) = HF at *
  have hkvb : ∀ z ∈ stkB kv, z ≠ c ∧ z ≠ bI ∧ z < K.length := fun z hz => ⟨fun e => hck (e ▸ hz), fun e => by
    subst e
    rcases hbS with h | h
    · exact (hkS _ hz).1 h
    · have := rowLt hR hz; omega, rowLt hR hz⟩
  by_cases hk : kind = 5
  · subst hk
    have q0 : (pre ++ opC 5 end_ (.bs ⟨bI, vI, 0, items.length + 1, 0, 6, true, false⟩) kv key ++ post)[pre.length]? = some (.int .i64 5) := by
      have := get_mid pre post (opC 5 end_ (.bs ⟨bI, vI, 0, items.length + 1, 0, 6, true, false⟩) kv key) 0 (by simp [opC])
      exact this
    have q5 : (pre ++ opC 5 end_ (.bs ⟨bI, vI, 0, items.length + 1, 0, 6, true, false⟩) kv key ++ post)[pre.length + 5]? = some kv := by rw [get_mid _ _ _ _ (by simp [opC])]; rfl
    have q7 : (pre ++ opC 5 end_ (.bs ⟨bI, vI, 0, items.length + 1, 0, 6, true, false⟩) kv key ++ post)[pre.length + 7]? = some (.str key) := by rw [get_mid _ _ _ _ (by simp [opC])]; rfl
    have hRF := rowAgree hR (K2 := HF) fun z hz => hFK z (hkvb z hz).2.2 (hkvb z hz).1 (hkvb z hz).2.1
    obtain ⟨t34, HK, happ, hrow', hle, hold, hnew, hlf34⟩ := rowPush hRF key (by omega) (by omega)
    have gK := hget_same (hold c (by omega) hck) gF
    have hbk : bI ∉ stkB kv := fun h => (hkvb bI h).2.1 rfl
    have gKI := hget_same (hold bI (by omega) hbk) gFI
    have hLp : hput base HK c cv (pre.length + 5) [t34] = some (HK.set c (.cells cv (pre ++ opC 5 end_ (.bs ⟨bI, vI, 0, items.length + 1, 0, 6, true, false⟩) t34 key ++ post))) := by
      rw [hput_eq gK hbc (by simp [opC]; omega) (by simp [hlf34]), splice_one _ (by simp [opC]), opC, set_mid5, ← opC]
    have main := put_core5 base K c cv pre.length _ v0 v1 v2 v3 v4 v5 iv _ items.length bI vI (items.length * 6) HB HA _ _ HF HK _ kv t34 key q4 hvc hV.leaf rfl hI.len hB hA hII hS1 hS2 hS12 hS21 gc0 gcB gv0 gvB gvA gvS _ gF q0 q5 q7 (leaf_cells hlf34) (fun H => litK key H) happ hLp
    have hltK := hget_lt gK
    have hk34 : ∀ z ∈ stkB t34, z ∈ stkB kv ∨ HF.length ≤ z := hnew
    have hLK : ∀ z, z < K.length → z ≠ c → z ≠ bI → z ∉ stkB kv → (HK.set c (.cells cv (pre ++ opC 5 end_ (.bs ⟨bI, vI, 0, items.length + 1, 0, 6, true, false⟩) t34 key ++ post)))[z]? = K[z]? := fun z hz h1 h2 h3 => by
      rw [List.getElem?_set_ne (Ne.symm h1), hold z (by omega) h3, hFK z hz h1 h2]
    have hSk : ∀ z ∈ So ++ Sv, z ∉ stkB kv := fun z hz h => by
      rcases List.mem_append.1 hz with g | g
      · exact (hkS z h).1 (so1 z g)
      · exact (hkS z h).2 g
    have hck34 : c ∉ stkB t34 := fun h => by
      rcases hk34 c h with g | g
      · exact hck g
      · omega
    refine ⟨_, _, t34, bI :: (So ++ Sv), main, hget_set_at hltK, hIR _ (by simp; omega) (by rw [hget_set_ne (Ne.symm hbc')]; exact gKI) (fun z hz => hLK z (hSS z hz).1 (hSS z hz).2.1 (hSS z hz).2.2 (hSk z hz)), ?_, by simp; omega, ?_, ?_, ?_, ?_, ?_, hck34, fun _ => .inr (by rw [if_pos rfl]; simp)⟩
    · rw [if_pos rfl]
      exact rowAgree hrow' fun z hz => List.getElem?_set_ne (fun e : c = z => hck34 (by rw [e]; exact hz))
    · intro z hz h1 h2 h3
      refine hLK z hz h1 (fun e => ?_) h3
      subst e
      rcases hbS with h | h
      · exact h2 h
      · omega
    · intro z hz
      rcases List.mem_cons.1 hz with rfl | h
      · rcases hbS with h | h
        · exact .inl h
        · exact .inr (.inr (by omega))
      · rcases List.mem_append.1 h with h | h
        · exact .inl (so1 z h)
        · exact .inr (.inl h)
    · intro z hz
      rcases hk34 z hz with g | g
      · exact .inl g
      · exact .inr (by omega)
    · intro z hz h
      rcases hk34 z hz with g | g
      · rcases List.mem_cons.1 h with rfl | h
        · exact hbk g
        · exact hSk z h g
      · rcases List.mem_cons.1 h with rfl | h
        · omega
        · have := (hSS z h).1; omega
    · intro h
      rcases List.mem_cons.1 h with h | h
      · exact hbc' h
      · exact (hSS c h).2.1 rfl
  · have q0 : (pre ++ opC kind end_ (.bs ⟨bI, vI, 0, items.length + 1, 0, 6, true, false⟩) kv key ++ post)[pre.length]? = some (.int .i64 kind) := by
      have := get_mid pre post (opC kind end_ (.bs ⟨bI, vI, 0, items.length + 1, 0, 6, true, false⟩) kv key) 0 (by simp [opC])
      exact this
    have main := put_core base K c cv pre.length _ v0 v1 v2 v3 v4 v5 iv _ kind items.length bI vI (items.length * 6) HB HA _ _ HF q4 hvc hV.leaf rfl hI.len hB hA hII hS1 hS2 hS12 hS21 gc0 gcB gv0 gvB gvA gvS hk _ gF q0
    refine ⟨HF, _, kv, bI :: (So ++ Sv), main, gF, hIR HF (by omega) gFI (fun z hz => hFK z (hSS z hz).1 (hSS z hz).2.1 (hSS z hz).2.2), ?_, by omega, ?_, ?_, fun z hz => .inl hz, ?_, ?_, hck, fun h => by rw [if_neg hk]; exact h⟩
    · rw [if_neg hk]
      exact rowAgree hR fun z hz => hFK z (rowLt hR hz) (fun e => hck (e ▸ hz)) (fun e => by
        subst e
        rcases hbS with h | h
        · exact (hkS _ hz).1 h
        · have := rowLt hR hz; omega)
    · intro z hz h1 h2 h3
      refine hFK z hz h1 fun e => ?_
      subst e
      rcases hbS with h | h
      · exact h2 h
      · omega
    · intro z hz
      rcases List.mem_cons.1 hz with rfl | h
      · rcases hbS with h | h
        · exact .inl h
        · exact .inr (.inr (by omega))
      · rcases List.mem_append.1 h with h | h
        · exact .inl (so1 z h)
        · exact .inr (.inl h)
    · intro z hz h
      rcases List.mem_cons.1 h with rfl | h
      · rcases hbS with h | h
        · exact (hkS _ hz).1 h
        · have := rowLt hR hz; omega
      · rcases List.mem_append.1 h with h | h
        · exact (hkS z hz).1 (so1 z h)
        · exact (hkS z hz).2 h
    · intro h
      rcases List.mem_cons.1 h with h | h
      · exact hbc' h
      · exact (hSS c h).2.1 rfl
end Go.Proofs.YtimbhlbkidmplaaDoor
/- jval's parser in plain Lean: what it does with tokens. -/
namespace Go.Proofs.YtimbhlbkidmplaaDoor
open Go Go.Abs AbsSeat Ty

/-- a list or an object that is being read. -/
structure OE where
  kind : Int
  end_ : Int
  items : List JV
  keys : List (List UInt8)
  key : List UInt8
def closeJ (o : OE) : JV := .mk o.kind false 0 [] 0 o.items 0 o.keys
def putO (o : OE) (v : JV) : OE := { o with items := o.items ++ [v], keys := if o.kind = 5 then o.keys ++ [o.key] else o.keys }
def newO (x : Int × Int) : OE := ⟨x.1, x.2, [], [], []⟩
inductive PSt where
  | outer (p : Ps) (stk : List OE)
  | inner (p : Ps) (v : JV) (stk : List OE)
inductive PRes where
  | ok (v : JV) (p : Ps)
  | bad (e : Int) (p : Ps)
def PSt.ps : PSt → Ps
  | .outer p _ => p
  | .inner p _ _ => p
/-- behind a key: it is kept, if it is one. -/
def keyed (s : List UInt8) (p : Ps) (o : OE) (r : List OE) : PSt ⊕ PRes :=
  if (keyP s p o.keys).1 then .inl (.outer (keyP s p o.keys).2 ({ o with key := p.text } :: r)) else .inr (.bad (amissP (keyP s p o.keys).2) (keyP s p o.keys).2)
def outerS (s : List UInt8) (d : Int) (p : Ps) (stk : List OE) : PSt ⊕ PRes :=
  match plainJ p with
  | some v => .inl (.inner (stepP s p) v stk)
  | none =>
    if beginE p stk.length d = 0 then
      match beginK p with
      | none => .inr (.bad 3 p)
      | some x =>
        if (takesP s (stepP s p) x.2).1 then .inl (.inner (takesP s (stepP s p) x.2).2 (closeJ (newO x)) stk)
        else if x.1 = 5 then keyed s (stepP s p) (newO x) stk
        else .inl (.outer (stepP s p) (newO x :: stk))
    else .inr (.bad (beginE p stk.length d) p)
def innerS (s : List UInt8) (p : Ps) (v : JV) : List OE → PSt ⊕ PRes
  | [] => .inr (.ok v p)
  | o :: r =>
    if (takesP s p o.end_).1 then .inl (.inner (takesP s p o.end_).2 (closeJ (putO o v)) r)
    else if (takesP s p 6).1 then
      if o.kind = 5 then keyed s (takesP s p 6).2 (putO o v) r else .inl (.outer (takesP s p 6).2 (putO o v :: r))
    else .inr (.bad (amissP p) p)
def stS (s : List UInt8) (d : Int) : PSt → PSt ⊕ PRes
  | .outer p stk => outerS s d p stk
  | .inner p v stk => innerS s p v stk
def mu (s : List UInt8) (p : Ps) : Nat := 2 * (s.length - p.to) + (if p.e = 0 then 1 else 0)
theorem stepP_mu (s : List UInt8) (p : Ps) (h : p.e = 0) : mu s (stepP s p) < mu s p := by
  unfold mu stepP
  cases htk : tokS ((s.drop p.to).drop (runS blankC (s.drop p.to))) with
  | bad e =>
    have := tokS_ne htk
    dsimp only
    rw [if_neg this, if_pos h]; omega
  | tok t =>
    obtain ⟨p1, p2⟩ := tokS_pos htk
    simp only [List.length_drop] at p2
    dsimp only
    rw [if_pos h, if_pos rfl]; omega
theorem takesP_mu {s : List UInt8} {p : Ps} {k : Int} (h : (takesP s p k).1 = true) : mu s (takesP s p k).2 < mu s p := by
  unfold takesP at h ⊢
  split at h
  · rename_i h1
    rw [if_pos h1]; exact stepP_mu s p h1.1
  · cases h
theorem keyP_mu {s : List UInt8} {p : Ps} {keys : List (List UInt8)} (h : (keyP s p keys).1 = true) : mu s (keyP s p keys).2 < mu s p := by
  unfold keyP at h ⊢
  split at h
  · rename_i h1
    rw [if_pos h1]
    have := takesP_mu h
    have := stepP_mu s p h1.1
    omega
  · cases h
theorem keyed_mu {s : List UInt8} {p : Ps} {o : OE} {r : List OE} {st : PSt} (h : keyed s p o r = .inl st) : mu s st.ps < mu s p := by
  unfold keyed at h
  split at h
  · rename_i h1; cases h; exact keyP_mu h1
  · cases h
theorem stS_mu {s : List UInt8} {d : Int} {st st' : PSt} (h : stS s d st = .inl st') : mu s st'.ps < mu s st.ps := by
  cases st with
  | outer p stk =>
    simp only [stS, outerS] at h
    cases hpl : plainJ p with
    | some v =>
      rw [hpl] at h
      cases h
      have : p.e = 0 := by
        unfold plainJ at hpl
        split at hpl
        · assumption
        · cases hpl
      exact stepP_mu s p this
    | none =>
      rw [hpl] at h
      dsimp only at h
      split at h
      · rename_i hb
        have he : p.e = 0 := by
          unfold beginE at hb
          split at hb
          · assumption
          · rename_i h1
            unfold amissP at hb
            split at hb
            · cases hb
            · exact absurd hb h1
        have h0 := stepP_mu s p he
        cases hk : beginK p with
        | none => rw [hk] at h; cases h
        | some x =>
          rw [hk] at h
          dsimp only at h
          split at h
          · rename_i h1
            cases h
            have := takesP_mu h1
            simp only [PSt.ps]; omega
          · split at h
            · have := keyed_mu h
              simp only [PSt.ps] at this ⊢; omega
            · cases h; exact h0
      · cases h
  | inner p v stk =>
    cases stk with
    | nil => cases h
    | cons o r =>
      simp only [stS, innerS] at h
      split at h
      · rename_i h1; cases h; exact takesP_mu h1
      · split at h
        · rename_i h1
          have h2 := takesP_mu h1
          split at h
          · have := keyed_mu h
            simp only [PSt.ps] at this ⊢; omega
          · cases h; exact h2
        · cases h
def runP (s : List UInt8) (d : Int) (st : PSt) : PRes :=
  match _h : stS s d st with
  | .inl st' => runP s d st'
  | .inr r => r
termination_by mu s st.ps
decreasing_by exact stS_mu _h
theorem runP_inl {s : List UInt8} {d : Int} {st st' : PSt} (h : stS s d st = .inl st') : runP s d st = runP s d st' := by
  rw [runP]
  split
  · rename_i h2; rw [h] at h2; cases h2; rfl
  · rename_i h2; rw [h] at h2; cases h2
theorem runP_inr {s : List UInt8} {d : Int} {st : PSt} {r : PRes} (h : stS s d st = .inr r) : runP s d st = r := by
  rw [runP]
  split
  · rename_i h2; rw [h] at h2; cases h2
  · rename_i h2; rw [h] at h2; cases h2; rfl
/-- what is open, as it lies (the innermost one last), and the blocks that it has. -/
inductive SH (K : Heap) (base : Nat) : List OE → List AV → List Nat → Prop where
  | nil : SH K base [] [] []
  | cons {r : List OE} {cells : List AV} {S : List Nat} (h : SH K base r cells S) (o : OE) (Si : List Nat) (iv kv : AV) (hI : IR K base Si iv o.items) (hR : Row AV.str 1 false base K kv o.keys) (hn : kv = .nilS ∨ o.keys ≠ [])
      (h1 : ∀ z ∈ stkB kv, z ∉ Si) (h2 : ∀ z ∈ Si ++ stkB kv, z ∉ S) : SH K base (o :: r) (cells ++ opC o.kind o.end_ iv kv o.key) (Si ++ stkB kv ++ S)
theorem SH.agree {K K2 : Heap} {base : Nat} {stk : List OE} {cells : List AV} {S : List Nat} (h : SH K base stk cells S) (hl : K.length ≤ K2.length) (h2 : ∀ z ∈ S, K2[z]? = K[z]?) : SH K2 base stk cells S := by
  induction h with
  | nil => exact .nil
  | cons h o Si iv kv hI hR hn h1 hd ih =>
    exact .cons (ih fun z hz => h2 z (by simp [hz])) o Si iv kv (hI.agree hl fun z hz => h2 z (by simp [hz])) (rowAgree hR fun z hz => h2 z (by simp [hz])) hn h1 hd
theorem SH.len {K : Heap} {base : Nat} {stk : List OE} {cells : List AV} {S : List Nat} (h : SH K base stk cells S) : cells.length = stk.length * 8 := by
  induction h with
  | nil => rfl
  | cons h o Si iv kv hI hR hn h1 hd ih => simp [ih, opC]; omega
theorem SH.lt {K : Heap} {base : Nat} {stk : List OE} {cells : List AV} {S : List Nat} (h : SH K base stk cells S) : ∀ z ∈ S, z < K.length := by
  induction h with
  | nil => simp
  | cons h o Si iv kv hI hR hn h1 hd ih =>
    intro z hz
    rcases List.mem_append.1 hz with hz | hz
    · rcases List.mem_append.1 hz with hz | hz
      · exact hI.lt hz
      · exact rowLt hR hz
    · exact ih z hz
/-- a list or an object that is closed is a value. -/
theorem close_VR {K : Heap} {base : Nat} {Si : List Nat} {iv kv : AV} {o : OE} (hI : IR K base Si iv o.items) (hR : Row AV.str 1 false base K kv o.keys) (hk : kv = .nilS ∨ o.keys ≠ []) :
    VR K base (Si ++ stkB kv) [.int .i64 o.kind, .bool false, .int .i64 0, .str [], iv, kv] (closeJ o) := by
  have hil : iv.leaf = true := by rcases hI with ⟨rfl, _⟩ | ⟨b, ver, cells, S', rfl, _⟩ <;> rfl
  have hkl : kv.leaf = true := by rcases hR with ⟨rfl, _⟩ | ⟨b, ver, rfl, _⟩ <;> rfl
  refine ⟨rfl, by simp [AV.leaf] at hil hkl ⊢; simp [hil, hkl], fun K' hs => ?_, fun z hz => ?_⟩
  · have e : (encJ (closeJ o)).cells = [.int .i64 o.kind, .bool false, .int .i64 0, .str [], tg 0 (o.items.map encJ), tg 0 (o.keys.map .str)] := by
      rw [closeJ, encJ_mk]; rfl
    rw [e]
    have hiv : Frz K' base iv (tg 0 (o.items.map encJ)) := by
      rcases hI with ⟨rfl, h, _⟩ | ⟨b, ver, cells, S', rfl, rfl, g, v4, hb, hnb, h0, hcl, hlf, fz, low⟩
      · rw [h]; exact .still rfl
      · have hf := fz K' fun z hz => hs z (by simp [hz])
        have hg := hget_same (hs b (by simp)) g
        have hw : win cells 0 (o.items.length * 6) = some cells := by
          simp only [win, Nat.zero_add, List.drop_zero]
          rw [if_pos (by omega), List.take_of_length_le (by omega)]
        have := Frz.bs (H := K') (base := base) (s := ⟨b, ver, 0, o.items.length, 0, 6, true, false⟩) hb (by simp) rfl hg hw hf
        rw [show cellsJs o.items = cellsOf encJ o.items from rfl, chunk_cellsOf encJ_T (by decide)] at this
        cases hi : o.items with
        | nil => rw [hi] at h0; simp at h0
        | cons a r => rw [hi] at this; exact this
    have hkv : Frz K' base kv (tg 0 (o.keys.map .str)) := by
      have := (rowAgree hR (K2 := K') fun z hz => hs z (by simp [hz])).frozen strT (by decide) rfl hk
      cases hi : o.keys with
      | nil => rw [hi] at this; exact this
      | cons a r => rw [hi] at this; exact this
    exact .cons (.still rfl) (.cons (.still rfl) (.cons (.still rfl) (.cons (.still rfl) (.cons hiv (.cons hkv .nil)))))
  · rcases List.mem_append.1 hz with h | h
    · rcases hI with ⟨rfl, _, rfl⟩ | ⟨b, ver, cells, S', rfl, rfl, g, v4, hb, hnb, h0, hcl, hlf, fz, low⟩
      · cases h
      · rcases List.mem_cons.1 h with rfl | h
        · exact ⟨hget_lt g, hb⟩
        · exact low z h
    · refine ⟨rowLt hR h, ?_⟩
      rcases hR with ⟨rfl, _⟩ | ⟨b, ver, rfl, h3, _⟩
      · cases h
      · simp only [stkB, List.mem_singleton] at h; omega
end Go.Proofs.YtimbhlbkidmplaaDoor
/- jval's parser in plain Lean: what holds of every state. -/
namespace Go.Proofs.YtimbhlbkidmplaaDoor
open Go Go.Abs AbsSeat Ty

theorem runP_ind {s : List UInt8} {d : Int} (I : PSt → Prop) (Q : PRes → Prop) (step : ∀ st st', I st → stS s d st = .inl st' → I st') (fin : ∀ st r, I st → stS s d st = .inr r → Q r) : ∀ st, I st → Q (runP s d st) := by
  intro st
  generalize hm : mu s st.ps = m
  induction m using Nat.strongRecOn generalizing st with
  | _ m ih =>
    intro h
    cases hs : stS s d st with
    | inl st' => rw [runP_inl hs]; exact ih _ (hm ▸ stS_mu hs) st' rfl (step _ _ h hs)
    | inr r => rw [runP_inr hs]; exact fin _ _ h hs
inductive Once : JV → Prop where
  | mk (x : JV) (h1 : x.kind = 5 → x.keys.length = x.items.length) (h2 : x.keys.Nodup) (h3 : ∀ y ∈ x.items, Once y) : Once x
/-- a value that was read, with so many that are open around it. -/
structure VOk (s : List UInt8) (d : Int) (k : Nat) (v : JV) : Prop where
  once : Once v
  fit : Fit (2 * s.length + 1) v
  deep : depthJ v + k ≤ d.toNat
structure GP (s : List UInt8) (p : Ps) : Prop where
  to : p.to ≤ s.length
  at_ : p.at_ ≤ s.length
  frm : p.frm ≤ s.length
structure OOk (s : List UInt8) (d : Int) (p : Ps) (k : Nat) (o : OE) : Prop where
  kind : o.kind = 4 ∨ o.kind = 5
  size : o.items.length + mu s p ≤ 2 * s.length + 1
  keys : o.keys.length = if o.kind = 5 then o.items.length else 0
  nodup : o.keys.Nodup
  key : o.kind = 5 → inN o.keys o.key = false
  items : ∀ v ∈ o.items, VOk s d (k + 1) v
  room : k + 1 ≤ d.toNat
def StkOk (s : List UInt8) (d : Int) (p : Ps) : List OE → Prop
  | [] => True
  | o :: r => OOk s d p r.length o ∧ StkOk s d p r
def PI (s : List UInt8) (d : Int) : PSt → Prop
  | .outer p stk => GP s p ∧ StkOk s d p stk
  | .inner p v stk => GP s p ∧ VOk s d stk.length v ∧ StkOk s d p stk
theorem stepP_GP {s : List UInt8} {p : Ps} (h : p.to ≤ s.length) : GP s (stepP s p) := by
  unfold stepP
  cases htk : tokS ((s.drop p.to).drop (runS blankC (s.drop p.to))) with
  | bad e => exact ⟨h, h, Nat.zero_le _⟩
  | tok t =>
    obtain ⟨p1, p2⟩ := tokS_pos htk
    simp only [List.length_drop] at p2
    exact ⟨by dsimp only; omega, h, by dsimp only; omega⟩
theorem takesP_GP {s : List UInt8} {p : Ps} {k : Int} (h : GP s p) : GP s (takesP s p k).2 := by
  unfold takesP; split
  · exact stepP_GP h.to
  · exact h
theorem keyP_GP {s : List UInt8} {p : Ps} {keys : List (List UInt8)} (h : GP s p) : GP s (keyP s p keys).2 := by
  unfold keyP; split
  · exact takesP_GP (stepP_GP h.to)
  · exact h
theorem StkOk.mono {s : List UInt8} {d : Int} {p q : Ps} (hm : mu s q ≤ mu s p) : ∀ {stk : List OE}, StkOk s d p stk → StkOk s d q stk
  | [], _ => trivial
  | o :: r, ⟨h, h2⟩ => ⟨{ h with size := by have := h.size; omega }, StkOk.mono hm h2⟩
theorem inN_mem {ns : List (List UInt8)} {x : List UInt8} : inN ns x = true ↔ x ∈ ns := by simp [inN]
theorem VOk.close {s : List UInt8} {d : Int} {k : Nat} {o : OE} (hs : o.items.length ≤ 2 * s.length + 1) (hl : o.keys.length = if o.kind = 5 then o.items.length else 0) (hn : o.keys.Nodup) (hi : ∀ v ∈ o.items, VOk s d (k + 1) v) (hr : k + 1 ≤ d.toNat) : VOk s d k (closeJ o) := by
  refine ⟨.mk _ (fun h => ?_) hn fun y hy => (hi y hy).once, .mk _ hs ?_ fun y hy => (hi y hy).fit, ?_⟩
  · have h5 : o.kind = 5 := h
    rw [if_pos h5] at hl; exact hl
  · show o.keys.length ≤ _
    rw [hl]; split <;> omega
  · have : ∀ l : List JV, (∀ v ∈ l, VOk s d (k + 1) v) → depthJs l + (k + 1) ≤ d.toNat := by
      intro l
      induction l with
      | nil => intro _; simp [depthJs]; omega
      | cons a r ih => intro h; have h1 := (h a (by simp)).deep; have h2 := ih fun v hv => h v (by simp [hv]); simp only [depthJs]; omega
    have := this _ hi
    rw [depthJ_eq]
    split
    · omega
    · show depthJs o.items + 1 + k ≤ _; omega
theorem mu_le {s : List UInt8} {p : Ps} : mu s p ≤ 2 * s.length + 1 := by unfold mu; split <;> omega
theorem beginE_room {p : Ps} {n : Nat} {d : Int} (h : beginE p n d = 0) {x : Int × Int} (hk : beginK p = some x) : p.e = 0 ∧ n + 1 ≤ d.toNat ∧ ¬ d ≤ n := by
  unfold beginE at h
  rw [hk] at h
  split at h
  · dsimp only at h
    split at h
    · cases h
    · exact ⟨by assumption, by omega, by assumption⟩
  · exfalso
    unfold amissP at h
    split at h
    · cases h
    · rename_i h1 _; exact h1 h
theorem plainJ_zero {p : Ps} {v : JV} (h : plainJ p = some v) : p.e = 0 := by
  unfold plainJ at h
  split at h
  · assumption
  · cases h
theorem plainJ_ok {p : Ps} {v : JV} (h : plainJ p = some v) : (v.kind ≠ 4 ∧ v.kind ≠ 5) ∧ v.items = [] ∧ v.keys = [] ∧ v.tag = 0 ∧ v.ktag = 0 := by
  unfold plainJ at h
  rw [if_pos (plainJ_zero h)] at h
  repeat' split at h
  all_goals first | (injection h with h; subst h; exact ⟨by simp [JV.kind], rfl, rfl, rfl, rfl⟩) | cases h
theorem plainJ_VOk {s : List UInt8} {d : Int} {k : Nat} {p : Ps} {v : JV} (h : plainJ p = some v) (hr : k ≤ d.toNat) : VOk s d k v := by
  obtain ⟨h1, h2, h3, -, -⟩ := plainJ_ok h
  refine ⟨.mk _ (fun e => absurd e h1.2) (by rw [h3]; exact .nil) (by rw [h2]; simp), .mk _ (by rw [h2]; simp) (by rw [h3]; simp) (by rw [h2]; simp), ?_⟩
  rw [depthJ_eq, if_pos h1]; omega
theorem StkOk.room {s : List UInt8} {d : Int} {p : Ps} {stk : List OE} (h : StkOk s d p stk) : stk.length ≤ d.toNat := by
  cases stk with
  | nil => simp
  | cons o r => have := h.1.room; simpa using this
theorem keyP_true {s : List UInt8} {p : Ps} {keys : List (List UInt8)} (h : (keyP s p keys).1 = true) : p.e = 0 ∧ p.kind = 7 ∧ inN keys p.text = false := by
  unfold keyP at h
  split at h
  · assumption
  · cases h
theorem beginK_kind {p : Ps} {x : Int × Int} (h : beginK p = some x) : x = (5, 2) ∨ x = (4, 4) := by
  unfold beginK at h
  split at h
  · cases h; exact .inl rfl
  · split at h
    · cases h; exact .inr rfl
    · cases h
theorem keyed_PI {s : List UInt8} {d : Int} {p : Ps} {o : OE} {r : List OE} {st : PSt} (hp : GP s p) (ho : OOk s d p r.length { o with key := p.text } ∨ (o.kind = 5 ∧ o.items.length + mu s p ≤ 2 * s.length + 1 + 1 ∧ o.keys.length = o.items.length ∧ o.keys.Nodup ∧ (∀ v ∈ o.items, VOk s d (r.length + 1) v) ∧ r.length + 1 ≤ d.toNat)) (hr : StkOk s d p r) (h : keyed s p o r = .inl st) : PI s d st := by
  have hmu := keyed_mu h
  unfold keyed at h
  split at h
  · rename_i h1
    cases h
    obtain ⟨-, -, hk⟩ := keyP_true h1
    simp only [PSt.ps] at hmu
    refine ⟨keyP_GP hp, ?_, hr.mono (by omega)⟩
    rcases ho with ho | ⟨h5, hs, hl, hn, hi, hrm⟩
    · exact { ho with size := by have := ho.size; omega }
    · exact ⟨.inr h5, by dsimp only; omega, by dsimp only; rw [if_pos h5]; exact hl, hn, fun _ => hk, hi, hrm⟩
  · cases h
theorem putO_len {o : OE} {v : JV} : (putO o v).items.length = o.items.length + 1 := by simp [putO]
theorem PI_step {s : List UInt8} {d : Int} {st st' : PSt} (hI : PI s d st) (h : stS s d st = .inl st') : PI s d st' := by
  have hmu := stS_mu h
  cases st with
  | outer p stk =>
    obtain ⟨hp, hs⟩ := hI
    simp only [stS, outerS] at h
    cases hpl : plainJ p with
    | some v =>
      rw [hpl] at h
      cases h
      simp only [PSt.ps] at hmu
      exact ⟨stepP_GP hp.to, plainJ_VOk hpl hs.room, hs.mono (by omega)⟩
    | none =>
      rw [hpl] at h
      dsimp only at h
      split at h
      · rename_i hb
        cases hk : beginK p with
        | none => rw [hk] at h; cases h
        | some x =>
          rw [hk] at h
          dsimp only at h
          obtain ⟨he, hroom, -⟩ := beginE_room hb hk
          have h0 := stepP_mu s p he
          have hkd : x.1 = 4 ∨ x.1 = 5 := by rcases beginK_kind hk with rfl | rfl <;> simp
          have hmm := mu_le (s := s) (p := stepP s p)
          split at h
          · rename_i h1
            cases h
            have := takesP_mu h1
            exact ⟨takesP_GP (stepP_GP hp.to), .close (by simp [newO]) (by by_cases e : x.1 = 5 <;> simp [newO, e]) (by simp [newO]) (by simp [newO]) hroom, hs.mono (by omega)⟩
          · split at h
            · rename_i h5
              refine keyed_PI (stepP_GP hp.to) (.inr ⟨h5, by simp only [newO, List.length_nil]; omega, rfl, by simp [newO], by simp [newO], hroom⟩) (hs.mono (by omega)) h
            · rename_i h5
              cases h
              exact ⟨stepP_GP hp.to, ⟨hkd, by simp only [newO, List.length_nil]; omega, by by_cases e : x.1 = 5 <;> simp [newO, e], by simp [newO], fun e => absurd e h5, by simp [newO], hroom⟩, hs.mono (by omega)⟩
      · cases h
  | inner p v stk =>
    obtain ⟨hp, hv, hs⟩ := hI
    cases stk with
    | nil => cases h
    | cons o r =>
      obtain ⟨ho, hr⟩ := hs
      have hitems : ∀ x ∈ (putO o v).items, VOk s d (r.length + 1) x := by
        intro x hx
        simp only [putO, List.mem_append, List.mem_singleton] at hx
        rcases hx with hx | rfl
        · exact ho.items x hx
        · exact hv
      have hnd : (putO o v).keys.Nodup := by
        simp only [putO]
        split
        · rename_i h5
          have hk := ho.key h5
          refine List.nodup_append.2 ⟨ho.nodup, by simp, fun a ha b hb => ?_⟩
          simp only [List.mem_singleton] at hb
          rintro rfl
          subst hb
          rw [inN_mem.2 ha] at hk; cases hk
        · exact ho.nodup
      have hkl : (putO o v).keys.length = if (putO o v).kind = 5 then (putO o v).items.length else 0 := by
        have := ho.keys
        show _ = if o.kind = 5 then _ else _
        by_cases h5 : o.kind = 5
        · rw [if_pos h5] at this ⊢
          simp [putO, h5, this]
        · rw [if_neg h5] at this ⊢
          simp [putO, h5, this]
      have hsz := ho.size
      simp only [stS, innerS] at h
      split at h
      · rename_i h1; cases h
        have h2 := takesP_mu h1
        exact ⟨takesP_GP hp, .close (by rw [putO_len]; omega) hkl hnd hitems ho.room, hr.mono (by omega)⟩
      · split at h
        · rename_i h1
          have h2 := takesP_mu h1
          split at h
          · rename_i h5
            refine keyed_PI (o := putO o v) (takesP_GP hp) (.inr ⟨h5, by rw [putO_len]; omega, ?_, hnd, hitems, ho.room⟩) (hr.mono (by omega)) h
            rw [hkl, if_pos (show (putO o v).kind = 5 from h5)]
          · rename_i h5
            cases h
            exact ⟨takesP_GP hp, ⟨ho.kind, by rw [putO_len]; omega, hkl, hnd, fun e => absurd e h5, hitems, ho.room⟩, hr.mono (by omega)⟩
        · cases h
def ROk (s : List UInt8) (d : Int) : PRes → Prop
  | .ok v p => VOk s d 0 v ∧ GP s p
  | .bad e p => e ≠ 0 ∧ GP s p
theorem amissP_ne (p : Ps) : amissP p ≠ 0 := by
  unfold amissP
  split
  · simp
  · rename_i h; exact fun e => h (.inl e)
theorem keyed_inr {s : List UInt8} {p : Ps} {o : OE} {r : List OE} {z : PRes} (hp : GP s p) (h : keyed s p o r = .inr z) (d : Int) : ROk s d z := by
  unfold keyed at h
  split at h
  · cases h
  · cases h; exact ⟨amissP_ne _, keyP_GP hp⟩
theorem PI_fin {s : List UInt8} {d : Int} {st : PSt} {r : PRes} (hI : PI s d st) (h : stS s d st = .inr r) : ROk s d r := by
  cases st with
  | outer p stk =>
    obtain ⟨hp, hs⟩ := hI
    simp only [stS, outerS] at h
    cases hpl : plainJ p with
    | some v => rw [hpl] at h; cases h
    | none =>
      rw [hpl] at h
      dsimp only at h
      split at h
      · cases hk : beginK p with
        | none => rw [hk] at h; cases h; exact ⟨by simp, hp⟩
        | some x =>
          rw [hk] at h
          dsimp only at h
          split at h
          · cases h
          · split at h
            · exact keyed_inr (stepP_GP hp.to) h d
            · cases h
      · cases h; exact ⟨by assumption, hp⟩
  | inner p v stk =>
    obtain ⟨hp, hv, hs⟩ := hI
    cases stk with
    | nil => cases h; exact ⟨hv, hp⟩
    | cons o r =>
      simp only [stS, innerS] at h
      split at h
      · cases h
      · split at h
        · split at h
          · exact keyed_inr (takesP_GP hp) h d
          · cases h
        · cases h; exact ⟨amissP_ne _, hp⟩
theorem runP_ok {s : List UInt8} {d : Int} {st : PSt} (h : PI s d st) : ROk s d (runP s d st) := runP_ind (PI s d) (ROk s d) (fun _ _ => PI_step) (fun _ _ => PI_fin) st h
end Go.Proofs.YtimbhlbkidmplaaDoor
/- Raw functions of whose result and heap only properties are known. -/
namespace Go.Abs
open Go
/-- a raw call of which what is known of the heap behind it is said. -/
theorem raw_slimX {C : Cfg} {prot : Nat} {f : FuncId} {args : List AV} {H : Heap} {fn : Func} {c : Code} {P : AV → Heap → Prop} (hok : C.ok f = true) (hp : C.pure f = false) (hsh : C.shut f = false) (htr : C.trim f = false) (hfn : C.P.funcs[f]? = some fn) (hb : fn.body.map (slim C) = some c)
    (hl : args.length ≤ fn.ntmps)
    (h : ∀ fr, fr.length = fn.ntmps → Has fr 0 args → ∃ v H', P v H' ∧ R ⟨C, prot, fn.results.toList, .raw⟩ c [] fr H (v, some H')) : ∃ v H', P v H' ∧ aLim C prot f args H = some (v, some H') := by
  rw [Option.map_eq_some_iff] at hb
  obtain ⟨c0, hb, rfl⟩ := hb
  have h := entered (Q := fun fr => ∃ v H', P v H' ∧ R ⟨C, prot, fn.results.toList, .raw⟩ (slim C c0) [] fr H (v, some H')) hl h
  obtain ⟨v, H1, hP, h⟩ := h
  have h := R_slim (X := ⟨C, prot, fn.results.toList, .raw⟩) h
  refine ⟨v, H1, hP, ?_⟩
  obtain ⟨e, fr', H', h1, h2⟩ := h
  have h1' := aCode_conv (aLim_conv C) _ h1
  have hfin : Fin ⟨C, prot, fn.results.toList, .raw⟩ fr' H' (v, some H1) ∧ ∀ id, e ≠ .exit id := by
    cases e with
    | normal => exact ⟨h2, fun _ h => by cases h⟩
    | ret => exact ⟨h2, fun _ h => by cases h⟩
    | exit id => exact h2.elim
  obtain ⟨⟨l, hr, he⟩, hex⟩ := hfin
  rw [he]
  refine aLim_of ?_
  obtain ⟨n0, h0⟩ := h1'
  refine ⟨n0 + 1, fun n hn => ?_⟩
  obtain ⟨n, rfl⟩ : ∃ j, n = j + 1 := ⟨n - 1, by omega⟩
  have h3 := h0 n (by omega)
  cases e with
  | exit id => exact absurd rfl (hex id)
  | normal => simp only [aCall, hok, Bool.true_eq_false, if_false, hfn, hb, hp, hsh, htr, Bool.false_eq_true, Option.bind_some, aBody, h3, hr, Option.map_some]
  | ret => simp only [aCall, hok, Bool.true_eq_false, if_false, hfn, hb, hp, hsh, htr, Bool.false_eq_true, Option.bind_some, aBody, h3, hr, Option.map_some]
theorem loop_ruleX {X : Ctx} {c : Code} {κ : List K} {P : AV → Heap → Prop} (Inv : Nat → List AV → Heap → Prop)
    (step : ∀ m fr H, Inv m fr H → (∀ fr' H' m', m' < m → Inv m' fr' H' → ∃ v Z, P v Z ∧ U X (.loop c :: κ) .normal fr' H' (v, some Z)) → ∃ v Z, P v Z ∧ R X c (.loop c :: κ) fr H (v, some Z)) :
    ∀ (m : Nat) (fr : List AV) (H : Heap), Inv m fr H → ∃ v Z, P v Z ∧ R X (.loop c) κ fr H (v, some Z) := by
  intro m
  induction m using Nat.strongRecOn with
  | _ m ih =>
    intro fr H h
    simp only [R_loop]
    refine step m fr H h fun fr' H' m' hm h' => ?_
    have := ih m' hm fr' H' h'
    simp only [U_loop, ← R_loop]
    exact this
end Go.Abs
/- jval's parser: what is open and what is done, as they lie, from step to step. -/
namespace Go.Proofs.YtimbhlbkidmplaaDoor
open Go Go.Abs AbsSeat Ty

def ValR (s : List UInt8) (d : Int) (b r0 base : Nat) (K0 : Heap) (R : PRes) (r : AV) (K' : Heap) : Prop :=
  hget K' 0 (gver 0) = some [ET] ∧ (∀ z, z < r0 → z ≠ b → K'[z]? = K0[z]?) ∧ match R with
  | .ok j p => ∃ vs S, r = .tup [.agg vs, .int .i64 0] ∧ VR K' base S vs j ∧ hget K' b 0 = some (cellsPs s p d) ∧ ∀ z ∈ S, r0 < z
  | .bad e p => e ≠ 0 ∧ r = .tup [.agg zeroC, .int .i64 e] ∧ hget K' b 0 = some (cellsPs s p d)
/-- the parser and what is open, as they lie; 'r0' is the block of the result. -/
structure VI (s : List UInt8) (d : Int) (b r0 base : Nat) (K0 : Heap) (p : Ps) (stk : List OE) (v : AV) (K : Heap) : Prop where
  hg : hget K b 0 = some (cellsPs s p d)
  hg0 : hget K 0 (gver 0) = some [ET]
  hr : hget K r0 0 = some zeroC
  br : b < r0
  old : ∀ z, z < r0 → z ≠ b → K[z]? = K0[z]?
  st : ∃ cells S, StkR base K v stk.length cells ∧ SH K base stk cells S ∧ (∀ z ∈ S, r0 < z) ∧ ∀ z ∈ stkB v, r0 < z ∧ z ∉ S
/-- so, and a box beside it. -/
structure VB (s : List UInt8) (d : Int) (b r0 base : Nat) (K0 : Heap) (p : Ps) (stk : List OE) (v : AV) (bx : Nat) (K : Heap) : Prop where
  hg : hget K b 0 = some (cellsPs s p d)
  hg0 : hget K 0 (gver 0) = some [ET]
  hr : hget K r0 0 = some zeroC
  br : b < r0
  old : ∀ z, z < r0 → z ≠ b → K[z]? = K0[z]?
  rb : r0 < bx
  hb : ∃ vs, hget K bx 0 = some vs ∧ vs.length = 6
  st : ∃ cells S, StkR base K v stk.length cells ∧ SH K base stk cells S ∧ (∀ z ∈ S, r0 < z) ∧ (∀ z ∈ stkB v, r0 < z ∧ z ∉ S ∧ z ≠ bx) ∧ bx ∉ S
/-- so, and in the box a value that is done. -/
structure VV (s : List UInt8) (d : Int) (b r0 base : Nat) (K0 : Heap) (p : Ps) (stk : List OE) (v : AV) (bx : Nat) (vs : List AV) (j : JV) (K : Heap) : Prop where
  hg : hget K b 0 = some (cellsPs s p d)
  hg0 : hget K 0 (gver 0) = some [ET]
  hr : hget K r0 0 = some zeroC
  br : b < r0
  old : ∀ z, z < r0 → z ≠ b → K[z]? = K0[z]?
  rb : r0 < bx
  hb : hget K bx 0 = some vs
  st : ∃ cells S Sv, StkR base K v stk.length cells ∧ SH K base stk cells S ∧ VR K base Sv vs j ∧ (∀ z ∈ S, r0 < z) ∧ (∀ z ∈ Sv, r0 < z) ∧ (∀ z ∈ stkB v, r0 < z ∧ z ∉ S ∧ z ∉ Sv ∧ z ≠ bx) ∧ (∀ z ∈ Sv, z ∉ S) ∧ bx ∉ S ∧ bx ∉ Sv
theorem StkR.agree {base : Nat} {K K2 : Heap} {v : AV} {n : Nat} {cells : List AV} (h : StkR base K v n cells) (h2 : ∀ z ∈ stkB v, K2[z]? = K[z]?) : StkR base K2 v n cells := by
  rcases h with h | ⟨c, cv, rest, rfl, h3, h4⟩
  · exact .inl h
  · exact .inr ⟨c, cv, rest, rfl, hget_same (h2 c (by simp [stkB])) h3, h4⟩
theorem StkR.lt {base : Nat} {K : Heap} {v : AV} {n : Nat} {cells : List AV} (h : StkR base K v n cells) : ∀ z ∈ stkB v, z < K.length := by
  rcases h with ⟨rfl, -⟩ | ⟨c, cv, rest, rfl, h3, h4⟩
  · simp [stkB]
  · intro z hz; simp [stkB] at hz; subst hz; exact hget_lt h3
theorem VR.agree {K K2 : Heap} {base : Nat} {S : List Nat} {vs : List AV} {j : JV} (h : VR K base S vs j) (hl : K.length ≤ K2.length) (h2 : ∀ z ∈ S, K2[z]? = K[z]?) : VR K2 base S vs j :=
  ⟨h.len, h.leaf, h.fz.agree h2, fun z hz => ⟨by have := (h.low z hz).1; omega, (h.low z hz).2⟩⟩
variable {s : List UInt8} {d : Int} {b r0 base : Nat} {p : Ps} {stk : List OE} {v : AV} {bx : Nat} {K K0 : Heap}
theorem VB.vi (h : VB s d b r0 base K0 p stk v bx K) : VI s d b r0 base K0 p stk v K := by
  obtain ⟨cells, S, h1, h2, h3, h4, h5⟩ := h.st
  exact ⟨h.hg, h.hg0, h.hr, h.br, h.old, cells, S, h1, h2, h3, fun z hz => ⟨(h4 z hz).1, (h4 z hz).2.1⟩⟩
theorem VV.vb {vs : List AV} {j : JV} (h : VV s d b r0 base K0 p stk v bx vs j K) : VB s d b r0 base K0 p stk v bx K := by
  obtain ⟨cells, S, Sv, h1, h2, h3, h4, h5, h6, h7, h8, h9⟩ := h.st
  exact ⟨h.hg, h.hg0, h.hr, h.br, h.old, h.rb, ⟨vs, h.hb, h3.len⟩, cells, S, h1, h2, h4, fun z hz => ⟨(h6 z hz).1, (h6 z hz).2.1, (h6 z hz).2.2.2⟩, h8⟩
/-- the parser took a step. -/
theorem VB.setb (h : VB s d b r0 base K0 p stk v bx K) (q : Ps) : VB s d b r0 base K0 q stk v bx (K.set b (.cells 0 (cellsPs s q d))) := by
  obtain ⟨cells, S, h1, h2, h3, h4, h5⟩ := h.st
  have hb0 := ne_glob h.hg0 h.hg
  have hbr := h.br
  have hrb := h.rb
  have e : ∀ z, z ≠ b → (K.set b (.cells 0 (cellsPs s q d)))[z]? = K[z]? := fun z hz => List.getElem?_set_ne (Ne.symm hz)
  obtain ⟨vs, hv, hvl⟩ := h.hb
  refine ⟨hget_set_at (hget_lt h.hg), hget_same (e 0 (Ne.symm hb0)) h.hg0, hget_same (e r0 (by omega)) h.hr, hbr, fun z h1 h2 => by rw [e z h2]; exact h.old z h1 h2, hrb, ⟨vs, hget_same (e bx (by omega)) hv, hvl⟩, cells, S, h1.agree fun z hz => e z ?_, h2.agree (by simp) fun z hz => e z ?_, h3, h4, h5⟩
  · have := (h4 z hz).1; omega
  · have := h3 z hz; omega
theorem VV.setb {vs : List AV} {j : JV} (h : VV s d b r0 base K0 p stk v bx vs j K) (q : Ps) : VV s d b r0 base K0 q stk v bx vs j (K.set b (.cells 0 (cellsPs s q d))) := by
  obtain ⟨cells, S, Sv, h1, h2, h3, h4, h5, h6, h7, h8, h9⟩ := h.st
  have hb0 := ne_glob h.hg0 h.hg
  have hbr := h.br
  have hrb := h.rb
  have e : ∀ z, z ≠ b → (K.set b (.cells 0 (cellsPs s q d)))[z]? = K[z]? := fun z hz => List.getElem?_set_ne (Ne.symm hz)
  refine ⟨hget_set_at (hget_lt h.hg), hget_same (e 0 (Ne.symm hb0)) h.hg0, hget_same (e r0 (by omega)) h.hr, hbr, fun z h1 h2 => by rw [e z h2]; exact h.old z h1 h2, hrb, hget_same (e bx (by omega)) h.hb, cells, S, Sv, h1.agree fun z hz => e z ?_, h2.agree (by simp) fun z hz => e z ?_, h3.agree (by simp) fun z hz => e z ?_, h4, h5, h6, h7, h8, h9⟩
  · have := (h6 z hz).1; omega
  · have := h4 z hz; omega
  · have := h5 z hz; omega
/-- the innermost one that is open, as it lies. -/
theorem VB.top {o : OE} {r : List OE} (h : VB s d b r0 base K0 p (o :: r) v bx K) : ∃ c cv cells iv kv rest Si S, v = .bs ⟨c, cv, 0, r.length + 1, 0, 8, true, false⟩ ∧ hget K c cv = some (cells ++ opC o.kind o.end_ iv kv o.key ++ rest) ∧ cells.length = r.length * 8 ∧ cv % 4 = 0 ∧ base ≤ c ∧ r0 < c ∧ c ≠ bx ∧
    SH K base r cells S ∧ IR K base Si iv o.items ∧ Row AV.str 1 false base K kv o.keys ∧ (kv = .nilS ∨ o.keys ≠ []) ∧ (∀ z ∈ stkB kv, z ∉ Si) ∧ (∀ z ∈ Si ++ stkB kv, z ∉ S) ∧ (∀ z ∈ Si ++ stkB kv ++ S, r0 < z ∧ z ≠ c ∧ z ≠ bx) := by
  obtain ⟨cells, S, h1, h2, h3, h4, h5⟩ := h.st
  cases h2 with
  | @cons _ cl S' h2 _ Si iv kv hI hR hn hd1 hd2 =>
    rcases h1 with ⟨-, h0, -⟩ | ⟨c, cv, rest, rfl, g, hl, h4', h5'⟩
    · simp at h0
    · obtain ⟨hc1, hc2, hc3⟩ := h4 c (by simp [stkB])
      refine ⟨c, cv, cl, iv, kv, rest, Si, S', rfl, g, ?_, h4', h5', hc1, hc3, h2, hI, hR, hn, hd1, hd2, fun z hz => ⟨h3 z hz, fun e => hc2 (e ▸ hz), fun e => h5 (e ▸ hz)⟩⟩
      simp [opC] at hl; omega
theorem VB.mk' {o : OE} {r : List OE} {c cv : Nat} {cells rest : List AV} {iv kv : AV} {Si S : List Nat} (hg : hget K b 0 = some (cellsPs s p d)) (hg0 : hget K 0 (gver 0) = some [ET]) (hr : hget K r0 0 = some zeroC) (br : b < r0) (ho : ∀ z, z < r0 → z ≠ b → K[z]? = K0[z]?) (rb : r0 < bx) (hb : ∃ vs, hget K bx 0 = some vs ∧ vs.length = 6)
    (g : hget K c cv = some (cells ++ opC o.kind o.end_ iv kv o.key ++ rest)) (hl : cells.length = r.length * 8) (h4 : cv % 4 = 0) (h5 : base ≤ c) (hrc : r0 < c) (hcb : c ≠ bx) (hS : SH K base r cells S) (hI : IR K base Si iv o.items) (hR : Row AV.str 1 false base K kv o.keys) (hn : kv = .nilS ∨ o.keys ≠ [])
    (hd1 : ∀ z ∈ stkB kv, z ∉ Si) (hd2 : ∀ z ∈ Si ++ stkB kv, z ∉ S) (hz : ∀ z ∈ Si ++ stkB kv ++ S, r0 < z ∧ z ≠ c ∧ z ≠ bx) : VB s d b r0 base K0 p (o :: r) (.bs ⟨c, cv, 0, r.length + 1, 0, 8, true, false⟩) bx K :=
  ⟨hg, hg0, hr, br, ho, rb, hb, _, _, .inr ⟨c, cv, rest, rfl, g, by simp [opC]; omega, h4, h5⟩, .cons hS o Si iv kv hI hR hn hd1 hd2, fun z h => (hz z h).1, fun z h => by
    simp only [stkB, List.mem_singleton] at h; subst h
    exact ⟨hrc, fun e => (hz _ e).2.1 rfl, hcb⟩, fun e => (hz _ e).2.2 rfl⟩
/-- a key is kept. -/
theorem VB.setkey {o : OE} {r : List OE} {c cv : Nat} {cells rest : List AV} {iv kv : AV} (h : VB s d b r0 base K0 p (o :: r) (.bs ⟨c, cv, 0, r.length + 1, 0, 8, true, false⟩) bx K) (g : hget K c cv = some (cells ++ opC o.kind o.end_ iv kv o.key ++ rest)) (hl : cells.length = r.length * 8) (t : List UInt8) :
    VB s d b r0 base K0 p ({ o with key := t } :: r) (.bs ⟨c, cv, 0, r.length + 1, 0, 8, true, false⟩) bx (K.set c (.cells cv ((cells ++ opC o.kind o.end_ iv kv o.key ++ rest).set (r.length * 8 + 7) (.str t)))) := by
  obtain ⟨c', cv', cells', iv', kv', rest', Si, S, hv, g', hl', h4, h5, hrc, hcb, hS, hI, hR, hn, hd1, hd2, hz⟩ := h.top
  cases hv
  rw [g] at g'
  have e0 : cells ++ opC o.kind o.end_ iv kv o.key ++ rest = cells' ++ opC o.kind o.end_ iv' kv' o.key ++ rest' := Option.some.inj g'
  have hcells : cells = cells' := by
    have := congrArg (List.take (r.length * 8)) e0
    rwa [List.append_assoc, List.append_assoc, List.take_left' hl, List.take_left' hl'] at this
  subst hcells
  have hc0 : c ≠ 0 := by
    rintro rfl; omega
  have hlt := hget_lt g
  have e : ∀ z, z ≠ c → ∀ x, (K.set c x)[z]? = K[z]? := fun z hz x => List.getElem?_set_ne (Ne.symm hz)
  have hset : (cells ++ opC o.kind o.end_ iv kv o.key ++ rest).set (r.length * 8 + 7) (.str t) = cells ++ opC o.kind o.end_ iv' kv' t ++ rest' := by
    rw [e0, ← hl, opC, opC]
    simp [List.set_append]
  rw [hset]
  have hbr := h.br
  have hrb := h.rb
  obtain ⟨vs, hvs, hvl⟩ := h.hb
  refine VB.mk' (o := { o with key := t }) (iv := iv') (kv := kv') (Si := Si) (S := S) (hget_same (e b (by omega) _) h.hg) (hget_same (e 0 (Ne.symm hc0) _) h.hg0) (hget_same (e r0 (by omega) _) h.hr) hbr (fun z h1 h2 => by rw [e z (by omega)]; exact h.old z h1 h2) hrb ⟨vs, hget_same (e bx (Ne.symm hcb) _) hvs, hvl⟩ (hget_set_at hlt) hl h4 h5 hrc hcb
    (hS.agree (by simp) fun z hz' => e z (hz z (by simp [hz'])).2.1 _) (hI.agree (by simp) fun z hz' => e z (hz z (by simp [hz'])).2.1 _) (rowAgree hR fun z hz' => e z (hz z (by simp [hz'])).2.1 _) hn hd1 hd2 hz
/-- one more is open. -/
theorem VB.push {x : Int × Int} {c cv : Nat} {K' : Heap} {cells : List AV} {S : List Nat} (h : VB s d b r0 base K0 p stk v bx K) (hSH : SH K base stk cells S) (h3 : ∀ z ∈ S, r0 < z) (h4 : ∀ z ∈ stkB v, r0 < z ∧ z ∉ S ∧ z ≠ bx) (h5 : bx ∉ S) (q : Ps)
    (g : hget K' c cv = some (cells ++ litC x)) (hv4 : cv % 4 = 0) (hbc : base ≤ c) (hlen : K.length ≤ K'.length) (hcv : stkB v = [c] ∨ stkB v = [] ∧ K.length ≤ c) (hgb : hget K' b 0 = some (cellsPs s q d)) (hold : ∀ z, z < K.length → z ≠ c → z ≠ b → K'[z]? = K[z]?) :
    VB s d b r0 base K0 q (newO x :: stk) (.bs ⟨c, cv, 0, stk.length + 1, 0, 8, true, false⟩) bx K' := by
  have hb0 := ne_glob h.hg0 h.hg
  have hbr := h.br
  have hrb := h.rb
  obtain ⟨vs, hvs, hvl⟩ := h.hb
  have hlr := hget_lt h.hr
  have hl0 := hget_lt h.hg0
  have hlb := hget_lt hvs
  have hrc : r0 < c := by
    rcases hcv with hc | ⟨-, hc⟩
    · exact (h4 c (by rw [hc]; simp)).1
    · omega
  have hcb : c ≠ bx := by
    rcases hcv with hc | ⟨-, hc⟩
    · exact (h4 c (by rw [hc]; simp)).2.2
    · omega
  have hcS : c ∉ S := by
    rcases hcv with hc | ⟨-, hc⟩
    · exact (h4 c (by rw [hc]; simp)).2.1
    · intro hm; have := hSH.lt c hm; omega
  refine VB.mk' (o := newO x) (r := stk) (cells := cells) (rest := []) (iv := .nilS) (kv := .nilS) (Si := []) (S := S) hgb (hget_same (hold 0 hl0 (by omega) (Ne.symm hb0)) h.hg0) (hget_same (hold r0 hlr (by omega) (by omega)) h.hr) hbr (fun z h1 h2 => by rw [hold z (by omega) (by omega) h2]; exact h.old z h1 h2) hrb ⟨vs, hget_same (hold bx hlb (Ne.symm hcb) (by omega)) hvs, hvl⟩ (by rw [g, List.append_nil]; rfl) hSH.len hv4 hbc hrc hcb
    (hSH.agree hlen fun z hz => hold z (hSH.lt z hz) (fun e => hcS (e ▸ hz)) (by have := h3 z hz; omega)) (.inl ⟨rfl, rfl, rfl⟩) (.inl ⟨rfl, rfl⟩) (.inl rfl) (by simp [stkB]) (by simp [stkB]) (fun z hz => ?_)
  simp only [stkB, List.append_nil, List.nil_append] at hz
  exact ⟨h3 z hz, fun e => hcS (e ▸ hz), fun e => h5 (e ▸ hz)⟩
/-- what is closed is a value, in the box. -/
theorem VB.pop {o : OE} {r : List OE} {c cv : Nat} {cells rest : List AV} {iv kv : AV} {Si S : List Nat} (h : VB s d b r0 base K0 p (o :: r) (.bs ⟨c, cv, 0, r.length + 1, 0, 8, true, false⟩) bx K) (g : hget K c cv = some (cells ++ opC o.kind o.end_ iv kv o.key ++ rest)) (hl : cells.length = r.length * 8) (h4 : cv % 4 = 0) (h5 : base ≤ c) (hrc : r0 < c) (hcb : c ≠ bx)
    (hS : SH K base r cells S) (hI : IR K base Si iv o.items) (hR : Row AV.str 1 false base K kv o.keys) (hn : kv = .nilS ∨ o.keys ≠ []) (hd1 : ∀ z ∈ stkB kv, z ∉ Si) (hd2 : ∀ z ∈ Si ++ stkB kv, z ∉ S) (hz : ∀ z ∈ Si ++ stkB kv ++ S, r0 < z ∧ z ≠ c ∧ z ≠ bx) :
    VV s d b r0 base K0 p r (.bs ⟨c, cv, 0, r.length, 0, 8, true, false⟩) bx [.int .i64 o.kind, .bool false, .int .i64 0, .str [], iv, kv] (closeJ o) (K.set bx (.cells 0 [.int .i64 o.kind, .bool false, .int .i64 0, .str [], iv, kv])) := by
  have hbr := h.br
  have hrb := h.rb
  obtain ⟨vs, hvs, hvl⟩ := h.hb
  have e : ∀ z, z ≠ bx → ∀ x, (K.set bx x)[z]? = K[z]? := fun z hz x => List.getElem?_set_ne (Ne.symm hz)
  have hV := (close_VR hI hR hn).agree (K2 := K.set bx (.cells 0 [.int .i64 o.kind, .bool false, .int .i64 0, .str [], iv, kv])) (by simp) fun z hz' => e z (hz z (List.mem_append.2 (.inl hz'))).2.2 _
  refine ⟨hget_same (e b (by omega) _) h.hg, hget_same (e 0 (by omega) _) h.hg0, hget_same (e r0 (by omega) _) h.hr, hbr, fun z h1 h2 => by rw [e z (by omega)]; exact h.old z h1 h2, hrb, hget_set_at (hget_lt hvs), cells, S, Si ++ stkB kv, .inr ⟨c, cv, opC o.kind o.end_ iv kv o.key ++ rest, rfl, ?_, hl, h4, h5⟩, hS.agree (by simp) fun z hz' => e z (hz z (List.mem_append.2 (.inr hz'))).2.2 _, hV, fun z hz' => (hz z (List.mem_append.2 (.inr hz'))).1, fun z hz' => (hz z (List.mem_append.2 (.inl hz'))).1, fun z hz' => ?_, hd2, fun hm => (hz bx (List.mem_append.2 (.inr hm))).2.2 rfl, fun hm => (hz bx (List.mem_append.2 (.inl hm))).2.2 rfl⟩
  · rw [← List.append_assoc]; exact hget_same (e c hcb _) g
  · simp only [stkB, List.mem_singleton] at hz'
    subst hz'
    exact ⟨hrc, fun hm => (hz _ (List.mem_append.2 (.inr hm))).2.1 rfl, fun hm => (hz _ (List.mem_append.2 (.inl hm))).2.1 rfl, hcb⟩
/-- a value is the next one of what is open. -/
theorem VV.put {o : OE} {r : List OE} {vs : List AV} {j : JV} (h : VV s d b r0 base K0 p (o :: r) v bx vs j K) (hn : o.items.length < 1000000000) (hkn : o.keys.length < 1000000000) :
    ∃ c cv K', v = .bs ⟨c, cv, 0, r.length + 1, 0, 8, true, false⟩ ∧ aLim cfg base 32 [.ptr c cv (r.length * 8), .agg vs] K = some (.tup [], some K') ∧ VB s d b r0 base K0 p (putO o j :: r) (.bs ⟨c, cv, 0, r.length + 1, 0, 8, true, false⟩) bx K' := by
  obtain ⟨cells, S, Sv, h1, h2, hV, h4, h5, h6, h7, h8, h9⟩ := h.st
  have hb0 := ne_glob h.hg0 h.hg
  have hbr := h.br
  have hrb := h.rb
  have hlr := hget_lt h.hr
  have hlb := hget_lt h.hg
  have hlx := hget_lt h.hb
  cases h2 with
  | @cons _ cl S' h2 _ Si iv kv hI hR hn' hd1 hd2 =>
    rcases h1 with ⟨-, h0, -⟩ | ⟨c, cv, rest, rfl, g, hl, hv4, hbc⟩
    · simp at h0
    · obtain ⟨hc1, hc2, hc3, hc4⟩ := h6 c (by simp [stkB])
      have hcl : cl.length = r.length * 8 := by simp [opC] at hl; omega
      have hlc := hget_lt g
      obtain ⟨K', iv', kv', S2, hput, g', hI', hR', hle, hold, hS2, hk2, hkS, hcS2, hck2, hn2⟩ := oput_ok base K c cv cl rest o.kind o.end_ iv kv o.key Si Sv o.items o.keys vs j g hv4 hbc hI hR hV (fun e => hc2 (by simp [e])) hc3 (fun e => hc2 (by simp [e]))
        (fun z hz => ⟨hd1 z hz, fun e => h7 z e (by simp [hz])⟩) (fun z hz e => h7 z e (by simp [hz])) hn hkn
      have old : ∀ z, z < K.length → z ≠ c → z ∉ Si ++ stkB kv → K'[z]? = K[z]? := fun z hz h1 h2 => hold z hz h1 (fun e => h2 (by simp [e])) (fun e => h2 (by simp [e]))
      have oldL : ∀ z, z ≤ r0 → K'[z]? = K[z]? := fun z hz => old z (by omega) (by omega) (fun e => by have := h4 z (by simp only [List.mem_append] at e ⊢; exact .inl e); omega)
      refine ⟨c, cv, K', rfl, by rw [← hcl]; exact hput, ?_⟩
      refine VB.mk' (o := putO o j) (r := r) (cells := cl) (rest := rest) (iv := iv') (kv := kv') (Si := S2) (S := S') (hget_same (oldL b (by omega)) h.hg) (hget_same (oldL 0 (by omega)) h.hg0) (hget_same (oldL r0 (by omega)) h.hr) hbr (fun z h1 h2 => by rw [oldL z (by omega)]; exact h.old z h1 h2) hrb ⟨vs, hget_same (old bx hlx (Ne.symm hc4) fun e => h8 (by simp only [List.mem_append] at e ⊢; exact .inl e)) h.hb, hV.len⟩ g' hcl hv4 hbc hc1 hc4
        (h2.agree hle fun z hz => old z (h2.lt z hz) (fun e => hc2 (by simp [← e, hz])) (fun e => hd2 z e hz)) hI' hR' (hn2 hn') hkS ?_ ?_
      · intro z hz hz'
        have hzK := h2.lt z hz'
        rcases List.mem_append.1 hz with hz | hz
        · rcases hS2 z hz with q | q | q
          · exact hd2 z (by simp [q]) hz'
          · exact h7 z q (by simp [hz'])
          · omega
        · rcases hk2 z hz with q | q
          · exact hd2 z (by simp [q]) hz'
          · omega
      · intro z hz
        rcases List.mem_append.1 hz with hz | hz
        · rcases List.mem_append.1 hz with hz | hz
          · refine ⟨?_, fun e => hcS2 (e ▸ hz), fun e => ?_⟩
            · rcases hS2 z hz with q | q | q
              · exact h4 z (by simp [q])
              · exact h5 z q
              · omega
            · subst e
              rcases hS2 z hz with q | q | q
              · exact h8 (by simp [q])
              · exact h9 q
              · omega
          · refine ⟨?_, fun e => hck2 (e ▸ hz), fun e => ?_⟩
            · rcases hk2 z hz with q | q
              · exact h4 z (by simp [q])
              · omega
            · subst e
              rcases hk2 z hz with q | q
              · exact h8 (by simp [q])
              · omega
        · exact ⟨h4 z (by simp [hz]), fun e => hc2 (by simp [← e, hz]), fun e => h8 (by simp [← e, hz])⟩
theorem VV.fin {vs : List AV} {j : JV} (h : VV s d b r0 base K0 p stk v bx vs j K) : ValR s d b r0 base K0 (.ok j p) (.tup [.agg vs, .int .i64 0]) (K.set r0 (.cells 0 vs)) := by
  obtain ⟨cells, S, Sv, h1, h2, hV, h4, h5, h6, h7, h8, h9⟩ := h.st
  have hbr := h.br
  have e : ∀ z, z ≠ r0 → ∀ x, (K.set r0 x)[z]? = K[z]? := fun z hz x => List.getElem?_set_ne (Ne.symm hz)
  exact ⟨hget_same (e 0 (by omega) _) h.hg0, fun z h1 h2 => by rw [e z (by omega)]; exact h.old z h1 h2, vs, Sv, rfl, hV.agree (by simp) fun z hz => e z (by have := h5 z hz; omega) _, hget_same (e b (by omega) _) h.hg, h5⟩
theorem VI.fin {e : Int} (he : e ≠ 0) (h : VI s d b r0 base K0 p stk v K) : ValR s d b r0 base K0 (.bad e p) (.tup [.agg zeroC, .int .i64 e]) (K.set r0 (.cells 0 zeroC)) := by
  rw [set_self h.hr]
  exact ⟨h.hg0, h.old, he, rfl, h.hg⟩
theorem takesP_false {k : Int} (h : (takesP s p k).1 = false) : (takesP s p k).2 = p := by
  unfold takesP at h ⊢
  split at h
  · cases h
  · rename_i h1; rw [if_neg h1]
/-- a key, and the colon. -/
theorem VB.key {o : OE} {r : List OE} {c cv : Nat} (h : VB s d b r0 base K0 p (o :: r) (.bs ⟨c, cv, 0, r.length + 1, 0, 8, true, false⟩) bx K) (hl : s.length < 1000000000) (hto : p.to ≤ s.length) (hp : base ≤ b) (hkl : o.keys.length ≤ 1000000000) :
    ∃ K3 stk3, aLim cfg base 31 [.ptr b 0 0, .ptr c cv (r.length * 8)] K = some (.bool (keyP s p o.keys).1, some K3) ∧ VB s d b r0 base K0 (keyP s p o.keys).2 stk3 (.bs ⟨c, cv, 0, r.length + 1, 0, 8, true, false⟩) bx K3 ∧ ((keyP s p o.keys).1 = true → stk3 = { o with key := p.text } :: r) := by
  obtain ⟨c', cv', cells, iv, kv, rest, Si, S, hv, g, hcl, h4, h5, hrc, hcb, hS, hI, hR, hn, hd1, hd2, hz⟩ := h.top
  cases hv
  have hbr := h.br
  have hk := key_ok s hl p d hto b base K h.hg h.hg0 hp c cv (r.length * 8) base _ kv o.keys g h5 (by omega) (by rw [← hcl, get_mid _ _ _ _ (by simp [opC])]; rfl) (by simp [opC]; omega) h4 hR hkl
  refine ⟨_, if p.e = 0 ∧ p.kind = 7 ∧ inN o.keys p.text = false then { o with key := p.text } :: r else o :: r, hk, ?_, fun ht => by rw [if_pos (keyP_true ht)]⟩
  by_cases hc : p.e = 0 ∧ p.kind = 7 ∧ inN o.keys p.text = false
  · rw [if_pos hc, if_pos hc]
    exact (h.setkey g hcl p.text).setb _
  · rw [if_neg hc, if_neg hc]
    unfold keyP
    rw [if_neg hc]; exact h
end Go.Proofs.YtimbhlbkidmplaaDoor
/- jval's parser: value, walked. -/
namespace Go.Proofs.YtimbhlbkidmplaaDoor
open Go Go.Abs AbsSeat Ty

theorem u22 : type_of% (And.intro (show tagT Tryd.prog 25 = 0 from by kernel_rfl) (And.intro ag3 (And.intro sz3 (And.intro by3 (And.intro ze3 (And.intro Tryd.underlying3 (And.intro ag25 (And.intro sz25 (And.intro by25 (And.intro ze25 (And.intro bu25 (And.intro Tryd.underlying25 (And.intro ag47 (And.intro sz47 (And.intro by47 (And.intro ze47 (And.intro Tryd.underlying47 (And.intro ag60 (And.intro sz60 (And.intro by60 (And.intro se60 (And.intro ze60 (And.intro Tryd.underlying60 (And.intro ag65 (And.intro sz65 (And.intro by65 (And.intro ze65 (And.intro Tryd.underlying65 (And.intro ag67 (And.intro sz67 (And.intro by67 (And.intro ze67 (And.intro bu67 (And.intro Tryd.underlying67 (And.intro fa25_0 (And.intro fd25_0 (And.intro fa67_0 (And.intro fd67_0 (And.intro fa67_1 fd67_1))))))))))))))))))))))))))))))))))))))) := And.intro (show tagT Tryd.prog 25 = 0 from by kernel_rfl) (And.intro ag3 (And.intro sz3 (And.intro by3 (And.intro ze3 (And.intro Tryd.underlying3 (And.intro ag25 (And.intro sz25 (And.intro by25 (And.intro ze25 (And.intro bu25 (And.intro Tryd.underlying25 (And.intro ag47 (And.intro sz47 (And.intro by47 (And.intro ze47 (And.intro Tryd.underlying47 (And.intro ag60 (And.intro sz60 (And.intro by60 (And.intro se60 (And.intro ze60 (And.intro Tryd.underlying60 (And.intro ag65 (And.intro sz65 (And.intro by65 (And.intro ze65 (And.intro Tryd.underlying65 (And.intro ag67 (And.intro sz67 (And.intro by67 (And.intro ze67 (And.intro bu67 (And.intro Tryd.underlying67 (And.intro fa25_0 (And.intro fd25_0 (And.intro fa67_0 (And.intro fd67_0 (And.intro fa67_1 fd67_1))))))))))))))))))))))))))))))))))))))
def g22 : Code :=
  .seq (.region 0 #[q 2 (.alloc 25) 0, q 3 (.assign (ik 0)) 33] false) (.seq (.region 1 #[q 4 (.assign (.const (.slice none 0 0))) 60] false) (.block 0 (.loop (.block 1 (.seq (.region 2 #[q 13 (.move (.tmp 0)) 47, q 14 (cl 28 #[.tmp 13] #[47]) 61, q 12 (.move (.tmp 14)) 61, q 15 (.extract (.tmp 12) 0) 25, q 16 (.extract (.tmp 12) 1) 4, q 5 (.alloc 25) 0, qn (.store 25 (.tmp 5) (.tmp 15)) 0, q 6 (.assign (.tmp 16)) 4] false) (.seq (.seq (.region 3 #[q 17 (.move (.tmp 6)) 4, q 18 (.unOp .not 4 (.tmp 17)) 4] false) (.cond (.tmp 18) (.seq (.region 4 #[q 20 (.move (.tmp 0)) 47, q 21 (.move (.tmp 4)) 60, q 22 (cl 29 #[.tmp 20, .tmp 21] #[47, 60]) 63, q 19 (.move (.tmp 22)) 63, q 23 (.extract (.tmp 19) 0) 60, q 24 (.extract (.tmp 19) 1) 4, q 25 (.extract (.tmp 19) 2) 33, q 7 (.assign (.tmp 23)) 60, q 8 (.assign (.tmp 24)) 4, q 9 (.assign (.tmp 25)) 33] false) (.seq (.seq (.region 5 #[q 26 (.move (.tmp 8)) 4, q 27 (.unOp .not 4 (.tmp 26)) 4] false) (.cond (.tmp 27) (.seq (.region 6 #[q 28 (.build 25 #[]) 25, q 29 (.move (.tmp 9)) 33, qn (.store 25 (.tmp 2) (.tmp 28)) 0, q 3 (.assign (.tmp 29)) 33] false) .ret) .skip)) (.seq (.region 7 #[q 30 (.move (.tmp 7)) 60, q 4 (.assign (.tmp 30)) 60] false) (.seq (.region 8 #[q 31 (.move (.tmp 4)) 60, q 32 (.move (.tmp 4)) 60, q 33 (bi .len #[.tmp 32] #[60]) 3, q 34 (.binOp .sub 3 (.tmp 33) (ik 1) 3) 3, q 35 (.indexAddr 60 (.tmp 31) (.tmp 34)) 0, q 10 (.assign (.tmp 35)) 65] false) (.seq (.seq (.region 9 #[q 36 (.move (.tmp 0)) 47, q 37 (.move (.tmp 10)) 65, q 38 (.nilCheck (.tmp 37)) 0, q 39 (.fieldAddr 67 (.tmp 38) 1) 0, q 40 (.load 3 (.tmp 39)) 3, q 41 (cl 30 #[.tmp 36, .tmp 40] #[47, 3]) 4, q 42 (.unOp .not 4 (.tmp 41)) 4] false) (.cond (.tmp 42) (.seq (.seq (.region 10 #[q 43 (.move (.tmp 10)) 65, q 44 (.nilCheck (.tmp 43)) 0, q 45 (.fieldAddr 67 (.tmp 44) 0) 0, q 46 (.fieldAddr 25 (.tmp 45) 0) 0, q 47 (.load 3 (.tmp 46)) 3, q 48 (.binOp .eql 3 (.tmp 47) (ik 5) 3) 4, q 49 (.move (.tmp 48)) 4, qg 50 (.move (.tmp 0)) 47 6 true, qg 51 (.move (.tmp 10)) 65 6 true, qg 52 (cl 31 #[.tmp 50, .tmp 51] #[47, 65]) 4 6 true, qg 53 (.unOp .not 4 (.tmp 52)) 4 6 true, q 54 (.pick (.tmp 49) (.tmp 53) (.const (.bool false))) 4] false) (.cond (.tmp 54) (.seq (.region 11 #[q 55 (.build 25 #[]) 25, q 56 (.move (.tmp 0)) 47, q 57 (cl 24 #[.tmp 56] #[47]) 33, qn (.store 25 (.tmp 2) (.tmp 55)) 0, q 3 (.assign (.tmp 57)) 33] false) .ret) .skip)) (.exit 1)) .skip)) (.seq (.region 12 #[q 58 (.move (.tmp 10)) 65, q 59 (.nilCheck (.tmp 58)) 0, q 60 (.fieldAddr 67 (.tmp 59) 0) 0, q 61 (.load 25 (.tmp 60)) 25, qn (.store 25 (.tmp 5) (.tmp 61)) 0] false) (.region 13 #[q 62 (.move (.tmp 4)) 60, q 63 (.move (.tmp 4)) 60, q 64 (bi .len #[.tmp 63] #[60]) 3, q 65 (.binOp .sub 3 (.tmp 64) (ik 1) 3) 3, q 66 (.slice 60 (.tmp 62) none (some (.tmp 65)) none) 60, q 4 (.assign (.tmp 66)) 60] false))))))) .skip)) (.seq (.block 2 (.loop (.seq (.seq (.region 14 #[q 67 (.move (.tmp 4)) 60, q 68 (bi .len #[.tmp 67] #[60]) 3, q 69 (.binOp .gtr 3 (.tmp 68) (ik 0) 3) 4] false) (.cond (.tmp 69) .skip (.exit 2))) (.block 3 (.seq (.region 15 #[q 70 (.move (.tmp 4)) 60, q 71 (.move (.tmp 4)) 60, q 72 (bi .len #[.tmp 71] #[60]) 3, q 73 (.binOp .sub 3 (.tmp 72) (ik 1) 3) 3, q 74 (.indexAddr 60 (.tmp 70) (.tmp 73)) 0, q 11 (.assign (.tmp 74)) 65] false) (.seq (.region 16 #[q 75 (.move (.tmp 11)) 65, q 76 (.load 25 (.tmp 5)) 25, q 77 (cl 32 #[.tmp 75, .tmp 76] #[65, 25]) 0] false) (.seq (.seq (.region 17 #[q 78 (.move (.tmp 0)) 47, q 79 (.move (.tmp 11)) 65, q 80 (.nilCheck (.tmp 79)) 0, q 81 (.fieldAddr 67 (.tmp 80) 1) 0, q 82 (.load 3 (.tmp 81)) 3, q 83 (cl 30 #[.tmp 78, .tmp 82] #[47, 3]) 4, q 84 (.unOp .not 4 (.tmp 83)) 4] false) (.cond (.tmp 84) (.seq (.seq (.region 18 #[q 85 (.move (.tmp 0)) 47, q 86 (cl 30 #[.tmp 85, ik 6] #[47, 3]) 4, q 87 (.unOp .not 4 (.tmp 86)) 4, q 88 (.move (.tmp 87)) 4, qg 89 (.move (.tmp 11)) 65 3 false, qg 90 (.nilCheck (.tmp 89)) 0 3 false, qg 91 (.fieldAddr 67 (.tmp 90) 0) 0 3 false, qg 92 (.fieldAddr 25 (.tmp 91) 0) 0 3 false, qg 93 (.load 3 (.tmp 92)) 3 3 false, qg 94 (.binOp .eql 3 (.tmp 93) (ik 5) 3) 4 3 false, qg 95 (.move (.tmp 94)) 4 3 false, qg 96 (.move (.tmp 0)) 47 10 true, qg 97 (.move (.tmp 11)) 65 10 true, qg 98 (cl 31 #[.tmp 96, .tmp 97] #[47, 65]) 4 10 true, qg 99 (.unOp .not 4 (.tmp 98)) 4 10 true, qg 100 (.pick (.tmp 95) (.tmp 99) (.const (.bool false))) 4 3 false, q 101 (.pick (.tmp 88) (.const (.bool true)) (.tmp 100)) 4] false) (.cond (.tmp 101) (.seq (.region 19 #[q 102 (.build 25 #[]) 25, q 103 (.move (.tmp 0)) 47, q 104 (cl 24 #[.tmp 103] #[47]) 33, qn (.store 25 (.tmp 2) (.tmp 102)) 0, q 3 (.assign (.tmp 104)) 33] false) .ret) .skip)) (.exit 2)) .skip)) (.seq (.region 20 #[q 105 (.move (.tmp 11)) 65, q 106 (.nilCheck (.tmp 105)) 0, q 107 (.fieldAddr 67 (.tmp 106) 0) 0, q 108 (.load 25 (.tmp 107)) 25, qn (.store 25 (.tmp 5) (.tmp 108)) 0] false) (.seq (.region 21 #[q 109 (.move (.tmp 4)) 60, q 110 (.move (.tmp 4)) 60, q 111 (bi .len #[.tmp 110] #[60]) 3, q 112 (.binOp .sub 3 (.tmp 111) (ik 1) 3) 3, q 113 (.slice 60 (.tmp 109) none (some (.tmp 112)) none) 60, q 4 (.assign (.tmp 113)) 60] false) (.seq (.region 22 #[q 114 (.move (.tmp 4)) 60, q 115 (bi .len #[.tmp 114] #[60]) 3, q 116 (.binOp .eql 3 (.tmp 115) (ik 0) 3) 4] false) (.cond (.tmp 116) (.seq (.region 23 #[q 117 (.load 25 (.tmp 5)) 25, qn (.store 25 (.tmp 2) (.tmp 117)) 0, q 3 (.assign (ik 0)) 33] false) .ret) .skip))))))))))) (.seq (.region 24 #[q 118 (.move (.tmp 4)) 60, q 119 (bi .len #[.tmp 118] #[60]) 3, q 120 (.binOp .eql 3 (.tmp 119) (ik 0) 3) 4] false) (.cond (.tmp 120) (.seq (.region 25 #[q 121 (.load 25 (.tmp 5)) 25, qn (.store 25 (.tmp 2) (.tmp 121)) 0, q 3 (.assign (ik 0)) 33] false) .ret) .skip)))))))))
theorem s22 : Tryd.f22.body.map (slim cfg) = some g22 := by kernel_rfl
def cd1 : Code → Code
  | .seq a _ => a
  | c => c
def cd2 : Code → Code
  | .seq _ b => b
  | c => c
def cdb : Code → Code
  | .block _ c => c
  | .loop c => c
  | c => c
def vOut : Code := cdb (cdb (cd2 (cd2 g22)))
def vIn : Code := cdb (cdb (cd1 (cd2 (cd2 (cdb vOut)))))
def vAft : Code := cd2 (cd2 (cd2 (cdb vOut)))
noncomputable def vX (base : Nat) : Ctx := ⟨cfg, base, Tryd.f22.results.toList, .raw⟩
def OInv (s : List UInt8) (d : Int) (b r0 base : Nat) (K0 : Heap) (T : PRes) (m : Nat) (fr : List AV) (Q : Heap) : Prop :=
  ∃ (q : Ps) (stk : List OE) (v : AV), m = mu s q ∧ fr.length = 122 ∧ fget fr 0 = .ptr b 0 0 ∧ fget fr 2 = .ptr r0 0 0 ∧ fget fr 4 = v ∧ VI s d b r0 base K0 q stk v Q ∧ PI s d (.outer q stk) ∧ T = runP s d (.outer q stk)
def IInv (s : List UInt8) (d : Int) (b r0 base : Nat) (K0 : Heap) (T : PRes) (M m : Nat) (fr : List AV) (Q : Heap) : Prop :=
  ∃ (q : Ps) (j : JV) (stk : List OE) (bx : Nat) (vs : List AV) (v : AV), m = mu s q ∧ m < M ∧ fr.length = 122 ∧ fget fr 0 = .ptr b 0 0 ∧ fget fr 2 = .ptr r0 0 0 ∧ fget fr 5 = .ptr bx 0 0 ∧ fget fr 4 = v ∧ VV s d b r0 base K0 q stk v bx vs j Q ∧ PI s d (.inner q j stk) ∧ T = runP s d (.inner q j stk)
theorem splice_all {cs xs : List AV} (h : cs.length = xs.length) : splice cs 0 xs = xs := by
  unfold splice
  simp [h]
theorem zz1 : decide ((0 : Int) < 0) = false := by decide
theorem zz2 : decide ((0 : Int) = 0) = true := by decide

theorem inner_ok (s : List UInt8) (hl : s.length < 400000000) (d : Int) (hd : d ≤ 16) (b r0 base : Nat) (K0 : Heap) (hp : base ≤ b) (T : PRes) (M : Nat)
    (ih : ∀ fr' H' m', m' < M → OInv s d b r0 base K0 T m' fr' H' → ∃ v Z, ValR s d b r0 base K0 T v Z ∧ U (vX base) (.loop vOut :: [.block 0]) .normal fr' H' (v, some Z)) :
    ∀ m fr H, IInv s d b r0 base K0 T M m fr H → ∃ v Z, ValR s d b r0 base K0 T v Z ∧ R (vX base) (.loop vIn) [.block 2, .seq vAft, .block 1, .loop vOut, .block 0] fr H (v, some Z) := by
  refine loop_ruleX (IInv s d b r0 base K0 T M) ?_
  rintro m fr Q ⟨q, j, stk, bx, vs, v, rfl, hM, hlen, a0, a2, a5, a4, hV, hPI, hR⟩ ih2
  obtain ⟨vs0, vs1, vs2, vs3, vs4, vs5, rfl⟩ : ∃ v0 v1 v2 v3 v4 v5, vs = [v0, v1, v2, v3, v4, v5] := by
    obtain ⟨_, _, _, _, _, hv, _⟩ := hV.st
    have := hv.len
    match vs, this with
    | [v0, v1, v2, v3, v4, v5], _ => exact ⟨v0, v1, v2, v3, v4, v5, rfl⟩
  have hlR := hget_lt hV.hr
  have hbr := hV.br
  have hrb := hV.rb
  simp only [vX, Tryd.f22] at ih ih2 ⊢
  unfold vIn vAft at ih2
  unfold vIn vAft
  unfold vOut g22 at ih ih2
  unfold vOut g22
  simp only [cdb, cd1, cd2] at ih ih2 ⊢
  have hbx := hV.hb
  cases stk with
  | nil =>
    have hR2 := runP_inr (s := s) (d := d) (st := .inner q j []) rfl
    rw [hR2] at hR
    have hln : ∀ K', aLen Tryd.prog K' 60 v = some (.int .i64 0) := by
      obtain ⟨cells, S, Sv, h1, _⟩ := hV.st
      exact h1.len
    have hpr : hput base Q r0 0 0 [vs0, vs1, vs2, vs3, vs4, vs5] = some (Q.set r0 (.cells 0 [vs0, vs1, vs2, vs3, vs4, vs5])) := by
      obtain ⟨_, _, _, _, _, hv, _⟩ := hV.st
      rw [hput_eq hV.hr (by omega) (by simp [zeroC]) hv.leaf, splice_all (by simp [zeroC])]
    have hlr : hget (Q.set r0 (.cells 0 [vs0, vs1, vs2, vs3, vs4, vs5])) r0 0 = some [vs0, vs1, vs2, vs3, vs4, vs5] := hget_set_at hlR
    simp only [wk, aBuiltin, AV.cells, AV.leaf, Nat.reduceEqDiff, Nat.reduceLT, Nat.reduceAdd, Nat.reduceLeDiff, reduceCtorEq, Nat.reduceMul, Nat.reduceMod, cfgP, u22, hlen, a0, a2, a4, a5, hln, hbx, hpr, zz1, zz2]
    subst hR
    refine ⟨_, _, hV.fin, ?_⟩
    exact Fin_raw (l := [.agg [vs0, vs1, vs2, vs3, vs4, vs5], .int .i64 0]) (by simp [wk, aBuiltin, AV.cells, AV.leaf, Nat.reduceEqDiff, Nat.reduceLT, Nat.reduceAdd, Nat.reduceLeDiff, reduceCtorEq, Nat.reduceMul, Nat.reduceMod, cfgP, u22, hlen, aResults, aResult, hlr, a2])
  | cons o r =>
    obtain ⟨c, cv, K', rfl, hput, hB⟩ := hV.put (by have := hPI.2.2.1.size; omega) (by have := hPI.2.2.1.size; have := hPI.2.2.1.keys; split at this <;> omega)
    obtain ⟨c', cv', cl, iv, kv, rest, Si, S, hv, g, hcl, h4, h5, hrc, hcb, hS, hI, hRw, hn, hd1, hd2, hz⟩ := hB.top
    cases hv
    have g : hget K' c cv = some (cl ++ opC o.kind o.end_ iv kv o.key ++ rest) := g
    have hto := hPI.1.to
    have q0 : (cl ++ opC o.kind o.end_ iv kv o.key ++ rest)[r.length * 8]? = some (.int .i64 o.kind) := by
      have := get_mid cl rest (opC o.kind o.end_ iv kv o.key) 0 (by simp [opC])
      rw [hcl] at this; exact this
    have q6 : (cl ++ opC o.kind o.end_ iv kv o.key ++ rest)[r.length * 8 + 6]? = some (.int .i64 o.end_) := by
      rw [← hcl, get_mid _ _ _ _ (by simp [opC])]; rfl
    have w6 : (if r.length * 8 + 6 ≤ (cl ++ opC o.kind o.end_ iv kv o.key ++ rest).length then some (List.take 6 (List.drop (r.length * 8) (cl ++ opC o.kind o.end_ iv kv o.key ++ rest))) else none) = some [.int .i64 o.kind, .bool false, .int .i64 0, .str [], iv, kv] := by
      rw [if_pos (by simp [opC]; omega), List.append_assoc, List.drop_left' hcl]; rfl
    have hln : ∀ (K' : Heap) (n : Nat), aLen Tryd.prog K' 60 (.bs ⟨c, cv, 0, n, 0, 8, true, false⟩) = some (.int .i64 n) := fun K' n => by simp [aLen, Tryd.underlying60]
    have hdr := hPI.2.2.room
    simp only [List.length_cons] at hdr
    have d0 : decide ((0 : Int) < (r.length + 1 : Nat)) = true := decide_eq_true (by omega)
    have d00 : decide (((r.length + 1 : Nat) : Int) = 0) = false := decide_eq_false (by omega)
    have w1 : IntKind.i64.wrap (((r.length + 1 : Nat) : Int) - 1) = (r.length : Nat) := by rw [wrap64 (by omega) (by omega)]; omega
    have hia : aIndexAddr Tryd.prog 60 (.bs ⟨c, cv, 0, r.length + 1, 0, 8, true, false⟩) (.int .i64 (r.length : Nat)) = some (.ptr c cv (r.length * 8)) := by
      simp [aIndexAddr, asNat, Tryd.underlying60, sz67]
    have hsl : aSlice Tryd.prog 60 (.bs ⟨c, cv, 0, r.length + 1, 0, 8, true, false⟩) none (some (.int .i64 (r.length : Nat))) none = some (.bs ⟨c, cv, 0, r.length, 0, 8, true, false⟩) := by
      simp [aSlice, aBounds, optInt, asNat, Tryd.underlying60, sz67]
    have hivl : iv.leaf = true := by rcases hI with ⟨rfl, _⟩ | ⟨b, ver, cells, S', rfl, _⟩ <;> rfl
    have hkvl : kv.leaf = true := by rcases hRw with ⟨rfl, _⟩ | ⟨b, ver, rfl, _⟩ <;> rfl
    generalize hcs : cl ++ opC o.kind o.end_ iv kv o.key ++ rest = cs at *
    have n2 := takes_ok s (by omega) q d o.end_ hto b base K' hB.hg hB.hg0 hp
    have hst : stS s d (.inner q j (o :: r)) = innerS s q j (o :: r) := rfl
    rw [innerS] at hst
    cases ht : (takesP s q o.end_).1 with
    | true =>
      rw [ht] at n2
      rw [if_pos ht] at hst
      have hmu := stS_mu hst
      simp only [PSt.ps] at hmu
      have hPI2 := PI_step hPI hst
      rw [runP_inl hst] at hR
      have hB2 := hB.setb (takesP s q o.end_).2
      have hcb' : c ≠ b := by omega
      have g2 : hget (K'.set b (.cells 0 (cellsPs s (takesP s q o.end_).2 d))) c cv = some cs := by rw [hget_set_ne hcb']; exact g
      generalize K'.set b (.cells 0 (cellsPs s (takesP s q o.end_).2 d)) = K2 at *
      obtain ⟨vs', hvs', hvl'⟩ := hB2.hb
      obtain ⟨c2, cv2, cl2, iv2, kv2, rest2, Si2, S2, hv2, g3, hcl2, h42, h52, hrc2, hcb2, hS2, hI2, hRw2, hn2, hd12, hd22, hz2⟩ := hB2.top
      cases hv2
      rw [g2, ← hcs] at g3
      have e3 := Option.some.inj g3
      simp only [List.append_assoc] at e3
      obtain ⟨e4, e5⟩ := List.append_inj e3 (by rw [hcl, hcl2])
      obtain ⟨e6, e7⟩ := List.append_inj e5 rfl
      subst e4 e7
      have e8 : iv = iv2 ∧ kv = kv2 := by
        simp only [opC, List.cons.injEq] at e6
        exact ⟨e6.2.2.2.2.1, e6.2.2.2.2.2.1⟩
      obtain ⟨rfl, rfl⟩ := e8
      have hV3 := hB2.pop (o := putO o j) (by rw [g2, ← hcs]; rfl) hcl2 h42 h52 hrc2 hcb2 hS2 hI2 hRw2 hn2 hd12 hd22 hz2
      have hV3 : VV s d b r0 base K0 (takesP s q o.end_).2 r (.bs ⟨c, cv, 0, r.length, 0, 8, true, false⟩) bx [.int .i64 o.kind, .bool false, .int .i64 0, .str [], iv, kv] (closeJ (putO o j)) (K2.set bx (.cells 0 [.int .i64 o.kind, .bool false, .int .i64 0, .str [], iv, kv])) := hV3
      have hst1 : Go.Abs.hput base K2 bx 0 0 [.int .i64 o.kind, .bool false, .int .i64 0, .str [], iv, kv] = some (K2.set bx (.cells 0 [.int .i64 o.kind, .bool false, .int .i64 0, .str [], iv, kv])) := by
        rw [hput_eq hvs' (by omega) (by simp; omega) (by simp [AV.leaf] at hivl hkvl ⊢; simp [hivl, hkvl]), splice_all (by simp [hvl'])]
      have hbx3 := hV3.hb
      generalize K2.set bx (.cells 0 [.int .i64 o.kind, .bool false, .int .i64 0, .str [], iv, kv]) = K3 at *
      by_cases hr : r = []
      · have d3 : decide (((r.length : Nat) : Int) = 0) = true := by simp [hr]
        have hlR3 := hget_lt hV3.hr
        have hpr : Go.Abs.hput base K3 r0 0 0 [.int .i64 o.kind, .bool false, .int .i64 0, .str [], iv, kv] = some (K3.set r0 (.cells 0 [.int .i64 o.kind, .bool false, .int .i64 0, .str [], iv, kv])) := by
          rw [hput_eq hV3.hr (by omega) (by simp [zeroC]) (by simp [AV.leaf] at hivl hkvl ⊢; simp [hivl, hkvl]), splice_all (by simp [zeroC])]
        have hlr : hget (K3.set r0 (.cells 0 [.int .i64 o.kind, .bool false, .int .i64 0, .str [], iv, kv])) r0 0 = some [.int .i64 o.kind, .bool false, .int .i64 0, .str [], iv, kv] := hget_set_at hlR3
        simp only [wk, aBuiltin, AV.cells, AV.leaf, Nat.reduceEqDiff, Nat.reduceLT, Nat.reduceAdd, Nat.reduceLeDiff, reduceCtorEq, Nat.reduceMul, Nat.reduceMod, cfgP, u22, hlen, a0, a2, a4, a5, hput, hbx, hln, d0, w1, hia, g, q6, n2, g2, w6, hst1, hsl, hbx3, d3, hpr]
        subst hr
        rw [runP_inr rfl] at hR
        subst hR
        refine ⟨_, _, hV3.fin, ?_⟩
        exact Fin_raw (l := [.agg [.int .i64 o.kind, .bool false, .int .i64 0, .str [], iv, kv], .int .i64 0]) (by simp [wk, aBuiltin, AV.cells, AV.leaf, Nat.reduceEqDiff, Nat.reduceLT, Nat.reduceAdd, Nat.reduceLeDiff, reduceCtorEq, Nat.reduceMul, Nat.reduceMod, cfgP, u22, hlen, aResults, aResult, hlr, a2])
      · have d3 : decide (((r.length : Nat) : Int) = 0) = false := by simp [hr]
        simp only [wk, aBuiltin, AV.cells, AV.leaf, Nat.reduceEqDiff, Nat.reduceLT, Nat.reduceAdd, Nat.reduceLeDiff, reduceCtorEq, Nat.reduceMul, Nat.reduceMod, cfgP, u22, hlen, a0, a2, a4, a5, hput, hbx, hln, d0, w1, hia, g, q6, n2, g2, w6, hst1, hsl, hbx3, d3]
        exact ih2 _ _ _ hmu ⟨_, _, r, bx, _, _, rfl, by omega, by simp [wk, aBuiltin, AV.cells, AV.leaf, Nat.reduceEqDiff, Nat.reduceLT, Nat.reduceAdd, Nat.reduceLeDiff, reduceCtorEq, Nat.reduceMul, Nat.reduceMod, cfgP, u22, hlen], by simp [wk, aBuiltin, AV.cells, AV.leaf, Nat.reduceEqDiff, Nat.reduceLT, Nat.reduceAdd, Nat.reduceLeDiff, reduceCtorEq, Nat.reduceMul, Nat.reduceMod, cfgP, u22, hlen, a0], by simp [wk, aBuiltin, AV.cells, AV.leaf, Nat.reduceEqDiff, Nat.reduceLT, Nat.reduceAdd, Nat.reduceLeDiff, reduceCtorEq, Nat.reduceMul, Nat.reduceMod, cfgP, u22, hlen, a2], by simp [wk, aBuiltin, AV.cells, AV.leaf, Nat.reduceEqDiff, Nat.reduceLT, Nat.reduceAdd, Nat.reduceLeDiff, reduceCtorEq, Nat.reduceMul, Nat.reduceMod, cfgP, u22, hlen, a5], by simp [wk, aBuiltin, AV.cells, AV.leaf, Nat.reduceEqDiff, Nat.reduceLT, Nat.reduceAdd, Nat.reduceLeDiff, reduceCtorEq, Nat.reduceMul, Nat.reduceMod, cfgP, u22, hlen], hV3, hPI2, hR⟩
    | false =>
      rw [ht, takesP_false ht, set_self hB.hg] at n2
      rw [if_neg (by rw [ht]; simp)] at hst
      have n3 := takes_ok s (by omega) q d 6 hto b base K' hB.hg hB.hg0 hp
      cases ht6 : (takesP s q 6).1 with
      | false =>
        rw [ht6, takesP_false ht6, set_self hB.hg] at n3
        rw [if_neg (by rw [ht6]; simp)] at hst
        rw [runP_inr hst] at hR
        have na := amiss_ok s q d b base K' hB.hg (by have := hget_lt hB.hg; omega)
        have hlR3 := hget_lt hB.hr
        have hpz : Go.Abs.hput base K' r0 0 0 [.int .i64 0, .bool false, .int .i64 0, .str [], .nilS, .nilS] = some (K'.set r0 (.cells 0 zeroC)) := by
          rw [hput_eq hB.hr (by omega) (by simp [zeroC]) rfl, splice_all (by simp [zeroC])]; rfl
        have hlr : hget (K'.set r0 (.cells 0 zeroC)) r0 0 = some [.int .i64 0, .bool false, .int .i64 0, .str [], .nilS, .nilS] := hget_set_at hlR3
        simp only [wk, aBuiltin, AV.cells, AV.leaf, Nat.reduceEqDiff, Nat.reduceLT, Nat.reduceAdd, Nat.reduceLeDiff, reduceCtorEq, Nat.reduceMul, Nat.reduceMod, cfgP, u22, hlen, a0, a2, a4, a5, hput, hbx, hln, d0, w1, hia, g, q6, n2, n3, none_beq, na, hpz]
        subst hR
        refine ⟨_, _, hB.vi.fin (amissP_ne q), ?_⟩
        exact Fin_raw (l := [.agg [.int .i64 0, .bool false, .int .i64 0, .str [], .nilS, .nilS], .int .i64 (amissP q)]) (by simp [wk, aBuiltin, AV.cells, AV.leaf, Nat.reduceEqDiff, Nat.reduceLT, Nat.reduceAdd, Nat.reduceLeDiff, reduceCtorEq, Nat.reduceMul, Nat.reduceMod, cfgP, u22, hlen, aResults, aResult, hlr, a2])
      | true =>
        rw [ht6] at n3
        rw [if_pos ht6] at hst
        have hmu6 := takesP_mu ht6
        have hB2 := hB.setb (takesP s q 6).2
        have hcb' : c ≠ b := by omega
        have g2 : hget (K'.set b (.cells 0 (cellsPs s (takesP s q 6).2 d))) c cv = some cs := by rw [hget_set_ne hcb']; exact g
        have hG := takesP_GP (k := 6) hPI.1
        generalize K'.set b (.cells 0 (cellsPs s (takesP s q 6).2 d)) = K2 at *
        generalize hq1 : (takesP s q 6).2 = q1 at *
        by_cases hk5 : o.kind = 5
        · have d5 : decide (o.kind = 5) = true := decide_eq_true hk5
          rw [if_pos hk5] at hst
          obtain ⟨K3, stk3, nk, hB3, hstk⟩ := hB2.key (by omega) hG.to hp (by have := hPI.2.2.1.size; have := hPI.2.2.1.keys; simp only [putO, hk5, if_true, List.length_append, List.length_cons, List.length_nil] at this ⊢; omega)
          cases hkk : (keyP s q1 (putO o j).keys).1 with
          | true =>
            rw [hkk] at nk
            unfold keyed at hst
            rw [if_pos hkk] at hst
            have hmu := stS_mu hst
            simp only [PSt.ps] at hmu
            have hPI2 := PI_step hPI hst
            rw [runP_inl hst] at hR
            rw [hstk hkk] at hB3
            simp only [wk, aBuiltin, AV.cells, AV.leaf, Nat.reduceEqDiff, Nat.reduceLT, Nat.reduceAdd, Nat.reduceLeDiff, reduceCtorEq, Nat.reduceMul, Nat.reduceMod, cfgP, u22, hlen, a0, a2, a4, a5, hput, hbx, hln, d0, d00, w1, hia, g, q6, n2, n3, none_beq, g2, q0, d5, nk]
            exact ih _ _ _ (by omega) ⟨_, _, _, rfl, by simp [wk, aBuiltin, AV.cells, AV.leaf, Nat.reduceEqDiff, Nat.reduceLT, Nat.reduceAdd, Nat.reduceLeDiff, reduceCtorEq, Nat.reduceMul, Nat.reduceMod, cfgP, u22, hlen], by simp [wk, aBuiltin, AV.cells, AV.leaf, Nat.reduceEqDiff, Nat.reduceLT, Nat.reduceAdd, Nat.reduceLeDiff, reduceCtorEq, Nat.reduceMul, Nat.reduceMod, cfgP, u22, hlen, a0], by simp [wk, aBuiltin, AV.cells, AV.leaf, Nat.reduceEqDiff, Nat.reduceLT, Nat.reduceAdd, Nat.reduceLeDiff, reduceCtorEq, Nat.reduceMul, Nat.reduceMod, cfgP, u22, hlen, a2], by simp [wk, aBuiltin, AV.cells, AV.leaf, Nat.reduceEqDiff, Nat.reduceLT, Nat.reduceAdd, Nat.reduceLeDiff, reduceCtorEq, Nat.reduceMul, Nat.reduceMod, cfgP, u22, hlen, a4], hB3.vi, hPI2, hR⟩
          | false =>
            rw [hkk] at nk
            unfold keyed at hst
            rw [if_neg (by rw [hkk]; simp)] at hst
            rw [runP_inr hst] at hR
            have na := amiss_ok s _ d b base K3 hB3.hg (by have := hget_lt hB3.hg; omega)
            have hlR3 := hget_lt hB3.hr
            have hpz : Go.Abs.hput base K3 r0 0 0 [.int .i64 0, .bool false, .int .i64 0, .str [], .nilS, .nilS] = some (K3.set r0 (.cells 0 zeroC)) := by
              rw [hput_eq hB3.hr (by omega) (by simp [zeroC]) rfl, splice_all (by simp [zeroC])]; rfl
            have hlr : hget (K3.set r0 (.cells 0 zeroC)) r0 0 = some [.int .i64 0, .bool false, .int .i64 0, .str [], .nilS, .nilS] := hget_set_at hlR3
            simp only [wk, aBuiltin, AV.cells, AV.leaf, Nat.reduceEqDiff, Nat.reduceLT, Nat.reduceAdd, Nat.reduceLeDiff, reduceCtorEq, Nat.reduceMul, Nat.reduceMod, cfgP, u22, hlen, a0, a2, a4, a5, hput, hbx, hln, d0, d00, w1, hia, g, q6, n2, n3, none_beq, g2, q0, d5, nk, na, hpz]
            subst hR
            refine ⟨_, _, hB3.vi.fin (amissP_ne _), ?_⟩
            exact Fin_raw (l := [.agg [.int .i64 0, .bool false, .int .i64 0, .str [], .nilS, .nilS], .int .i64 (amissP (keyP s q1 (putO o j).keys).2)]) (by simp [wk, aBuiltin, AV.cells, AV.leaf, Nat.reduceEqDiff, Nat.reduceLT, Nat.reduceAdd, Nat.reduceLeDiff, reduceCtorEq, Nat.reduceMul, Nat.reduceMod, cfgP, u22, hlen, aResults, aResult, hlr, a2])
        · have d5 : decide (o.kind = 5) = false := decide_eq_false hk5
          rw [if_neg hk5] at hst
          have hmu := stS_mu hst
          simp only [PSt.ps] at hmu
          have hPI2 := PI_step hPI hst
          rw [runP_inl hst] at hR
          simp only [wk, aBuiltin, AV.cells, AV.leaf, Nat.reduceEqDiff, Nat.reduceLT, Nat.reduceAdd, Nat.reduceLeDiff, reduceCtorEq, Nat.reduceMul, Nat.reduceMod, cfgP, u22, hlen, a0, a2, a4, a5, hput, hbx, hln, d0, d00, w1, hia, g, q6, n2, n3, none_beq, g2, q0, d5]
          exact ih _ _ _ (by omega) ⟨_, _, _, rfl, by simp [wk, aBuiltin, AV.cells, AV.leaf, Nat.reduceEqDiff, Nat.reduceLT, Nat.reduceAdd, Nat.reduceLeDiff, reduceCtorEq, Nat.reduceMul, Nat.reduceMod, cfgP, u22, hlen], by simp [wk, aBuiltin, AV.cells, AV.leaf, Nat.reduceEqDiff, Nat.reduceLT, Nat.reduceAdd, Nat.reduceLeDiff, reduceCtorEq, Nat.reduceMul, Nat.reduceMod, cfgP, u22, hlen, a0], by simp [wk, aBuiltin, AV.cells, AV.leaf, Nat.reduceEqDiff, Nat.reduceLT, Nat.reduceAdd, Nat.reduceLeDiff, reduceCtorEq, Nat.reduceMul, Nat.reduceMod, cfgP, u22, hlen, a2], by simp [wk, aBuiltin, AV.cells, AV.leaf, Nat.reduceEqDiff, Nat.reduceLT, Nat.reduceAdd, Nat.reduceLeDiff, reduceCtorEq, Nat.reduceMul, Nat.reduceMod, cfgP, u22, hlen, a4], hB2.vi, hPI2, hR⟩
theorem value_ok (s : List UInt8) (hl : s.length < 400000000) (p : Ps) (d : Int) (hd : d ≤ 16) (hGP : GP s p) (b base : Nat) (K : Heap) (hg : hget K b 0 = some (cellsPs s p d)) (hg0 : hget K 0 (gver 0) = some [ET]) (hp : base ≤ b) :
    ∃ r K', ValR s d b K.length base K (runP s d (.outer p [])) r K' ∧ aLim cfg base 22 [.ptr b 0 0] K = some (r, some K') := by
  have hlt := hget_lt hg
  generalize hT : runP s d (.outer p []) = T
  have inner := fun M => inner_ok s hl d hd b K.length base K hp T M
  simp only [vX, Tryd.f22] at inner
  unfold vIn vAft at inner
  unfold vOut g22 at inner
  simp only [cdb, cd1, cd2] at inner
  refine raw_slimX rfl (by kernel_rfl) (by kernel_rfl) (by kernel_rfl) Tryd.func22 s22 (by simp [Tryd.f22]) fun fr hlen h => ?_
  simp only [Has, Nat.zero_add] at h
  obtain ⟨a0, -⟩ := h
  simp only [Tryd.f22] at hlen ⊢
  unfold g22
  simp only [wk, aBuiltin, AV.cells, AV.leaf, Nat.reduceEqDiff, Nat.reduceLT, Nat.reduceAdd, Nat.reduceLeDiff, reduceCtorEq, Nat.reduceMul, Nat.reduceMod, cfgP, u22, hlen, a0]
  refine loop_ruleX (OInv s d b K.length base K T) ?_ (mu s p) _ _
    ⟨p, [], .nilS, rfl, by simp [wk, aBuiltin, AV.cells, AV.leaf, Nat.reduceEqDiff, Nat.reduceLT, Nat.reduceAdd, Nat.reduceLeDiff, reduceCtorEq, Nat.reduceMul, Nat.reduceMod, cfgP, u22, hlen], by simp [wk, aBuiltin, AV.cells, AV.leaf, Nat.reduceEqDiff, Nat.reduceLT, Nat.reduceAdd, Nat.reduceLeDiff, reduceCtorEq, Nat.reduceMul, Nat.reduceMod, cfgP, u22, hlen, a0], by simp [wk, aBuiltin, AV.cells, AV.leaf, Nat.reduceEqDiff, Nat.reduceLT, Nat.reduceAdd, Nat.reduceLeDiff, reduceCtorEq, Nat.reduceMul, Nat.reduceMod, cfgP, u22, hlen], by simp [wk, aBuiltin, AV.cells, AV.leaf, Nat.reduceEqDiff, Nat.reduceLT, Nat.reduceAdd, Nat.reduceLeDiff, reduceCtorEq, Nat.reduceMul, Nat.reduceMod, cfgP, u22, hlen], ⟨hget_mono hg _, hget_mono hg0 _, by rw [hget_new rfl, if_pos rfl]; rfl, hlt, fun z h1 _ => by rw [List.getElem?_append_left h1], [], [], .inl ⟨rfl, rfl, rfl⟩, .nil, by simp, by simp [stkB]⟩, ⟨hGP, trivial⟩, hT.symm⟩
  generalize K.length = r0 at *
  clear hg hg0
  generalize K = K0 at *
  rintro m fr Q ⟨q, stk, v, rfl, hlen, a0, a2, a4, hI, hPI, hR⟩ ih
  have hto := hPI.1.to
  have hbr := hI.br
  have inner := inner (mu s q) ih
  obtain ⟨Q1, n1, u1⟩ := plain_ok s (by omega) q d hto b base Q hI.hg hI.hg0 hp
  have hb0 := ne_glob hI.hg0 hI.hg
  have hlb := hget_lt hI.hg
  have hlr := hget_lt hI.hr
  have hlQ := u1.len
  have hbl : base ≤ Q1.length := by omega
  have hst : stS s d (.outer q stk) = outerS s d q stk := rfl
  rw [outerS] at hst
  obtain ⟨cells, S, hSt, hSH, hS0, hSv⟩ := hI.st
  have hlS := hSH.lt
  have hlv := hSt.lt
  cases hpl : plainJ q with
  | some j =>
    rw [hpl] at n1 hst
    dsimp only at hst
    have hmu := stS_mu hst
    simp only [PSt.ps] at hmu
    have hPI2 := PI_step hPI hst
    rw [runP_inl hst] at hR
    have hpp : plainP s q = stepP s q := by unfold plainP; rw [hpl]; rfl
    rw [hpp] at u1
    simp only [Option.getD_some, Option.isSome_some] at n1
    rw [encJ_eq] at n1
    have hlf : ([.int .i64 j.kind, .bool j.is, .int .i64 j.n, .str j.text, j.iv, j.kv] : List AV).all AV.leaf = true := by simp only [List.all_cons, List.all_nil, j.iv_leaf, j.kv_leaf]; rfl
    have hpt : Go.Abs.hput base (Q1 ++ [Blk.cells 0 [.int .i64 0, .bool false, .int .i64 0, .str [], .nilS, .nilS]]) Q1.length 0 0 [.int .i64 j.kind, .bool j.is, .int .i64 j.n, .str j.text, j.iv, j.kv] = some (Q1 ++ [Blk.cells 0 [.int .i64 j.kind, .bool j.is, .int .i64 j.n, .str j.text, j.iv, j.kv]]) := by
      rw [hput_new rfl hbl (by simp) hlf]; rfl
    have hVV : VV s d b r0 base K0 (stepP s q) stk v Q1.length [.int .i64 j.kind, .bool j.is, .int .i64 j.n, .str j.text, j.iv, j.kv] j (Q1 ++ [Blk.cells 0 [.int .i64 j.kind, .bool j.is, .int .i64 j.n, .str j.text, j.iv, j.kv]]) := by
      have hK : ∀ z, z < Q.length → z ≠ b → (Q1 ++ [Blk.cells 0 [.int .i64 j.kind, .bool j.is, .int .i64 j.n, .str j.text, j.iv, j.kv]])[z]? = Q[z]? := fun z hz hzb => by
        rw [List.getElem?_append_left (by omega)]; exact u1.old z hz hzb
      refine ⟨hget_mono u1.at_ _, hget_same (hK 0 (by omega) (Ne.symm hb0)) hI.hg0, hget_same (hK r0 hlr (by omega)) hI.hr, hbr, fun z h1 h2 => by rw [hK z (by omega) h2]; exact hI.old z h1 h2, by omega, by rw [hget_new rfl, if_pos rfl], cells, S, [], hSt.agree fun z hz => hK z (hlv z hz) (by have := (hSv z hz).1; omega), hSH.agree (by simp; omega) fun z hz => hK z (hlS z hz) (by have := hS0 z hz; omega),
        ⟨rfl, hlf, fun K' _ => ?_, by simp⟩, hS0, by simp, fun z hz => ⟨(hSv z hz).1, (hSv z hz).2, by simp, by have := hlv z hz; omega⟩, by simp, fun hm => by have := hlS _ hm; omega, by simp⟩
      rw [encJ_eq]
      exact .cons (.still rfl) (.cons (.still rfl) (.cons (.still rfl) (.cons (.still rfl) (.cons (.still (tg_still _ _)) (.cons (.still (tg_still _ _)) .nil)))))
    simp only [wk, aBuiltin, AV.cells, AV.leaf, Nat.reduceEqDiff, Nat.reduceLT, Nat.reduceAdd, Nat.reduceLeDiff, reduceCtorEq, Nat.reduceMul, Nat.reduceMod, cfgP, u22, hlen, a0, a2, a4, n1, hpt]
    exact inner _ _ _ ⟨_, _, _, _, _, _, rfl, hmu, by simp [wk, aBuiltin, AV.cells, AV.leaf, Nat.reduceEqDiff, Nat.reduceLT, Nat.reduceAdd, Nat.reduceLeDiff, reduceCtorEq, Nat.reduceMul, Nat.reduceMod, cfgP, u22, hlen], by simp [wk, aBuiltin, AV.cells, AV.leaf, Nat.reduceEqDiff, Nat.reduceLT, Nat.reduceAdd, Nat.reduceLeDiff, reduceCtorEq, Nat.reduceMul, Nat.reduceMod, cfgP, u22, hlen, a0], by simp [wk, aBuiltin, AV.cells, AV.leaf, Nat.reduceEqDiff, Nat.reduceLT, Nat.reduceAdd, Nat.reduceLeDiff, reduceCtorEq, Nat.reduceMul, Nat.reduceMod, cfgP, u22, hlen, a2], by simp [wk, aBuiltin, AV.cells, AV.leaf, Nat.reduceEqDiff, Nat.reduceLT, Nat.reduceAdd, Nat.reduceLeDiff, reduceCtorEq, Nat.reduceMul, Nat.reduceMod, cfgP, u22, hlen], by simp [wk, aBuiltin, AV.cells, AV.leaf, Nat.reduceEqDiff, Nat.reduceLT, Nat.reduceAdd, Nat.reduceLeDiff, reduceCtorEq, Nat.reduceMul, Nat.reduceMod, cfgP, u22, hlen, a4], hVV, hPI2, hR⟩
  | none =>
    rw [hpl] at n1 hst
    dsimp only at hst
    have hpp : plainP s q = q := by unfold plainP; rw [hpl]; rfl
    rw [hpp] at u1
    simp only [Option.getD_none, Option.isSome_none] at n1
    rw [enc0] at n1
    have hpt : Go.Abs.hput base (Q1 ++ [Blk.cells 0 [.int .i64 0, .bool false, .int .i64 0, .str [], .nilS, .nilS]]) Q1.length 0 0 [.int .i64 0, .bool false, .int .i64 0, .str [], .nilS, .nilS] = some (Q1 ++ [Blk.cells 0 zeroC]) := by
      rw [hput_new rfl hbl (by simp) rfl]; rfl
    have hK : ∀ z, z < Q.length → z ≠ b → (Q1 ++ [Blk.cells 0 zeroC])[z]? = Q[z]? := fun z hz hzb => by
      rw [List.getElem?_append_left (by omega)]; exact u1.old z hz hzb
    have hSt2 : StkR base (Q1 ++ [Blk.cells 0 zeroC]) v stk.length cells := hSt.agree fun z hz => hK z (hlv z hz) (by have := (hSv z hz).1; omega)
    have hSH2 : SH (Q1 ++ [Blk.cells 0 zeroC]) base stk cells S := hSH.agree (by simp; omega) fun z hz => hK z (hlS z hz) (by have := hS0 z hz; omega)
    have hSv2 : ∀ z ∈ stkB v, r0 < z ∧ z ∉ S ∧ z ≠ Q1.length := fun z hz => ⟨(hSv z hz).1, (hSv z hz).2, by have := hlv z hz; omega⟩
    have hbS : Q1.length ∉ S := fun hm => by have := hlS _ hm; omega
    have hVB : VB s d b r0 base K0 q stk v Q1.length (Q1 ++ [Blk.cells 0 zeroC]) :=
      ⟨hget_mono u1.at_ _, hget_same (hK 0 (by omega) (Ne.symm hb0)) hI.hg0, hget_same (hK r0 hlr (by omega)) hI.hr, hbr, fun z h1 h2 => by rw [hK z (by omega) h2]; exact hI.old z h1 h2, by omega, ⟨zeroC, by rw [hget_new rfl, if_pos rfl], rfl⟩, cells, S, hSt2, hSH2, hS0, hSv2, hbS⟩
    generalize hbxe : Q1.length = bx at *
    generalize hQ2 : Q1 ++ [Blk.cells 0 zeroC] = Q2 at *
    have hroom := hPI.2.room
    by_cases hbe : beginE q stk.length d = 0
    · rw [if_pos hbe] at hst
      cases hk : beginK q with
      | none => exfalso; unfold beginE at hbe; rw [hk] at hbe; split at hbe
                · cases hbe
                · exact amissP_ne _ hbe
      | some x =>
        rw [hk] at hst
        dsimp only at hst
        obtain ⟨he, hrm, hdn⟩ := beginE_room hbe hk
        obtain ⟨c, cv, K', nb, gc, hv4, hpc, hle, hcc, hbc, hgb, hold⟩ := begin_yes s (by omega) q d hto b base Q2 hVB.hg hVB.hg0 hp v stk.length cells hSt2 (by omega) (fun hm => by have := (hSv b hm).1; omega) he x hk hdn
        have hB := hVB.push (x := x) hSH2 hS0 hSv2 hbS (stepP s q) gc hv4 hpc hle hcc hgb hold
        have hG := stepP_GP (s := s) hto
        have hrc : r0 < c := by
          rcases hcc with hc | ⟨-, hc⟩
          · exact (hSv c (by rw [hc]; simp)).1
          · have := hget_lt hVB.hr; omega
        have hcl := hSH.len
        have q0 : (cells ++ litC x)[stk.length * 8]? = some (.int .i64 x.1) := by
          rw [← hcl, List.getElem?_append_right (Nat.le_refl _)]; simp [litC]
        have q6 : (cells ++ litC x)[stk.length * 8 + 6]? = some (.int .i64 x.2) := by
          rw [← hcl, List.getElem?_append_right (by omega)]; simp [litC]
        have w6 : (if stk.length * 8 + 6 ≤ (cells ++ litC x).length then some (List.take 6 (List.drop (stk.length * 8) (cells ++ litC x))) else none) = some [.int .i64 x.1, .bool false, .int .i64 0, .str [], .nilS, .nilS] := by
          rw [if_pos (by simp [litC]; omega), List.drop_left' hcl]; rfl
        have hln : ∀ (K' : Heap) (n : Nat), aLen Tryd.prog K' 60 (.bs ⟨c, cv, 0, n, 0, 8, true, false⟩) = some (.int .i64 n) := fun K' n => by simp [aLen, Tryd.underlying60]
        have d00 : decide (((stk.length + 1 : Nat) : Int) = 0) = false := decide_eq_false (by omega)
        have w1 : IntKind.i64.wrap (((stk.length + 1 : Nat) : Int) - 1) = (stk.length : Nat) := by rw [wrap64 (by omega) (by omega)]; omega
        have hia : aIndexAddr Tryd.prog 60 (.bs ⟨c, cv, 0, stk.length + 1, 0, 8, true, false⟩) (.int .i64 (stk.length : Nat)) = some (.ptr c cv (stk.length * 8)) := by
          simp [aIndexAddr, asNat, Tryd.underlying60, sz67]
        have hsl : aSlice Tryd.prog 60 (.bs ⟨c, cv, 0, stk.length + 1, 0, 8, true, false⟩) none (some (.int .i64 (stk.length : Nat))) none = some (.bs ⟨c, cv, 0, stk.length, 0, 8, true, false⟩) := by
          simp [aSlice, aBounds, optInt, asNat, Tryd.underlying60, sz67]
        have n2 := takes_ok s (by omega) (stepP s q) d x.2 hG.to b base K' hgb hB.hg0 hp
        generalize hq1 : stepP s q = q1 at *
        cases ht : (takesP s q1 x.2).1 with
        | true =>
          rw [ht] at n2
          rw [if_pos ht] at hst
          have hmu := stS_mu hst
          simp only [PSt.ps] at hmu
          have hPI2 := PI_step hPI hst
          rw [runP_inl hst] at hR
          have hB2 := hB.setb (takesP s q1 x.2).2
          have g2 : hget (K'.set b (.cells 0 (cellsPs s (takesP s q1 x.2).2 d))) c cv = some (cells ++ litC x) := by rw [hget_set_ne (Ne.symm hbc)]; exact gc
          generalize K'.set b (.cells 0 (cellsPs s (takesP s q1 x.2).2 d)) = K2 at *
          obtain ⟨vs', hvs', hvl'⟩ := hB2.hb
          obtain ⟨c2, cv2, cl2, iv2, kv2, rest2, Si2, S2, hv2, g3, hcl2, h42, h52, hrc2, hcb2, hS2, hI2, hRw2, hn2, hd12, hd22, hz2⟩ := hB2.top
          cases hv2
          have g4 := g3
          rw [g2] at g3
          have e3 := Option.some.inj g3
          simp only [List.append_assoc] at e3
          obtain ⟨e4, e5⟩ := List.append_inj e3 (by rw [hcl, hcl2])
          subst e4
          have e8 : iv2 = .nilS ∧ kv2 = .nilS := by
            simp only [opC, litC, List.cons_append, List.nil_append, List.cons.injEq] at e5
            exact ⟨e5.2.2.2.2.1.symm, e5.2.2.2.2.2.1.symm⟩
          obtain ⟨rfl, rfl⟩ := e8
          have hV3 := hB2.pop (o := newO x) g4 hcl2 h42 h52 hrc2 hcb2 hS2 hI2 hRw2 hn2 hd12 hd22 hz2
          have hV3 : VV s d b r0 base K0 (takesP s q1 x.2).2 stk (.bs ⟨c, cv, 0, stk.length, 0, 8, true, false⟩) bx [.int .i64 x.1, .bool false, .int .i64 0, .str [], .nilS, .nilS] (closeJ (newO x)) (K2.set bx (.cells 0 [.int .i64 x.1, .bool false, .int .i64 0, .str [], .nilS, .nilS])) := hV3
          have hst1 : Go.Abs.hput base K2 bx 0 0 [.int .i64 x.1, .bool false, .int .i64 0, .str [], .nilS, .nilS] = some (K2.set bx (.cells 0 [.int .i64 x.1, .bool false, .int .i64 0, .str [], .nilS, .nilS])) := by
            rw [hput_eq hvs' (by omega) (by simp; omega) rfl, splice_all (by simp [hvl'])]
          generalize K2.set bx (.cells 0 [.int .i64 x.1, .bool false, .int .i64 0, .str [], .nilS, .nilS]) = K3 at *
          simp only [wk, aBuiltin, AV.cells, AV.leaf, Nat.reduceEqDiff, Nat.reduceLT, Nat.reduceAdd, Nat.reduceLeDiff, reduceCtorEq, Nat.reduceMul, Nat.reduceMod, cfgP, u22, hlen, a0, a2, a4, n1, hbxe, hpt, nb, hln, w1, hia, gc, q6, n2, g2, w6, hst1, hsl]
          exact inner _ _ _ ⟨_, _, _, _, _, _, rfl, hmu, by simp [wk, aBuiltin, AV.cells, AV.leaf, Nat.reduceEqDiff, Nat.reduceLT, Nat.reduceAdd, Nat.reduceLeDiff, reduceCtorEq, Nat.reduceMul, Nat.reduceMod, cfgP, u22, hlen], by simp [wk, aBuiltin, AV.cells, AV.leaf, Nat.reduceEqDiff, Nat.reduceLT, Nat.reduceAdd, Nat.reduceLeDiff, reduceCtorEq, Nat.reduceMul, Nat.reduceMod, cfgP, u22, hlen, a0], by simp [wk, aBuiltin, AV.cells, AV.leaf, Nat.reduceEqDiff, Nat.reduceLT, Nat.reduceAdd, Nat.reduceLeDiff, reduceCtorEq, Nat.reduceMul, Nat.reduceMod, cfgP, u22, hlen, a2], by simp [wk, aBuiltin, AV.cells, AV.leaf, Nat.reduceEqDiff, Nat.reduceLT, Nat.reduceAdd, Nat.reduceLeDiff, reduceCtorEq, Nat.reduceMul, Nat.reduceMod, cfgP, u22, hlen], by simp [wk, aBuiltin, AV.cells, AV.leaf, Nat.reduceEqDiff, Nat.reduceLT, Nat.reduceAdd, Nat.reduceLeDiff, reduceCtorEq, Nat.reduceMul, Nat.reduceMod, cfgP, u22, hlen], hV3, hPI2, hR⟩
        | false =>
          rw [ht, takesP_false ht, set_self hgb] at n2
          rw [if_neg (by rw [ht]; simp)] at hst
          by_cases hk5 : x.1 = 5
          · have d5 : decide (x.1 = 5) = true := decide_eq_true hk5
            rw [if_pos hk5] at hst
            obtain ⟨K3, stk3, nk, hB3, hstk⟩ := hB.key (by omega) hG.to hp (by simp [newO])
            cases hkk : (keyP s q1 (newO x).keys).1 with
            | true =>
              rw [hkk] at nk
              unfold keyed at hst
              rw [if_pos hkk] at hst
              have hmu := stS_mu hst
              simp only [PSt.ps] at hmu
              have hPI2 := PI_step hPI hst
              rw [runP_inl hst] at hR
              rw [hstk hkk] at hB3
              simp only [wk, aBuiltin, AV.cells, AV.leaf, Nat.reduceEqDiff, Nat.reduceLT, Nat.reduceAdd, Nat.reduceLeDiff, reduceCtorEq, Nat.reduceMul, Nat.reduceMod, cfgP, u22, hlen, a0, a2, a4, n1, hbxe, hpt, nb, hln, w1, hia, gc, q6, n2, q0, d5, nk]
              exact ih _ _ _ hmu ⟨_, _, _, rfl, by simp [wk, aBuiltin, AV.cells, AV.leaf, Nat.reduceEqDiff, Nat.reduceLT, Nat.reduceAdd, Nat.reduceLeDiff, reduceCtorEq, Nat.reduceMul, Nat.reduceMod, cfgP, u22, hlen], by simp [wk, aBuiltin, AV.cells, AV.leaf, Nat.reduceEqDiff, Nat.reduceLT, Nat.reduceAdd, Nat.reduceLeDiff, reduceCtorEq, Nat.reduceMul, Nat.reduceMod, cfgP, u22, hlen, a0], by simp [wk, aBuiltin, AV.cells, AV.leaf, Nat.reduceEqDiff, Nat.reduceLT, Nat.reduceAdd, Nat.reduceLeDiff, reduceCtorEq, Nat.reduceMul, Nat.reduceMod, cfgP, u22, hlen, a2], by simp [wk, aBuiltin, AV.cells, AV.leaf, Nat.reduceEqDiff, Nat.reduceLT, Nat.reduceAdd, Nat.reduceLeDiff, reduceCtorEq, Nat.reduceMul, Nat.reduceMod, cfgP, u22, hlen], hB3.vi, hPI2, hR⟩
            | false =>
              rw [hkk] at nk
              unfold keyed at hst
              rw [if_neg (by rw [hkk]; simp)] at hst
              rw [runP_inr hst] at hR
              have na := amiss_ok s _ d b base K3 hB3.hg (by have := hget_lt hB3.hg; omega)
              have hlR3 := hget_lt hB3.hr
              have hpz : Go.Abs.hput base K3 r0 0 0 [.int .i64 0, .bool false, .int .i64 0, .str [], .nilS, .nilS] = some (K3.set r0 (.cells 0 zeroC)) := by
                rw [hput_eq hB3.hr (by omega) (by simp [zeroC]) rfl, splice_all (by simp [zeroC])]; rfl
              have hlr : hget (K3.set r0 (.cells 0 zeroC)) r0 0 = some [.int .i64 0, .bool false, .int .i64 0, .str [], .nilS, .nilS] := hget_set_at hlR3
              simp only [wk, aBuiltin, AV.cells, AV.leaf, Nat.reduceEqDiff, Nat.reduceLT, Nat.reduceAdd, Nat.reduceLeDiff, reduceCtorEq, Nat.reduceMul, Nat.reduceMod, cfgP, u22, hlen, a0, a2, a4, n1, hbxe, hpt, nb, hln, w1, hia, gc, q6, n2, q0, d5, nk, na, hpz]
              subst hR
              refine ⟨_, _, hB3.vi.fin (amissP_ne _), ?_⟩
              exact Fin_raw (l := [.agg [.int .i64 0, .bool false, .int .i64 0, .str [], .nilS, .nilS], .int .i64 (amissP (keyP s q1 (newO x).keys).2)]) (by simp [wk, aBuiltin, AV.cells, AV.leaf, Nat.reduceEqDiff, Nat.reduceLT, Nat.reduceAdd, Nat.reduceLeDiff, reduceCtorEq, Nat.reduceMul, Nat.reduceMod, cfgP, u22, hlen, aResults, aResult, hlr, a2])
          · have d5 : decide (x.1 = 5) = false := decide_eq_false hk5
            rw [if_neg hk5] at hst
            have hmu := stS_mu hst
            simp only [PSt.ps] at hmu
            have hPI2 := PI_step hPI hst
            rw [runP_inl hst] at hR
            simp only [wk, aBuiltin, AV.cells, AV.leaf, Nat.reduceEqDiff, Nat.reduceLT, Nat.reduceAdd, Nat.reduceLeDiff, reduceCtorEq, Nat.reduceMul, Nat.reduceMod, cfgP, u22, hlen, a0, a2, a4, n1, hbxe, hpt, nb, hln, w1, hia, gc, q6, n2, q0, d5, none_beq]
            exact ih _ _ _ hmu ⟨_, _, _, rfl, by simp [wk, aBuiltin, AV.cells, AV.leaf, Nat.reduceEqDiff, Nat.reduceLT, Nat.reduceAdd, Nat.reduceLeDiff, reduceCtorEq, Nat.reduceMul, Nat.reduceMod, cfgP, u22, hlen], by simp [wk, aBuiltin, AV.cells, AV.leaf, Nat.reduceEqDiff, Nat.reduceLT, Nat.reduceAdd, Nat.reduceLeDiff, reduceCtorEq, Nat.reduceMul, Nat.reduceMod, cfgP, u22, hlen, a0], by simp [wk, aBuiltin, AV.cells, AV.leaf, Nat.reduceEqDiff, Nat.reduceLT, Nat.reduceAdd, Nat.reduceLeDiff, reduceCtorEq, Nat.reduceMul, Nat.reduceMod, cfgP, u22, hlen, a2], by simp [wk, aBuiltin, AV.cells, AV.leaf, Nat.reduceEqDiff, Nat.reduceLT, Nat.reduceAdd, Nat.reduceLeDiff, reduceCtorEq, Nat.reduceMul, Nat.reduceMod, cfgP, u22, hlen], hB.vi, hPI2, hR⟩
    · rw [if_neg hbe] at hst
      rw [runP_inr hst] at hR
      have nb := begin_no s q d b base Q2 hVB.hg hp v stk.length cells hSt2 hbe
      have hlR3 := hget_lt hVB.hr
      have hpz : Go.Abs.hput base Q2 r0 0 0 [.int .i64 0, .bool false, .int .i64 0, .str [], .nilS, .nilS] = some (Q2.set r0 (.cells 0 zeroC)) := by
        rw [hput_eq hVB.hr (by omega) (by simp [zeroC]) rfl, splice_all (by simp [zeroC])]; rfl
      have hlr2 : hget (Q2.set r0 (.cells 0 zeroC)) r0 0 = some [.int .i64 0, .bool false, .int .i64 0, .str [], .nilS, .nilS] := hget_set_at hlR3
      simp only [wk, aBuiltin, AV.cells, AV.leaf, Nat.reduceEqDiff, Nat.reduceLT, Nat.reduceAdd, Nat.reduceLeDiff, reduceCtorEq, Nat.reduceMul, Nat.reduceMod, cfgP, u22, hlen, a0, a2, a4, n1, hbxe, hpt, nb, hpz]
      subst hR
      refine ⟨_, _, hVB.vi.fin hbe, ?_⟩
      exact Fin_raw (l := [.agg [.int .i64 0, .bool false, .int .i64 0, .str [], .nilS, .nilS], .int .i64 (beginE q stk.length d)]) (by simp [wk, aBuiltin, AV.cells, AV.leaf, Nat.reduceEqDiff, Nat.reduceLT, Nat.reduceAdd, Nat.reduceLeDiff, reduceCtorEq, Nat.reduceMul, Nat.reduceMod, cfgP, u22, hlen, aResults, aResult, hlr2, a2])
end Go.Proofs.YtimbhlbkidmplaaDoor
/- Runes at the beginning of bytes: plain laws. -/
namespace Go.Proofs.YtimbhlbkidmplaaDoor
open Go Go.Abs AbsSeat

theorem fitsGo_app {lo hi : Int} : ∀ {a b : List UInt8}, fitsGo lo hi a = false → fitsGo lo hi (a ++ b) = false := by
  intro a
  induction a generalizing lo hi with
  | nil => intro b h; cases h
  | cons c r ih =>
    intro b h
    simp only [List.cons_append, fitsGo] at h ⊢
    split
    · rfl
    · rename_i h1; rw [if_neg h1] at h; exact ih h
theorem fitsGo_nine {lo hi : Int} (hlo : 9 < lo) : ∀ (a b : List UInt8), fitsGo lo hi (a ++ 9 :: b) = false := by
  intro a
  induction a generalizing lo hi with
  | nil => intro b; simp only [List.nil_append, fitsGo]; rw [if_pos (.inl (by simpa using hlo))]
  | cons c r ih => intro b; simp only [List.cons_append, fitsGo]; split; · rfl
                   · exact ih (by decide) b
theorem lowU_gt (c : Int) : 9 < lowU c := by unfold lowU; split <;> (try split) <;> decide
theorem nextU_zero {c : UInt8} {t : List UInt8} : (nextU (c :: t)).2.2 = 0 ↔ wantedU c.toNat ≠ 0 ∧ fitsU c (c :: t) (wantedU c.toNat) = true ∧ wantedU c.toNat ≤ (c :: t).length := by
  rw [nextU_eq rfl]
  constructor
  · intro h
    split at h
    · cases h
    · rename_i h1
      split at h
      · cases h
      · rename_i h2
        refine ⟨fun e => h1 (.inl e), ?_, by omega⟩
        cases hf : fitsU c (c :: t) (wantedU c.toNat) with
        | true => rfl
        | false => exact absurd (.inr hf) h1
  · rintro ⟨h1, h2, h3⟩
    rw [if_neg (by rw [h2]; simp [h1]), if_neg (by omega)]
theorem nextU_app {c : UInt8} {t : List UInt8} (h : (nextU ((c :: t).take 4)).2.2 = 0) (b : List UInt8) : nextU ((c :: t ++ b).take 4) = nextU ((c :: t).take 4) := by
  simp only [List.cons_append, List.take_succ_cons] at h ⊢
  obtain ⟨h1, h2, h3⟩ := nextU_zero.1 h
  have hw := wantedU_le c.toNat
  have e1 : ∀ n ≤ (c :: t.take 3).length, n ≤ 4 → (c :: (t ++ b).take 3).take n = (c :: t.take 3).take n := by
    intro n hn h4
    cases n with
    | zero => rfl
    | succ n =>
      simp only [List.take_succ_cons, List.length_cons, List.length_take] at hn ⊢
      rw [List.take_take, List.take_take, List.take_append_of_le_length (by omega)]
  have e2 := e1 _ h3 hw
  have hf : fitsU c (c :: (t ++ b).take 3) (wantedU c.toNat) = true := by unfold fitsU at h2 ⊢; rw [e2]; exact h2
  have hl : wantedU c.toNat ≤ (c :: (t ++ b).take 3).length := by simp only [List.length_cons, List.length_take, List.length_append] at h3 ⊢; omega
  rw [nextU_eq rfl, nextU_eq rfl, if_neg (by rw [hf]; simp [h1]), if_neg (by omega), if_neg (by rw [h2]; simp [h1]), if_neg (by omega)]
  have e3 : ((c :: (t ++ b).take 3).drop 1).take (wantedU c.toNat - 1) = ((c :: t.take 3).drop 1).take (wantedU c.toNat - 1) := by
    rw [← List.drop_take, ← List.drop_take, e2]
  rw [e3]
theorem nextU_bad {c : UInt8} {t : List UInt8} (h : ¬ (nextU ((c :: t).take 4)).2.2 = 0) (b : List UInt8) : ¬ (nextU ((c :: t ++ 9 :: b).take 4)).2.2 = 0 := by
  simp only [List.cons_append, List.take_succ_cons] at h ⊢
  intro h'
  obtain ⟨h1, h2, h3⟩ := nextU_zero.1 h'
  have hw := wantedU_le c.toNat
  refine h (nextU_zero.2 ⟨h1, ?_, ?_⟩)
  · unfold fitsU at h2 ⊢
    cases hf : fitsGo (lowU c.toNat) (highU c.toNat) (((c :: t.take 3).take (wantedU c.toNat)).drop 1) with
    | true => rfl
    | false =>
      obtain ⟨n, hn⟩ : ∃ n, wantedU c.toNat = n + 1 := ⟨wantedU c.toNat - 1, by omega⟩
      rw [hn] at hf h2
      simp only [List.take_succ_cons, List.drop_succ_cons, List.drop_zero, List.take_take] at hf h2
      rw [List.take_append] at h2
      rw [fitsGo_app hf] at h2
      exact h2
  · refine Nat.le_of_not_lt fun hlt => ?_
    unfold fitsU at h2
    obtain ⟨n, hn⟩ : ∃ n, wantedU c.toNat = n + 1 := ⟨wantedU c.toNat - 1, by omega⟩
    rw [hn] at hlt h2
    simp only [List.length_cons, List.length_take] at hlt
    simp only [List.take_succ_cons, List.drop_succ_cons, List.drop_zero, List.take_take] at h2
    obtain ⟨k, hk⟩ : ∃ k, min n 3 - t.length = k + 1 := ⟨min n 3 - t.length - 1, by omega⟩
    rw [List.take_append, List.take_of_length_le (by omega), hk, List.take_succ_cons, fitsGo_nine (lowU_gt _)] at h2
    cases h2
end Go.Proofs.YtimbhlbkidmplaaDoor
/- jval's parser in plain Lean: blanks around a text. -/
namespace Go.Proofs.YtimbhlbkidmplaaDoor
open Go Go.Abs AbsSeat Ty

def bl2 : List UInt8 := [9, 13]
theorem hexV_nine : ∀ (a b : List UInt8) (v : Nat), hexV (a ++ 9 :: b) v = none
  | [], b, v => by simp [hexV, hexC]
  | c :: a, b, v => by
    simp only [List.cons_append, hexV]
    split
    · rfl
    · exact hexV_nine a b _
theorem fourS_app (r b : List UInt8) : fourS (r ++ 9 :: b) = fourS r := by
  unfold fourS
  by_cases h : r.length < 4
  · rw [if_pos h]
    by_cases h2 : (r ++ 9 :: b).length < 4
    · rw [if_pos h2]
    · rw [if_neg h2]
      obtain ⟨k, hk⟩ : ∃ k, 4 - r.length = k + 1 := ⟨4 - r.length - 1, by omega⟩
      rw [List.take_append, List.take_of_length_le (by omega), hk, List.take_succ_cons, hexV_nine]
  · rw [if_neg h, if_neg (by simp; omega), List.take_append_of_le_length (by omega)]
theorem hasPre_app (x b : List UInt8) : hasPre (x ++ 9 :: b) [92, 117] = hasPre x [92, 117] := by
  unfold hasPre
  match x with
  | [] => simp
  | [c] => simp
  | c :: d :: x => simp
theorem secondS_app {v : Nat} {r : List UInt8} (hr : 4 ≤ r.length) (b : List UInt8) : secondS v (r ++ 9 :: b) = secondS v r := by
  unfold secondS
  rw [List.drop_append_of_le_length hr, hasPre_app]
  by_cases h : hasPre (r.drop 4) [92, 117] = true
  · rw [if_pos h, if_pos h]
    have h6 : 6 ≤ r.length := by
      simp only [hasPre, List.length_cons, List.length_nil, Bool.and_eq_true, decide_eq_true_eq, List.length_drop] at h
      omega
    rw [List.drop_append_of_le_length h6, fourS_app]
  · rw [if_neg h, if_neg h]
theorem codedS_app (r b : List UInt8) : codedS (r ++ 9 :: b) = codedS r := by
  unfold codedS
  rw [fourS_app]
  cases h : fourS r with
  | none => rfl
  | some v =>
    dsimp only
    rw [secondS_app (fourS_len h).1]
theorem escS_app (r b : List UInt8) : escS (r ++ 9 :: b) = escS r := by
  cases r with
  | nil => simp [escS, escC]
  | cons c t => simp only [List.cons_append, escS, codedS_app]
theorem textS_app (b : List UInt8) : ∀ (m : Nat) (r : List UInt8), r.length ≤ m → textS (r ++ 9 :: b) = textS r
  | _, [], _ => by rw [List.nil_append, textS_low b (by decide) (by decide), textS_nil]
  | 0, c :: t, h => by simp at h
  | m + 1, c :: t, hm => by
    simp only [List.length_cons] at hm
    by_cases h1 : c = 34
    · subst h1; rw [List.cons_append, textS_end, textS_end]
    by_cases h2 : c.toNat < 32
    · rw [List.cons_append, textS_low _ h1 h2, textS_low _ h1 h2]
    by_cases h3 : c = 92
    · subst h3
      rw [List.cons_append]
      have he := escS_app t b
      cases h : escS t with
      | none => rw [textS_escE (by rw [he]; exact h), textS_escE h]
      | some x =>
        obtain ⟨y, n⟩ := x
        have hp := escS_pos h
        rw [textS_esc (by rw [he]; exact h), textS_esc h, List.drop_append_of_le_length hp.2.1, textS_app b m _ (by simp; omega)]
    by_cases h4 : (nextU ((c :: t).take 4)).2.2 = 0
    · have e : nextU ((c :: (t ++ 9 :: b)).take 4) = nextU ((c :: t).take 4) := nextU_app h4 (9 :: b)
      rw [textS_rune h1 h2 h3 h4, List.cons_append, textS_rune h1 h2 h3 (by rw [e]; exact h4), e]
      obtain ⟨h5, h6, h7⟩ := nextU_zero.1 (show (nextU (c :: t.take 3)).2.2 = 0 by simpa only [List.take_succ_cons] using h4)
      have hn : (nextU ((c :: t).take 4)).2.1 = wantedU c.toNat := by
        rw [List.take_succ_cons, nextU_eq rfl, if_neg (by rw [h6]; simp [h5]), if_neg (by omega)]
      have hle : (nextU ((c :: t).take 4)).2.1 ≤ (c :: t).length := by rw [hn]; simp only [List.length_cons, List.length_take] at h7 ⊢; omega
      rw [← List.cons_append, List.drop_append_of_le_length hle, List.take_append_of_le_length hle, textS_app b m _ (by rw [hn]; simp; omega)]
    · rw [textS_bad h1 h2 h3 h4, List.cons_append, textS_bad h1 h2 h3 (by have := nextU_bad h4 b; rw [List.cons_append] at this; exact this)]
theorem runS_app {p : Int → Bool} (h9 : p 9 = false) (b : List UInt8) : ∀ r : List UInt8, runS p (r ++ 9 :: b) = runS p r
  | [] => by simp [runS, h9]
  | c :: r => by simp only [List.cons_append, runS, runS_app h9 b r]
theorem tokS_app {r : List UInt8} (hr : r ≠ []) (b : List UInt8) : tokS (r ++ 9 :: b) = tokS r := by
  cases r with
  | nil => exact absurd rfl hr
  | cons c t =>
    have h1 := textS_app b _ t (Nat.le_refl _)
    have h2 := runS_app (p := numericC) (by decide) b (c :: t)
    have h3 := runS_app (p := wordyC) (by decide) b (c :: t)
    have h4 : (c :: (t ++ 9 :: b)).take (runS numericC (c :: t)) = (c :: t).take (runS numericC (c :: t)) := by
      rw [← List.cons_append, List.take_append_of_le_length (runS_le _ _)]
    have h5 : (c :: (t ++ 9 :: b)).take (runS wordyC (c :: t)) = (c :: t).take (runS wordyC (c :: t)) := by
      rw [← List.cons_append, List.take_append_of_le_length (runS_le _ _)]
    rw [List.cons_append] at h2 h3 ⊢
    simp only [tokS, h1, h2, h3, h4, h5]
/-- what comes next. -/
def nxt (r : List UInt8) : TkR := tokS (r.drop (runS blankC r))
theorem runS_all {p : Int → Bool} {r : List UInt8} (h : r.drop (runS p r) = []) {b : List UInt8} : runS p (r ++ b) = r.length + runS p b := by
  induction r with
  | nil => simp
  | cons c r ih =>
    simp only [List.cons_append, runS] at h ⊢
    split
    · rename_i h1
      rw [if_pos h1, List.drop_succ_cons] at h
      rw [ih h]; simp; omega
    · rename_i h1
      rw [if_neg h1] at h
      cases h
theorem runS_some {p : Int → Bool} {r : List UInt8} (h : r.drop (runS p r) ≠ []) {b : List UInt8} : runS p (r ++ b) = runS p r := by
  induction r with
  | nil => exact absurd rfl h
  | cons c r ih =>
    simp only [List.cons_append, runS] at h ⊢
    split
    · rename_i h1
      rw [if_pos h1, List.drop_succ_cons] at h
      rw [ih h]
    · rfl
theorem drop_bl2 : bl2.drop (runS blankC bl2) = [] := by decide
theorem nxt_app (r : List UInt8) : nxt (r ++ bl2) = nxt r := by
  unfold nxt
  by_cases h : r.drop (runS blankC r) = []
  · rw [runS_all h, h, List.drop_append, List.drop_of_length_le (by omega)]
    have : r.length + runS blankC bl2 - r.length = runS blankC bl2 := by omega
    rw [this, drop_bl2]; rfl
  · rw [runS_some h, List.drop_append_of_le_length (runS_le _ _)]
    exact tokS_app h [13]
def wrap2 (s : List UInt8) : List UInt8 := 32 :: 10 :: (s ++ bl2)
theorem nxt_two (r : List UInt8) : nxt (32 :: 10 :: r) = nxt r := by
  unfold nxt
  have e : runS blankC (32 :: 10 :: r) = runS blankC r + 2 := by
    simp only [runS, show blankC (UInt8.toNat 32) = true from by decide, show blankC (UInt8.toNat 10) = true from by decide, if_true]
  rw [e]; rfl
/-- two parsers, the second one over the text with blanks around. -/
structure Rel (s : List UInt8) (p q : Ps) : Prop where
  kind : q.kind = p.kind
  text : q.text = p.text
  n : q.n = p.n
  e : q.e = p.e
  to : p.to ≤ s.length
  to2 : q.to = p.to + 2 ∨ (q.to = 0 ∧ p.to = 0)
  place : placeP s p ≤ placeP (wrap2 s) q
theorem stepP_rel {s : List UInt8} {p q : Ps} (hto : p.to ≤ s.length) (h2 : q.to = p.to + 2 ∨ (q.to = 0 ∧ p.to = 0)) : Rel s (stepP s p) (stepP (wrap2 s) q) := by
  have key : nxt ((wrap2 s).drop q.to) = nxt (s.drop p.to) ∧ (nxt (s.drop p.to) ≠ .bad 6 → q.to + runS blankC ((wrap2 s).drop q.to) = p.to + runS blankC (s.drop p.to) + 2) := by
    have hrun : nxt (s.drop p.to) ≠ .bad 6 → (s.drop p.to).drop (runS blankC (s.drop p.to)) ≠ [] := fun h e => h (by unfold nxt; rw [e]; rfl)
    rcases h2 with h | ⟨h, h0⟩
    · have e : (wrap2 s).drop q.to = s.drop p.to ++ bl2 := by
        rw [h]; simp only [wrap2, List.drop_succ_cons]; rw [List.drop_append_of_le_length hto]
      rw [e]
      refine ⟨nxt_app _, fun hn => ?_⟩
      rw [runS_some (hrun hn)]; omega
    · have e : (wrap2 s).drop q.to = 32 :: 10 :: (s.drop p.to ++ bl2) := by rw [h, h0]; rfl
      rw [e, nxt_two]
      refine ⟨nxt_app _, fun hn => ?_⟩
      simp only [runS, show blankC (UInt8.toNat 32) = true from by decide, show blankC (UInt8.toNat 10) = true from by decide, if_true]
      rw [runS_some (hrun hn)]; omega
  obtain ⟨k1, k2⟩ := key
  have hu : ∀ (x : List UInt8) (y : Ps), stepP x y = match nxt (x.drop y.to) with
      | .bad e => ⟨0, 0, y.to, [], 0, e, y.to⟩
      | .tok t => ⟨t.kind, y.to + runS blankC (x.drop y.to), y.to + runS blankC (x.drop y.to) + t.len, t.text, t.n, 0, y.to⟩ := fun _ _ => rfl
  have hst := stepP_GP hto
  rw [hu] at hst ⊢
  rw [hu, k1]
  cases hn : nxt (s.drop p.to) with
  | bad e =>
    rw [hn] at k2 k1
    dsimp only at k2 ⊢
    refine ⟨rfl, rfl, rfl, rfl, hto, h2, ?_⟩
    have he := tokS_ne hn
    unfold placeP
    rw [if_neg he, if_neg he]
    dsimp only
    rw [allS_bad hn, allS_bad k1]
    dsimp only
    rw [if_pos rfl, if_pos rfl]
    by_cases h6 : e = 6
    · rw [if_pos h6, if_pos h6]
      simp only [wrap2, List.length_drop, List.length_cons, List.length_append]
      rcases h2 with h | ⟨h, h0⟩ <;> omega
    · rw [if_neg h6, if_neg h6]
      have := k2 (fun e1 => h6 (by injection e1))
      omega
  | tok t =>
    rw [hn] at k2 hst
    have k3 := k2 (by simp)
    dsimp only at k3 hst ⊢
    refine ⟨rfl, rfl, rfl, rfl, hst.to, .inl (by dsimp only; omega), ?_⟩
    unfold placeP
    dsimp only
    rw [if_pos rfl, if_pos rfl]; omega
theorem Rel.step {s : List UInt8} {p q : Ps} (h : Rel s p q) : Rel s (stepP s p) (stepP (wrap2 s) q) := stepP_rel h.to h.to2
theorem Rel.takes {s : List UInt8} {p q : Ps} (h : Rel s p q) (k : Int) : (takesP (wrap2 s) q k).1 = (takesP s p k).1 ∧ Rel s (takesP s p k).2 (takesP (wrap2 s) q k).2 := by
  unfold takesP
  rw [h.e, h.kind]
  split
  · exact ⟨rfl, h.step⟩
  · exact ⟨rfl, h⟩
theorem Rel.key {s : List UInt8} {p q : Ps} (h : Rel s p q) (ks : List (List UInt8)) : (keyP (wrap2 s) q ks).1 = (keyP s p ks).1 ∧ Rel s (keyP s p ks).2 (keyP (wrap2 s) q ks).2 := by
  unfold keyP
  rw [h.e, h.kind, h.text]
  split
  · exact h.step.takes 5
  · exact ⟨rfl, h⟩
theorem Rel.plain {s : List UInt8} {p q : Ps} (h : Rel s p q) : plainJ q = plainJ p := by unfold plainJ; rw [h.e, h.kind, h.text, h.n]
theorem Rel.amiss {s : List UInt8} {p q : Ps} (h : Rel s p q) : amissP q = amissP p := by unfold amissP; rw [h.e]
theorem Rel.beginK {s : List UInt8} {p q : Ps} (h : Rel s p q) : beginK q = beginK p := by unfold Go.Proofs.YtimbhlbkidmplaaDoor.beginK; rw [h.kind]
theorem Rel.beginE {s : List UInt8} {p q : Ps} (h : Rel s p q) (n : Nat) (d : Int) : beginE q n d = beginE p n d := by unfold Go.Proofs.YtimbhlbkidmplaaDoor.beginE; rw [h.e, h.beginK, h.amiss]
inductive RelSt (s : List UInt8) : PSt → PSt → Prop where
  | outer {p q : Ps} (h : Rel s p q) (stk : List OE) : RelSt s (.outer p stk) (.outer q stk)
  | inner {p q : Ps} (h : Rel s p q) (v : JV) (stk : List OE) : RelSt s (.inner p v stk) (.inner q v stk)
inductive RelR (s : List UInt8) : PRes → PRes → Prop where
  | ok {p q : Ps} (h : Rel s p q) (v : JV) : RelR s (.ok v p) (.ok v q)
  | bad {p q : Ps} (h : Rel s p q) (e : Int) : RelR s (.bad e p) (.bad e q)
inductive RelS (s : List UInt8) : PSt ⊕ PRes → PSt ⊕ PRes → Prop where
  | inl {a b : PSt} (h : RelSt s a b) : RelS s (.inl a) (.inl b)
  | inr {a b : PRes} (h : RelR s a b) : RelS s (.inr a) (.inr b)
theorem Rel.keyed {s : List UInt8} {p q : Ps} (h : Rel s p q) (o : OE) (r : List OE) : RelS s (keyed s p o r) (keyed (wrap2 s) q o r) := by
  unfold Go.Proofs.YtimbhlbkidmplaaDoor.keyed
  obtain ⟨h1, h2⟩ := h.key o.keys
  rw [h1]
  split
  · rw [h.text]; exact .inl (.outer h2 _)
  · rw [h2.amiss]; exact .inr (.bad h2 _)
theorem RelSt.step {s : List UInt8} {d : Int} {a b : PSt} (h : RelSt s a b) : RelS s (stS s d a) (stS (wrap2 s) d b) := by
  cases h with
  | @outer p q h stk =>
    simp only [stS, outerS, h.plain, h.beginE, h.beginK]
    cases hpl : plainJ p with
    | some v => exact .inl (.inner h.step v stk)
    | none =>
      dsimp only
      split
      · cases hk : Go.Proofs.YtimbhlbkidmplaaDoor.beginK p with
        | none => exact .inr (.bad h 3)
        | some x =>
          dsimp only
          obtain ⟨h1, h2⟩ := h.step.takes x.2
          rw [h1]
          split
          · exact .inl (.inner h2 _ stk)
          · split
            · exact h.step.keyed _ _
            · exact .inl (.outer h.step _)
      · exact .inr (.bad h _)
  | @inner p q h v stk =>
    cases stk with
    | nil => exact .inr (.ok h v)
    | cons o r =>
      simp only [stS, innerS]
      obtain ⟨h1, h2⟩ := h.takes o.end_
      obtain ⟨h3, h4⟩ := h.takes 6
      rw [h1, h3, h.amiss]
      split
      · exact .inl (.inner h2 _ r)
      · split
        · split
          · exact h4.keyed _ _
          · exact .inl (.outer h4 _)
        · exact .inr (.bad h _)
theorem RelSt.run {s : List UInt8} {d : Int} : ∀ (a b : PSt), RelSt s a b → RelR s (runP s d a) (runP (wrap2 s) d b) := by
  intro a
  generalize hm : mu s a.ps = m
  induction m using Nat.strongRecOn generalizing a with
  | _ m ih =>
    intro b h
    have hs := h.step (d := d)
    cases e1 : stS s d a with
    | inl a' =>
      rw [e1] at hs
      cases e2 : stS (wrap2 s) d b with
      | inl b' =>
        rw [e2] at hs
        cases hs with
        | inl h' => rw [runP_inl e1, runP_inl e2]; exact ih _ (hm ▸ stS_mu e1) a' rfl b' h'
      | inr b' => rw [e2] at hs; cases hs
    | inr a' =>
      rw [e1] at hs
      cases e2 : stS (wrap2 s) d b with
      | inl b' => rw [e2] at hs; cases hs
      | inr b' =>
        rw [e2] at hs
        cases hs with
        | inr h' => rw [runP_inr e1, runP_inr e2]; exact h'
def ps0 : Ps := ⟨0, 0, 0, [], 0, 0, 0⟩
def zeroJ : JV := .mk 0 false 0 [] 0 [] 0 []
/-- what Parse answers: a value, where, why not. -/
def parseJ (s : List UInt8) (d : Int) : JV × Nat × Int :=
  match runP s d (.outer (stepP s ps0) []) with
  | .bad e p => (zeroJ, placeP s p, e)
  | .ok v p => if p.e = 6 then (v, s.length, 0) else (zeroJ, placeP s p, amissP p)
theorem parseJ_blanks (s : List UInt8) (d : Int) : (parseJ (wrap2 s) d).2.2 = (parseJ s d).2.2 ∧ (parseJ (wrap2 s) d).1 = (parseJ s d).1 ∧ ((parseJ s d).2.2 ≠ 0 → (parseJ s d).2.1 ≤ (parseJ (wrap2 s) d).2.1) ∧ ((parseJ s d).2.2 = 0 → (parseJ (wrap2 s) d).2.1 = s.length + 4) := by
  have h := RelSt.run (s := s) (d := d) _ _ (.outer (stepP_rel (s := s) (p := ps0) (q := ps0) (Nat.zero_le _) (.inr ⟨rfl, rfl⟩)) [])
  have hI : ROk s d (runP s d (.outer (stepP s ps0) [])) := runP_ok ⟨stepP_GP (Nat.zero_le _), trivial⟩
  unfold parseJ
  generalize runP s d (.outer (stepP s ps0) []) = A at *
  generalize runP (wrap2 s) d (.outer (stepP (wrap2 s) ps0) []) = B at *
  cases h with
  | ok h v =>
    dsimp only
    rw [h.e, h.amiss]
    split
    · exact ⟨rfl, rfl, fun e => absurd rfl e, fun _ => by simp [wrap2, bl2]⟩
    · exact ⟨rfl, rfl, fun _ => h.place, fun e => absurd e (amissP_ne _)⟩
  | bad h e => exact ⟨rfl, rfl, fun _ => h.place, fun e0 => absurd e0 hI.1⟩
theorem parseJ_ok (s : List UInt8) (d : Int) : ((parseJ s d).2.2 = 0 → VOk s d 0 (parseJ s d).1 ∧ (parseJ s d).2.1 = s.length) ∧ ((parseJ s d).2.2 ≠ 0 → (parseJ s d).1 = zeroJ) ∧ (parseJ s d).2.1 ≤ s.length := by
  have hI : ROk s d (runP s d (.outer (stepP s ps0) [])) := runP_ok ⟨stepP_GP (Nat.zero_le _), trivial⟩
  have hpl : ∀ p, GP s p → placeP s p ≤ s.length := by
    intro p hp
    unfold placeP
    have := allS_le _ 0 (s.drop p.at_) (Nat.le_refl _)
    have := hp.at_
    have := hp.frm
    simp only [List.length_drop] at *
    split
    · assumption
    · split <;> omega
  unfold parseJ
  generalize runP s d (.outer (stepP s ps0) []) = A at *
  cases A with
  | ok v p =>
    dsimp only
    split
    · exact ⟨fun _ => ⟨hI.1, rfl⟩, fun e => absurd rfl e, Nat.le_refl _⟩
    · exact ⟨fun e => absurd e (amissP_ne _), fun _ => rfl, hpl p hI.2⟩
  | bad e p => exact ⟨fun e0 => absurd e0 hI.1, fun _ => rfl, hpl p hI.2⟩
end Go.Proofs.YtimbhlbkidmplaaDoor
