import Derived.Test.YtnipaiklandliaaGreatDoorM1LabelText
import Derived.Test.YtnipaiklandliaaGreatDoorAbsMore
/-! Part 2 of the proof of LabelText: the texts Alert1 Prs Label4 Un Jt6 E1 E2 E3 Jt1 Jt2. -/
set_option linter.unusedSimpArgs false
/- Chapters 14, 22: pairs, sets and alerts as a law takes them, walked. -/
namespace Go.Proofs.YtnipaiklandliaaGreatDoor
open Go Go.Abs AbsSeat Ty

theorem u13 : type_of% (And.intro (show tagT Tryz.prog 27 = 0 from by kernel_rfl) (And.intro (show tagT Tryz.prog 59 = 0 from by kernel_rfl) (And.intro ag1 (And.intro sz1 (And.intro by1 (And.intro ze1 (And.intro Tryz.underlying1 (And.intro ag3 (And.intro sz3 (And.intro by3 (And.intro ze3 (And.intro Tryz.underlying3 (And.intro ag9 (And.intro sz9 (And.intro by9 (And.intro ze9 (And.intro Tryz.underlying9 (And.intro ag22 (And.intro sz22 (And.intro by22 (And.intro se22 (And.intro ze22 (And.intro Tryz.underlying22 (And.intro ag23 (And.intro sz23 (And.intro by23 (And.intro se23 (And.intro ze23 (And.intro Tryz.underlying23 (And.intro ag27 (And.intro sz27 (And.intro by27 (And.intro ze27 (And.intro bu27 (And.intro Tryz.underlying27 (And.intro ag58 (And.intro sz58 (And.intro by58 (And.intro ze58 (And.intro bu58 (And.intro Tryz.underlying58 (And.intro ag59 (And.intro sz59 (And.intro by59 (And.intro ze59 (And.intro bu59 (And.intro Tryz.underlying59 (And.intro fa27_0 (And.intro fd27_0 (And.intro fa59_0 (And.intro fd59_0 (And.intro fa59_1 fd59_1)))))))))))))))))))))))))))))))))))))))))))))))))))) := And.intro (show tagT Tryz.prog 27 = 0 from by kernel_rfl) (And.intro (show tagT Tryz.prog 59 = 0 from by kernel_rfl) (And.intro ag1 (And.intro sz1 (And.intro by1 (And.intro ze1 (And.intro Tryz.underlying1 (And.intro ag3 (And.intro sz3 (And.intro by3 (And.intro ze3 (And.intro Tryz.underlying3 (And.intro ag9 (And.intro sz9 (And.intro by9 (And.intro ze9 (And.intro Tryz.underlying9 (And.intro ag22 (And.intro sz22 (And.intro by22 (And.intro se22 (And.intro ze22 (And.intro Tryz.underlying22 (And.intro ag23 (And.intro sz23 (And.intro by23 (And.intro se23 (And.intro ze23 (And.intro Tryz.underlying23 (And.intro ag27 (And.intro sz27 (And.intro by27 (And.intro ze27 (And.intro bu27 (And.intro Tryz.underlying27 (And.intro ag58 (And.intro sz58 (And.intro by58 (And.intro ze58 (And.intro bu58 (And.intro Tryz.underlying58 (And.intro ag59 (And.intro sz59 (And.intro by59 (And.intro ze59 (And.intro bu59 (And.intro Tryz.underlying59 (And.intro fa27_0 (And.intro fd27_0 (And.intro fa59_0 (And.intro fd59_0 (And.intro fa59_1 fd59_1)))))))))))))))))))))))))))))))))))))))))))))))))))
def g13 : Code :=
  .seq (.region 0 #[q 4 (.assign (.const (.bool false))) 4] false) (.seq (.seq (.region 1 #[q 6 (.move (.tmp 0)) 22, q 7 (bi .len #[.tmp 6] #[22]) 3, q 8 (.move (.tmp 1)) 22, q 9 (bi .len #[.tmp 8] #[22]) 3, q 10 (.binOp .neq 3 (.tmp 7) (.tmp 9) 3) 4] false) (.cond (.tmp 10) (.seq (.region 2 #[q 4 (.assign (.const (.bool false))) 4] false) .ret) .skip)) (.seq (.seq (.region 3 #[q 11 (.move (.tmp 0)) 22, q 12 (bi .len #[.tmp 11] #[22]) 3, q 13 (.move (ik 0)) 3] false) (.block 0 (.loop (.seq (.region 4 #[q 14 (.binOp .lss 3 (.tmp 13) (.tmp 12) 3) 0] false) (.seq (.cond (.tmp 14) .skip (.exit 0)) (.seq (.block 1 (.seq (.region 5 #[q 15 (.move (.tmp 13)) 3, q 5 (.assign (.tmp 15)) 3] false) (.seq (.region 6 #[q 16 (.move (.tmp 0)) 22, q 17 (.move (.tmp 5)) 3, q 18 (.indexAddr 22 (.tmp 16) (.tmp 17)) 0, q 19 (.load 58 (.tmp 18)) 58, q 20 (.move (.tmp 1)) 22, q 21 (.move (.tmp 5)) 3, q 22 (.indexAddr 22 (.tmp 20) (.tmp 21)) 0, q 23 (.load 58 (.tmp 22)) 58, q 24 (.binOp .neq 58 (.tmp 19) (.tmp 23) 58) 4] false) (.cond (.tmp 24) (.seq (.region 7 #[q 4 (.assign (.const (.bool false))) 4] false) .ret) .skip)))) (.region 8 #[q 25 (.binOp .add 3 (.tmp 13) (ik 1) 3) 3, q 13 (.move (.tmp 25)) 3] false))))))) (.seq (.region 9 #[q 4 (.assign (.const (.bool true))) 4] false) .ret)))
theorem s13 : Tryz.f13.body.map (slim cfg) = some g13 := by kernel_rfl
def g45 : Code :=
  .seq (.region 0 #[q 1 (.box 27 (.tmp 0)) 0, q 2 (.assign (.const (.slice none 0 0))) 23] false) (.seq (.region 1 #[q 3 (.fieldAddr 27 (.tmp 1) 0) 0, q 4 (.load 23 (.tmp 3)) 23, q 5 (cl 32 #[.tmp 4] #[23]) 23, q 2 (.assign (.tmp 5)) 23] false) .ret)
theorem s45 : Tryz.f45.body.map (slim cfg) = some g45 := by kernel_rfl
def g14 : Code :=
  .seq (.region 0 #[q 1 (.box 27 (.tmp 0)) 0, q 2 (.assign (.const (.slice none 0 0))) 22] false) (.seq (.region 1 #[q 3 (.assign (.const (.slice none 0 0))) 22] false) (.seq (.seq (.region 2 #[q 6 (.load 27 (.tmp 1)) 27, q 7 (cl 45 #[.tmp 6] #[27]) 23, q 8 (bi .len #[.tmp 7] #[23]) 3, q 9 (.move (ik 0)) 3] false) (.block 0 (.loop (.seq (.region 3 #[q 10 (.binOp .lss 3 (.tmp 9) (.tmp 8) 3) 0] false) (.seq (.cond (.tmp 10) .skip (.exit 0)) (.seq (.block 1 (.seq (.region 4 #[q 11 (.indexAddr 23 (.tmp 7) (.tmp 9)) 0, q 12 (.load 59 (.tmp 11)) 59, q 5 (.alloc 59) 0, qn (.store 59 (.tmp 5) (.tmp 12)) 0] false) (.region 5 #[q 13 (.move (.tmp 3)) 22, q 14 (.fieldAddr 59 (.tmp 5) 0) 0, q 15 (.load 9 (.tmp 14)) 9, q 16 (.fieldAddr 59 (.tmp 5) 1) 0, q 17 (.load 9 (.tmp 16)) 9, q 18 (.build 58 #[(0, .tmp 15), (1, .tmp 17)]) 58, q 19 (.buildSlice 22 1 #[(0, .tmp 18)]) 22, q 20 (bi .append #[.tmp 13, .tmp 19] #[22, 22]) 22, q 3 (.assign (.tmp 20)) 22] false))) (.region 6 #[q 21 (.binOp .add 3 (.tmp 9) (ik 1) 3) 3, q 9 (.move (.tmp 21)) 3] false))))))) (.seq (.region 7 #[q 22 (.move (.tmp 3)) 22, q 2 (.assign (.tmp 22)) 22] false) .ret)))
theorem s14 : Tryz.f14.body.map (slim cfg) = some g14 := by kernel_rfl

theorem rowRp : RowT Tryz.prog 22 58 2 32 true where
  un := Tryz.underlying22
  size := sz58
  bytes := by58
  agg := ag58
  zero := ⟨_, ze58, rfl⟩
  pos := by decide
  tree := rfl
theorem litRp (x : Pr) (H : Heap) : aBuildSlice Tryz.prog H 22 1 [(0, .agg [.str x.name, .str x.val])] = some (.vs ([x].map encP) true, none) := lit1 rowRp encP_T ze58 rfl (by decide) x rfl
theorem litPp (x : Pr) (H : Heap) : aBuildSlice Tryz.prog H 23 1 [(0, .agg [.str x.name, .str x.val])] = some (.vs ([x].map encP) true, none) := lit1 rowPr encP_T ze59 rfl (by decide) x rfl
theorem Sl.leaf {v : AV} {l : List Pr} (h : Sl encP v l) : v.leaf = true := by cases h <;> rfl

theorem eqFsP (a : Pr) : EqFs Tryz.prog 9999 #[.string ⟨a.name.toArray⟩, .string ⟨a.val.toArray⟩] #[.string ⟨a.name.toArray⟩, .string ⟨a.val.toArray⟩]
    [{ name := "Name", type := 9, offset := 0, embedded := false, tag := "", pkgPath := "", byteOffset := 0 }, { name := "Value", type := 9, offset := 1, embedded := false, tag := "", pkgPath := "", byteOffset := 16 }] (((⟨a.name.toArray⟩ : ByteArray) == ⟨a.name.toArray⟩) && (((⟨a.val.toArray⟩ : ByteArray) == ⟨a.val.toArray⟩) && true)) :=
  .cons (by decide) (pureOf_part (by kernel_rfl) rfl) (pureOf_part (by kernel_rfl) rfl) (equalIn_str Tryz.underlying9 _ _ _)
    (.cons (by decide) (pureOf_part (by kernel_rfl) rfl) (pureOf_part (by kernel_rfl) rfl) (equalIn_str Tryz.underlying9 _ _ _) .nil)
theorem nePr (a : Pr) (xo yo : Operand) : aBin Tryz.prog .neq 58 xo yo (.agg [.str a.name, .str a.val]) (.agg [.str a.name, .str a.val]) = some (.bool false) := by
  have h := bin_agg_ne (xo := xo) (yo := yo) Tryz.underlying58 (by kernel_rfl) (by kernel_rfl) (cs := [.str a.name, .str a.val]) (ds := [.str a.name, .str a.val]) rfl rfl (eqFsP a)
  rw [h]
  have e1 : ∀ s : List UInt8, ((⟨s.toArray⟩ : ByteArray) == ⟨s.toArray⟩) = true := fun s => by
    show (s.toArray == s.toArray) = true
    simp
  simp [e1]


theorem lsame_ok (l : List Pr) (v w : AV) (hv : Sl encP v l) (hw : Sl encP w l) (hl : l.length < 1000000) (prot : Nat) (H : Heap) (hp : prot ≤ H.length) :
    aLim cfg prot 13 [v, w] H = some (.bool true, none) := by
  have hsnap : snap H [v, w] = some ([v, w], false) := by cases hv <;> cases hw <;> rfl
  refine pure_slim rfl (by kernel_rfl) Tryz.func13 s13 hp hsnap (by simp [Tryz.f13]) fun fr hlen h => ?_
  simp only [Has, Nat.zero_add] at h
  obtain ⟨a0, a1, -⟩ := h
  simp only [Tryz.f13] at hlen ⊢
  unfold g13
  simp only [wk, aBuiltin, AV.cells, AV.leaf, Nat.reduceEqDiff, Nat.reduceLT, Nat.reduceAdd, Nat.reduceLeDiff, reduceCtorEq, Nat.reduceMul, Nat.reduceMod, cfgP, u13, hlen, a0, a1, hv.len Tryz.underlying22, hw.len Tryz.underlying22]
  refine loop_rule (fun m fr H' => ∃ (i : Nat), m = l.length - i ∧ i ≤ l.length ∧ fr.length = 26 ∧ fget fr 0 = v ∧ fget fr 1 = w ∧ fget fr 12 = .int .i64 l.length ∧ fget fr 13 = .int .i64 i ∧ H.length ≤ H'.length) ?_ l.length _ _ ⟨0, by simp [wk, aBuiltin, AV.cells, AV.leaf, Nat.reduceEqDiff, Nat.reduceLT, Nat.reduceAdd, Nat.reduceLeDiff, reduceCtorEq, Nat.reduceMul, Nat.reduceMod, cfgP, u13, hlen, a0, a1]⟩
  rintro m fr H' ⟨i, rfl, hi, hlen, a0, a1, a12, a13, hH⟩ ih
  simp only [wk, aBuiltin, AV.cells, AV.leaf, Nat.reduceEqDiff, Nat.reduceLT, Nat.reduceAdd, Nat.reduceLeDiff, reduceCtorEq, Nat.reduceMul, Nat.reduceMod, cfgP, u13, hlen, a0, a1, a12, a13]
  refine RC_split (fun h => ?_) (fun h => ?_)
  · have hlt : i < l.length := by simpa using h
    have hww : IntKind.i64.wrap ((i : Int) + 1) = ((i + 1 : Nat) : Int) := by rw [wrap64 (by omega) (by omega)]; simp
    have e1 := hv.at (k := .i64) Tryz.underlying22 sz58 encP_len hlt
    have e2 := hw.at (k := .i64) Tryz.underlying22 sz58 encP_len hlt
    generalize l[i] = x at *
    simp only [wk, aBuiltin, AV.cells, AV.leaf, Nat.reduceEqDiff, Nat.reduceLT, Nat.reduceAdd, Nat.reduceLeDiff, reduceCtorEq, Nat.reduceMul, Nat.reduceMod, cfgP, u13, hlen, a0, a1, a12, a13, e1, e2, encP, hH, nePr, hww]
    refine ih _ _ (l.length - (i + 1)) (by omega) ⟨i + 1, rfl, hlt, ?_⟩
    simp [wk, aBuiltin, AV.cells, AV.leaf, Nat.reduceEqDiff, Nat.reduceLT, Nat.reduceAdd, Nat.reduceLeDiff, reduceCtorEq, Nat.reduceMul, Nat.reduceMod, cfgP, u13, hlen, a0, a1, a12, a13, hH]
  · simp only [wk, aBuiltin, AV.cells, AV.leaf, Nat.reduceEqDiff, Nat.reduceLT, Nat.reduceAdd, Nat.reduceLeDiff, reduceCtorEq, Nat.reduceMul, Nat.reduceMod, cfgP, u13, hlen, a0, a1, a12, a13]
    exact Fin_pure (l := [.bool true]) (by simp [wk, aBuiltin, AV.cells, AV.leaf, Nat.reduceEqDiff, Nat.reduceLT, Nat.reduceAdd, Nat.reduceLeDiff, reduceCtorEq, Nat.reduceMul, Nat.reduceMod, cfgP, u13, aResults, aResult, hlen]) (.still rfl) (by simp)


theorem setPairs_ok (l : List Pr) (v : AV) (hv : Sl encP v l) (hl : l.length < 1000000) (prot : Nat) (H : Heap) (hp : prot ≤ H.length) :
    ∃ w, Sl encP w l ∧ aLim cfg prot 45 [.agg [v]] H = some (w, none) := by
  have hsnap : snap H [.agg [v]] = some ([.agg [v]], false) := rfl
  have hlf := Sl.leaf hv
  unfold AV.leaf at hlf
  by_cases hz : l = []
  · subst hz
    have hk : v = .nilS ∨ (∃ es f, v = .vs es f) ∨ ∃ s, v = .bs s := by cases hv with | nil => exact .inl rfl | vs _ f => exact .inr (.inl ⟨_, _, rfl⟩)
    obtain ⟨o, ho, n1⟩ := pclone_none v H.length (H ++ [Blk.cells 0 [v]]) (hv.elems encP_T _) hk
    refine ⟨o, by rcases ho with rfl | rfl; exact .nil; exact .vs [] true, ?_⟩
    rcases ho with rfl | rfl
    · refine pure_slim rfl (by kernel_rfl) Tryz.func45 s45 hp hsnap (by simp [Tryz.f45]) fun fr hlen h => ?_
      simp only [Has, Nat.zero_add] at h
      obtain ⟨a0, -⟩ := h
      simp only [Tryz.f45] at hlen ⊢
      unfold g45
      simp only [wk, aBuiltin, AV.cells, AV.leaf, Nat.reduceEqDiff, Nat.reduceLT, Nat.reduceAdd, Nat.reduceLeDiff, reduceCtorEq, Nat.reduceMul, Nat.reduceMod, cfgP, u13, hlen, a0, hlf, n1]
      exact Fin_pure (l := [.nilS]) (by simp [wk, aBuiltin, AV.cells, AV.leaf, Nat.reduceEqDiff, Nat.reduceLT, Nat.reduceAdd, Nat.reduceLeDiff, reduceCtorEq, Nat.reduceMul, Nat.reduceMod, cfgP, u13, aResults, aResult, hlen]) (.still rfl) (by simp)
    · refine pure_slim rfl (by kernel_rfl) Tryz.func45 s45 hp hsnap (by simp [Tryz.f45]) fun fr hlen h => ?_
      simp only [Has, Nat.zero_add] at h
      obtain ⟨a0, -⟩ := h
      simp only [Tryz.f45] at hlen ⊢
      unfold g45
      simp only [wk, aBuiltin, AV.cells, AV.leaf, Nat.reduceEqDiff, Nat.reduceLT, Nat.reduceAdd, Nat.reduceLeDiff, reduceCtorEq, Nat.reduceMul, Nat.reduceMod, cfgP, u13, hlen, a0, hlf, n1]
      exact Fin_pure (l := [.vs [] true]) (by simp [wk, aBuiltin, AV.cells, AV.leaf, Nat.reduceEqDiff, Nat.reduceLT, Nat.reduceAdd, Nat.reduceLeDiff, reduceCtorEq, Nat.reduceMul, Nat.reduceMod, cfgP, u13, aResults, aResult, hlen]) (.still rfl) (by simp)
  · have hk : (∃ es f, v = .vs es f) ∨ ∃ s, v = .bs s := by
      cases hv with
      | nil => exact absurd rfl hz
      | vs _ f => exact .inl ⟨_, _, rfl⟩
    have n1 := pclone_some l v hz hl H.length (H ++ [Blk.cells 0 [v]]) (hv.elems encP_T _) hk
    refine ⟨.vs (l.map encP) false, .vs l false, ?_⟩
    refine pure_slim rfl (by kernel_rfl) Tryz.func45 s45 hp hsnap (by simp [Tryz.f45]) fun fr hlen h => ?_
    simp only [Has, Nat.zero_add] at h
    obtain ⟨a0, -⟩ := h
    simp only [Tryz.f45] at hlen ⊢
    unfold g45
    simp only [wk, aBuiltin, AV.cells, AV.leaf, Nat.reduceEqDiff, Nat.reduceLT, Nat.reduceAdd, Nat.reduceLeDiff, reduceCtorEq, Nat.reduceMul, Nat.reduceMod, cfgP, u13, hlen, a0, hlf, n1]
    have hr : Row encP 2 true H.length (H ++ [Blk.cells 0 [v]] ++ [Blk.cells 0 (cellsOf encP l)]) (.bs ⟨(H ++ [Blk.cells 0 [v]]).length, 0, 0, l.length, 0, 2, true, false⟩) l := .inr ⟨_, 0, rfl, by simp, by rw [hget_new rfl]; rfl, rfl⟩
    have hf := hr.frozen encP_T (by decide) rfl (.inr hz)
    have e : slv encP l = .vs (l.map encP) false := by cases l with | nil => exact absurd rfl hz | cons y r => rfl
    rw [e] at hf
    exact Fin_pure (l := [.bs ⟨(H ++ [Blk.cells 0 [v]]).length, 0, 0, l.length, 0, 2, true, false⟩]) (by simp [wk, aBuiltin, AV.cells, AV.leaf, Nat.reduceEqDiff, Nat.reduceLT, Nat.reduceAdd, Nat.reduceLeDiff, reduceCtorEq, Nat.reduceMul, Nat.reduceMod, cfgP, u13, hlen, aResults, aResult]) hf (by simp)


theorem plain14_ok (l : List Pr) (v : AV) (hv : Sl encP v l) (hl : l.length < 1000000) (prot : Nat) (H : Heap) (hp : prot ≤ H.length) :
    aLim cfg prot 14 [.agg [v]] H = some (slv encP l, none) := by
  have hsnap : snap H [.agg [v]] = some ([.agg [v]], false) := rfl
  have hlf := Sl.leaf hv
  unfold AV.leaf at hlf
  obtain ⟨w, hw, n1⟩ := setPairs_ok l v hv hl H.length (H ++ [Blk.cells 0 [v]]) (by simp)
  refine pure_slim rfl (by kernel_rfl) Tryz.func14 s14 hp hsnap (by simp [Tryz.f14]) fun fr hlen h => ?_
  simp only [Has, Nat.zero_add] at h
  obtain ⟨a0, -⟩ := h
  simp only [Tryz.f14] at hlen ⊢
  unfold g14
  simp only [wk, aBuiltin, AV.cells, AV.leaf, Nat.reduceEqDiff, Nat.reduceLT, Nat.reduceAdd, Nat.reduceLeDiff, reduceCtorEq, Nat.reduceMul, Nat.reduceMod, cfgP, u13, hlen, a0, hlf, n1, hw.len Tryz.underlying23]
  refine loop_rule (fun m fr H' => ∃ (i : Nat) (o : AV), m = l.length - i ∧ i ≤ l.length ∧ fr.length = 23 ∧ fget fr 7 = w ∧ fget fr 8 = .int .i64 l.length ∧ fget fr 9 = .int .i64 i ∧ fget fr 3 = o
    ∧ H.length ≤ H'.length ∧ Row encP 2 true H.length H' o (l.take i) ∧ (o = .nilS ∨ l.take i ≠ [])) ?_ l.length _ _ ⟨0, .nilS, by simp [wk, aBuiltin, AV.cells, AV.leaf, Nat.reduceEqDiff, Nat.reduceLT, Nat.reduceAdd, Nat.reduceLeDiff, reduceCtorEq, Nat.reduceMul, Nat.reduceMod, cfgP, u13, hlen, a0, Row.nil]⟩
  rintro m fr H' ⟨i, o, rfl, hi, hlen, a7, a8, a9, a3, hH, hrow, hne⟩ ih
  simp only [wk, aBuiltin, AV.cells, AV.leaf, Nat.reduceEqDiff, Nat.reduceLT, Nat.reduceAdd, Nat.reduceLeDiff, reduceCtorEq, Nat.reduceMul, Nat.reduceMod, cfgP, u13, hlen, a7, a8, a9, a3]
  refine RC_split (fun h => ?_) (fun h => ?_)
  · have hlt : i < l.length := by simpa using h
    have hww : IntKind.i64.wrap ((i : Int) + 1) = ((i + 1 : Nat) : Int) := by rw [wrap64 (by omega) (by omega)]; simp
    have e1 := hw.at (k := .i64) Tryz.underlying23 sz59 encP_len hlt
    have htk : l.take (i + 1) = l.take i ++ [l[i]] := by simp
    generalize l[i] = x at *
    have hrow2 := hrow.more [Blk.cells 0 (encP x).cells]
    obtain ⟨o', H2, happ, hrow3, hle, hno, hold⟩ := hrow2.app (prot := H.length) (xt := 22) encP_T rowRp (.inl ⟨_, Tryz.underlying22⟩) (elem_vs encP_T [x] true) (by simp) (by simp [roomy]; omega) (Nat.le_refl _) (by simp; omega)
    simp only [encP, AV.cells] at happ hle
    have hlit := litRp x
    simp only [wk, aBuiltin, AV.cells, AV.leaf, Nat.reduceEqDiff, Nat.reduceLT, Nat.reduceAdd, Nat.reduceLeDiff, reduceCtorEq, Nat.reduceMul, Nat.reduceMod, cfgP, u13, hlen, a7, a8, a9, a3, e1, encP, hH, hlit, happ, hww]
    refine ih _ _ (l.length - (i + 1)) (by omega) ⟨i + 1, o', rfl, hlt, ?_⟩
    rw [htk]
    simp [wk, aBuiltin, AV.cells, AV.leaf, Nat.reduceEqDiff, Nat.reduceLT, Nat.reduceAdd, Nat.reduceLeDiff, reduceCtorEq, Nat.reduceMul, Nat.reduceMod, cfgP, u13, hlen, a7, a8, a9, hrow3]
    exact Nat.le_trans (Nat.le_trans hH (by simp)) hle
  · simp only [wk, aBuiltin, AV.cells, AV.leaf, Nat.reduceEqDiff, Nat.reduceLT, Nat.reduceAdd, Nat.reduceLeDiff, reduceCtorEq, Nat.reduceMul, Nat.reduceMod, cfgP, u13, hlen, a7, a8, a9, a3]
    have hnl : ¬ i < l.length := by simpa using h
    rw [List.take_of_length_le (l := l) (by omega)] at hrow hne
    exact Fin_pure (l := [o]) (by simp [wk, aBuiltin, AV.cells, AV.leaf, Nat.reduceEqDiff, Nat.reduceLT, Nat.reduceAdd, Nat.reduceLeDiff, reduceCtorEq, Nat.reduceMul, Nat.reduceMod, cfgP, u13, hlen, aResults, aResult]) (hrow.frozen encP_T (by decide) rfl hne) (by simp)
end Go.Proofs.YtnipaiklandliaaGreatDoor
/- Pairs as a law takes them, walked. -/
namespace Go.Proofs.YtnipaiklandliaaGreatDoor
open Go Go.Abs AbsSeat Ty

theorem u7 : type_of% (And.intro (show tagT Tryz.prog 58 = 0 from by kernel_rfl) (And.intro ag1 (And.intro sz1 (And.intro by1 (And.intro ze1 (And.intro Tryz.underlying1 (And.intro ag3 (And.intro sz3 (And.intro by3 (And.intro ze3 (And.intro Tryz.underlying3 (And.intro ag9 (And.intro sz9 (And.intro by9 (And.intro ze9 (And.intro Tryz.underlying9 (And.intro ag22 (And.intro sz22 (And.intro by22 (And.intro se22 (And.intro ze22 (And.intro Tryz.underlying22 (And.intro ag23 (And.intro sz23 (And.intro by23 (And.intro se23 (And.intro ze23 (And.intro Tryz.underlying23 (And.intro ag58 (And.intro sz58 (And.intro by58 (And.intro ze58 (And.intro bu58 (And.intro Tryz.underlying58 (And.intro ag59 (And.intro sz59 (And.intro by59 (And.intro ze59 (And.intro bu59 (And.intro Tryz.underlying59 (And.intro fa58_0 (And.intro fd58_0 (And.intro fa58_1 fd58_1))))))))))))))))))))))))))))))))))))))))))) := And.intro (show tagT Tryz.prog 58 = 0 from by kernel_rfl) (And.intro ag1 (And.intro sz1 (And.intro by1 (And.intro ze1 (And.intro Tryz.underlying1 (And.intro ag3 (And.intro sz3 (And.intro by3 (And.intro ze3 (And.intro Tryz.underlying3 (And.intro ag9 (And.intro sz9 (And.intro by9 (And.intro ze9 (And.intro Tryz.underlying9 (And.intro ag22 (And.intro sz22 (And.intro by22 (And.intro se22 (And.intro ze22 (And.intro Tryz.underlying22 (And.intro ag23 (And.intro sz23 (And.intro by23 (And.intro se23 (And.intro ze23 (And.intro Tryz.underlying23 (And.intro ag58 (And.intro sz58 (And.intro by58 (And.intro ze58 (And.intro bu58 (And.intro Tryz.underlying58 (And.intro ag59 (And.intro sz59 (And.intro by59 (And.intro ze59 (And.intro bu59 (And.intro Tryz.underlying59 (And.intro fa58_0 (And.intro fd58_0 (And.intro fa58_1 fd58_1))))))))))))))))))))))))))))))))))))))))))
def g7 : Code :=
  .seq (.region 0 #[q 2 (.assign (.const (.slice none 0 0))) 23, q 3 (.assign (.const (.slice none 0 0))) 22] false) (.seq (.region 1 #[q 4 (.assign (.const (.slice none 0 0))) 23] false) (.seq (.region 2 #[q 5 (.assign (.const (.slice none 0 0))) 22] false) (.seq (.seq (.region 3 #[q 8 (.move (.tmp 0)) 22, q 9 (bi .len #[.tmp 8] #[22]) 3, q 10 (.move (ik 0)) 3] false) (.block 0 (.loop (.seq (.region 4 #[q 11 (.binOp .lss 3 (.tmp 10) (.tmp 9) 3) 0] false) (.seq (.cond (.tmp 11) .skip (.exit 0)) (.seq (.block 1 (.seq (.region 5 #[q 12 (.move (.tmp 10)) 3, q 13 (.indexAddr 22 (.tmp 8) (.tmp 10)) 0, q 14 (.load 58 (.tmp 13)) 58, q 7 (.alloc 58) 0, q 6 (.assign (.tmp 12)) 3, qn (.store 58 (.tmp 7) (.tmp 14)) 0] false) (.seq (.seq (.region 6 #[q 15 (.move (.tmp 6)) 3, q 16 (.binOp .geq 3 (.tmp 15) (ik 6) 3) 4] false) (.cond (.tmp 16) (.exit 0) .skip)) (.seq (.seq (.region 7 #[q 17 (.fieldAddr 58 (.tmp 7) 0) 0, q 18 (.load 9 (.tmp 17)) 9, q 19 (bi .len #[.tmp 18] #[9]) 3, q 20 (.binOp .gtr 3 (.tmp 19) (ik 20) 3) 4] false) (.cond (.tmp 20) (.region 8 #[q 21 (.fieldAddr 58 (.tmp 7) 0) 0, q 22 (.load 9 (.tmp 21)) 9, q 23 (.slice 9 (.tmp 22) none (some (ik 20)) none) 9, q 24 (.fieldAddr 58 (.tmp 7) 0) 0, qn (.store 9 (.tmp 24) (.tmp 23)) 0] false) .skip)) (.seq (.seq (.region 9 #[q 25 (.fieldAddr 58 (.tmp 7) 1) 0, q 26 (.load 9 (.tmp 25)) 9, q 27 (bi .len #[.tmp 26] #[9]) 3, q 28 (.binOp .gtr 3 (.tmp 27) (ik 30) 3) 4] false) (.cond (.tmp 28) (.region 10 #[q 29 (.fieldAddr 58 (.tmp 7) 1) 0, q 30 (.load 9 (.tmp 29)) 9, q 31 (.slice 9 (.tmp 30) none (some (ik 30)) none) 9, q 32 (.fieldAddr 58 (.tmp 7) 1) 0, qn (.store 9 (.tmp 32) (.tmp 31)) 0] false) .skip)) (.seq (.region 11 #[q 33 (.move (.tmp 4)) 23, q 34 (.fieldAddr 58 (.tmp 7) 0) 0, q 35 (.load 9 (.tmp 34)) 9, q 36 (.fieldAddr 58 (.tmp 7) 1) 0, q 37 (.load 9 (.tmp 36)) 9, q 38 (.build 59 #[(0, .tmp 35), (1, .tmp 37)]) 59, q 39 (.buildSlice 23 1 #[(0, .tmp 38)]) 23, q 40 (bi .append #[.tmp 33, .tmp 39] #[23, 23]) 23, q 4 (.assign (.tmp 40)) 23] false) (.region 12 #[q 41 (.move (.tmp 5)) 22, q 42 (.load 58 (.tmp 7)) 58, q 43 (.buildSlice 22 1 #[(0, .tmp 42)]) 22, q 44 (bi .append #[.tmp 41, .tmp 43] #[22, 22]) 22, q 5 (.assign (.tmp 44)) 22] false))))))) (.region 13 #[q 45 (.binOp .add 3 (.tmp 10) (ik 1) 3) 3, q 10 (.move (.tmp 45)) 3] false))))))) (.seq (.region 14 #[q 46 (.move (.tmp 4)) 23, q 47 (.move (.tmp 5)) 22, q 2 (.assign (.tmp 46)) 23, q 3 (.assign (.tmp 47)) 22] false) .ret))))
theorem s7 : Tryz.f7.body.map (slim cfg) = some g7 := by kernel_rfl
def cutPr (x : Pr) : Pr := ⟨x.name.take 20, x.val.take 30⟩
def cutL (l : List Pr) : List Pr := (l.take 6).map cutPr
theorem cutL_len (l : List Pr) : (cutL l).length ≤ 6 := by simp [cutL]; omega

theorem str_cut {t : TypeId} (hu : Tryz.prog.underlying t = some .string) (s : List UInt8) (n : Nat) (h : n ≤ s.length) : aSlice Tryz.prog t (.str s) none (some (.int .i64 n)) none = some (.str (s.take n)) := by
  simp [aSlice, hu, aBounds, optInt, asNat, h]


theorem pairs_ok (l : List Pr) (w : AV) (hw : Sl encP w l) (hl : l.length ≤ 9223372036854775807) (prot : Nat) (H : Heap) (hp : prot ≤ H.length) :
    aLim cfg prot 7 [w] H = some (.tup [slv encP (cutL l), slv encP (cutL l)], none) := by
  have hsnap : snap H [w] = some ([w], false) := by cases hw <;> rfl
  refine pure_slim rfl (by kernel_rfl) Tryz.func7 s7 hp hsnap (by simp [Tryz.f7]) fun fr hlen h => ?_
  simp only [Has, Nat.zero_add] at h
  obtain ⟨a0, -⟩ := h
  simp only [Tryz.f7] at hlen ⊢
  unfold g7
  simp only [wk, aBuiltin, AV.cells, AV.leaf, Nat.reduceEqDiff, Nat.reduceLT, Nat.reduceAdd, Nat.reduceLeDiff, reduceCtorEq, Nat.reduceMul, Nat.reduceMod, cfgP, u7, hlen, a0, hw.len Tryz.underlying22]
  refine loop_rule (fun m fr H' => ∃ (i : Nat) (o p : AV), m = l.length - i ∧ i ≤ l.length ∧ i ≤ 6 ∧ fr.length = 48 ∧ fget fr 8 = w ∧ fget fr 9 = .int .i64 l.length ∧ fget fr 10 = .int .i64 i ∧ fget fr 4 = o ∧ fget fr 5 = p
    ∧ H.length ≤ H'.length ∧ Row encP 2 true H.length H' o (cutL (l.take i)) ∧ Row encP 2 true H.length H' p (cutL (l.take i)) ∧ (i = 0 → o = .nilS ∧ p = .nilS) ∧ (∀ s1 s2, o = .bs s1 → p = .bs s2 → s1.b ≠ s2.b)) ?_ l.length _ _ ⟨0, .nilS, .nilS, by simp [wk, aBuiltin, AV.cells, AV.leaf, Nat.reduceEqDiff, Nat.reduceLT, Nat.reduceAdd, Nat.reduceLeDiff, reduceCtorEq, Nat.reduceMul, Nat.reduceMod, cfgP, u7, hlen, a0, cutL, Row.nil]⟩
  rintro m fr H' ⟨i, o, p, rfl, hi, hi6, hlen, a8, a9, a10, a4, a5, hH, hrow, hrowp, hnil, hapart⟩ ih
  simp only [wk, aBuiltin, AV.cells, AV.leaf, Nat.reduceEqDiff, Nat.reduceLT, Nat.reduceAdd, Nat.reduceLeDiff, reduceCtorEq, Nat.reduceMul, Nat.reduceMod, cfgP, u7, hlen, a8, a9, a10, a4, a5]
  have fin : ∀ (K : Heap), Row encP 2 true H.length K o (cutL (l.take i)) → Row encP 2 true H.length K p (cutL (l.take i)) → (l.length ≤ i ∨ 6 ≤ i) → Frz K H.length (packR [o, p]) (.tup [slv encP (cutL l), slv encP (cutL l)]) := fun K h1 h2 h3 => by
    have e : cutL (l.take i) = cutL l := by
      unfold cutL
      congr 1
      rcases h3 with h3 | h3
      · rw [List.take_of_length_le (l := l) h3]
      · rw [List.take_take]
        congr 1
        omega
    have hne : ∀ q, (q = o ∨ q = p) → q = .nilS ∨ cutL (l.take i) ≠ [] := fun q hq => by
      by_cases h0 : i = 0
      · rcases hq with rfl | rfl
        · exact .inl (hnil h0).1
        · exact .inl (hnil h0).2
      · refine .inr ?_
        intro h
        have h1 : (cutL (l.take i)).length = 0 := by rw [h]; rfl
        have h2 : (cutL (l.take i)).length = i := by simp [cutL]; omega
        omega
    have f1 := h1.frozen encP_T (by decide) rfl (hne o (.inl rfl))
    have f2 := h2.frozen encP_T (by decide) rfl (hne p (.inr rfl))
    rw [e] at f1 f2
    exact .tup (.cons f1 (.cons f2 .nil))
  refine RC_split (fun h => ?_) (fun h => ?_)
  · have hlt : i < l.length := by simpa using h
    have hww : IntKind.i64.wrap ((i : Int) + 1) = ((i + 1 : Nat) : Int) := by rw [wrap64 (by omega) (by omega)]; simp
    have e1 := hw.at (k := .i64) Tryz.underlying22 sz58 encP_len hlt
    have htk : l.take (i + 1) = l.take i ++ [l[i]] := by simp
    have hcl : (cutL (l.take i)).length = i := by simp [cutL]; omega
    by_cases h6 : (6 : Int) ≤ i
    · generalize l[i] = x at *
      simp only [wk, aBuiltin, AV.cells, AV.leaf, Nat.reduceEqDiff, Nat.reduceLT, Nat.reduceAdd, Nat.reduceLeDiff, reduceCtorEq, Nat.reduceMul, Nat.reduceMod, cfgP, u7, hlen, a8, a9, a10, a4, a5, e1, encP, hH, h6]
      have hm := fin (H' ++ [Blk.cells 0 (encP x).cells]) (hrow.more _) (hrowp.more _) (.inr (by omega))
      simp only [encP, AV.cells] at hm
      exact Fin_pure (l := [o, p]) (by simp [wk, aBuiltin, AV.cells, AV.leaf, Nat.reduceEqDiff, Nat.reduceLT, Nat.reduceAdd, Nat.reduceLeDiff, reduceCtorEq, Nat.reduceMul, Nat.reduceMod, cfgP, u7, hlen, a4, a5, aResults, aResult]) hm (by simp)
    · have hcut : cutL (l.take (i + 1)) = cutL (l.take i) ++ [cutPr l[i]] := by
        have t1 : ∀ j, j ≤ 6 → (l.take j).take 6 = l.take j := fun j hj => by rw [List.take_take, Nat.min_eq_right hj]
        unfold cutL
        rw [t1 (i + 1) (by omega), t1 i (by omega), htk, List.map_append]
        rfl
      generalize l[i] = x at *
      have hsl : ∀ (s : List UInt8) K, aLen Tryz.prog K 9 (.str s) = some (.int .i64 s.length) := fun s K => by simp [aLen, Tryz.underlying9]
      have c1 : ∀ s : List UInt8, 20 < s.length → aSlice Tryz.prog 9 (.str s) none (some (.int .i64 20)) none = some (.str (s.take 20)) := fun s hs => str_cut Tryz.underlying9 s 20 (by omega)
      have c2 : ∀ s : List UInt8, 30 < s.length → aSlice Tryz.prog 9 (.str s) none (some (.int .i64 30)) none = some (.str (s.take 30)) := fun s hs => str_cut Tryz.underlying9 s 30 (by omega)
      have hrow2 := hrow.more [Blk.cells 0 (encP (cutPr x)).cells]
      have hrowp2 := hrowp.more [Blk.cells 0 (encP (cutPr x)).cells]
      obtain ⟨o', H2, happ, hrow3, hle, hno, hold, hblk⟩ := hrow2.appB (prot := H.length) (xt := 23) encP_T rowPr hxtPr (elem_vs encP_T [cutPr x] true) (by simp) (by simp [roomy]; omega) (Nat.le_refl _) (by simp; omega)
      have hrowp3 : Row encP 2 true H.length H2 p (cutL (l.take i)) := by
        rcases hrowp2 with ⟨h1, h2⟩ | ⟨b, ver, h1, h2, h3, h4⟩
        · exact .inl ⟨h1, h2⟩
        · exact .inr ⟨b, ver, h1, h2, hold b ver _ h3 (fun s hs => hapart _ _ hs h1), h4⟩
      obtain ⟨p', H3, happ2, hrowp4, hle2, hno2, hold2, hblk2⟩ := hrowp3.appB (prot := H.length) (xt := 22) encP_T rowRp (.inl ⟨_, Tryz.underlying22⟩) (elem_vs encP_T [cutPr x] true) (by simp) (by simp [roomy]; omega) (Nat.le_refl _) (by simp at hle; omega)
      have hlen2 : H'.length + 1 ≤ H2.length := by simpa using hle
      have hpb : ∀ s, p = .bs s → s.b < H'.length := fun s hs => by
        rcases hrowp with ⟨h1, _⟩ | ⟨b, ver, h1, h2, h3, h4⟩
        · rw [h1] at hs; cases hs
        · rw [h1] at hs; cases hs; exact hget_lt h3
      have hob : ∀ s, o = .bs s → s.b < H'.length := fun s hs => by
        rcases hrow with ⟨h1, _⟩ | ⟨b, ver, h1, h2, h3, h4⟩
        · rw [h1] at hs; cases hs
        · rw [h1] at hs; cases hs; exact hget_lt h3
      have hob' : ∀ s, o' = .bs s → s.b < H2.length := fun s hs => by
        rcases hrow3 with ⟨h1, _⟩ | ⟨b, ver, h1, h2, h3, h4⟩
        · exact absurd h1 hno
        · rw [h1] at hs; cases hs; exact hget_lt h3
      have hapart1 : ∀ s1 s2, o' = .bs s1 → p = .bs s2 → s1.b ≠ s2.b := fun s1 s2 h1 h2 => by
        rcases hblk s1 h1 with ⟨s, h3, h4⟩ | h4
        · rw [h4]; exact hapart s s2 h3 h2
        · have := hpb s2 h2
          rw [h4]; simp; omega
      have hrow4 : Row encP 2 true H.length H3 o' (cutL (l.take i) ++ [cutPr x]) := by
        rcases hrow3 with ⟨h1, h2⟩ | ⟨b, ver, h1, h2, h3, h4⟩
        · exact absurd h1 hno
        · exact .inr ⟨b, ver, h1, h2, hold2 b ver _ h3 (fun s hs h5 => hapart1 _ s h1 hs h5.symm), h4⟩
      have hapart2 : ∀ s1 s2, o' = .bs s1 → p' = .bs s2 → s1.b ≠ s2.b := fun s1 s2 h1 h2 => by
        rcases hblk2 s2 h2 with ⟨s, h3, h4⟩ | h4
        · rw [h4]; exact hapart1 s1 s h1 h3
        · have := hob' s1 h1
          rw [h4]; omega
      have hbox : hget H2 H'.length 0 = some (encP (cutPr x)).cells := hold _ _ _ (by rw [hget_new rfl]; rfl) (fun s hs => by have := hob s hs; omega)
      have hlit1 := litPp (cutPr x)
      have hlit2 := litRp (cutPr x)
      simp only [encP, AV.cells] at happ happ2 hbox
      have goon : ∀ (fr' : List AV), fr'.length = 48 → fget fr' 8 = w → fget fr' 9 = .int .i64 l.length → fget fr' 10 = .int .i64 ((i + 1 : Nat) : Int) → fget fr' 4 = o' → fget fr' 5 = p' → ∃ (j : Nat) (o p : AV), l.length - (i + 1) = l.length - j ∧ j ≤ l.length ∧ j ≤ 6 ∧ fr'.length = 48 ∧ fget fr' 8 = w ∧ fget fr' 9 = .int .i64 l.length ∧ fget fr' 10 = .int .i64 j ∧ fget fr' 4 = o ∧ fget fr' 5 = p
          ∧ H.length ≤ H3.length ∧ Row encP 2 true H.length H3 o (cutL (l.take j)) ∧ Row encP 2 true H.length H3 p (cutL (l.take j)) ∧ (j = 0 → o = .nilS ∧ p = .nilS) ∧ (∀ s1 s2, o = .bs s1 → p = .bs s2 → s1.b ≠ s2.b) := fun fr' b0 b1 b2 b3 b4 b5 =>
        ⟨i + 1, o', p', rfl, hlt, by omega, b0, b1, b2, b3, b4, b5, by omega, by rw [hcut]; exact hrow4, by rw [hcut]; exact hrowp4, fun h => by omega, hapart2⟩
      by_cases hn : (20 : Int) < x.name.length
      · have hn' : 20 < x.name.length := by omega
        by_cases hv : (30 : Int) < x.val.length
        · have hv' : 30 < x.val.length := by omega
          simp only [cutPr] at happ happ2 hlit1 hlit2 hbox
          simp only [wk, aBuiltin, AV.cells, AV.leaf, Nat.reduceEqDiff, Nat.reduceLT, Nat.reduceAdd, Nat.reduceLeDiff, reduceCtorEq, Nat.reduceMul, Nat.reduceMod, cfgP, u7, hlen, a8, a9, a10, a4, a5, e1, encP, hH, h6, hsl, hn, hv, c1 _ hn', c2 _ hv', hlit1, hlit2, happ, happ2, hbox, hww]
          refine ih _ _ (l.length - (i + 1)) (by omega) (goon _ ?_ ?_ ?_ ?_ ?_ ?_) <;> simp [wk, aBuiltin, AV.cells, AV.leaf, Nat.reduceEqDiff, Nat.reduceLT, Nat.reduceAdd, Nat.reduceLeDiff, reduceCtorEq, Nat.reduceMul, Nat.reduceMod, cfgP, u7, hlen, a8, a9]
        · have e2 : x.val.take 30 = x.val := List.take_of_length_le (by omega)
          simp only [cutPr, e2] at happ happ2 hlit1 hlit2 hbox
          simp only [wk, aBuiltin, AV.cells, AV.leaf, Nat.reduceEqDiff, Nat.reduceLT, Nat.reduceAdd, Nat.reduceLeDiff, reduceCtorEq, Nat.reduceMul, Nat.reduceMod, cfgP, u7, hlen, a8, a9, a10, a4, a5, e1, encP, hH, h6, hsl, hn, hv, c1 _ hn', hlit1, hlit2, happ, happ2, hbox, hww]
          refine ih _ _ (l.length - (i + 1)) (by omega) (goon _ ?_ ?_ ?_ ?_ ?_ ?_) <;> simp [wk, aBuiltin, AV.cells, AV.leaf, Nat.reduceEqDiff, Nat.reduceLT, Nat.reduceAdd, Nat.reduceLeDiff, reduceCtorEq, Nat.reduceMul, Nat.reduceMod, cfgP, u7, hlen, a8, a9]
      · have e3 : x.name.take 20 = x.name := List.take_of_length_le (by omega)
        by_cases hv : (30 : Int) < x.val.length
        · have hv' : 30 < x.val.length := by omega
          simp only [cutPr, e3] at happ happ2 hlit1 hlit2 hbox
          simp only [wk, aBuiltin, AV.cells, AV.leaf, Nat.reduceEqDiff, Nat.reduceLT, Nat.reduceAdd, Nat.reduceLeDiff, reduceCtorEq, Nat.reduceMul, Nat.reduceMod, cfgP, u7, hlen, a8, a9, a10, a4, a5, e1, encP, hH, h6, hsl, hn, hv, c2 _ hv', hlit1, hlit2, happ, happ2, hbox, hww]
          refine ih _ _ (l.length - (i + 1)) (by omega) (goon _ ?_ ?_ ?_ ?_ ?_ ?_) <;> simp [wk, aBuiltin, AV.cells, AV.leaf, Nat.reduceEqDiff, Nat.reduceLT, Nat.reduceAdd, Nat.reduceLeDiff, reduceCtorEq, Nat.reduceMul, Nat.reduceMod, cfgP, u7, hlen, a8, a9]
        · have e2 : x.val.take 30 = x.val := List.take_of_length_le (by omega)
          simp only [cutPr, e2, e3] at happ happ2 hlit1 hlit2 hbox
          simp only [wk, aBuiltin, AV.cells, AV.leaf, Nat.reduceEqDiff, Nat.reduceLT, Nat.reduceAdd, Nat.reduceLeDiff, reduceCtorEq, Nat.reduceMul, Nat.reduceMod, cfgP, u7, hlen, a8, a9, a10, a4, a5, e1, encP, hH, h6, hsl, hn, hv, hlit1, hlit2, happ, happ2, hbox, hww]
          refine ih _ _ (l.length - (i + 1)) (by omega) (goon _ ?_ ?_ ?_ ?_ ?_ ?_) <;> simp [wk, aBuiltin, AV.cells, AV.leaf, Nat.reduceEqDiff, Nat.reduceLT, Nat.reduceAdd, Nat.reduceLeDiff, reduceCtorEq, Nat.reduceMul, Nat.reduceMod, cfgP, u7, hlen, a8, a9]
  · have hnl : ¬ i < l.length := by simpa using h
    simp only [wk, aBuiltin, AV.cells, AV.leaf, Nat.reduceEqDiff, Nat.reduceLT, Nat.reduceAdd, Nat.reduceLeDiff, reduceCtorEq, Nat.reduceMul, Nat.reduceMod, cfgP, u7, hlen, a8, a9, a10, a4, a5]
    exact Fin_pure (l := [o, p]) (by simp [wk, aBuiltin, AV.cells, AV.leaf, Nat.reduceEqDiff, Nat.reduceLT, Nat.reduceAdd, Nat.reduceLeDiff, reduceCtorEq, Nat.reduceMul, Nat.reduceMod, cfgP, u7, hlen, a4, a5, aResults, aResult]) (fin _ hrow hrowp (.inl (by omega))) (by simp)

structure Al where
  labels : List Pr
  notes : List Pr
  starts : Int
  ends : Int
theorem Sl.cells1 {v : AV} {l : List Pr} (h : Sl encP v l) : v.cells = [v] := by cases h <;> rfl
theorem Sl.frz {v : AV} {l : List Pr} (h : Sl encP v l) (K : Heap) (n : Nat) : Frz K n v v := by cases h <;> exact .still rfl
theorem lts1 (K : Heap) (A : Blk) : K.length < (K ++ [A]).length := by simp
theorem lts2 (K : Heap) (A B : Blk) : K.length < (K ++ [A] ++ [B]).length := by simp
theorem lts3 (K : Heap) (A B C : Blk) : K.length < (K ++ [A] ++ [B] ++ [C]).length := by simp
theorem lts4 (K : Heap) (A B C D : Blk) : K.length < (K ++ [A] ++ [B] ++ [C] ++ [D]).length := by simp
theorem lts5 (K : Heap) (A B C D E : Blk) : K.length < (K ++ [A] ++ [B] ++ [C] ++ [D] ++ [E]).length := by simp
theorem lts6 (K : Heap) (A B C D E F : Blk) : K.length < (K ++ [A] ++ [B] ++ [C] ++ [D] ++ [E] ++ [F]).length := by simp
theorem les2 (K : Heap) (A B : Blk) : K.length ≤ (K ++ [A] ++ [B]).length := by simp
theorem les3 (K : Heap) (A B C : Blk) : K.length ≤ (K ++ [A] ++ [B] ++ [C]).length := by simp
theorem les4 (K : Heap) (A B C D : Blk) : K.length ≤ (K ++ [A] ++ [B] ++ [C] ++ [D]).length := by simp
theorem les5 (K : Heap) (A B C D E : Blk) : K.length ≤ (K ++ [A] ++ [B] ++ [C] ++ [D] ++ [E]).length := by simp
theorem les6 (K : Heap) (A B C D E F : Blk) : K.length ≤ (K ++ [A] ++ [B] ++ [C] ++ [D] ++ [E] ++ [F]).length := by simp

/-- the set that pairs make, or none. -/
def setL (l : List Pr) : List Pr := (ofP (cutL l)).1
theorem setL_len (l : List Pr) : (setL l).length ≤ 6 := by
  have h := cutL_len l
  have h2 := isortP_len (cutL l)
  unfold setL ofP
  split
  · simp
  · split
    · simp
    · simp only; omega
theorem cutL_fit (l : List Pr) : ∀ x ∈ cutL l, x.name.length ≤ 9223372036854775807 ∧ x.val.length ≤ 9223372036854775807 := by
  intro x hx
  obtain ⟨y, _, rfl⟩ := List.mem_map.1 hx
  simp [cutPr]
  omega

end Go.Proofs.YtnipaiklandliaaGreatDoor
/- A set of labels as text, and its number: the program's, the document's. -/
namespace Go.Proofs.YtnipaiklandliaaGreatDoor
open Go Go.Abs AbsSeat Ty

theorem u11 : type_of% (And.intro (show tagT Tryz.prog 27 = 0 from by kernel_rfl) (And.intro (show tagT Tryz.prog 74 = 297 from by kernel_rfl) (And.intro (show tagT Tryz.prog 59 = 0 from by kernel_rfl) (And.intro ag3 (And.intro sz3 (And.intro by3 (And.intro ze3 (And.intro Tryz.underlying3 (And.intro ag5 (And.intro sz5 (And.intro by5 (And.intro ze5 (And.intro Tryz.underlying5 (And.intro ag9 (And.intro sz9 (And.intro by9 (And.intro ze9 (And.intro Tryz.underlying9 (And.intro ag23 (And.intro sz23 (And.intro by23 (And.intro se23 (And.intro ze23 (And.intro Tryz.underlying23 (And.intro ag27 (And.intro sz27 (And.intro by27 (And.intro ze27 (And.intro bu27 (And.intro Tryz.underlying27 (And.intro ag59 (And.intro sz59 (And.intro by59 (And.intro ze59 (And.intro bu59 (And.intro Tryz.underlying59 (And.intro ag74 (And.intro sz74 (And.intro by74 (And.intro ze74 (And.intro bu74 (And.intro Tryz.underlying74 (And.intro fa27_0 (And.intro fd27_0 (And.intro fa59_0 (And.intro fd59_0 (And.intro fa59_1 fd59_1))))))))))))))))))))))))))))))))))))))))))))))) := And.intro (show tagT Tryz.prog 27 = 0 from by kernel_rfl) (And.intro (show tagT Tryz.prog 74 = 297 from by kernel_rfl) (And.intro (show tagT Tryz.prog 59 = 0 from by kernel_rfl) (And.intro ag3 (And.intro sz3 (And.intro by3 (And.intro ze3 (And.intro Tryz.underlying3 (And.intro ag5 (And.intro sz5 (And.intro by5 (And.intro ze5 (And.intro Tryz.underlying5 (And.intro ag9 (And.intro sz9 (And.intro by9 (And.intro ze9 (And.intro Tryz.underlying9 (And.intro ag23 (And.intro sz23 (And.intro by23 (And.intro se23 (And.intro ze23 (And.intro Tryz.underlying23 (And.intro ag27 (And.intro sz27 (And.intro by27 (And.intro ze27 (And.intro bu27 (And.intro Tryz.underlying27 (And.intro ag59 (And.intro sz59 (And.intro by59 (And.intro ze59 (And.intro bu59 (And.intro Tryz.underlying59 (And.intro ag74 (And.intro sz74 (And.intro by74 (And.intro ze74 (And.intro bu74 (And.intro Tryz.underlying74 (And.intro fa27_0 (And.intro fd27_0 (And.intro fa59_0 (And.intro fd59_0 (And.intro fa59_1 fd59_1))))))))))))))))))))))))))))))))))))))))))))))
def g11 : Code :=
  .seq (.region 0 #[q 1 (.box 27 (.tmp 0)) 0, q 2 (.assign (.const (.string { data := #[] }))) 9] false) (.seq (.region 1 #[q 3 (.alloc 74) 0] false) (.seq (.region 2 #[q 8 (cl 40 #[.tmp 3, .const (.int .u8 123)] #[74, 5]) 76] false) (.seq (.seq (.region 3 #[q 9 (.fieldAddr 27 (.tmp 1) 0) 0, q 10 (.load 23 (.tmp 9)) 23, q 11 (bi .len #[.tmp 10] #[23]) 3, q 12 (.move (ik 0)) 3] false) (.block 0 (.loop (.seq (.region 4 #[q 13 (.binOp .lss 3 (.tmp 12) (.tmp 11) 3) 0] false) (.seq (.cond (.tmp 13) .skip (.exit 0)) (.seq (.block 1 (.seq (.region 5 #[q 14 (.move (.tmp 12)) 3, q 15 (.indexAddr 23 (.tmp 10) (.tmp 12)) 0, q 16 (.load 59 (.tmp 15)) 59, q 5 (.alloc 59) 0, q 4 (.assign (.tmp 14)) 3, qn (.store 59 (.tmp 5) (.tmp 16)) 0] false) (.seq (.seq (.region 6 #[q 17 (.move (.tmp 4)) 3, q 18 (.binOp .gtr 3 (.tmp 17) (ik 0) 3) 4] false) (.cond (.tmp 18) (.region 7 #[q 19 (cl 40 #[.tmp 3, .const (.int .u8 44)] #[74, 5]) 76] false) .skip)) (.seq (.region 8 #[q 21 (.fieldAddr 59 (.tmp 5) 1) 0, q 22 (.load 9 (.tmp 21)) 9, q 23 (cl 41 #[.tmp 22] #[9]) 78, q 20 (.move (.tmp 23)) 78, q 24 (.extract (.tmp 20) 0) 9, q 25 (.extract (.tmp 20) 1) 28, q 6 (.assign (.tmp 24)) 9, q 7 (.assign (.tmp 25)) 28] false) (.region 9 #[q 26 (.fieldAddr 59 (.tmp 5) 0) 0, q 27 (.load 9 (.tmp 26)) 9, q 28 (.binOp .add 9 (.tmp 27) (.const (.string { data := #[61] })) 9) 9, q 29 (.move (.tmp 6)) 9, q 30 (.binOp .add 9 (.tmp 28) (.tmp 29) 9) 9, q 31 (cl 42 #[.tmp 3, .tmp 30] #[74, 9]) 80] false))))) (.region 10 #[q 32 (.binOp .add 3 (.tmp 12) (ik 1) 3) 3, q 12 (.move (.tmp 32)) 3] false))))))) (.seq (.region 11 #[q 33 (cl 40 #[.tmp 3, .const (.int .u8 125)] #[74, 5]) 76] false) (.seq (.region 12 #[q 34 (cl 43 #[.tmp 3] #[74]) 9, q 2 (.assign (.tmp 34)) 9] false) .ret)))))
theorem s11 : Tryz.f11.body.map (slim cfg) = some g11 := by kernel_rfl

def qv (x : Pr) : List UInt8 := if validU x.val then quoteU x.val else []
theorem qv_len (x : Pr) : (qv x).length ≤ 6 * x.val.length + 2 := by
  have := quote_len x.val
  unfold qv
  split
  · exact this
  · simp
def piece (x : Pr) : List UInt8 := x.name ++ (61 :: qv x)
def bodyP : List Pr → List UInt8
  | [] => []
  | x :: r => piece x ++ r.flatMap fun y => 44 :: piece y
/-- a set as text. -/
def textP (l : List Pr) : List UInt8 := 123 :: bodyP l ++ [125]
theorem bodyP_snoc (l : List Pr) (x : Pr) : bodyP (l ++ [x]) = bodyP l ++ ((if l = [] then [] else [44]) ++ piece x) := by
  cases l with
  | nil => simp [bodyP]
  | cons y r => simp [bodyP]
def Small (x : Pr) : Prop := x.name.length < 1000000 ∧ x.val.length < 1000000
theorem piece_len {x : Pr} (h : Small x) : (piece x).length ≤ 8000000 := by
  have := quote_len x.val
  obtain ⟨h1, h2⟩ := h
  unfold piece qv
  split <;> simp only [List.length_append, List.length_cons, List.length_nil] <;> omega
theorem bodyP_len : ∀ {l : List Pr}, (∀ x ∈ l, Small x) → (bodyP l).length ≤ l.length * 8000001
  | [], _ => by simp [bodyP]
  | x :: r, h => by
    have h1 := piece_len (h x (by simp))
    have h2 : ∀ r : List Pr, (∀ x ∈ r, Small x) → (r.flatMap fun y => 44 :: piece y).length ≤ r.length * 8000001 := by
      intro r
      induction r with
      | nil => intro _; simp
      | cons y r ih =>
        intro hr
        have := piece_len (hr y (by simp))
        have := ih fun z hz => hr z (by simp [hz])
        simp only [List.flatMap_cons, List.length_append, List.length_cons] at this ⊢
        omega
    have := h2 r fun z hz => h z (by simp [hz])
    simp only [bodyP, List.length_append, List.length_cons] at this ⊢
    omega


theorem setText_ok (l : List Pr) (v : AV) (hv : Sl encP v l) (hs : ∀ x ∈ l, Small x) (hl : l.length < 1000) (prot : Nat) (H : Heap) (hp : prot ≤ H.length) : aLim cfg prot 11 [.agg [v]] H = some (.str (textP l), none) := by
  have hsnap : snap H [.agg [v]] = some ([.agg [v]], false) := rfl
  have hvl := Sl.leaf hv
  have hvc := Sl.cells1 hv
  unfold AV.leaf at hvl
  unfold AV.cells at hvc
  let B0 : Heap := H ++ [Blk.cells 0 [v]]
  have lB0 : B0.length = H.length + 1 := by simp [B0]
  have hb0 : Bld H.length (B0 ++ [Blk.cells 297 [.nil, .nilS]]) B0.length [] := Bld.new (by omega)
  obtain ⟨H1, n1, hb1, kp1⟩ := writeByte_ok [] 123 B0.length H.length _ (by simp; omega) hb0 (by simp)
  have n1 : aLim cfg H.length 40 [.ptr (H ++ [Blk.cells 0 [v]]).length 297 0, .int .u8 123] (H ++ [Blk.cells 0 [v]] ++ [Blk.cells 297 [.nil, .nilS]]) = some (.nilI, some H1) := n1
  have g1 : hget H1 H.length 0 = some [v] := kp1.2 _ _ _ (by
    rw [hget_old (by omega)]
    exact hget_new rfl) (by omega) (by decide)
  have hle1 : H.length + 2 ≤ H1.length := Nat.le_trans (by simp [B0]) kp1.1
  have lt1 : H.length < (H ++ [Blk.cells 0 [v]]).length := by simp
  refine pure_slim rfl (by kernel_rfl) Tryz.func11 s11 hp hsnap (by simp [Tryz.f11]) fun fr hlen h => ?_
  simp only [Has, Nat.zero_add] at h
  obtain ⟨a0, -⟩ := h
  simp only [Tryz.f11] at hlen ⊢
  unfold g11
  simp only [wk, aBuiltin, AV.cells, AV.leaf, Nat.reduceEqDiff, Nat.reduceLT, Nat.reduceAdd, Nat.reduceLeDiff, reduceCtorEq, Nat.reduceMul, Nat.reduceMod, cfgP, u11, hlen, a0, hvl, hvc, n1, g1, lt1, hv.len Tryz.underlying23]
  refine loop_rule (fun m fr H' => ∃ (i : Nat), m = l.length - i ∧ i ≤ l.length ∧ fr.length = 35 ∧ fget fr 3 = .ptr B0.length 297 0 ∧ fget fr 10 = v ∧ fget fr 11 = .int .i64 l.length ∧ fget fr 12 = .int .i64 i ∧ H.length + 2 ≤ H'.length
    ∧ Bld H.length H' B0.length (123 :: bodyP (l.take i))) ?_ l.length _ _ ⟨0, by refine ⟨by omega, by omega, ?_⟩; simp [wk, aBuiltin, AV.cells, AV.leaf, Nat.reduceEqDiff, Nat.reduceLT, Nat.reduceAdd, Nat.reduceLeDiff, reduceCtorEq, Nat.reduceMul, Nat.reduceMod, cfgP, u11, hlen, a0, hle1]; exact ⟨by omega, hb1⟩⟩
  rintro m fr H' ⟨i, rfl, hi, hlen, a3, a10, a11, a12, hH, hb⟩ ih
  simp only [wk, aBuiltin, AV.cells, AV.leaf, Nat.reduceEqDiff, Nat.reduceLT, Nat.reduceAdd, Nat.reduceLeDiff, reduceCtorEq, Nat.reduceMul, Nat.reduceMod, cfgP, u11, hlen, a3, a10, a11, a12]
  have hbl : (123 :: bodyP (l.take i)).length ≤ i * 8000001 + 1 := by
    have := bodyP_len (l := l.take i) fun x hx => hs x (List.mem_of_mem_take hx)
    simp only [List.length_take, Nat.min_eq_left hi] at this
    simp only [List.length_cons]; omega
  have hH0 : H.length ≤ H'.length := by omega
  refine RC_split (fun h => ?_) (fun h => ?_)
  · have hlt : i < l.length := by simpa using h
    have hww : IntKind.i64.wrap ((i : Int) + 1) = ((i + 1 : Nat) : Int) := by rw [wrap64 (by omega) (by omega)]; simp
    have e1 := hv.at (k := .i64) Tryz.underlying23 sz59 encP_len hlt
    have htk : 123 :: bodyP (l.take (i + 1)) = (123 :: bodyP (l.take i)) ++ ((if i = 0 then [] else [44]) ++ piece l[i]) := by
      have h1 : l.take (i + 1) = l.take i ++ [l[i]] := by simp
      rw [h1, bodyP_snoc]
      by_cases h0 : i = 0
      · subst h0; simp
      · have h2 : ¬ l.take i = [] := by
          rw [List.take_eq_nil_iff]
          rintro (h | h)
          · exact h0 h
          · rw [h] at hlt; simp at hlt
        rw [if_neg h2, if_neg h0]; rfl
    have hsx := hs l[i] (List.getElem_mem hlt)
    generalize l[i] = x at *
    generalize 123 :: bodyP (l.take i) = o at *
    have pl := piece_len hsx
    have ql := quote_len x.val
    obtain ⟨hx1, hx2⟩ := hsx
    have hbX : Bld H.length (H' ++ [Blk.cells 0 [.str x.name, .str x.val]]) B0.length o := hb.more [Blk.cells 0 [.str x.name, .str x.val]]
    have hgX : hget (H' ++ [Blk.cells 0 [.str x.name, .str x.val]]) H'.length 0 = some [.str x.name, .str x.val] := hget_new rfl
    -- behind the comma
    have key : ∀ (o' : List UInt8) (K : Heap), Bld H.length K B0.length o' → H.length + 2 ≤ K.length → hget K H'.length 0 = some [.str x.name, .str x.val] → o' = o ++ (if i = 0 then [] else [44]) →
        ∃ K', aLim cfg H.length 42 [.ptr B0.length 297 0, .str (x.name ++ [61] ++ qv x)] K = some (.tup [.int .i64 (x.name ++ [61] ++ qv x).length, .nilI], some K') ∧ H.length + 2 ≤ K'.length ∧ Bld H.length K' B0.length (123 :: bodyP (l.take (i + 1))) := by
      intro o' K hK hKl hg ho
      have hpe : x.name ++ [61] ++ qv x = piece x := by simp [piece]
      rw [hpe]
      obtain ⟨K', m1, m2, m3⟩ := writeString_ok o' (piece x) B0.length H.length K (by omega) hK (by simp only [piece, List.length_append, List.length_cons]; omega) (by rw [ho]; split <;> simp only [List.length_append, List.length_cons, List.length_nil] <;> omega)
      refine ⟨K', m1, Nat.le_trans hKl m3.1, ?_⟩
      rw [htk, ← List.append_assoc, ← ho]
      exact m2
    have q1 : ∀ K : Heap, H.length ≤ K.length → ∃ e, aLim cfg H.length 41 [.str x.val] K = some (.tup [.str (qv x), .int .i64 e], none) := fun K hK => by
      have := quote_ok x.val (by omega) H.length K hK
      unfold qv
      cases hvd : validU x.val with
      | true => rw [hvd] at this; exact ⟨0, this⟩
      | false => rw [hvd] at this; exact ⟨3, this⟩
    have t1 := str_add (s := x.name) (u := [61]) (by simp; omega)
    have t2 := str_add (s := x.name ++ [61]) (u := qv x) (by
      have := qv_len x
      simp only [List.length_append, List.length_cons, List.length_nil]; omega)
    have fin : ∀ (K' : Heap) (fr : List AV), H.length + 2 ≤ K'.length → Bld H.length K' B0.length (123 :: bodyP (l.take (i + 1))) → fr.length = 35 → fget fr 3 = .ptr B0.length 297 0 → fget fr 10 = v → fget fr 11 = .int .i64 l.length → fget fr 12 = .int .i64 ((i + 1 : Nat)) →
      ∃ j : Nat, l.length - (i + 1) = l.length - j ∧ j ≤ l.length ∧ fr.length = 35 ∧ fget fr 3 = .ptr B0.length 297 0 ∧ fget fr 10 = v ∧ fget fr 11 = .int .i64 l.length ∧ fget fr 12 = .int .i64 j ∧ H.length + 2 ≤ K'.length ∧ Bld H.length K' B0.length (123 :: bodyP (l.take j)) :=
      fun K' fr g0 g1 g2 g3 g4 g5 g6 => ⟨i + 1, rfl, hlt, g2, g3, g4, g5, g6, g0, g1⟩
    by_cases h0 : i = 0
    · have c0 : decide ((0 : Int) < (i : Nat)) = false := decide_eq_false (by omega)
      obtain ⟨K', m1, m2, m3⟩ := key o (H' ++ [Blk.cells 0 [.str x.name, .str x.val]]) hbX (by simp; omega) hgX (by rw [if_pos h0, List.append_nil])
      obtain ⟨e, q1⟩ := q1 (H' ++ [Blk.cells 0 [.str x.name, .str x.val]]) (by simp; omega)
      simp only [wk, aBuiltin, AV.cells, AV.leaf, Nat.reduceEqDiff, Nat.reduceLT, Nat.reduceAdd, Nat.reduceLeDiff, reduceCtorEq, Nat.reduceMul, Nat.reduceMod, cfgP, u11, hlen, a3, a10, a11, a12, e1, encP, hH0, c0, q1, t1, t2, m1, hww]
      exact ih _ _ (l.length - (i + 1)) (by omega) (fin K' _ m2 m3 (by simp [wk, aBuiltin, AV.cells, AV.leaf, Nat.reduceEqDiff, Nat.reduceLT, Nat.reduceAdd, Nat.reduceLeDiff, reduceCtorEq, Nat.reduceMul, Nat.reduceMod, cfgP, u11, hlen]) (by simp [wk, aBuiltin, AV.cells, AV.leaf, Nat.reduceEqDiff, Nat.reduceLT, Nat.reduceAdd, Nat.reduceLeDiff, reduceCtorEq, Nat.reduceMul, Nat.reduceMod, cfgP, u11, hlen, a3]) (by simp [wk, aBuiltin, AV.cells, AV.leaf, Nat.reduceEqDiff, Nat.reduceLT, Nat.reduceAdd, Nat.reduceLeDiff, reduceCtorEq, Nat.reduceMul, Nat.reduceMod, cfgP, u11, hlen, a10]) (by simp [wk, aBuiltin, AV.cells, AV.leaf, Nat.reduceEqDiff, Nat.reduceLT, Nat.reduceAdd, Nat.reduceLeDiff, reduceCtorEq, Nat.reduceMul, Nat.reduceMod, cfgP, u11, hlen, a11]) (by simp [wk, aBuiltin, AV.cells, AV.leaf, Nat.reduceEqDiff, Nat.reduceLT, Nat.reduceAdd, Nat.reduceLeDiff, reduceCtorEq, Nat.reduceMul, Nat.reduceMod, cfgP, u11, hlen]))
    · have c0 : decide ((0 : Int) < (i : Nat)) = true := decide_eq_true (by omega)
      obtain ⟨K, w1, hbK, kpK⟩ := writeByte_ok o 44 B0.length H.length (H' ++ [Blk.cells 0 [.str x.name, .str x.val]]) (by simp; omega) hbX (by omega)
      have w1 : aLim cfg H.length 40 [.ptr B0.length 297 0, .int .u8 44] (H' ++ [Blk.cells 0 [.str x.name, .str x.val]]) = some (.nilI, some K) := w1
      have hKl : H.length + 2 ≤ K.length := Nat.le_trans (by simp; omega) kpK.1
      have hgK : hget K H'.length 0 = some [.str x.name, .str x.val] := kpK.2 _ _ _ hgX (by omega) (by decide)
      obtain ⟨K', m1, m2, m3⟩ := key _ K hbK hKl hgK (by rw [if_neg h0])
      obtain ⟨e, q1⟩ := q1 K (by omega)
      simp only [wk, aBuiltin, AV.cells, AV.leaf, Nat.reduceEqDiff, Nat.reduceLT, Nat.reduceAdd, Nat.reduceLeDiff, reduceCtorEq, Nat.reduceMul, Nat.reduceMod, cfgP, u11, hlen, a3, a10, a11, a12, e1, encP, hH0, c0, w1, hgK, q1, t1, t2, m1, hww]
      exact ih _ _ (l.length - (i + 1)) (by omega) (fin K' _ m2 m3 (by simp [wk, aBuiltin, AV.cells, AV.leaf, Nat.reduceEqDiff, Nat.reduceLT, Nat.reduceAdd, Nat.reduceLeDiff, reduceCtorEq, Nat.reduceMul, Nat.reduceMod, cfgP, u11, hlen]) (by simp [wk, aBuiltin, AV.cells, AV.leaf, Nat.reduceEqDiff, Nat.reduceLT, Nat.reduceAdd, Nat.reduceLeDiff, reduceCtorEq, Nat.reduceMul, Nat.reduceMod, cfgP, u11, hlen, a3]) (by simp [wk, aBuiltin, AV.cells, AV.leaf, Nat.reduceEqDiff, Nat.reduceLT, Nat.reduceAdd, Nat.reduceLeDiff, reduceCtorEq, Nat.reduceMul, Nat.reduceMod, cfgP, u11, hlen, a10]) (by simp [wk, aBuiltin, AV.cells, AV.leaf, Nat.reduceEqDiff, Nat.reduceLT, Nat.reduceAdd, Nat.reduceLeDiff, reduceCtorEq, Nat.reduceMul, Nat.reduceMod, cfgP, u11, hlen, a11]) (by simp [wk, aBuiltin, AV.cells, AV.leaf, Nat.reduceEqDiff, Nat.reduceLT, Nat.reduceAdd, Nat.reduceLeDiff, reduceCtorEq, Nat.reduceMul, Nat.reduceMod, cfgP, u11, hlen]))
  · have hnl : ¬ i < l.length := by simpa using h
    rw [List.take_of_length_le (l := l) (by omega)] at hb hbl
    obtain ⟨H2, m1, hb2, kp2⟩ := writeByte_ok _ 125 B0.length H.length H' hH0 hb (by omega)
    have m1 : aLim cfg H.length 40 [.ptr B0.length 297 0, .int .u8 125] H' = some (.nilI, some H2) := m1
    obtain ⟨H3, m2, kp3⟩ := bstring_ok _ B0.length H.length H2 hb2 (by simp only [List.length_append, List.length_cons, List.length_nil] at hbl ⊢; omega)
    simp only [wk, aBuiltin, AV.cells, AV.leaf, Nat.reduceEqDiff, Nat.reduceLT, Nat.reduceAdd, Nat.reduceLeDiff, reduceCtorEq, Nat.reduceMul, Nat.reduceMod, cfgP, u11, hlen, a3, a10, a11, a12, m1, m2]
    exact Fin_pure (l := [.str (textP l)]) (by simp [wk, aBuiltin, AV.cells, AV.leaf, Nat.reduceEqDiff, Nat.reduceLT, Nat.reduceAdd, Nat.reduceLeDiff, reduceCtorEq, Nat.reduceMul, Nat.reduceMod, cfgP, u11, hlen, aResults, aResult, textP]) (.still rfl) (by simp)

def hstep (h : Int) (c : UInt8) : Int := IntKind.u64.wrap (IntKind.u64.wrap (BitVec.ofInt IntKind.u64.bits h ^^^ BitVec.ofInt IntKind.u64.bits (IntKind.u64.wrap (c.toNat : Int))).toNat * 1099511628211)
def hashU (s : List UInt8) : Int := s.foldl hstep 14695981039346656037
theorem hashU_snoc (s : List UInt8) (i : Nat) (h : i < s.length) : hashU (s.take (i + 1)) = hstep (hashU (s.take i)) s[i] := by
  have : s.take (i + 1) = s.take i ++ [s[i]] := by simp
  unfold hashU; rw [this, List.foldl_append]; rfl
theorem byteAt (s : List UInt8) {i : Nat} (h : i < s.length) : (cellsOf encB s)[i]? = some (.int .u8 (s[i].toNat : Int)) := by
  have := cellsOf_at encB_T s i h 0 (by omega)
  simpa [encB, AV.cells] using this
theorem bsAt {P : Program} {t e : TypeId} {b ver n : Nat} {k : IntKind} {i : Nat} (hu : P.underlying t = some (.slice e)) (hs : sizeT P e = some 1) (h : i < n) : aIndexAddr P t (.bs ⟨b, ver, 0, n, 0, 1, false, false⟩) (.int k i) = some (.ptr b ver i) := by
  simp [aIndexAddr, asNat, hu, hs, h]
theorem textP_len {l : List Pr} (hs : ∀ x ∈ l, Small x) (hl : l.length < 1000) : (textP l).length < 10000000000 := by
  have := bodyP_len hs
  simp only [textP, List.cons_append, List.length_cons, List.length_append, List.length_nil]; omega

end Go.Proofs.YtnipaiklandliaaGreatDoor
/- Runes at the beginning of bytes: plain laws. -/
namespace Go.Proofs.YtnipaiklandliaaGreatDoor
open Go Go.Abs AbsSeat

theorem fitsGo_app {lo hi : Int} : ∀ {a b : List UInt8}, fitsGo lo hi a = false → fitsGo lo hi (a ++ b) = false := by
  intro a
  induction a generalizing lo hi with
  | nil => intro b h; cases h
  | cons c r ih =>
    intro b h
    simp only [List.cons_append, fitsGo] at h ⊢
    split
    · rfl
    · rename_i h1; rw [if_neg h1] at h; exact ih h
theorem fitsGo_nine {lo hi : Int} (hlo : 9 < lo) : ∀ (a b : List UInt8), fitsGo lo hi (a ++ 9 :: b) = false := by
  intro a
  induction a generalizing lo hi with
  | nil => intro b; simp only [List.nil_append, fitsGo]; rw [if_pos (.inl (by simpa using hlo))]
  | cons c r ih => intro b; simp only [List.cons_append, fitsGo]; split; · rfl
                   · exact ih (by decide) b
theorem lowU_gt (c : Int) : 9 < lowU c := by unfold lowU; split <;> (try split) <;> decide
theorem nextU_zero {c : UInt8} {t : List UInt8} : (nextU (c :: t)).2.2 = 0 ↔ wantedU c.toNat ≠ 0 ∧ fitsU c (c :: t) (wantedU c.toNat) = true ∧ wantedU c.toNat ≤ (c :: t).length := by
  rw [nextU_eq rfl]
  constructor
  · intro h
    split at h
    · cases h
    · rename_i h1
      split at h
      · cases h
      · rename_i h2
        refine ⟨fun e => h1 (.inl e), ?_, by omega⟩
        cases hf : fitsU c (c :: t) (wantedU c.toNat) with
        | true => rfl
        | false => exact absurd (.inr hf) h1
  · rintro ⟨h1, h2, h3⟩
    rw [if_neg (by rw [h2]; simp [h1]), if_neg (by omega)]
theorem nextU_app {c : UInt8} {t : List UInt8} (h : (nextU ((c :: t).take 4)).2.2 = 0) (b : List UInt8) : nextU ((c :: t ++ b).take 4) = nextU ((c :: t).take 4) := by
  simp only [List.cons_append, List.take_succ_cons] at h ⊢
  obtain ⟨h1, h2, h3⟩ := nextU_zero.1 h
  have hw := wantedU_le c.toNat
  have e1 : ∀ n ≤ (c :: t.take 3).length, n ≤ 4 → (c :: (t ++ b).take 3).take n = (c :: t.take 3).take n := by
    intro n hn h4
    cases n with
    | zero => rfl
    | succ n =>
      simp only [List.take_succ_cons, List.length_cons, List.length_take] at hn ⊢
      rw [List.take_take, List.take_take, List.take_append_of_le_length (by omega)]
  have e2 := e1 _ h3 hw
  have hf : fitsU c (c :: (t ++ b).take 3) (wantedU c.toNat) = true := by unfold fitsU at h2 ⊢; rw [e2]; exact h2
  have hl : wantedU c.toNat ≤ (c :: (t ++ b).take 3).length := by simp only [List.length_cons, List.length_take, List.length_append] at h3 ⊢; omega
  rw [nextU_eq rfl, nextU_eq rfl, if_neg (by rw [hf]; simp [h1]), if_neg (by omega), if_neg (by rw [h2]; simp [h1]), if_neg (by omega)]
  have e3 : ((c :: (t ++ b).take 3).drop 1).take (wantedU c.toNat - 1) = ((c :: t.take 3).drop 1).take (wantedU c.toNat - 1) := by
    rw [← List.drop_take, ← List.drop_take, e2]
  rw [e3]
theorem nextU_bad {c : UInt8} {t : List UInt8} (h : ¬ (nextU ((c :: t).take 4)).2.2 = 0) (b : List UInt8) : ¬ (nextU ((c :: t ++ 9 :: b).take 4)).2.2 = 0 := by
  simp only [List.cons_append, List.take_succ_cons] at h ⊢
  intro h'
  obtain ⟨h1, h2, h3⟩ := nextU_zero.1 h'
  have hw := wantedU_le c.toNat
  refine h (nextU_zero.2 ⟨h1, ?_, ?_⟩)
  · unfold fitsU at h2 ⊢
    cases hf : fitsGo (lowU c.toNat) (highU c.toNat) (((c :: t.take 3).take (wantedU c.toNat)).drop 1) with
    | true => rfl
    | false =>
      obtain ⟨n, hn⟩ : ∃ n, wantedU c.toNat = n + 1 := ⟨wantedU c.toNat - 1, by omega⟩
      rw [hn] at hf h2
      simp only [List.take_succ_cons, List.drop_succ_cons, List.drop_zero, List.take_take] at hf h2
      rw [List.take_append] at h2
      rw [fitsGo_app hf] at h2
      exact h2
  · refine Nat.le_of_not_lt fun hlt => ?_
    unfold fitsU at h2
    obtain ⟨n, hn⟩ : ∃ n, wantedU c.toNat = n + 1 := ⟨wantedU c.toNat - 1, by omega⟩
    rw [hn] at hlt h2
    simp only [List.length_cons, List.length_take] at hlt
    simp only [List.take_succ_cons, List.drop_succ_cons, List.drop_zero, List.take_take] at h2
    obtain ⟨k, hk⟩ : ∃ k, min n 3 - t.length = k + 1 := ⟨min n 3 - t.length - 1, by omega⟩
    rw [List.take_append, List.take_of_length_le (by omega), hk, List.take_succ_cons, fitsGo_nine (lowU_gt _)] at h2
    cases h2
end Go.Proofs.YtnipaiklandliaaGreatDoor
/- num.Parse, walked. -/
namespace Go.Proofs.YtnipaiklandliaaGreatDoor
open Go Go.Abs AbsSeat Ty

theorem u85 : type_of% (And.intro (fun (K : Heap) (n : Int) => conv_int Tryz.underlying5 Tryz.underlying126 K n) (And.intro (fun (K : Heap) (n : Int) => conv_int Tryz.underlying126 Tryz.underlying2 K n) (And.intro ag2 (And.intro sz2 (And.intro by2 (And.intro ze2 (And.intro Tryz.underlying2 (And.intro ag3 (And.intro sz3 (And.intro by3 (And.intro ze3 (And.intro Tryz.underlying3 (And.intro ag5 (And.intro sz5 (And.intro by5 (And.intro ze5 (And.intro Tryz.underlying5 (And.intro ag9 (And.intro sz9 (And.intro by9 (And.intro ze9 (And.intro Tryz.underlying9 (And.intro ag28 (And.intro sz28 (And.intro by28 (And.intro ze28 (And.intro Tryz.underlying28 (And.intro ag110 (And.intro sz110 (And.intro by110 (And.intro ze110 (And.intro Tryz.underlying110 (And.intro ag126 (And.intro sz126 (And.intro by126 (And.intro ze126 Tryz.underlying126)))))))))))))))))))))))))))))))))))) := And.intro (fun (K : Heap) (n : Int) => conv_int Tryz.underlying5 Tryz.underlying126 K n) (And.intro (fun (K : Heap) (n : Int) => conv_int Tryz.underlying126 Tryz.underlying2 K n) (And.intro ag2 (And.intro sz2 (And.intro by2 (And.intro ze2 (And.intro Tryz.underlying2 (And.intro ag3 (And.intro sz3 (And.intro by3 (And.intro ze3 (And.intro Tryz.underlying3 (And.intro ag5 (And.intro sz5 (And.intro by5 (And.intro ze5 (And.intro Tryz.underlying5 (And.intro ag9 (And.intro sz9 (And.intro by9 (And.intro ze9 (And.intro Tryz.underlying9 (And.intro ag28 (And.intro sz28 (And.intro by28 (And.intro ze28 (And.intro Tryz.underlying28 (And.intro ag110 (And.intro sz110 (And.intro by110 (And.intro ze110 (And.intro Tryz.underlying110 (And.intro ag126 (And.intro sz126 (And.intro by126 (And.intro ze126 Tryz.underlying126)))))))))))))))))))))))))))))))))))
def g85 : Code :=
  .seq (.region 0 #[q 4 (.assign (.const (.int .u64 0))) 126, q 5 (.assign (ik 0)) 28] false) (.seq (.region 1 #[q 6 (.assign (.const (.int .u64 0))) 126] false) (.seq (.seq (.region 2 #[q 9 (.move (.tmp 0)) 9, q 10 (bi .len #[.tmp 9] #[9]) 3, q 11 (.move (ik 0)) 3] false) (.block 0 (.loop (.seq (.region 3 #[q 12 (.binOp .lss 3 (.tmp 11) (.tmp 10) 3) 4] false) (.seq (.cond (.tmp 12) .skip (.exit 0)) (.seq (.block 1 (.seq (.region 4 #[q 13 (.move (.tmp 11)) 3, q 7 (.assign (.tmp 13)) 3] false) (.seq (.region 5 #[q 14 (.move (.tmp 0)) 9, q 15 (.move (.tmp 7)) 3, q 16 (.index 9 (.tmp 14) (.tmp 15)) 5, q 17 (.binOp .sub 5 (.tmp 16) (.const (.int .u8 48)) 5) 5, q 18 (.convert 5 126 (.tmp 17)) 126, q 8 (.assign (.tmp 18)) 126] false) (.seq (.seq (.region 6 #[q 19 (.move (.tmp 6)) 126, q 20 (.move (.tmp 1)) 126, q 21 (.move (.tmp 8)) 126, q 22 (.binOp .sub 126 (.tmp 20) (.tmp 21) 126) 126, q 23 (.binOp .quo 126 (.tmp 22) (.const (.int .u64 10)) 126) 126, q 24 (.binOp .gtr 126 (.tmp 19) (.tmp 23) 126) 4] false) (.cond (.tmp 24) (.seq (.region 7 #[q 4 (.assign (.const (.int .u64 0))) 126, q 5 (.assign (ik 5)) 28] false) .ret) .skip)) (.region 8 #[q 25 (.move (.tmp 6)) 126, q 26 (.binOp .mul 126 (.tmp 25) (.const (.int .u64 10)) 126) 126, q 27 (.move (.tmp 8)) 126, q 28 (.binOp .add 126 (.tmp 26) (.tmp 27) 126) 126, q 6 (.assign (.tmp 28)) 126] false))))) (.region 9 #[q 29 (.binOp .add 3 (.tmp 11) (ik 1) 3) 3, q 11 (.move (.tmp 29)) 3] false))))))) (.seq (.region 10 #[q 30 (.move (.tmp 6)) 126, q 4 (.assign (.tmp 30)) 126, q 5 (.assign (ik 0)) 28] false) .ret)))
theorem s85 : Tryz.f85.body.map (slim cfg) = some g85 := by kernel_rfl
def g49 : Code :=
  .seq (.region 0 #[q 2 (.assign (ik 0)) 2, q 3 (.assign (ik 0)) 28] false) (.seq (.region 1 #[q 8 (.move (.tmp 0)) 9, q 9 (bi .len #[.tmp 8] #[9]) 3, q 10 (.binOp .gtr 3 (.tmp 9) (ik 0) 3) 4, q 11 (.move (.tmp 10)) 4, qg 12 (.move (.tmp 0)) 9 3 true, qg 13 (.index 9 (.tmp 12) (ik 0)) 5 3 true, qg 14 (.binOp .eql 5 (.tmp 13) (.const (.int .u8 45)) 5) 4 3 true, q 15 (.pick (.tmp 11) (.tmp 14) (.const (.bool false))) 4, q 4 (.assign (.tmp 15)) 4] false) (.seq (.region 2 #[q 5 (.assign (.const (.int .u64 9223372036854775807))) 126] false) (.seq (.seq (.region 3 #[q 16 (.move (.tmp 4)) 4] false) (.cond (.tmp 16) (.seq (.region 4 #[q 17 (.move (.tmp 0)) 9, q 18 (.slice 9 (.tmp 17) (some (ik 1)) none none) 9, q 0 (.assign (.tmp 18)) 9] false) (.region 5 #[q 19 (.move (.tmp 5)) 126, q 20 (.binOp .add 126 (.tmp 19) (.const (.int .u64 1)) 126) 126, q 5 (.assign (.tmp 20)) 126] false)) .skip)) (.seq (.seq (.region 6 #[q 21 (.move (.tmp 0)) 9, q 22 (.binOp .eql 9 (.tmp 21) (.const (.string { data := #[] })) 9) 4, q 23 (.move (.tmp 22)) 4, qg 24 (.move (.tmp 0)) 9 2 false, qg 25 (cl 63 #[.tmp 24, .func 62] #[9, 110]) 4 2 false, qg 26 (.unOp .not 4 (.tmp 25)) 4 2 false, q 27 (.pick (.tmp 23) (.const (.bool true)) (.tmp 26)) 4, q 28 (.move (.tmp 27)) 4, qg 29 (.move (.tmp 0)) 9 7 false, qg 30 (bi .len #[.tmp 29] #[9]) 3 7 false, qg 31 (.binOp .gtr 3 (.tmp 30) (ik 1) 3) 4 7 false, qg 32 (.move (.tmp 31)) 4 7 false, qg 33 (.move (.tmp 0)) 9 11 true, qg 34 (.index 9 (.tmp 33) (ik 0)) 5 11 true, qg 35 (.binOp .eql 5 (.tmp 34) (.const (.int .u8 48)) 5) 4 11 true, qg 36 (.pick (.tmp 32) (.tmp 35) (.const (.bool false))) 4 7 false, q 37 (.pick (.tmp 28) (.const (.bool true)) (.tmp 36)) 4] false) (.cond (.tmp 37) (.seq (.region 7 #[q 2 (.assign (ik 0)) 2, q 3 (.assign (ik 3)) 28] false) .ret) .skip)) (.seq (.region 8 #[q 39 (.move (.tmp 0)) 9, q 40 (.move (.tmp 5)) 126, q 41 (cl 85 #[.tmp 39, .tmp 40] #[9, 126]) 138, q 38 (.move (.tmp 41)) 138, q 42 (.extract (.tmp 38) 0) 126, q 43 (.extract (.tmp 38) 1) 28, q 6 (.assign (.tmp 42)) 126, q 7 (.assign (.tmp 43)) 28] false) (.seq (.seq (.region 9 #[q 44 (.move (.tmp 7)) 28, q 45 (.binOp .neq 28 (.tmp 44) (ik 0) 28) 4] false) (.cond (.tmp 45) (.seq (.region 10 #[q 46 (.move (.tmp 7)) 28, q 2 (.assign (ik 0)) 2, q 3 (.assign (.tmp 46)) 28] false) .ret) .skip)) (.seq (.seq (.region 11 #[q 47 (.move (.tmp 4)) 4] false) (.cond (.tmp 47) (.seq (.region 12 #[q 48 (.move (.tmp 6)) 126, q 49 (.unOp .neg 126 (.tmp 48)) 126, q 50 (.convert 126 2 (.tmp 49)) 2, q 2 (.assign (.tmp 50)) 2, q 3 (.assign (ik 0)) 28] false) .ret) .skip)) (.seq (.region 13 #[q 51 (.move (.tmp 6)) 126, q 52 (.convert 126 2 (.tmp 51)) 2, q 2 (.assign (.tmp 52)) 2, q 3 (.assign (ik 0)) 28] false) .ret))))))))
theorem s49 : Tryz.f49.body.map (slim cfg) = some g49 := by kernel_rfl

theorem allF_ok (f : Nat) (p : Int → Bool) (hf : ∀ (c : UInt8) (prot : Nat) (H : Heap), prot ≤ H.length → aLim cfg prot f [.int .u8 c.toNat] H = some (.bool (p c.toNat), none)) (s : List UInt8) (hl : s.length ≤ 9223372036854775807) (prot : Nat) (H : Heap) (hp : prot ≤ H.length) :
    aLim cfg prot 63 [.str s, .func f [] []] H = some (.bool (s.all fun c => p c.toNat), none) := by
  have hsnap : snap H [.str s, .func f [] []] = some ([.str s, .func f [] []], false) := rfl
  have fnn : ∀ (K : Heap) (xo yo : Operand), aBinH Tryz.prog K .neq 110 xo yo (.func f [] []) .nilF = some (.bool true) := fun K xo yo => by simp [aBinH, aBin, aNilNe, Tryz.underlying110]
  refine pure_slim rfl (by kernel_rfl) Tryz.func63 s63 hp hsnap (by simp [Tryz.f63]) fun fr hlen h => ?_
  simp only [Has, Nat.zero_add] at h
  obtain ⟨a0, a1, -⟩ := h
  simp only [Tryz.f63] at hlen ⊢
  unfold g63
  simp only [wk, aBuiltin, AV.cells, AV.leaf, Nat.reduceEqDiff, Nat.reduceLT, Nat.reduceAdd, Nat.reduceLeDiff, reduceCtorEq, Nat.reduceMul, Nat.reduceMod, cfgP, u63, hlen, a0, a1]
  refine loop_rule (fun m fr H' => ∃ (i : Nat), m = s.length - i ∧ i ≤ s.length ∧ fr.length = 24 ∧ fget fr 0 = .str s ∧ fget fr 1 = .func f [] [] ∧ fget fr 5 = .int .i64 i ∧ H' = H
    ∧ (s.all fun c => p c.toNat) = ((s.drop i).all fun c => p c.toNat)) ?_ s.length _ _ ⟨0, by simp [wk, aBuiltin, AV.cells, AV.leaf, Nat.reduceEqDiff, Nat.reduceLT, Nat.reduceAdd, Nat.reduceLeDiff, reduceCtorEq, Nat.reduceMul, Nat.reduceMod, cfgP, u63, hlen, a0, a1]⟩
  rintro m fr H' ⟨i, rfl, hi, hlen, a0, a1, a5, rfl, hc⟩ ih
  simp only [wk, aBuiltin, AV.cells, AV.leaf, Nat.reduceEqDiff, Nat.reduceLT, Nat.reduceAdd, Nat.reduceLeDiff, reduceCtorEq, Nat.reduceMul, Nat.reduceMod, cfgP, u63, hlen, a0, a1, a5, fnn, str_len Tryz.underlying9]
  refine RC_split (fun h => ?_) (fun h => ?_)
  · have hlt : i < s.length := by simpa using h
    have hw : IntKind.i64.wrap ((i : Int) + 1) = ((i + 1 : Nat) : Int) := by rw [wrap64 (by omega) (by omega)]; simp
    have e1 := str_at (P := Tryz.prog) Tryz.underlying9 s (k := .i64) hlt
    have hd : s.drop i = s[i] :: s.drop (i + 1) := by simp
    rw [hd, List.all_cons] at hc
    generalize s[i] = x at *
    have n1 := hf x H'.length H' (Nat.le_refl _)
    cases hx : p (x.toNat : Int) with
    | true =>
      rw [hx] at n1 hc
      simp only [wk, aBuiltin, AV.cells, AV.leaf, Nat.reduceEqDiff, Nat.reduceLT, Nat.reduceAdd, Nat.reduceLeDiff, reduceCtorEq, Nat.reduceMul, Nat.reduceMod, cfgP, u63, hlen, a0, a1, a5, e1, n1, hw]
      refine ih _ _ (s.length - (i + 1)) (by omega) ⟨i + 1, rfl, hlt, ?_⟩
      rw [hc]
      simp [wk, aBuiltin, AV.cells, AV.leaf, Nat.reduceEqDiff, Nat.reduceLT, Nat.reduceAdd, Nat.reduceLeDiff, reduceCtorEq, Nat.reduceMul, Nat.reduceMod, cfgP, u63, hlen, a0, a1]
    | false =>
      rw [hx] at n1 hc
      simp only [wk, aBuiltin, AV.cells, AV.leaf, Nat.reduceEqDiff, Nat.reduceLT, Nat.reduceAdd, Nat.reduceLeDiff, reduceCtorEq, Nat.reduceMul, Nat.reduceMod, cfgP, u63, hlen, a0, a1, a5, e1, n1]
      rw [hc]
      simp only [Bool.false_and]
      exact Fin_pure (l := [.bool false]) (by simp [wk, aBuiltin, AV.cells, AV.leaf, Nat.reduceEqDiff, Nat.reduceLT, Nat.reduceAdd, Nat.reduceLeDiff, reduceCtorEq, Nat.reduceMul, Nat.reduceMod, cfgP, u63, aResults, aResult, hlen]) (.still rfl) (by simp)
  · have hnl : ¬ i < s.length := by simpa using h
    have hd : s.drop i = [] := by simp; omega
    rw [hd] at hc
    rw [hc]
    simp only [wk, aBuiltin, AV.cells, AV.leaf, Nat.reduceEqDiff, Nat.reduceLT, Nat.reduceAdd, Nat.reduceLeDiff, reduceCtorEq, Nat.reduceMul, Nat.reduceMod, cfgP, u63, hlen, a0, a1, fnn, List.all_nil]
    exact Fin_pure (l := [.bool true]) (by simp [wk, aBuiltin, AV.cells, AV.leaf, Nat.reduceEqDiff, Nat.reduceLT, Nat.reduceAdd, Nat.reduceLeDiff, reduceCtorEq, Nat.reduceMul, Nat.reduceMod, cfgP, u63, aResults, aResult, hlen]) (.still rfl) (by simp)

/-- the number of digits, if it is not above one. -/
def digGo (most : Nat) : Nat → List UInt8 → Option Nat
  | v, [] => some v
  | v, c :: r => if (most - (c.toNat - 48)) / 10 < v then none else digGo most (v * 10 + (c.toNat - 48)) r
def dig2 : Option Nat → AV
  | some v => .tup [.int .u64 v, .int .i64 0]
  | none => .tup [.int .u64 0, .int .i64 5]

theorem digits_ok (s : List UInt8) (most : Nat) (hs : ∀ c ∈ s, digitC c.toNat = true) (hm : 9 ≤ most) (hm2 : most < 18446744073709551616) (hl : s.length ≤ 9223372036854775807) (prot : Nat) (H : Heap) (hp : prot ≤ H.length) :
    aLim cfg prot 85 [.str s, .int .u64 most] H = some (dig2 (digGo most 0 s), none) := by
  have hsnap : snap H [.str s, .int .u64 most] = some ([.str s, .int .u64 most], false) := rfl
  have hfz : ∀ (K : Heap) (x y : AV), still x = true → still y = true → Frz K H.length (packR [x, y]) (.tup [x, y]) := fun K x y h1 h2 => .tup (.cons (.still h1) (.cons (.still h2) .nil))
  refine pure_slim rfl (by kernel_rfl) Tryz.func85 s85 hp hsnap (by simp [Tryz.f85]) fun fr hlen h => ?_
  simp only [Has, Nat.zero_add] at h
  obtain ⟨a0, a1, -⟩ := h
  simp only [Tryz.f85] at hlen ⊢
  unfold g85
  simp only [wk, aBuiltin, AV.cells, AV.leaf, Nat.reduceEqDiff, Nat.reduceLT, Nat.reduceAdd, Nat.reduceLeDiff, reduceCtorEq, Nat.reduceMul, Nat.reduceMod, cfgP, u85, hlen, a0, a1, str_len Tryz.underlying9]
  refine loop_rule (fun m fr H' => ∃ (i v : Nat), m = s.length - i ∧ i ≤ s.length ∧ fr.length = 31 ∧ fget fr 0 = .str s ∧ fget fr 1 = .int .u64 most ∧ fget fr 6 = .int .u64 v ∧ fget fr 10 = .int .i64 s.length ∧ fget fr 11 = .int .i64 i ∧ v ≤ most
    ∧ digGo most 0 s = digGo most v (s.drop i)) ?_ s.length _ _ ⟨0, 0, by simp [wk, aBuiltin, AV.cells, AV.leaf, Nat.reduceEqDiff, Nat.reduceLT, Nat.reduceAdd, Nat.reduceLeDiff, reduceCtorEq, Nat.reduceMul, Nat.reduceMod, cfgP, u85, hlen, a0, a1]⟩
  rintro m fr K ⟨i, v, rfl, hi, hlen, a0, a1, a6, a10, a11, hv, hc⟩ ih
  simp only [wk, aBuiltin, AV.cells, AV.leaf, Nat.reduceEqDiff, Nat.reduceLT, Nat.reduceAdd, Nat.reduceLeDiff, reduceCtorEq, Nat.reduceMul, Nat.reduceMod, cfgP, u85, hlen, a0, a1, a6, a10, a11]
  refine RC_split (fun h => ?_) (fun h => ?_)
  · have hlt : i < s.length := by simpa using h
    have hww : IntKind.i64.wrap ((i : Int) + 1) = ((i + 1 : Nat) : Int) := by rw [wrap64 (by omega) (by omega)]; simp
    have e1 := str_at (P := Tryz.prog) Tryz.underlying9 s (k := .i64) hlt
    have hd := hs s[i] (List.getElem_mem hlt)
    rw [List.drop_eq_getElem_cons hlt, digGo] at hc
    generalize s[i] = c at *
    have hd : 48 ≤ c.toNat ∧ c.toNat ≤ 57 := by unfold digitC at hd; simp at hd; omega
    obtain ⟨d, hcd, hd9⟩ : ∃ d : Nat, c.toNat = d + 48 ∧ d ≤ 9 := ⟨c.toNat - 48, by omega, by omega⟩
    have ed : c.toNat - 48 = d := by omega
    rw [ed] at hc
    have w1 : IntKind.u8.wrap ((c.toNat : Int) - 48) = (d : Int) := by
      rw [hcd]
      simp [IntKind.wrap, IntKind.bits, IntKind.signed]; omega
    have w2 : IntKind.u64.wrap ((d : Nat) : Int) = (d : Int) := wrapu64 (by omega) (by omega)
    have w3 : IntKind.u64.wrap ((most : Int) - (d : Nat)) = ((most - d : Nat) : Int) := by rw [wrapu64 (by omega) (by omega)]; omega
    have q1 : ∀ xo yo, aBin Tryz.prog .quo 126 xo yo (.int .u64 ((most - d : Nat) : Int)) (.int .u64 10) = some (.int .u64 (((most - d) / 10 : Nat) : Int)) := fun xo yo => by
      have h1 := Nat.div_le_self (most - d) 10
      rw [show (10 : Int) = ((10 : Nat) : Int) from rfl, bin_quo_nat (by omega)]
      generalize (most - d) / 10 = y at *
      rw [wrapu64 (by omega) (by omega)]
    by_cases hgt : (most - d) / 10 < v
    · have c1 : decide ((((most - d) / 10 : Nat) : Int) < (v : Nat)) = true := decide_eq_true (by omega)
      rw [if_pos hgt] at hc
      rw [hc]
      simp only [wk, aBuiltin, AV.cells, AV.leaf, Nat.reduceEqDiff, Nat.reduceLT, Nat.reduceAdd, Nat.reduceLeDiff, reduceCtorEq, Nat.reduceMul, Nat.reduceMod, cfgP, u85, hlen, a0, a1, a6, a10, a11, e1, w1, w2, w3, q1, c1]
      exact Fin_pure (l := [.int .u64 0, .int .i64 5]) (by simp [wk, aBuiltin, AV.cells, AV.leaf, Nat.reduceEqDiff, Nat.reduceLT, Nat.reduceAdd, Nat.reduceLeDiff, reduceCtorEq, Nat.reduceMul, Nat.reduceMod, cfgP, u85, hlen, aResults, aResult]) (hfz _ _ _ rfl rfl) (by simp [dig2, flat, flat1, flat0])
    · have c1 : decide ((((most - d) / 10 : Nat) : Int) < (v : Nat)) = false := decide_eq_false (by omega)
      rw [if_neg hgt] at hc
      have w4 : IntKind.u64.wrap ((v : Int) * 10) = ((v * 10 : Nat) : Int) := by rw [wrapu64 (by omega) (by omega)]; simp
      have w5 : IntKind.u64.wrap (((v * 10 : Nat) : Int) + (d : Nat)) = ((v * 10 + d : Nat) : Int) := by rw [wrapu64 (by omega) (by omega)]; simp
      simp only [wk, aBuiltin, AV.cells, AV.leaf, Nat.reduceEqDiff, Nat.reduceLT, Nat.reduceAdd, Nat.reduceLeDiff, reduceCtorEq, Nat.reduceMul, Nat.reduceMod, cfgP, u85, hlen, a0, a1, a6, a10, a11, e1, w1, w2, w3, q1, c1, w4, w5, hww]
      refine ih _ _ (s.length - (i + 1)) (by omega) ⟨i + 1, v * 10 + d, rfl, hlt, ?_⟩
      have hle : v * 10 + d ≤ most := by
        have := Nat.div_add_mod (most - d) 10
        omega
      rw [hc]
      simp [wk, aBuiltin, AV.cells, AV.leaf, Nat.reduceEqDiff, Nat.reduceLT, Nat.reduceAdd, Nat.reduceLeDiff, reduceCtorEq, Nat.reduceMul, Nat.reduceMod, cfgP, u85, hlen, a0, a1, a10, hle]
  · have hnl : ¬ i < s.length := by simpa using h
    rw [List.drop_eq_nil_of_le (by omega), digGo] at hc
    rw [hc]
    simp only [wk, aBuiltin, AV.cells, AV.leaf, Nat.reduceEqDiff, Nat.reduceLT, Nat.reduceAdd, Nat.reduceLeDiff, reduceCtorEq, Nat.reduceMul, Nat.reduceMod, cfgP, u85, hlen, a0, a1, a6, a10, a11]
    exact Fin_pure (l := [.int .u64 v, .int .i64 0]) (by simp [wk, aBuiltin, AV.cells, AV.leaf, Nat.reduceEqDiff, Nat.reduceLT, Nat.reduceAdd, Nat.reduceLeDiff, reduceCtorEq, Nat.reduceMul, Nat.reduceMod, cfgP, u85, hlen, aResults, aResult]) (hfz _ _ _ rfl rfl) (by simp [dig2, flat, flat1, flat0])
theorem digGo_le (most : Nat) : ∀ (s : List UInt8) (v x : Nat), v ≤ most → 9 ≤ most → (∀ c ∈ s, digitC c.toNat = true) → digGo most v s = some x → x ≤ most
  | [], v, x, hv, _, _, h => by simp only [digGo, Option.some.injEq] at h; omega
  | c :: r, v, x, hv, hm, hs, h => by
    have hd := hs c (by simp)
    have hd : 48 ≤ c.toNat ∧ c.toNat ≤ 57 := by unfold digitC at hd; simp at hd; omega
    rw [digGo] at h
    split at h
    · cases h
    · exact digGo_le most r _ x (by omega) hm (fun d hd => hs d (by simp [hd])) h
/-- a whole number behind its sign. -/
def numD (minus : Bool) (d : List UInt8) : Int × Int :=
  if d = [] ∨ (d.all fun c => digitC c.toNat) = false ∨ (1 < d.length ∧ d.head? = some 48) then (0, 3)
  else match digGo (if minus then 9223372036854775808 else 9223372036854775807) 0 d with
    | none => (0, 5)
    | some v => (if minus then -(v : Int) else v, 0)
def numS (s : List UInt8) : Int × Int := if s.head? = some 45 then numD true (s.drop 1) else numD false s
theorem neg64 {v : Nat} (h : v ≤ 9223372036854775808) : IntKind.i64.wrap (IntKind.u64.wrap (0 - (v : Int))) = -(v : Int) := by
  simp only [IntKind.wrap, IntKind.signed, IntKind.bits]; simp; omega
theorem pos64 {v : Nat} (h : v ≤ 9223372036854775807) : IntKind.i64.wrap (v : Int) = (v : Int) := wrap64 (by omega) (by omega)
theorem unop_neg (P : Program) (k : IntKind) (a : Int) : ((toV1 (.int k a)).bind fun v => (pureOf P (Op.unary .neg v)).bind ofV1) = some (.int k (k.wrap (0 - a))) := rfl

theorem parse_ok (s : List UInt8) (hl : s.length < 100000000000000) (prot : Nat) (H : Heap) (hp : prot ≤ H.length) : aLim cfg prot 49 [.str s] H = some (.tup [.int .i64 (numS s).1, .int .i64 (numS s).2], none) := by
  have hsnap : snap H [.str s] = some ([.str s], false) := rfl
  have hfz : ∀ (K : Heap) (x y : AV), still x = true → still y = true → Frz K H.length (packR [x, y]) (.tup [x, y]) := fun K x y h1 h2 => .tup (.cons (.still h1) (.cons (.still h2) .nil))
  have hls : ∀ K (u : List UInt8), aLen Tryz.prog K 9 (.str u) = some (.int .i64 u.length) := fun K u => str_len Tryz.underlying9 u K
  have ad : ∀ (d : List UInt8), d.length ≤ s.length → aLim cfg H.length 63 [.str d, .func 62 [] []] H = some (.bool (d.all fun c => digitC c.toNat), none) :=
    fun d hd => allF_ok 62 digitC (fun c prot H hp => digit_ok _ prot H hp) d (by omega) H.length H (Nat.le_refl _)
  have lim : IntKind.u64.wrap (9223372036854775807 + 1) = 9223372036854775808 := by rfl
  have dn50 : decide (¬ (5 : Int) = 0) = true := by decide
  have dn00 : decide (¬ (0 : Int) = 0) = false := by decide
  by_cases hm : s.head? = some 45
  · obtain ⟨d, hd⟩ : ∃ d, s = 45 :: d := by
      cases s with
      | nil => cases hm
      | cons c r => exact ⟨r, by simp at hm; rw [hm]⟩
    have hnum : numS s = numD true d := by rw [hd]; simp [numS]
    rw [hnum]
    have e0 : aIndex Tryz.prog 9 (.str s) (.int .i64 0) = some (.int .u8 45) := by
      rw [hd]; exact str_at (k := .i64) Tryz.underlying9 (45 :: d) (i := 0) (by simp)
    have e1 : aSlice Tryz.prog 9 (.str s) (some (.int .i64 1)) none none = some (.str d) := by
      rw [hd]; exact str_from (k := .i64) Tryz.underlying9 (45 :: d) (a := 1) (by simp)
    have hpos : decide ((0 : Int) < (s.length : Nat)) = true := decide_eq_true (by rw [hd]; simp only [List.length_cons]; omega)
    have hdl : d.length ≤ s.length := by rw [hd]; simp
    have nd := ad d hdl
    clear hd hm
    by_cases c1 : d = []
    · have hse : (d == []) = true := by rw [c1]; rfl
      rw [show numD true d = (0, 3) by unfold numD; rw [if_pos (.inl c1)]]
      refine pure_slim rfl (by kernel_rfl) Tryz.func49 s49 hp hsnap (by simp [Tryz.f49]) fun fr hlen h => ?_
      simp only [Has, Nat.zero_add] at h
      obtain ⟨a0, -⟩ := h
      simp only [Tryz.f49] at hlen ⊢
      unfold g49
      simp only [wk, aBuiltin, AV.cells, AV.leaf, Nat.reduceEqDiff, Nat.reduceLT, Nat.reduceAdd, Nat.reduceLeDiff, reduceCtorEq, Nat.reduceMul, Nat.reduceMod, cfgP, u85, hlen, a0, hls, hpos, e0, e1, lim, none_beq, str_eql, hse]
      exact Fin_pure (l := [.int .i64 0, .int .i64 3]) (by simp [wk, aBuiltin, AV.cells, AV.leaf, Nat.reduceEqDiff, Nat.reduceLT, Nat.reduceAdd, Nat.reduceLeDiff, reduceCtorEq, Nat.reduceMul, Nat.reduceMod, cfgP, u85, hlen, aResults, aResult]) (hfz _ _ _ rfl rfl) (by simp)
    · have hse : (d == []) = false := by simpa using c1
      cases hall : (d.all fun c => digitC c.toNat) with
      | false =>
        rw [hall] at nd
        rw [show numD true d = (0, 3) by unfold numD; rw [if_pos (.inr (.inl hall))]]
        refine pure_slim rfl (by kernel_rfl) Tryz.func49 s49 hp hsnap (by simp [Tryz.f49]) fun fr hlen h => ?_
        simp only [Has, Nat.zero_add] at h
        obtain ⟨a0, -⟩ := h
        simp only [Tryz.f49] at hlen ⊢
        unfold g49
        simp only [wk, aBuiltin, AV.cells, AV.leaf, Nat.reduceEqDiff, Nat.reduceLT, Nat.reduceAdd, Nat.reduceLeDiff, reduceCtorEq, Nat.reduceMul, Nat.reduceMod, cfgP, u85, hlen, a0, hls, hpos, e0, e1, lim, none_beq, str_eql, hse, nd]
        exact Fin_pure (l := [.int .i64 0, .int .i64 3]) (by simp [wk, aBuiltin, AV.cells, AV.leaf, Nat.reduceEqDiff, Nat.reduceLT, Nat.reduceAdd, Nat.reduceLeDiff, reduceCtorEq, Nat.reduceMul, Nat.reduceMod, cfgP, u85, hlen, aResults, aResult]) (hfz _ _ _ rfl rfl) (by simp)
      | true =>
        rw [hall] at nd
        have hpd : 0 < d.length := List.length_pos_iff.2 c1
        have e3 := str_at (k := .i64) Tryz.underlying9 d hpd
        have e3 : aIndex Tryz.prog 9 (.str d) (.int .i64 0) = some (.int .u8 (d[0].toNat : Int)) := e3
        have hh : d.head? = some d[0] := by rw [List.head?_eq_getElem?, List.getElem?_eq_getElem hpd]
        have hbad : 1 < d.length ∧ d[0] = 48 ∨ (¬ (1 < d.length) ∨ ¬ d[0] = 48) := by
          by_cases x : 1 < d.length
          · by_cases y : d[0] = 48
            · exact .inl ⟨x, y⟩
            · exact .inr (.inr y)
          · exact .inr (.inl x)
        rcases hbad with ⟨b1, b2⟩ | hgood
        · rw [show numD true d = (0, 3) by unfold numD; rw [if_pos (.inr (.inr ⟨b1, by rw [hh, b2]⟩))]]
          have d2 : decide (((d[0].toNat : Nat) : Int) = 48) = true := by rw [b2]; rfl
          have d1 : decide ((1 : Int) < (d.length : Nat)) = true := decide_eq_true (by omega)
          refine pure_slim rfl (by kernel_rfl) Tryz.func49 s49 hp hsnap (by simp [Tryz.f49]) fun fr hlen h => ?_
          simp only [Has, Nat.zero_add] at h
          obtain ⟨a0, -⟩ := h
          simp only [Tryz.f49] at hlen ⊢
          unfold g49
          simp only [wk, aBuiltin, AV.cells, AV.leaf, Nat.reduceEqDiff, Nat.reduceLT, Nat.reduceAdd, Nat.reduceLeDiff, reduceCtorEq, Nat.reduceMul, Nat.reduceMod, cfgP, u85, hlen, a0, hls, hpos, e0, e1, lim, none_beq, str_eql, hse, nd, e3, d1, d2]
          exact Fin_pure (l := [.int .i64 0, .int .i64 3]) (by simp [wk, aBuiltin, AV.cells, AV.leaf, Nat.reduceEqDiff, Nat.reduceLT, Nat.reduceAdd, Nat.reduceLeDiff, reduceCtorEq, Nat.reduceMul, Nat.reduceMod, cfgP, u85, hlen, aResults, aResult]) (hfz _ _ _ rfl rfl) (by simp)
        · have hdg : ∀ c ∈ d, digitC c.toNat = true := fun c hc => List.all_eq_true.1 hall c hc
          have nn : aLim cfg H.length 85 [.str d, .int .u64 9223372036854775808] H = some (dig2 (digGo 9223372036854775808 0 d), none) := digits_ok d 9223372036854775808 hdg (by omega) (by omega) (by omega) H.length H (Nat.le_refl _)
          have hle := digGo_le 9223372036854775808 d 0
          have hnd : numD true d = match digGo 9223372036854775808 0 d with
              | none => (0, 5)
              | some v => (-(v : Int), 0) := by
            unfold numD
            rw [if_neg]
            · rfl
            · rw [hall, hh]
              rintro (x | x | ⟨x, y⟩)
              · exact c1 x
              · cases x
              · injection y with y
                rcases hgood with g | g
                · exact g x
                · exact g y
          have hcase : decide ((1 : Int) < (d.length : Nat)) = false ∨ decide ((1 : Int) < (d.length : Nat)) = true ∧ decide (((d[0].toNat : Nat) : Int) = 48) = false := by
            by_cases x : 1 < d.length
            · rcases hgood with g | g
              · exact absurd x g
              · refine .inr ⟨decide_eq_true (by omega), decide_eq_false fun y => g (UInt8.toNat_inj.1 ?_)⟩
                rw [show (48 : UInt8).toNat = 48 from rfl]; omega
            · exact .inl (decide_eq_false (by omega))
          rw [hnd]
          have hle := fun v h => hle v (by omega) (by omega) hdg h
          generalize d[0] = c0 at *
          cases hgo : digGo 9223372036854775808 0 d with
          | none =>
            rw [hgo, dig2] at nn
            rcases hcase with d1 | ⟨d1, d2⟩
            · refine pure_slim rfl (by kernel_rfl) Tryz.func49 s49 hp hsnap (by simp [Tryz.f49]) fun fr hlen h => ?_
              simp only [Has, Nat.zero_add] at h
              obtain ⟨a0, -⟩ := h
              simp only [Tryz.f49] at hlen ⊢
              unfold g49
              simp only [wk, aBuiltin, AV.cells, AV.leaf, Nat.reduceEqDiff, Nat.reduceLT, Nat.reduceAdd, Nat.reduceLeDiff, reduceCtorEq, Nat.reduceMul, Nat.reduceMod, cfgP, u85, hlen, a0, hls, hpos, e0, e1, lim, none_beq, str_eql, hse, nd, e3, d1, nn, dn50]
              exact Fin_pure (l := [.int .i64 0, .int .i64 5]) (by simp [wk, aBuiltin, AV.cells, AV.leaf, Nat.reduceEqDiff, Nat.reduceLT, Nat.reduceAdd, Nat.reduceLeDiff, reduceCtorEq, Nat.reduceMul, Nat.reduceMod, cfgP, u85, hlen, aResults, aResult]) (hfz _ _ _ rfl rfl) (by simp)
            · refine pure_slim rfl (by kernel_rfl) Tryz.func49 s49 hp hsnap (by simp [Tryz.f49]) fun fr hlen h => ?_
              simp only [Has, Nat.zero_add] at h
              obtain ⟨a0, -⟩ := h
              simp only [Tryz.f49] at hlen ⊢
              unfold g49
              simp only [wk, aBuiltin, AV.cells, AV.leaf, Nat.reduceEqDiff, Nat.reduceLT, Nat.reduceAdd, Nat.reduceLeDiff, reduceCtorEq, Nat.reduceMul, Nat.reduceMod, cfgP, u85, hlen, a0, hls, hpos, e0, e1, lim, none_beq, str_eql, hse, nd, e3, d1, d2, nn, dn50]
              exact Fin_pure (l := [.int .i64 0, .int .i64 5]) (by simp [wk, aBuiltin, AV.cells, AV.leaf, Nat.reduceEqDiff, Nat.reduceLT, Nat.reduceAdd, Nat.reduceLeDiff, reduceCtorEq, Nat.reduceMul, Nat.reduceMod, cfgP, u85, hlen, aResults, aResult]) (hfz _ _ _ rfl rfl) (by simp)
          | some v =>
            rw [hgo, dig2] at nn
            have hv := hle v hgo
            have wv := neg64 (v := v) hv
            rcases hcase with d1 | ⟨d1, d2⟩
            · refine pure_slim rfl (by kernel_rfl) Tryz.func49 s49 hp hsnap (by simp [Tryz.f49]) fun fr hlen h => ?_
              simp only [Has, Nat.zero_add] at h
              obtain ⟨a0, -⟩ := h
              simp only [Tryz.f49] at hlen ⊢
              unfold g49
              simp only [wk, aBuiltin, AV.cells, AV.leaf, Nat.reduceEqDiff, Nat.reduceLT, Nat.reduceAdd, Nat.reduceLeDiff, reduceCtorEq, Nat.reduceMul, Nat.reduceMod, cfgP, u85, hlen, a0, hls, hpos, e0, e1, lim, none_beq, str_eql, hse, nd, e3, d1, nn, dn00, unop_neg, wv]
              exact Fin_pure (l := [.int .i64 (-(v : Int)), .int .i64 0]) (by simp [wk, aBuiltin, AV.cells, AV.leaf, Nat.reduceEqDiff, Nat.reduceLT, Nat.reduceAdd, Nat.reduceLeDiff, reduceCtorEq, Nat.reduceMul, Nat.reduceMod, cfgP, u85, hlen, aResults, aResult]) (hfz _ _ _ rfl rfl) (by simp)
            · refine pure_slim rfl (by kernel_rfl) Tryz.func49 s49 hp hsnap (by simp [Tryz.f49]) fun fr hlen h => ?_
              simp only [Has, Nat.zero_add] at h
              obtain ⟨a0, -⟩ := h
              simp only [Tryz.f49] at hlen ⊢
              unfold g49
              simp only [wk, aBuiltin, AV.cells, AV.leaf, Nat.reduceEqDiff, Nat.reduceLT, Nat.reduceAdd, Nat.reduceLeDiff, reduceCtorEq, Nat.reduceMul, Nat.reduceMod, cfgP, u85, hlen, a0, hls, hpos, e0, e1, lim, none_beq, str_eql, hse, nd, e3, d1, d2, nn, dn00, unop_neg, wv]
              exact Fin_pure (l := [.int .i64 (-(v : Int)), .int .i64 0]) (by simp [wk, aBuiltin, AV.cells, AV.leaf, Nat.reduceEqDiff, Nat.reduceLT, Nat.reduceAdd, Nat.reduceLeDiff, reduceCtorEq, Nat.reduceMul, Nat.reduceMod, cfgP, u85, hlen, aResults, aResult]) (hfz _ _ _ rfl rfl) (by simp)
  · have hnum : numS s = numD false s := by simp [numS, hm]
    rw [hnum]
    have nd := ad s (Nat.le_refl _)
    by_cases hs0 : s = []
    · have hpos : decide ((0 : Int) < (s.length : Nat)) = false := by rw [hs0]; rfl
      have hse : (s == []) = true := by rw [hs0]; rfl
      rw [show numD false s = (0, 3) by unfold numD; rw [if_pos (.inl hs0)]]
      refine pure_slim rfl (by kernel_rfl) Tryz.func49 s49 hp hsnap (by simp [Tryz.f49]) fun fr hlen h => ?_
      simp only [Has, Nat.zero_add] at h
      obtain ⟨a0, -⟩ := h
      simp only [Tryz.f49] at hlen ⊢
      unfold g49
      simp only [wk, aBuiltin, AV.cells, AV.leaf, Nat.reduceEqDiff, Nat.reduceLT, Nat.reduceAdd, Nat.reduceLeDiff, reduceCtorEq, Nat.reduceMul, Nat.reduceMod, cfgP, u85, hlen, a0, hls, hpos, none_beq, str_eql, hse]
      exact Fin_pure (l := [.int .i64 0, .int .i64 3]) (by simp [wk, aBuiltin, AV.cells, AV.leaf, Nat.reduceEqDiff, Nat.reduceLT, Nat.reduceAdd, Nat.reduceLeDiff, reduceCtorEq, Nat.reduceMul, Nat.reduceMod, cfgP, u85, hlen, aResults, aResult]) (hfz _ _ _ rfl rfl) (by simp)
    · have hps : 0 < s.length := List.length_pos_iff.2 hs0
      have hpos : decide ((0 : Int) < (s.length : Nat)) = true := decide_eq_true (by omega)
      have e0 := str_at (k := .i64) Tryz.underlying9 s hps
      have e0 : aIndex Tryz.prog 9 (.str s) (.int .i64 0) = some (.int .u8 (s[0].toNat : Int)) := e0
      have h45 : decide (((s[0].toNat : Nat) : Int) = 45) = false := decide_eq_false fun y => by
        refine hm ?_
        rw [List.head?_eq_getElem?, List.getElem?_eq_getElem hps]
        refine congrArg some (UInt8.toNat_inj.1 ?_)
        rw [show (45 : UInt8).toNat = 45 from rfl]; omega
      by_cases c1 : s = []
      · have hse : (s == []) = true := by rw [c1]; rfl
        rw [show numD false s = (0, 3) by unfold numD; rw [if_pos (.inl c1)]]
        refine pure_slim rfl (by kernel_rfl) Tryz.func49 s49 hp hsnap (by simp [Tryz.f49]) fun fr hlen h => ?_
        simp only [Has, Nat.zero_add] at h
        obtain ⟨a0, -⟩ := h
        simp only [Tryz.f49] at hlen ⊢
        unfold g49
        simp only [wk, aBuiltin, AV.cells, AV.leaf, Nat.reduceEqDiff, Nat.reduceLT, Nat.reduceAdd, Nat.reduceLeDiff, reduceCtorEq, Nat.reduceMul, Nat.reduceMod, cfgP, u85, hlen, a0, hls, hpos, e0, h45, none_beq, str_eql, hse]
        exact Fin_pure (l := [.int .i64 0, .int .i64 3]) (by simp [wk, aBuiltin, AV.cells, AV.leaf, Nat.reduceEqDiff, Nat.reduceLT, Nat.reduceAdd, Nat.reduceLeDiff, reduceCtorEq, Nat.reduceMul, Nat.reduceMod, cfgP, u85, hlen, aResults, aResult]) (hfz _ _ _ rfl rfl) (by simp)
      · have hse : (s == []) = false := by simpa using c1
        cases hall : (s.all fun c => digitC c.toNat) with
        | false =>
          rw [hall] at nd
          rw [show numD false s = (0, 3) by unfold numD; rw [if_pos (.inr (.inl hall))]]
          refine pure_slim rfl (by kernel_rfl) Tryz.func49 s49 hp hsnap (by simp [Tryz.f49]) fun fr hlen h => ?_
          simp only [Has, Nat.zero_add] at h
          obtain ⟨a0, -⟩ := h
          simp only [Tryz.f49] at hlen ⊢
          unfold g49
          simp only [wk, aBuiltin, AV.cells, AV.leaf, Nat.reduceEqDiff, Nat.reduceLT, Nat.reduceAdd, Nat.reduceLeDiff, reduceCtorEq, Nat.reduceMul, Nat.reduceMod, cfgP, u85, hlen, a0, hls, hpos, e0, h45, none_beq, str_eql, hse, nd]
          exact Fin_pure (l := [.int .i64 0, .int .i64 3]) (by simp [wk, aBuiltin, AV.cells, AV.leaf, Nat.reduceEqDiff, Nat.reduceLT, Nat.reduceAdd, Nat.reduceLeDiff, reduceCtorEq, Nat.reduceMul, Nat.reduceMod, cfgP, u85, hlen, aResults, aResult]) (hfz _ _ _ rfl rfl) (by simp)
        | true =>
          rw [hall] at nd
          have hpd : 0 < s.length := List.length_pos_iff.2 c1
          have e3 := str_at (k := .i64) Tryz.underlying9 s hpd
          have e3 : aIndex Tryz.prog 9 (.str s) (.int .i64 0) = some (.int .u8 (s[0].toNat : Int)) := e3
          have hh : s.head? = some s[0] := by rw [List.head?_eq_getElem?, List.getElem?_eq_getElem hpd]
          have hbad : 1 < s.length ∧ s[0] = 48 ∨ (¬ (1 < s.length) ∨ ¬ s[0] = 48) := by
            by_cases x : 1 < s.length
            · by_cases y : s[0] = 48
              · exact .inl ⟨x, y⟩
              · exact .inr (.inr y)
            · exact .inr (.inl x)
          rcases hbad with ⟨b1, b2⟩ | hgood
          · rw [show numD false s = (0, 3) by unfold numD; rw [if_pos (.inr (.inr ⟨b1, by rw [hh, b2]⟩))]]
            have d2 : decide (((s[0].toNat : Nat) : Int) = 48) = true := by rw [b2]; rfl
            have d1 : decide ((1 : Int) < (s.length : Nat)) = true := decide_eq_true (by omega)
            refine pure_slim rfl (by kernel_rfl) Tryz.func49 s49 hp hsnap (by simp [Tryz.f49]) fun fr hlen h => ?_
            simp only [Has, Nat.zero_add] at h
            obtain ⟨a0, -⟩ := h
            simp only [Tryz.f49] at hlen ⊢
            unfold g49
            simp only [wk, aBuiltin, AV.cells, AV.leaf, Nat.reduceEqDiff, Nat.reduceLT, Nat.reduceAdd, Nat.reduceLeDiff, reduceCtorEq, Nat.reduceMul, Nat.reduceMod, cfgP, u85, hlen, a0, hls, hpos, e0, h45, none_beq, str_eql, hse, nd, e3, d1, d2]
            exact Fin_pure (l := [.int .i64 0, .int .i64 3]) (by simp [wk, aBuiltin, AV.cells, AV.leaf, Nat.reduceEqDiff, Nat.reduceLT, Nat.reduceAdd, Nat.reduceLeDiff, reduceCtorEq, Nat.reduceMul, Nat.reduceMod, cfgP, u85, hlen, aResults, aResult]) (hfz _ _ _ rfl rfl) (by simp)
          · have hdg : ∀ c ∈ s, digitC c.toNat = true := fun c hc => List.all_eq_true.1 hall c hc
            have nn : aLim cfg H.length 85 [.str s, .int .u64 9223372036854775807] H = some (dig2 (digGo 9223372036854775807 0 s), none) := digits_ok s 9223372036854775807 hdg (by omega) (by omega) (by omega) H.length H (Nat.le_refl _)
            have hle := digGo_le 9223372036854775807 s 0
            have hnd : numD false s = match digGo 9223372036854775807 0 s with
                | none => (0, 5)
                | some v => ((v : Int), 0) := by
              unfold numD
              rw [if_neg]
              · rfl
              · rw [hall, hh]
                rintro (x | x | ⟨x, y⟩)
                · exact c1 x
                · cases x
                · injection y with y
                  rcases hgood with g | g
                  · exact g x
                  · exact g y
            have hcase : decide ((1 : Int) < (s.length : Nat)) = false ∨ decide ((1 : Int) < (s.length : Nat)) = true ∧ decide (((s[0].toNat : Nat) : Int) = 48) = false := by
              by_cases x : 1 < s.length
              · rcases hgood with g | g
                · exact absurd x g
                · refine .inr ⟨decide_eq_true (by omega), decide_eq_false fun y => g (UInt8.toNat_inj.1 ?_)⟩
                  rw [show (48 : UInt8).toNat = 48 from rfl]; omega
              · exact .inl (decide_eq_false (by omega))
            rw [hnd]
            have hle := fun v h => hle v (by omega) (by omega) hdg h
            generalize s[0] = c0 at *
            cases hgo : digGo 9223372036854775807 0 s with
            | none =>
              rw [hgo, dig2] at nn
              rcases hcase with d1 | ⟨d1, d2⟩
              · refine pure_slim rfl (by kernel_rfl) Tryz.func49 s49 hp hsnap (by simp [Tryz.f49]) fun fr hlen h => ?_
                simp only [Has, Nat.zero_add] at h
                obtain ⟨a0, -⟩ := h
                simp only [Tryz.f49] at hlen ⊢
                unfold g49
                simp only [wk, aBuiltin, AV.cells, AV.leaf, Nat.reduceEqDiff, Nat.reduceLT, Nat.reduceAdd, Nat.reduceLeDiff, reduceCtorEq, Nat.reduceMul, Nat.reduceMod, cfgP, u85, hlen, a0, hls, hpos, e0, h45, none_beq, str_eql, hse, nd, e3, d1, nn, dn50]
                exact Fin_pure (l := [.int .i64 0, .int .i64 5]) (by simp [wk, aBuiltin, AV.cells, AV.leaf, Nat.reduceEqDiff, Nat.reduceLT, Nat.reduceAdd, Nat.reduceLeDiff, reduceCtorEq, Nat.reduceMul, Nat.reduceMod, cfgP, u85, hlen, aResults, aResult]) (hfz _ _ _ rfl rfl) (by simp)
              · refine pure_slim rfl (by kernel_rfl) Tryz.func49 s49 hp hsnap (by simp [Tryz.f49]) fun fr hlen h => ?_
                simp only [Has, Nat.zero_add] at h
                obtain ⟨a0, -⟩ := h
                simp only [Tryz.f49] at hlen ⊢
                unfold g49
                simp only [wk, aBuiltin, AV.cells, AV.leaf, Nat.reduceEqDiff, Nat.reduceLT, Nat.reduceAdd, Nat.reduceLeDiff, reduceCtorEq, Nat.reduceMul, Nat.reduceMod, cfgP, u85, hlen, a0, hls, hpos, e0, h45, none_beq, str_eql, hse, nd, e3, d1, d2, nn, dn50]
                exact Fin_pure (l := [.int .i64 0, .int .i64 5]) (by simp [wk, aBuiltin, AV.cells, AV.leaf, Nat.reduceEqDiff, Nat.reduceLT, Nat.reduceAdd, Nat.reduceLeDiff, reduceCtorEq, Nat.reduceMul, Nat.reduceMod, cfgP, u85, hlen, aResults, aResult]) (hfz _ _ _ rfl rfl) (by simp)
            | some v =>
              rw [hgo, dig2] at nn
              have hv := hle v hgo
              have wv := pos64 (v := v) hv
              rcases hcase with d1 | ⟨d1, d2⟩
              · refine pure_slim rfl (by kernel_rfl) Tryz.func49 s49 hp hsnap (by simp [Tryz.f49]) fun fr hlen h => ?_
                simp only [Has, Nat.zero_add] at h
                obtain ⟨a0, -⟩ := h
                simp only [Tryz.f49] at hlen ⊢
                unfold g49
                simp only [wk, aBuiltin, AV.cells, AV.leaf, Nat.reduceEqDiff, Nat.reduceLT, Nat.reduceAdd, Nat.reduceLeDiff, reduceCtorEq, Nat.reduceMul, Nat.reduceMod, cfgP, u85, hlen, a0, hls, hpos, e0, h45, none_beq, str_eql, hse, nd, e3, d1, nn, dn00, unop_neg, wv]
                exact Fin_pure (l := [.int .i64 ((v : Int)), .int .i64 0]) (by simp [wk, aBuiltin, AV.cells, AV.leaf, Nat.reduceEqDiff, Nat.reduceLT, Nat.reduceAdd, Nat.reduceLeDiff, reduceCtorEq, Nat.reduceMul, Nat.reduceMod, cfgP, u85, hlen, aResults, aResult]) (hfz _ _ _ rfl rfl) (by simp)
              · refine pure_slim rfl (by kernel_rfl) Tryz.func49 s49 hp hsnap (by simp [Tryz.f49]) fun fr hlen h => ?_
                simp only [Has, Nat.zero_add] at h
                obtain ⟨a0, -⟩ := h
                simp only [Tryz.f49] at hlen ⊢
                unfold g49
                simp only [wk, aBuiltin, AV.cells, AV.leaf, Nat.reduceEqDiff, Nat.reduceLT, Nat.reduceAdd, Nat.reduceLeDiff, reduceCtorEq, Nat.reduceMul, Nat.reduceMod, cfgP, u85, hlen, a0, hls, hpos, e0, h45, none_beq, str_eql, hse, nd, e3, d1, d2, nn, dn00, unop_neg, wv]
                exact Fin_pure (l := [.int .i64 ((v : Int)), .int .i64 0]) (by simp [wk, aBuiltin, AV.cells, AV.leaf, Nat.reduceEqDiff, Nat.reduceLT, Nat.reduceAdd, Nat.reduceLeDiff, reduceCtorEq, Nat.reduceMul, Nat.reduceMod, cfgP, u85, hlen, aResults, aResult]) (hfz _ _ _ rfl rfl) (by simp)
end Go.Proofs.YtnipaiklandliaaGreatDoor
/- errors.As, errors.Is at errors of the program's, walked. -/
set_option maxRecDepth 100000
namespace Go.Proofs.YtnipaiklandliaaGreatDoor
open Go Go.Abs AbsSeat Ty

theorem u147 : type_of% (And.intro (show tagT Tryz.prog 242 = 0 from by kernel_rfl) (And.intro ag3 (And.intro sz3 (And.intro by3 (And.intro ze3 (And.intro Tryz.underlying3 (And.intro ag20 (And.intro sz20 (And.intro by20 (And.intro ze20 (And.intro Tryz.underlying20 (And.intro ag76 (And.intro sz76 (And.intro by76 (And.intro ze76 (And.intro Tryz.underlying76 (And.intro ag242 (And.intro sz242 (And.intro by242 (And.intro ze242 (And.intro bu242 (And.intro Tryz.underlying242 (And.intro ag245 (And.intro sz245 (And.intro by245 (And.intro ze245 (And.intro Tryz.underlying245 (And.intro ag247 (And.intro sz247 (And.intro by247 (And.intro ze247 (And.intro Tryz.underlying247 (And.intro ag271 (And.intro sz271 (And.intro by271 (And.intro se271 (And.intro ze271 Tryz.underlying271))))))))))))))))))))))))))))))))))))) := And.intro (show tagT Tryz.prog 242 = 0 from by kernel_rfl) (And.intro ag3 (And.intro sz3 (And.intro by3 (And.intro ze3 (And.intro Tryz.underlying3 (And.intro ag20 (And.intro sz20 (And.intro by20 (And.intro ze20 (And.intro Tryz.underlying20 (And.intro ag76 (And.intro sz76 (And.intro by76 (And.intro ze76 (And.intro Tryz.underlying76 (And.intro ag242 (And.intro sz242 (And.intro by242 (And.intro ze242 (And.intro bu242 (And.intro Tryz.underlying242 (And.intro ag245 (And.intro sz245 (And.intro by245 (And.intro ze245 (And.intro Tryz.underlying245 (And.intro ag247 (And.intro sz247 (And.intro by247 (And.intro ze247 (And.intro Tryz.underlying247 (And.intro ag271 (And.intro sz271 (And.intro by271 (And.intro se271 (And.intro ze271 Tryz.underlying271))))))))))))))))))))))))))))))))))))
def g147 : Code :=
  .seq (.region 0 #[q 4 (.assign (.const (.bool false))) 4] false) (.seq (.seq (.region 1 #[q 8 (.move (.tmp 0)) 76, q 9 (.binOp .eql 76 (.tmp 8) (.const .nilIface) 76) 4] false) (.cond (.tmp 9) (.seq (.region 2 #[q 4 (.assign (.const (.bool false))) 4] false) .ret) .skip)) (.seq (.seq (.region 3 #[q 10 (.move (.tmp 1)) 20, q 11 (.binOp .eql 20 (.tmp 10) (.const .nilIface) 20) 4] false) (.cond (.tmp 11) (.region 4 #[q 12 (.makeInterface 9 (.const (.string { data := #[101, 114, 114, 111, 114, 115, 58, 32, 116, 97, 114, 103, 101, 116, 32, 99, 97, 110, 110, 111, 116, 32, 98, 101, 32, 110, 105, 108] }))) 20, qn (.panic (.tmp 12)) 0] false) .skip)) (.seq (.region 5 #[q 13 (.move (.tmp 1)) 20, q 14 (cl 168 #[.tmp 13] #[20]) 242, q 5 (.alloc 242) 0, qn (.store 242 (.tmp 5) (.tmp 14)) 0] false) (.seq (.region 6 #[q 15 (.load 242 (.tmp 5)) 242, q 16 (cl 169 #[.tmp 15] #[242]) 245, q 6 (.assign (.tmp 16)) 245] false) (.seq (.seq (.region 7 #[q 17 (.move (.tmp 6)) 245, q 18 (.call { callee := .invoke (.tmp 17) "Kind", args := #[], argTypes := #[] }) 247, q 19 (.binOp .neq 247 (.tmp 18) (.const (.int .u8 22)) 247) 4, q 20 (.move (.tmp 19)) 4, qg 21 (.load 242 (.tmp 5)) 242 3 false, qg 22 (cl 170 #[.tmp 21] #[242]) 4 3 false, q 23 (.pick (.tmp 20) (.const (.bool true)) (.tmp 22)) 4] false) (.cond (.tmp 23) (.region 8 #[q 24 (.makeInterface 9 (.const (.string { data := #[101, 114, 114, 111, 114, 115, 58, 32, 116, 97, 114, 103, 101, 116, 32, 109, 117, 115, 116, 32, 98, 101, 32, 97, 32, 110, 111, 110, 45, 110, 105, 108, 32, 112, 111, 105, 110, 116, 101, 114] }))) 20, qn (.panic (.tmp 24)) 0] false) .skip)) (.seq (.region 9 #[q 25 (.move (.tmp 6)) 245, q 26 (.call { callee := .invoke (.tmp 25) "Elem", args := #[], argTypes := #[] }) 245, q 7 (.assign (.tmp 26)) 245] false) (.seq (.seq (.region 10 #[q 27 (.move (.tmp 7)) 245, q 28 (.call { callee := .invoke (.tmp 27) "Kind", args := #[], argTypes := #[] }) 247, q 29 (.binOp .neq 247 (.tmp 28) (.const (.int .u8 20)) 247) 4, q 30 (.move (.tmp 29)) 4, qg 31 (.move (.tmp 7)) 245 3 true, qg 32 (.load 245 (.global 1)) 245 3 true, qg 33 (.call { callee := .invoke (.tmp 31) "Implements", args := #[.tmp 32], argTypes := #[245] }) 4 3 true, qg 34 (.unOp .not 4 (.tmp 33)) 4 3 true, q 35 (.pick (.tmp 30) (.tmp 34) (.const (.bool false))) 4] false) (.cond (.tmp 35) (.region 11 #[q 36 (.makeInterface 9 (.const (.string { data := #[101, 114, 114, 111, 114, 115, 58, 32, 42, 116, 97, 114, 103, 101, 116, 32, 109, 117, 115, 116, 32, 98, 101, 32, 105, 110, 116, 101, 114, 102, 97, 99, 101, 32, 111, 114, 32, 105, 109, 112, 108, 101, 109, 101, 110, 116, 32, 101, 114, 114, 111, 114] }))) 20, qn (.panic (.tmp 36)) 0] false) .skip)) (.seq (.region 12 #[q 37 (.move (.tmp 0)) 76, q 38 (.move (.tmp 1)) 20, q 39 (.load 242 (.tmp 5)) 242, q 40 (.move (.tmp 7)) 245, q 41 (cl 171 #[.tmp 37, .tmp 38, .tmp 39, .tmp 40] #[76, 20, 242, 245]) 4, q 4 (.assign (.tmp 41)) 4] false) .ret))))))))
theorem s147 : Tryz.f147.body.map (slim cfg) = some g147 := by kernel_rfl
def g171 : Code :=
  .seq (.region 0 #[q 6 (.box 242 (.tmp 2)) 0, q 8 (.assign (.const (.bool false))) 4] false) (.block 0 (.loop (.block 1 (.seq (.seq (.region 1 #[q 16 (.move (.tmp 0)) 76, q 17 (cl 182 #[.tmp 16] #[20]) 245, q 18 (.move (.tmp 3)) 245, q 19 (.call { callee := .invoke (.tmp 17) "AssignableTo", args := #[.tmp 18], argTypes := #[245] }) 4] false) (.cond (.tmp 19) (.seq (.region 2 #[q 20 (.load 242 (.tmp 6)) 242, q 21 (cl 183 #[.tmp 20] #[242]) 242, q 22 (.move (.tmp 0)) 76, q 23 (cl 168 #[.tmp 22] #[20]) 242, q 24 (cl 184 #[.tmp 21, .tmp 23] #[242, 242]) 0] false) (.seq (.region 3 #[q 8 (.assign (.const (.bool true))) 4] false) .ret)) .skip)) (.seq (.seq (.region 4 #[q 26 (.move (.tmp 0)) 76, q 27 (.typeAssert (.tmp 26) 76 265 true) 266, q 25 (.move (.tmp 27)) 266, q 28 (.extract (.tmp 25) 0) 265, q 29 (.extract (.tmp 25) 1) 4, q 9 (.assign (.tmp 28)) 265, q 10 (.assign (.tmp 29)) 4] false) (.seq (.region 5 #[q 30 (.move (.tmp 10)) 4, q 31 (.move (.tmp 30)) 4, qg 32 (.move (.tmp 9)) 265 1 true, qg 33 (.move (.tmp 1)) 20 1 true, qg 34 (.call { callee := .invoke (.tmp 32) "As", args := #[.tmp 33], argTypes := #[20] }) 4 1 true, q 35 (.pick (.tmp 31) (.tmp 34) (.const (.bool false))) 4] false) (.cond (.tmp 35) (.seq (.region 6 #[q 8 (.assign (.const (.bool true))) 4] false) .ret) .skip))) (.seq (.region 7 #[q 36 (.move (.tmp 0)) 76] false) (.block 2 (.seq (.region 10 #[q 37 (.typeAssert (.tmp 36) 76 268 true) 0, q 38 (.extract (.tmp 37) 1) 4, q 39 (.extract (.tmp 37) 0) 268] false) (.cond (.tmp 38) (.seq (.region 11 #[q 11 (.assign (.tmp 39)) 268] false) (.seq (.region 12 #[q 40 (.move (.tmp 11)) 268, q 41 (.call { callee := .invoke (.tmp 40) "Unwrap", args := #[], argTypes := #[] }) 76, q 0 (.assign (.tmp 41)) 76] false) (.seq (.region 13 #[q 42 (.move (.tmp 0)) 76, q 43 (.binOp .eql 76 (.tmp 42) (.const .nilIface) 76) 4] false) (.cond (.tmp 43) (.seq (.region 14 #[q 8 (.assign (.const (.bool false))) 4] false) .ret) .skip)))) (.seq (.region 15 #[q 44 (.typeAssert (.tmp 36) 76 270 true) 0, q 45 (.extract (.tmp 44) 1) 4, q 46 (.extract (.tmp 44) 0) 270] false) (.cond (.tmp 45) (.seq (.region 16 #[q 12 (.assign (.tmp 46)) 270] false) (.seq (.seq (.region 17 #[q 47 (.move (.tmp 12)) 270, q 48 (.call { callee := .invoke (.tmp 47) "Unwrap", args := #[], argTypes := #[] }) 271, q 49 (bi .len #[.tmp 48] #[271]) 3, q 50 (.move (ik 0)) 3] false) (.block 3 (.loop (.seq (.region 18 #[q 51 (.binOp .lss 3 (.tmp 50) (.tmp 49) 3) 0] false) (.seq (.cond (.tmp 51) .skip (.exit 3)) (.seq (.block 4 (.seq (.region 19 #[q 52 (.indexAddr 271 (.tmp 48) (.tmp 50)) 0, q 53 (.load 76 (.tmp 52)) 76, q 14 (.assign (.tmp 53)) 76] false) (.seq (.seq (.region 20 #[q 54 (.move (.tmp 14)) 76, q 55 (.binOp .eql 76 (.tmp 54) (.const .nilIface) 76) 4] false) (.cond (.tmp 55) (.exit 4) .skip)) (.seq (.region 21 #[q 56 (.move (.tmp 14)) 76, q 57 (.move (.tmp 1)) 20, q 58 (.load 242 (.tmp 6)) 242, q 59 (.move (.tmp 3)) 245, q 60 (cl 171 #[.tmp 56, .tmp 57, .tmp 58, .tmp 59] #[76, 20, 242, 245]) 4] false) (.cond (.tmp 60) (.seq (.region 22 #[q 8 (.assign (.const (.bool true))) 4] false) .ret) .skip))))) (.region 23 #[q 61 (.binOp .add 3 (.tmp 50) (ik 1) 3) 3, q 50 (.move (.tmp 61)) 3] false))))))) (.seq (.region 24 #[q 8 (.assign (.const (.bool false))) 4] false) .ret))) (.seq (.region 8 #[q 15 (.assign (.tmp 36)) 76] false) (.seq (.region 9 #[q 8 (.assign (.const (.bool false))) 4] false) .ret)))))))))))))
theorem s171 : Tryz.f171.body.map (slim cfg) = some g171 := by kernel_rfl
theorem xTypeOf (t : Nat) (v : AV) (r : AV) (hr : rtypeV Tryz.prog t = some r) (prot : Nat) (H : Heap) : aLim cfg prot 182 [.iface t v] H = some (r, none) :=
  lim_ext (by kernel_rfl) Tryz.func182 (by kernel_rfl) (by kernel_rfl) prot H (by
    have h1 : aExt Tryz.prog prot H Tryz.f182 [.iface t v] = (rtypeV Tryz.prog t).map fun r => (r, none) := by kernel_rfl
    show aExt Tryz.prog prot H Tryz.f182 [.iface t v] = _
    rw [h1, hr]; rfl)
theorem rtE : rtypeV Tryz.prog 28 = some (.iface 260 (.agg [hnd Tryz.prog 28])) := by kernel_rfl
section
variable {P : Program} {t : TypeId} {xo yo : Operand}
theorem iface_nil_eq {ms : Array (String × TypeId)} (hu : P.underlying t = some (.interface ms)) (s : Nat) (v : AV) : aBin P .eql t xo yo (.iface s v) .nilI = some (.bool false) := by simp [aBin, aNilNe, hu]
theorem iface_nil_ne {ms : Array (String × TypeId)} (hu : P.underlying t = some (.interface ms)) (s : Nat) (v : AV) : aBin P .neq t xo yo (.iface s v) .nilI = some (.bool true) := by simp [aBin, aNilNe, hu]
theorem pureOf_info {i : TypeInfo} (h : P.info? t = some i) : pureOf P (typeInfo t) = some i := by
  have : typeInfo t = (do let p ← program; match p.info? t with | some i => pure i | none => stuck "no such type") := rfl
  rw [this, pureOf_bind]
  show ((pureOf P program).bind _) = _
  have hp : pureOf P program = some P := rfl
  rw [hp]
  simp [h, pureOf_pure]
end
theorem errnoEq (a b : Int) (xo yo : Operand) : aBin Tryz.prog .eql 76 xo yo (.iface 28 (.int .i64 a)) (.iface 28 (.int .i64 b)) = some (.bool (decide (a = b))) := by
  have h0 : aNilNe Tryz.prog 76 (.iface 28 (.int .i64 a)) (.iface 28 (.int .i64 b)) = false := by
    unfold aNilNe; rw [Tryz.underlying76]
  have h1 : pureOf Tryz.prog (Op.equalIn 9999 28 (.int .i64 a) (.int .i64 b)) = some (a == b) := equalIn_int Tryz.underlying28 9998 a b
  obtain ⟨i, hi, hc⟩ : ∃ i, Tryz.prog.info? 28 = some i ∧ i.comparable = true := by
    have : (Tryz.prog.info? 28).map (·.comparable) = some true := by kernel_rfl
    simpa using this
  have h2 : pureOf Tryz.prog (Op.equal 76 (.iface 28 (.int .i64 a)) (.iface 28 (.int .i64 b))) = some (a == b) := by
    unfold Op.equal Op.maxDepth
    rw [show (10000 : Nat) = 9999 + 1 from rfl, Op.equalIn, pureOf_bind, pureOf_underlying Tryz.underlying76]
    simp only [Option.bind_some, ne_eq, not_true_eq_false, if_false]
    rw [pureOf_bind, pureOf_info hi]
    simp [hc, h1]
  unfold aBin
  simp only [h0, Bool.false_eq_true, if_false, toV, toV1, toV0, Option.map_some, Option.bind_some]
  have h3 : pureOf Tryz.prog (do eqGuard .eql 76 xo yo (.iface 28 (.int .i64 a)) (.iface 28 (.int .i64 b)); binOp .eql 76 (.iface 28 (.int .i64 a)) (.iface 28 (.int .i64 b))) = some (.bool (a == b)) := by
    have e1 : eqGuard .eql 76 xo yo (.iface 28 (.int .i64 a)) (.iface 28 (.int .i64 b)) = pure () := rfl
    have e2 : binOp .eql 76 (.iface 28 (.int .i64 a)) (.iface 28 (.int .i64 b)) = (do pure (.bool (← Op.equal 76 (.iface 28 (.int .i64 a)) (.iface 28 (.int .i64 b))))) := rfl
    rw [e1, e2, pureOf_bind, pureOf_pure, Option.bind_some, pureOf_bind, h2]
    rfl
  rw [h3]
  rfl
end Go.Proofs.YtnipaiklandliaaGreatDoor
/- errors.As for an Errno, walked. -/
set_option maxRecDepth 100000
namespace Go.Proofs.YtnipaiklandliaaGreatDoor
open Go Go.Abs AbsSeat Ty

theorem hndE : hnd Tryz.prog 76 = .adr ⟨Tryz.prog.globals.size, 76, none⟩ := rfl
theorem xExt {f : Nat} {fn : Func} {args : List AV} {r : AV} (hok : cfg.ok f = true) (hfn : cfg.P.funcs[f]? = some fn) (hb : fn.body = none) (hs : cfg.shut f = false) (h : ∀ prot H, aExt cfg.P prot H fn args = some (r, none)) (prot : Nat) (H : Heap) : aLim cfg prot f args H = some (r, none) :=
  lim_ext hok hfn hb hs prot H (h prot H)
/-- a variable's value, as reflectlite has it. -/
noncomputable def rval (t : Nat) (p : AV) (f : Int) : AV := .agg [hnd Tryz.prog t, p, .int .u64 f]
noncomputable def rtyp (t : Nat) : AV := .iface 260 (.agg [hnd Tryz.prog t])
theorem xValueOfP (b : Nat) (prot : Nat) (H : Heap) : aLim cfg prot 168 [.iface 203 (.ptr b 0 0)] H = some (rval 203 (.ptr H.length 0 0) 150, some (H ++ [Blk.cells 0 [.ptr b 0 0]])) :=
  lim_extL (by kernel_rfl) Tryz.func168 (by kernel_rfl) (by kernel_rfl) (by kernel_rfl) prot H (by kernel_rfl)
theorem xValueOfE (e : Int) (prot : Nat) (H : Heap) : aLim cfg prot 168 [.iface 28 (.int .i64 e)] H = some (rval 28 (.ptr H.length 0 0) 130, some (H ++ [Blk.cells 0 [.int .i64 e]])) :=
  lim_extL (by kernel_rfl) Tryz.func168 (by kernel_rfl) (by kernel_rfl) (by kernel_rfl) prot H (by kernel_rfl)
theorem xType (b : Nat) (prot : Nat) (H : Heap) : aLim cfg prot 169 [rval 203 (.ptr b 0 0) 150] H = some (rtyp 203, none) :=
  xExt (by kernel_rfl) Tryz.func169 (by kernel_rfl) (by kernel_rfl) (fun prot H => by kernel_rfl) prot H
theorem xKindP (prot : Nat) (H : Heap) : aLim cfg prot 221 [hnd Tryz.prog 203] H = some (.int .u8 22, none) :=
  xExt (by kernel_rfl) Tryz.func221 (by kernel_rfl) (by kernel_rfl) (fun prot H => by kernel_rfl) prot H
theorem xKindE (prot : Nat) (H : Heap) : aLim cfg prot 221 [hnd Tryz.prog 28] H = some (.int .u8 2, none) :=
  xExt (by kernel_rfl) Tryz.func221 (by kernel_rfl) (by kernel_rfl) (fun prot H => by kernel_rfl) prot H
theorem xElem (prot : Nat) (H : Heap) : aLim cfg prot 236 [.agg [hnd Tryz.prog 203]] H = some (rtyp 28, none) :=
  xExt (by kernel_rfl) Tryz.func236 (by kernel_rfl) (by kernel_rfl) (fun prot H => by kernel_rfl) prot H
theorem xImpl (prot : Nat) (H : Heap) : aLim cfg prot 237 [.agg [hnd Tryz.prog 28], ET] H = some (.bool true, none) :=
  xExt (by kernel_rfl) Tryz.func237 (by kernel_rfl) (by kernel_rfl) (fun prot H => by kernel_rfl) prot H
theorem xAssE (prot : Nat) (H : Heap) : aLim cfg prot 234 [.agg [hnd Tryz.prog 28], rtyp 28] H = some (.bool true, none) :=
  xExt (by kernel_rfl) Tryz.func234 (by kernel_rfl) (by kernel_rfl) (fun prot H => by kernel_rfl) prot H
theorem xNilP {b d : Nat} {H : Heap} (hg : hget H d 0 = some [.ptr b 0 0]) (prot : Nat) : aLim cfg prot 170 [rval 203 (.ptr d 0 0) 150] H = some (.bool false, none) :=
  lim_ext (by kernel_rfl) Tryz.func170 (by kernel_rfl) (by kernel_rfl) prot H (by
    have h1 : aExt Tryz.prog prot H Tryz.f170 [rval 203 (.ptr d 0 0) 150] = (isNilB Tryz.prog 203 H (.ptr d 0 0)).map fun r => (r, none) := by kernel_rfl
    show aExt Tryz.prog prot H Tryz.f170 [rval 203 (.ptr d 0 0) 150] = _
    rw [h1]
    simp [isNilB, aLoad, hg, rd, ag203])
theorem xElemV {b d : Nat} {H : Heap} (hg : hget H d 0 = some [.ptr b 0 0]) (prot : Nat) : aLim cfg prot 183 [rval 203 (.ptr d 0 0) 150] H = some (rval 28 (.ptr b 0 0) 386, none) :=
  lim_ext (by kernel_rfl) Tryz.func183 (by kernel_rfl) (by kernel_rfl) prot H (by
    have h1 : aExt Tryz.prog prot H Tryz.f183 [rval 203 (.ptr d 0 0) 150] = (elemB Tryz.prog 203 H (.ptr d 0 0)).map fun r => (r, none) := by kernel_rfl
    show aExt Tryz.prog prot H Tryz.f183 [rval 203 (.ptr d 0 0) 150] = _
    have h2 : pureOf Tryz.prog (Extern.Rtype.elem? 203) = some (some 28) := by kernel_rfl
    have h3 : valueV Tryz.prog 28 (.ptr b 0 0) 256 = some (rval 28 (.ptr b 0 0) 386) := by kernel_rfl
    rw [h1]
    simp [elemB, aLoad, hg, rd, ag203, h2, h3])
theorem xSet {b c : Nat} {e x : Int} {H : Heap} (hg : hget H c 0 = some [.int .i64 e]) (hb : hget H b 0 = some [.int .i64 x]) (prot : Nat) (hp : prot ≤ b) : aLim cfg prot 184 [rval 28 (.ptr b 0 0) 386, rval 28 (.ptr c 0 0) 130] H = some (.tup [], some (H.set b (.cells 0 [.int .i64 e]))) :=
  lim_extL (by kernel_rfl) Tryz.func184 (by kernel_rfl) (by kernel_rfl) (by kernel_rfl) prot H (by
    have h1 : aExt Tryz.prog prot H Tryz.f184 [rval 28 (.ptr b 0 0) 386, rval 28 (.ptr c 0 0) 130] = (aLoad Tryz.prog 28 H (.ptr c 0 0)).bind fun v => loud (aStore Tryz.prog 28 prot H (.ptr b 0 0) v) := by kernel_rfl
    show aExt Tryz.prog prot H Tryz.f184 [rval 28 (.ptr b 0 0) 386, rval 28 (.ptr c 0 0) 130] = _
    rw [h1]
    have h2 := hput_eq (xs := [.int .i64 e]) (off := 0) hb hp (by simp) (by simp [AV.leaf])
    simp [aLoad, hg, rd, ag28, aStore, sz28, AV.cells, h2, loud, splice])
end Go.Proofs.YtnipaiklandliaaGreatDoor
/- errors.As for an Errno in a trouble, walked. -/
set_option maxRecDepth 100000
namespace Go.Proofs.YtnipaiklandliaaGreatDoor
open Go Go.Abs AbsSeat Ty

theorem u144 : type_of% (And.intro (show tagT Tryz.prog 239 = 0 from by kernel_rfl) (And.intro (show tagT Tryz.prog 28 = 0 from by kernel_rfl) (And.intro ag20 (And.intro sz20 (And.intro by20 (And.intro ze20 (And.intro Tryz.underlying20 (And.intro ag28 (And.intro sz28 (And.intro by28 (And.intro ze28 (And.intro Tryz.underlying28 (And.intro ag76 (And.intro sz76 (And.intro by76 (And.intro ze76 (And.intro Tryz.underlying76 (And.intro ag203 (And.intro sz203 (And.intro by203 (And.intro ze203 (And.intro Tryz.underlying203 (And.intro ag237 (And.intro sz237 (And.intro by237 (And.intro ze237 (And.intro Tryz.underlying237 (And.intro ag239 (And.intro sz239 (And.intro by239 (And.intro ze239 (And.intro bu239 (And.intro Tryz.underlying239 (And.intro fa239_1 fd239_1)))))))))))))))))))))))))))))))))) := And.intro (show tagT Tryz.prog 239 = 0 from by kernel_rfl) (And.intro (show tagT Tryz.prog 28 = 0 from by kernel_rfl) (And.intro ag20 (And.intro sz20 (And.intro by20 (And.intro ze20 (And.intro Tryz.underlying20 (And.intro ag28 (And.intro sz28 (And.intro by28 (And.intro ze28 (And.intro Tryz.underlying28 (And.intro ag76 (And.intro sz76 (And.intro by76 (And.intro ze76 (And.intro Tryz.underlying76 (And.intro ag203 (And.intro sz203 (And.intro by203 (And.intro ze203 (And.intro Tryz.underlying203 (And.intro ag237 (And.intro sz237 (And.intro by237 (And.intro ze237 (And.intro Tryz.underlying237 (And.intro ag239 (And.intro sz239 (And.intro by239 (And.intro ze239 (And.intro bu239 (And.intro Tryz.underlying239 (And.intro fa239_1 fd239_1)))))))))))))))))))))))))))))))))
def g144 : Code :=
  .seq (.region 0 #[q 4 (.assign (.const .nilIface)) 76] false) (.seq (.region 1 #[q 5 (.move (.tmp 0)) 3, q 6 (.move (.tmp 1)) 28, q 7 (.makeInterface 28 (.tmp 6)) 76, q 8 (.build 239 #[(0, .tmp 5), (1, .tmp 7)]) 239, q 9 (.box 239 (.tmp 8)) 237, q 10 (.makeInterface 237 (.tmp 9)) 76, q 4 (.assign (.tmp 10)) 76] false) .ret)
theorem s144 : Tryz.f144.body.map (slim cfg) = some g144 := by kernel_rfl
def g111 : Code :=
  .seq (.region 0 #[q 2 (.assign (ik 0)) 28] false) (.seq (.region 1 #[q 3 (.alloc 28) 0] false) (.seq (.seq (.region 2 #[q 4 (.move (.tmp 0)) 76, q 5 (.binOp .eql 76 (.tmp 4) (.const .nilIface) 76) 4] false) (.cond (.tmp 5) (.seq (.region 3 #[q 2 (.assign (ik 0)) 28] false) .ret) .skip)) (.seq (.seq (.region 4 #[q 6 (.move (.tmp 0)) 76, q 7 (.makeInterface 203 (.tmp 3)) 20, q 8 (cl 147 #[.tmp 6, .tmp 7] #[76, 20]) 4] false) (.cond (.tmp 8) (.seq (.region 5 #[q 9 (.load 28 (.tmp 3)) 28, q 2 (.assign (.tmp 9)) 28] false) .ret) .skip)) (.seq (.region 6 #[q 2 (.assign (ik 3)) 28] false) .ret))))
theorem s111 : Tryz.f111.body.map (slim cfg) = some g111 := by kernel_rfl
def g229 : Code :=
  .seq (.region 0 #[q 2 (.assign (.const .nilIface)) 76] false) (.seq (.region 1 #[q 3 (.move (.tmp 0)) 237, q 4 (.nilCheck (.tmp 3)) 0, q 5 (.fieldAddr 239 (.tmp 4) 1) 0, q 6 (.load 76 (.tmp 5)) 76, q 2 (.assign (.tmp 6)) 76] false) .ret)
theorem s229 : Tryz.f229.body.map (slim cfg) = some g229 := by kernel_rfl
/-- what went wrong, at a place. -/
def troub (at_ e : Int) : AV := .iface 237 (.vptr [.int .i64 at_, .iface 28 (.int .i64 e)] 0)
theorem xAssT (prot : Nat) (H : Heap) : aLim cfg prot 234 [.agg [hnd Tryz.prog 237], rtyp 28] H = some (.bool false, none) :=
  xExt (by kernel_rfl) Tryz.func234 (by kernel_rfl) (by kernel_rfl) (fun prot H => by kernel_rfl) prot H
theorem rtT : rtypeV Tryz.prog 237 = some (rtyp 237) := by kernel_rfl
theorem rtE' : rtypeV Tryz.prog 28 = some (rtyp 28) := by kernel_rfl

theorem unwrapT_ok (i e : Int) (prot : Nat) (H : Heap) (hp : prot ≤ H.length) : aLim cfg prot 229 [.vptr [.int .i64 i, .iface 28 (.int .i64 e)] 0] H = some (.iface 28 (.int .i64 e), none) := by
  have hsnap : snap H [.vptr [.int .i64 i, .iface 28 (.int .i64 e)] 0] = some ([.vptr [.int .i64 i, .iface 28 (.int .i64 e)] 0], false) := rfl
  refine pure_slim rfl (by kernel_rfl) Tryz.func229 s229 hp hsnap (by simp [Tryz.f229]) fun fr hlen h => ?_
  simp only [Has, Nat.zero_add] at h
  obtain ⟨a0, -⟩ := h
  simp only [Tryz.f229] at hlen ⊢
  unfold g229
  simp only [wk, aBuiltin, AV.cells, AV.leaf, Nat.reduceEqDiff, Nat.reduceLT, Nat.reduceAdd, Nat.reduceLeDiff, reduceCtorEq, Nat.reduceMul, Nat.reduceMod, cfgP, u144, hlen, a0]
  exact Fin_pure (l := [.iface 28 (.int .i64 e)]) (by simp [wk, aBuiltin, AV.cells, AV.leaf, Nat.reduceEqDiff, Nat.reduceLT, Nat.reduceAdd, Nat.reduceLeDiff, reduceCtorEq, Nat.reduceMul, Nat.reduceMod, cfgP, u144, hlen, aResults, aResult]) (.iface (.still rfl)) (by simp)

theorem wrong_ok (i e : Int) (prot : Nat) (H : Heap) (hp : prot ≤ H.length) : aLim cfg prot 144 [.int .i64 i, .int .i64 e] H = some (troub i e, none) := by
  have hsnap : snap H [.int .i64 i, .int .i64 e] = some ([.int .i64 i, .int .i64 e], false) := rfl
  refine pure_slim rfl (by kernel_rfl) Tryz.func144 s144 hp hsnap (by simp [Tryz.f144]) fun fr hlen h => ?_
  simp only [Has, Nat.zero_add] at h
  obtain ⟨a0, a1, -⟩ := h
  simp only [Tryz.f144] at hlen ⊢
  unfold g144
  simp only [wk, aBuiltin, AV.cells, AV.leaf, Nat.reduceEqDiff, Nat.reduceLT, Nat.reduceAdd, Nat.reduceLeDiff, reduceCtorEq, Nat.reduceMul, Nat.reduceMod, cfgP, u144, hlen, a0, a1]
  exact Fin_pure (l := [.iface 237 (.ptr H.length 0 0)]) (by simp [wk, aBuiltin, AV.cells, AV.leaf, Nat.reduceEqDiff, Nat.reduceLT, Nat.reduceAdd, Nat.reduceLeDiff, reduceCtorEq, Nat.reduceMul, Nat.reduceMod, cfgP, u144, hlen, aResults, aResult]) (.iface (.ptr (by omega) (by rw [hget_new rfl]; rfl) (.cons (.still rfl) (.cons (.iface (.still rfl)) .nil)))) (by simp)

theorem as_ok (i e x : Int) (b vb prot : Nat) (H : Heap) (hb : hget H b 0 = some [.int .i64 x]) (hv : hget H vb 0 = some [.ptr b 0 0]) (hp : prot ≤ b) :
    aLim cfg prot 171 [troub i e, .iface 203 (.ptr b 0 0), rval 203 (.ptr vb 0 0) 150, rtyp 28] H = some (.bool true, some (H.set b (.cells 0 [.int .i64 e]))) := by
  have s1 : aAssert Tryz.prog (troub i e) 265 true = some (.tup [.nilI, .bool false]) := by kernel_rfl
  have s2 : aAssert Tryz.prog (troub i e) 268 true = some (.tup [troub i e, .bool true]) := by kernel_rfl
  have m1 : ∀ t, aMethod Tryz.prog 260 (.agg [hnd Tryz.prog t]) "AssignableTo" = some (234, .agg [hnd Tryz.prog t]) := fun t => by kernel_rfl
  have m2 : ∀ v, aMethod Tryz.prog 237 v "Unwrap" = some (229, v) := fun v => by kernel_rfl
  have m3 : ∀ v, aMethod Tryz.prog 260 v "AssignableTo" = some (234, v) := fun v => by kernel_rfl
  have hlb := hget_lt hb
  have hlv := hget_lt hv
  obtain ⟨K, hK⟩ : ∃ K, K = H ++ [Blk.cells 0 [hnd Tryz.prog 203, .ptr vb 0 0, .int .u64 150]] := ⟨_, rfl⟩
  have hKp : Kp H b [.int .i64 x] K := by rw [hK]; exact (Kp.start hb).app _
  have hKl : K.length = H.length + 1 := by rw [hK]; simp
  have hKv : hget K vb 0 = some [.ptr b 0 0] := by rw [hK]; exact hget_mono hv _
  have hKr : hget K H.length 0 = some [hnd Tryz.prog 203, .ptr vb 0 0, .int .u64 150] := by rw [hK, hget_new rfl, if_pos rfl]
  have hKb := hKp.get
  have t1 := fun v => xTypeOf 237 v _ rtT prot K
  have t2 := fun v => xTypeOf 28 v _ rtE' prot K
  have a1' := xAssT prot K
  have a2' := xAssE prot K
  have v1 := xElemV hKv prot
  have v2 := xValueOfE e prot K
  have v3 := xSet (H := K ++ [Blk.cells 0 [.int .i64 e]]) (c := K.length) (e := e) (by rw [hget_new rfl, if_pos rfl]) (hget_mono hKb _) prot hp
  have u1 := unwrapT_ok i e prot K (by omega)
  have hnn : ∀ xo yo, aBin Tryz.prog .eql 76 xo yo (.iface 28 (.int .i64 e)) .nilI = some (.bool false) := fun xo yo => iface_nil_eq Tryz.underlying76 _ _
  have hh : ∀ t, hnd Tryz.prog t = .adr ⟨Tryz.prog.globals.size, t, none⟩ := fun t => rfl
  simp only [troub, rval, rtyp, hh] at s1 s2 t1 t2 a1' a2' v1 v2 v3 hKr hK ⊢
  refine trim_slim rfl (by kernel_rfl) (by kernel_rfl) (by kernel_rfl) Tryz.func171 s171 (by simp [Tryz.f171]) fun fr hlen h => ?_
  simp only [Has, Nat.zero_add] at h
  obtain ⟨a0, a1, a2, a3, -⟩ := h
  simp only [Tryz.f171] at hlen ⊢
  unfold g171
  simp only [wk, aBuiltin, AV.cells, AV.leaf, Nat.reduceEqDiff, Nat.reduceLT, Nat.reduceAdd, Nat.reduceLeDiff, reduceCtorEq, Nat.reduceMul, Nat.reduceMod, cfgP, u147, hlen, a0, a1, a2, a3]
  rw [← hK]
  refine loop_rule (fun m fr K' => fr.length = 62 ∧ (m = 1 ∧ fget fr 0 = .iface 237 (.vptr [.int .i64 i, .iface 28 (.int .i64 e)] 0) ∨ m = 0 ∧ fget fr 0 = .iface 28 (.int .i64 e)) ∧ fget fr 1 = .iface 203 (.ptr b 0 0) ∧ fget fr 3 = .iface 260 (.agg [.adr ⟨Tryz.prog.globals.size, 28, none⟩]) ∧ fget fr 6 = .ptr H.length 0 0 ∧ K' = K) ?_ 1 _ _ (by simp [wk, aBuiltin, AV.cells, AV.leaf, Nat.reduceEqDiff, Nat.reduceLT, Nat.reduceAdd, Nat.reduceLeDiff, reduceCtorEq, Nat.reduceMul, Nat.reduceMod, cfgP, u147, hlen, a0, a1, a3])
  rintro m fr K' ⟨hlen, h01, a1, a3, a6, rfl⟩ ih
  rcases h01 with ⟨rfl, a0⟩ | ⟨rfl, a0⟩
  · simp only [wk, aBuiltin, AV.cells, AV.leaf, Nat.reduceEqDiff, Nat.reduceLT, Nat.reduceAdd, Nat.reduceLeDiff, reduceCtorEq, Nat.reduceMul, Nat.reduceMod, cfgP, u147, hlen, a0, a1, a3, a6, t1, m3, a1', s1, s2, m2, u1, hnn, none_beq]
    refine ih _ _ 0 (by omega) ?_
    simp [wk, aBuiltin, AV.cells, AV.leaf, Nat.reduceEqDiff, Nat.reduceLT, Nat.reduceAdd, Nat.reduceLeDiff, reduceCtorEq, Nat.reduceMul, Nat.reduceMod, cfgP, u147, hlen, a1, a3, a6]
  · simp only [wk, aBuiltin, AV.cells, AV.leaf, Nat.reduceEqDiff, Nat.reduceLT, Nat.reduceAdd, Nat.reduceLeDiff, reduceCtorEq, Nat.reduceMul, Nat.reduceMod, cfgP, u147, hlen, a0, a1, a3, a6, t2, m3, a2', hKr, v1, v2, v3]
    refine Kp.fin ((hKp.app [Blk.cells 0 [.int .i64 e]]).put (by rfl)) (l := [.bool true]) (by simp [wk, aBuiltin, AV.cells, AV.leaf, Nat.reduceEqDiff, Nat.reduceLT, Nat.reduceAdd, Nat.reduceLeDiff, reduceCtorEq, Nat.reduceMul, Nat.reduceMod, cfgP, u147, hlen, aResults, aResult]) (.still rfl)

theorem As_ok (i e x : Int) (b prot : Nat) (H : Heap) (hb : hget H b 0 = some [.int .i64 x]) (hg0 : hget H 0 (gver 1) = some [ET]) (hp : prot ≤ b) :
    aLim cfg prot 147 [troub i e, .iface 203 (.ptr b 0 0)] H = some (.bool true, some (H.set b (.cells 0 [.int .i64 e]))) := by
  have hlb := hget_lt hb
  have n1 := xValueOfP b prot H
  have hh : ∀ t, hnd Tryz.prog t = .adr ⟨Tryz.prog.globals.size, t, none⟩ := fun t => rfl
  obtain ⟨K, hK⟩ : ∃ K, K = (H ++ [Blk.cells 0 [.ptr b 0 0]]) ++ [Blk.cells 0 [hnd Tryz.prog 203, .ptr H.length 0 0, .int .u64 150]] := ⟨_, rfl⟩
  have hKp : Kp H b [.int .i64 x] K := by rw [hK]; exact ((Kp.start hb).app _).app _
  have hKb := hKp.get
  have hKl : K.length = H.length + 2 := by rw [hK]; simp
  have hKv : hget K H.length 0 = some [.ptr b 0 0] := by rw [hK]; exact hget_mono (by rw [hget_new rfl, if_pos rfl]) _
  have hKr : hget K (H.length + 1) 0 = some [hnd Tryz.prog 203, .ptr H.length 0 0, .int .u64 150] := by
    rw [hK, hget_new (by simp), if_pos rfl]
  have hKg : hget K 0 (gver 1) = some [ET] := by rw [hK]; exact hget_mono (hget_mono hg0 _) _
  have x1 := xType H.length prot K
  have m1 : ∀ v, aMethod Tryz.prog 260 (.agg [v]) "Kind" = some (221, v) := fun v => by kernel_rfl
  have m2 : ∀ v, aMethod Tryz.prog 260 v "Elem" = some (236, v) := fun v => by kernel_rfl
  have m3 : ∀ v, aMethod Tryz.prog 260 v "Implements" = some (237, v) := fun v => by kernel_rfl
  have x2 := xKindP prot K
  have x3 := xKindE prot K
  have x4 := xNilP hKv prot
  have x5 := xElem prot K
  have x6 := xImpl prot K
  have x7 := as_ok i e x b H.length prot K hKb hKv hp
  have i1 : ∀ xo yo v, aBin Tryz.prog .eql 76 xo yo (.iface 237 v) .nilI = some (.bool false) := fun xo yo v => iface_nil_eq Tryz.underlying76 _ _
  have i2 : ∀ xo yo v, aBin Tryz.prog .eql 20 xo yo (.iface 203 v) .nilI = some (.bool false) := fun xo yo v => iface_nil_eq Tryz.underlying20 _ _
  simp only [troub, rval, rtyp, hh] at n1 hK hKr x1 x2 x3 x4 x5 x6 x7 ⊢
  have hpl : prot ≤ (H ++ [Blk.cells 0 [AV.ptr b 0 0]]).length := by simp; omega
  refine trim_slim rfl (by kernel_rfl) (by kernel_rfl) (by kernel_rfl) Tryz.func147 s147 (by simp [Tryz.f147]) fun fr hlen h => ?_
  simp only [Has, Nat.zero_add] at h
  obtain ⟨a0, a1, -⟩ := h
  simp only [Tryz.f147] at hlen ⊢
  unfold g147
  simp only [wk, aBuiltin, AV.cells, AV.leaf, Nat.reduceEqDiff, Nat.reduceLT, Nat.reduceAdd, Nat.reduceLeDiff, reduceCtorEq, Nat.reduceMul, Nat.reduceMod, cfgP, u147, hlen, a0, a1, n1, i1, i2, hpl]
  rw [← hK]
  have d1 : decide (¬ (2 : Int) = 20) = true := by decide
  have hln : (H ++ [Blk.cells 0 [AV.ptr b 0 0]]).length = H.length + 1 := by simp
  simp only [wk, aBuiltin, AV.cells, AV.leaf, Nat.reduceEqDiff, Nat.reduceLT, Nat.reduceAdd, Nat.reduceLeDiff, reduceCtorEq, Nat.reduceMul, Nat.reduceMod, cfgP, u147, hlen, hln, hKr, x1, x2, x3, x4, x5, x6, x7, m1, m2, m3, gload, hKg, a0, a1, d1]
  refine Kp.fin (hKp.put (by rfl)) (l := [.bool true]) (by simp [wk, aBuiltin, AV.cells, AV.leaf, Nat.reduceEqDiff, Nat.reduceLT, Nat.reduceAdd, Nat.reduceLeDiff, reduceCtorEq, Nat.reduceMul, Nat.reduceMod, cfgP, u147, hlen, aResults, aResult]) (.still rfl)
theorem nilEq (xo : Operand) (c : Value) : aBin Tryz.prog .eql 76 xo (.const c) .nilI .nilI = some (.bool true) := by cases xo <;> kernel_rfl
theorem nilNe (xo : Operand) (c : Value) : aBin Tryz.prog .neq 76 xo (.const c) .nilI .nilI = some (.bool false) := by cases xo <;> kernel_rfl

theorem number_ok (i e : Int) (prot : Nat) (H : Heap) (hg0 : hget H 0 (gver 1) = some [ET]) (hp : prot ≤ H.length) :
    aLim cfg prot 111 [troub i e] H = some (.int .i64 e, none) := by
  have hl0 := hget_lt hg0
  have hsnap : snap H [troub i e] = some ([troub i e], false) := rfl
  have i1 : ∀ xo yo v, aBin Tryz.prog .eql 76 xo yo (.iface 237 v) .nilI = some (.bool false) := fun xo yo v => iface_nil_eq Tryz.underlying76 _ _
  have n1 := As_ok i e 0 H.length H.length (H ++ [Blk.cells 0 [.int .i64 0]]) (by rw [hget_new rfl, if_pos rfl]) (hget_mono hg0 _) (Nat.le_refl _)
  simp only [troub] at n1 hsnap ⊢
  refine pure_slim rfl (by kernel_rfl) Tryz.func111 s111 hp hsnap (by simp [Tryz.f111]) fun fr hlen h => ?_
  simp only [Has, Nat.zero_add] at h
  obtain ⟨a0, -⟩ := h
  simp only [Tryz.f111] at hlen ⊢
  unfold g111
  have hs := hget_set_at (b := H.length) (v := 0) (H := H ++ [Blk.cells 0 [AV.int .i64 0]]) (cs := [AV.int .i64 e]) (by simp)
  simp only [wk, aBuiltin, AV.cells, AV.leaf, Nat.reduceEqDiff, Nat.reduceLT, Nat.reduceAdd, Nat.reduceLeDiff, reduceCtorEq, Nat.reduceMul, Nat.reduceMod, cfgP, u144, hlen, a0, i1, n1, hs]
  exact Fin_pure (l := [.int .i64 e]) (by simp [wk, aBuiltin, AV.cells, AV.leaf, Nat.reduceEqDiff, Nat.reduceLT, Nat.reduceAdd, Nat.reduceLeDiff, reduceCtorEq, Nat.reduceMul, Nat.reduceMod, cfgP, u144, aResults, aResult, hlen]) (.still rfl) (by simp)
theorem number_nil (prot : Nat) (H : Heap) (hp : prot ≤ H.length) : aLim cfg prot 111 [.nilI] H = some (.int .i64 0, none) := by
  have hsnap : snap H [.nilI] = some ([.nilI], false) := rfl
  refine pure_slim rfl (by kernel_rfl) Tryz.func111 s111 hp hsnap (by simp [Tryz.f111]) fun fr hlen h => ?_
  simp only [Has, Nat.zero_add] at h
  obtain ⟨a0, -⟩ := h
  simp only [Tryz.f111] at hlen ⊢
  unfold g111
  have i1 := nilEq
  simp only [wk, aBuiltin, AV.cells, AV.leaf, Nat.reduceEqDiff, Nat.reduceLT, Nat.reduceAdd, Nat.reduceLeDiff, reduceCtorEq, Nat.reduceMul, Nat.reduceMod, cfgP, u144, hlen, a0, i1]
  exact Fin_pure (l := [.int .i64 0]) (by simp [wk, aBuiltin, AV.cells, AV.leaf, Nat.reduceEqDiff, Nat.reduceLT, Nat.reduceAdd, Nat.reduceLeDiff, reduceCtorEq, Nat.reduceMul, Nat.reduceMod, cfgP, u144, aResults, aResult, hlen]) (.still rfl) (by simp)
end Go.Proofs.YtnipaiklandliaaGreatDoor
/- jtok: bytes of tokens, rows of them, walked. -/
namespace Go.Proofs.YtnipaiklandliaaGreatDoor
open Go Go.Abs AbsSeat Ty

theorem u145 : type_of% (And.intro ag3 (And.intro sz3 (And.intro by3 (And.intro ze3 (And.intro Tryz.underlying3 (And.intro ag5 (And.intro sz5 (And.intro by5 (And.intro ze5 (And.intro Tryz.underlying5 (And.intro ag9 (And.intro sz9 (And.intro by9 (And.intro ze9 Tryz.underlying9)))))))))))))) := And.intro ag3 (And.intro sz3 (And.intro by3 (And.intro ze3 (And.intro Tryz.underlying3 (And.intro ag5 (And.intro sz5 (And.intro by5 (And.intro ze5 (And.intro Tryz.underlying5 (And.intro ag9 (And.intro sz9 (And.intro by9 (And.intro ze9 Tryz.underlying9)))))))))))))
def g145 : Code :=
  .seq (.region 0 #[q 2 (.assign (.const (.bool false))) 4] false) (.seq (.region 1 #[q 3 (.move (.tmp 0)) 5, q 4 (cl 93 #[.tmp 3] #[5]) 4, q 5 (.move (.tmp 4)) 4, qg 6 (.move (.tmp 0)) 5 2 false, qg 7 (cl 62 #[.tmp 6] #[5]) 4 2 false, q 8 (.pick (.tmp 5) (.const (.bool true)) (.tmp 7)) 4, q 2 (.assign (.tmp 8)) 4] false) .ret)
theorem s145 : Tryz.f145.body.map (slim cfg) = some g145 := by kernel_rfl
def g143 : Code :=
  .seq (.region 0 #[q 2 (.assign (.const (.bool false))) 4] false) (.seq (.region 1 #[q 3 (.move (.tmp 0)) 5, q 4 (cl 145 #[.tmp 3] #[5]) 4, q 5 (.move (.tmp 4)) 4, qg 6 (.move (.tmp 0)) 5 2 false, qg 7 (.binOp .eql 5 (.tmp 6) (.const (.int .u8 43)) 5) 4 2 false, q 8 (.pick (.tmp 5) (.const (.bool true)) (.tmp 7)) 4, q 9 (.move (.tmp 8)) 4, qg 10 (.move (.tmp 0)) 5 6 false, qg 11 (.binOp .eql 5 (.tmp 10) (.const (.int .u8 45)) 5) 4 6 false, q 12 (.pick (.tmp 9) (.const (.bool true)) (.tmp 11)) 4, q 13 (.move (.tmp 12)) 4, qg 14 (.move (.tmp 0)) 5 10 false, qg 15 (.binOp .eql 5 (.tmp 14) (.const (.int .u8 46)) 5) 4 10 false, q 16 (.pick (.tmp 13) (.const (.bool true)) (.tmp 15)) 4, q 2 (.assign (.tmp 16)) 4] false) .ret)
theorem s143 : Tryz.f143.body.map (slim cfg) = some g143 := by kernel_rfl
def g109 : Code :=
  .seq (.region 0 #[q 2 (.assign (.const (.bool false))) 4] false) (.seq (.seq (.region 1 #[q 3 (.move (.tmp 0)) 5] false) (.block 0 (.seq (.block 2 (.block 1 (.seq (.seq (.seq (.seq (.region 2 #[q 5 (.binOp .eql 5 (.tmp 3) (.const (.int .u8 10)) 5) 4, q 4 (.assign (.tmp 5)) 4] false) (.cond (.tmp 4) .skip (.region 3 #[q 6 (.binOp .eql 5 (.tmp 3) (.const (.int .u8 13)) 5) 4, q 4 (.assign (.tmp 6)) 4] false))) (.cond (.tmp 4) (.exit 1) .skip)) (.seq (.seq (.region 4 #[q 8 (.binOp .eql 5 (.tmp 3) (.const (.int .u8 32)) 5) 4, q 7 (.assign (.tmp 8)) 4] false) (.cond (.tmp 7) .skip (.region 5 #[q 9 (.binOp .eql 5 (.tmp 3) (.const (.int .u8 9)) 5) 4, q 7 (.assign (.tmp 9)) 4] false))) (.cond (.tmp 7) (.exit 2) .skip))) (.exit 0)))) (.seq (.seq (.region 6 #[q 2 (.assign (.const (.bool true))) 4] false) .ret) (.exit 0))))) (.seq (.region 7 #[q 2 (.assign (.const (.bool false))) 4] false) .ret))
theorem s109 : Tryz.f109.body.map (slim cfg) = some g109 := by kernel_rfl
def g108 : Code :=
  .seq (.region 0 #[q 6 (.assign (ik 0)) 3] false) (.seq (.block 0 (.loop (.seq (.seq (.region 1 #[q 7 (.move (.tmp 1)) 3, q 8 (.move (.tmp 0)) 9, q 9 (bi .len #[.tmp 8] #[9]) 3, q 10 (.binOp .lss 3 (.tmp 7) (.tmp 9) 3) 4, q 11 (.move (.tmp 10)) 4, qg 12 (.move (.tmp 2)) 110 4 true, qg 13 (.move (.tmp 0)) 9 4 true, qg 14 (.move (.tmp 1)) 3 4 true, qg 15 (.index 9 (.tmp 13) (.tmp 14)) 5 4 true, qg 16 (cv (.tmp 12) #[.tmp 15] #[5]) 4 4 true, q 17 (.pick (.tmp 11) (.tmp 16) (.const (.bool false))) 4] false) (.cond (.tmp 17) .skip (.exit 0))) (.block 1 (.region 2 #[q 18 (.move (.tmp 1)) 3, q 19 (.binOp .add 3 (.tmp 18) (ik 1) 3) 3, q 1 (.assign (.tmp 19)) 3] false))))) (.seq (.region 3 #[q 20 (.move (.tmp 1)) 3, q 6 (.assign (.tmp 20)) 3] false) .ret))
theorem s108 : Tryz.f108.body.map (slim cfg) = some g108 := by kernel_rfl
def wordyC (c : Int) : Bool := letterC c || digitC c

theorem wordy_ok (c : Int) (prot : Nat) (H : Heap) (hp : prot ≤ H.length) : aLim cfg prot 145 [.int .u8 c] H = some (.bool (wordyC c), none) := by
  have hsnap : snap H [.int .u8 c] = some ([.int .u8 c], false) := rfl
  have n1 := letter_ok c H.length H (Nat.le_refl _)
  have n2 := digit_ok c H.length H (Nat.le_refl _)
  unfold wordyC
  refine pure_slim rfl (by kernel_rfl) Tryz.func145 s145 hp hsnap (by simp [Tryz.f145]) fun fr hlen h => ?_
  simp only [Has, Nat.zero_add] at h
  obtain ⟨a0, -⟩ := h
  simp only [Tryz.f145] at hlen ⊢
  unfold g145
  generalize letterC c = g at *
  cases g with
  | true =>
    simp only [wk, aBuiltin, AV.cells, AV.leaf, Nat.reduceEqDiff, Nat.reduceLT, Nat.reduceAdd, Nat.reduceLeDiff, reduceCtorEq, Nat.reduceMul, Nat.reduceMod, cfgP, u145, hlen, a0, n1, none_beq]
    simp only [Bool.true_or]
    exact Fin_pure (l := [.bool true]) (by simp [wk, aBuiltin, AV.cells, AV.leaf, Nat.reduceEqDiff, Nat.reduceLT, Nat.reduceAdd, Nat.reduceLeDiff, reduceCtorEq, Nat.reduceMul, Nat.reduceMod, cfgP, u145, aResults, aResult, hlen]) (.still rfl) (by simp)
  | false =>
    simp only [wk, aBuiltin, AV.cells, AV.leaf, Nat.reduceEqDiff, Nat.reduceLT, Nat.reduceAdd, Nat.reduceLeDiff, reduceCtorEq, Nat.reduceMul, Nat.reduceMod, cfgP, u145, hlen, a0, n1, n2, none_beq]
    simp only [Bool.false_or]
    exact Fin_pure (l := [.bool (digitC c)]) (by simp [wk, aBuiltin, AV.cells, AV.leaf, Nat.reduceEqDiff, Nat.reduceLT, Nat.reduceAdd, Nat.reduceLeDiff, reduceCtorEq, Nat.reduceMul, Nat.reduceMod, cfgP, u145, aResults, aResult, hlen]) (.still rfl) (by simp)
def numericC (c : Int) : Bool := wordyC c || decide (c = 43) || decide (c = 45) || decide (c = 46)
theorem i1310 : ((13 : Int) = 10) = False := by simp
theorem i3210 : ((32 : Int) = 10) = False := by simp
theorem i3213 : ((32 : Int) = 13) = False := by simp
theorem i910 : ((9 : Int) = 10) = False := by simp
theorem i913 : ((9 : Int) = 13) = False := by simp
theorem i932 : ((9 : Int) = 32) = False := by simp
theorem i4543 : ((45 : Int) = 43) = False := by simp

theorem numeric_ok (c : Int) (prot : Nat) (H : Heap) (hp : prot ≤ H.length) : aLim cfg prot 143 [.int .u8 c] H = some (.bool (numericC c), none) := by
  have hsnap : snap H [.int .u8 c] = some ([.int .u8 c], false) := rfl
  have n1 := wordy_ok c H.length H (Nat.le_refl _)
  have hv : numericC c = (wordyC c || decide (c = 43) || decide (c = 45) || decide (c = 46)) := rfl
  refine pure_slim rfl (by kernel_rfl) Tryz.func143 s143 hp hsnap (by simp [Tryz.f143]) fun fr hlen h => ?_
  simp only [Has, Nat.zero_add] at h
  obtain ⟨a0, -⟩ := h
  simp only [Tryz.f143] at hlen ⊢
  unfold g143
  generalize wordyC c = g at *
  generalize numericC c = v at *
  cases g with
  | true =>
    rw [hv, Bool.true_or, Bool.true_or, Bool.true_or]
    simp only [wk, aBuiltin, AV.cells, AV.leaf, Nat.reduceEqDiff, Nat.reduceLT, Nat.reduceAdd, Nat.reduceLeDiff, reduceCtorEq, Nat.reduceMul, Nat.reduceMod, cfgP, u145, hlen, a0, n1, none_beq]
    exact Fin_pure (l := [.bool true]) (by simp [wk, aBuiltin, AV.cells, AV.leaf, Nat.reduceEqDiff, Nat.reduceLT, Nat.reduceAdd, Nat.reduceLeDiff, reduceCtorEq, Nat.reduceMul, Nat.reduceMod, cfgP, u145, aResults, aResult, hlen]) (.still rfl) (by simp)
  | false =>
    by_cases h1 : c = 43
    · rw [show v = true by simp [hv, h1]]
      have d1 : decide (c = 43) = true := by simp [h1]
      simp only [wk, aBuiltin, AV.cells, AV.leaf, Nat.reduceEqDiff, Nat.reduceLT, Nat.reduceAdd, Nat.reduceLeDiff, reduceCtorEq, Nat.reduceMul, Nat.reduceMod, cfgP, u145, hlen, a0, n1, d1, none_beq]
      exact Fin_pure (l := [.bool true]) (by simp [wk, aBuiltin, AV.cells, AV.leaf, Nat.reduceEqDiff, Nat.reduceLT, Nat.reduceAdd, Nat.reduceLeDiff, reduceCtorEq, Nat.reduceMul, Nat.reduceMod, cfgP, u145, aResults, aResult, hlen]) (.still rfl) (by simp)
    · by_cases h2 : c = 45
      · rw [show v = true by simp [hv, h2]]
        have d1 : decide (c = 43) = false := by simp [h1]
        have d2 : decide (c = 45) = true := by simp [h2]
        simp only [wk, aBuiltin, AV.cells, AV.leaf, Nat.reduceEqDiff, Nat.reduceLT, Nat.reduceAdd, Nat.reduceLeDiff, reduceCtorEq, Nat.reduceMul, Nat.reduceMod, cfgP, u145, hlen, a0, n1, d1, d2, none_beq]
        exact Fin_pure (l := [.bool true]) (by simp [wk, aBuiltin, AV.cells, AV.leaf, Nat.reduceEqDiff, Nat.reduceLT, Nat.reduceAdd, Nat.reduceLeDiff, reduceCtorEq, Nat.reduceMul, Nat.reduceMod, cfgP, u145, aResults, aResult, hlen]) (.still rfl) (by simp)
      · rw [show v = decide (c = 46) by simp [hv, h1, h2]]
        simp only [wk, aBuiltin, AV.cells, AV.leaf, Nat.reduceEqDiff, Nat.reduceLT, Nat.reduceAdd, Nat.reduceLeDiff, reduceCtorEq, Nat.reduceMul, Nat.reduceMod, cfgP, u145, hlen, a0, n1, h1, h2, none_beq]
        exact Fin_pure (l := [.bool (decide (c = 46))]) (by simp [wk, aBuiltin, AV.cells, AV.leaf, Nat.reduceEqDiff, Nat.reduceLT, Nat.reduceAdd, Nat.reduceLeDiff, reduceCtorEq, Nat.reduceMul, Nat.reduceMod, cfgP, u145, aResults, aResult, hlen]) (.still rfl) (by simp)
def blankC (c : Int) : Bool := decide (c = 10) || decide (c = 13) || decide (c = 32) || decide (c = 9)

theorem blank_ok (c : Int) (prot : Nat) (H : Heap) (hp : prot ≤ H.length) : aLim cfg prot 109 [.int .u8 c] H = some (.bool (blankC c), none) := by
  have hsnap : snap H [.int .u8 c] = some ([.int .u8 c], false) := rfl
  refine pure_slim rfl (by kernel_rfl) Tryz.func109 s109 hp hsnap (by simp [Tryz.f109]) fun fr hlen h => ?_
  simp only [Has, Nat.zero_add] at h
  obtain ⟨a0, -⟩ := h
  simp only [Tryz.f109] at hlen ⊢
  unfold g109
  by_cases h1 : c = 10
  · rw [show blankC c = true by simp [blankC, h1]]
    simp only [wk, aBuiltin, AV.cells, AV.leaf, Nat.reduceEqDiff, Nat.reduceLT, Nat.reduceAdd, Nat.reduceLeDiff, reduceCtorEq, Nat.reduceMul, Nat.reduceMod, cfgP, u145, hlen, a0, h1]
    exact Fin_pure (l := [.bool true]) (by simp [wk, aBuiltin, AV.cells, AV.leaf, Nat.reduceEqDiff, Nat.reduceLT, Nat.reduceAdd, Nat.reduceLeDiff, reduceCtorEq, Nat.reduceMul, Nat.reduceMod, cfgP, u145, aResults, aResult, hlen]) (.still rfl) (by simp)
  · by_cases h2 : c = 13
    · rw [show blankC c = true by simp [blankC, h2]]
      simp only [wk, aBuiltin, AV.cells, AV.leaf, Nat.reduceEqDiff, Nat.reduceLT, Nat.reduceAdd, Nat.reduceLeDiff, reduceCtorEq, Nat.reduceMul, Nat.reduceMod, cfgP, u145, hlen, a0, h1, h2, i1310]
      exact Fin_pure (l := [.bool true]) (by simp [wk, aBuiltin, AV.cells, AV.leaf, Nat.reduceEqDiff, Nat.reduceLT, Nat.reduceAdd, Nat.reduceLeDiff, reduceCtorEq, Nat.reduceMul, Nat.reduceMod, cfgP, u145, aResults, aResult, hlen]) (.still rfl) (by simp)
    · by_cases h3 : c = 32
      · rw [show blankC c = true by simp [blankC, h3]]
        simp only [wk, aBuiltin, AV.cells, AV.leaf, Nat.reduceEqDiff, Nat.reduceLT, Nat.reduceAdd, Nat.reduceLeDiff, reduceCtorEq, Nat.reduceMul, Nat.reduceMod, cfgP, u145, hlen, a0, h1, h2, h3, i3210, i3213]
        exact Fin_pure (l := [.bool true]) (by simp [wk, aBuiltin, AV.cells, AV.leaf, Nat.reduceEqDiff, Nat.reduceLT, Nat.reduceAdd, Nat.reduceLeDiff, reduceCtorEq, Nat.reduceMul, Nat.reduceMod, cfgP, u145, aResults, aResult, hlen]) (.still rfl) (by simp)
      · by_cases h4 : c = 9
        · rw [show blankC c = true by simp [blankC, h4]]
          simp only [wk, aBuiltin, AV.cells, AV.leaf, Nat.reduceEqDiff, Nat.reduceLT, Nat.reduceAdd, Nat.reduceLeDiff, reduceCtorEq, Nat.reduceMul, Nat.reduceMod, cfgP, u145, hlen, a0, h1, h2, h3, h4, i910, i913, i932]
          exact Fin_pure (l := [.bool true]) (by simp [wk, aBuiltin, AV.cells, AV.leaf, Nat.reduceEqDiff, Nat.reduceLT, Nat.reduceAdd, Nat.reduceLeDiff, reduceCtorEq, Nat.reduceMul, Nat.reduceMod, cfgP, u145, aResults, aResult, hlen]) (.still rfl) (by simp)
        · rw [show blankC c = false by simp [blankC, h1, h2, h3, h4]]
          simp only [wk, aBuiltin, AV.cells, AV.leaf, Nat.reduceEqDiff, Nat.reduceLT, Nat.reduceAdd, Nat.reduceLeDiff, reduceCtorEq, Nat.reduceMul, Nat.reduceMod, cfgP, u145, hlen, a0, h1, h2, h3, h4]
          exact Fin_pure (l := [.bool false]) (by simp [wk, aBuiltin, AV.cells, AV.leaf, Nat.reduceEqDiff, Nat.reduceLT, Nat.reduceAdd, Nat.reduceLeDiff, reduceCtorEq, Nat.reduceMul, Nat.reduceMod, cfgP, u145, aResults, aResult, hlen]) (.still rfl) (by simp)
/-- how many bytes at the beginning are so. -/
def runS (p : Int → Bool) : List UInt8 → Nat
  | [] => 0
  | c :: r => if p c.toNat then runS p r + 1 else 0
theorem runS_le (p : Int → Bool) : ∀ l : List UInt8, runS p l ≤ l.length
  | [] => Nat.le_refl _
  | c :: r => by have := runS_le p r; simp only [runS, List.length_cons]; split <;> omega

theorem run_ok (f : Nat) (p : Int → Bool) (hf : ∀ (c : Int) (prot : Nat) (H : Heap), prot ≤ H.length → aLim cfg prot f [.int .u8 c] H = some (.bool (p c), none)) (s : List UInt8) (hl : s.length < 1000000000000000000) (k : Nat) (hk : k ≤ s.length)
    (prot : Nat) (H : Heap) (hp : prot ≤ H.length) : aLim cfg prot 108 [.str s, .int .i64 k, .func f [] []] H = some (.int .i64 (k + runS p (s.drop k) : Nat), none) := by
  have hsnap : snap H [.str s, .int .i64 k, .func f [] []] = some ([.str s, .int .i64 k, .func f [] []], false) := rfl
  have hls : ∀ K, aLen Tryz.prog K 9 (.str s) = some (.int .i64 s.length) := fun K => str_len Tryz.underlying9 s K
  refine pure_slim rfl (by kernel_rfl) Tryz.func108 s108 hp hsnap (by simp [Tryz.f108]) fun fr hlen h => ?_
  simp only [Has, Nat.zero_add] at h
  obtain ⟨a0, a1, a2, -⟩ := h
  simp only [Tryz.f108] at hlen ⊢
  unfold g108
  simp only [wk, aBuiltin, AV.cells, AV.leaf, Nat.reduceEqDiff, Nat.reduceLT, Nat.reduceAdd, Nat.reduceLeDiff, reduceCtorEq, Nat.reduceMul, Nat.reduceMod, cfgP, u145, hlen, a0, a1, a2]
  refine loop_rule (fun m fr K => ∃ (i : Nat), m = s.length - i ∧ i ≤ s.length ∧ fr.length = 21 ∧ fget fr 0 = .str s ∧ fget fr 1 = .int .i64 i ∧ fget fr 2 = .func f [] [] ∧ K = H ∧ k + runS p (s.drop k) = i + runS p (s.drop i)) ?_ (s.length - k) _ _ ⟨k, by simp [wk, aBuiltin, AV.cells, AV.leaf, Nat.reduceEqDiff, Nat.reduceLT, Nat.reduceAdd, Nat.reduceLeDiff, reduceCtorEq, Nat.reduceMul, Nat.reduceMod, cfgP, u145, hlen, a0, a1, a2, hk]⟩
  rintro m fr K ⟨i, rfl, hi, hlen, a0, a1, a2, rfl, hc⟩ ih
  by_cases hlt : i < s.length
  · have e1 := str_at (k := .i64) Tryz.underlying9 s hlt
    have hd : s.drop i = s[i] :: s.drop (i + 1) := List.drop_eq_getElem_cons hlt
    have hli : (i : Int) < (s.length : Nat) := by omega
    have n1 := hf (s[i].toNat : Int) K.length K (Nat.le_refl _)
    rw [hd, runS] at hc
    have hww : IntKind.i64.wrap ((i : Int) + 1) = ((i + 1 : Nat) : Int) := by rw [wrap64 (by omega) (by omega)]; simp
    cases hb : p s[i].toNat with
    | true =>
      rw [hb] at n1
      simp only [wk, aBuiltin, AV.cells, AV.leaf, Nat.reduceEqDiff, Nat.reduceLT, Nat.reduceAdd, Nat.reduceLeDiff, reduceCtorEq, Nat.reduceMul, Nat.reduceMod, cfgP, u145, hlen, a0, a1, a2, hls, hli, e1, n1, none_beq, hww]
      refine ih _ _ (s.length - (i + 1)) (by omega) ⟨i + 1, rfl, by omega, ?_⟩
      rw [hb, if_pos rfl] at hc
      rw [hc]
      simp [wk, aBuiltin, AV.cells, AV.leaf, Nat.reduceEqDiff, Nat.reduceLT, Nat.reduceAdd, Nat.reduceLeDiff, reduceCtorEq, Nat.reduceMul, Nat.reduceMod, cfgP, u145, hlen, a0, a1, a2]
      omega
    | false =>
      rw [hb] at n1 hc
      simp only [Bool.false_eq_true, if_false, Nat.add_zero] at hc
      rw [hc]
      simp only [wk, aBuiltin, AV.cells, AV.leaf, Nat.reduceEqDiff, Nat.reduceLT, Nat.reduceAdd, Nat.reduceLeDiff, reduceCtorEq, Nat.reduceMul, Nat.reduceMod, cfgP, u145, hlen, a0, a1, a2, hls, hli, e1, n1, none_beq]
      exact Fin_pure (l := [.int .i64 i]) (by simp [wk, aBuiltin, AV.cells, AV.leaf, Nat.reduceEqDiff, Nat.reduceLT, Nat.reduceAdd, Nat.reduceLeDiff, reduceCtorEq, Nat.reduceMul, Nat.reduceMod, cfgP, u145, aResults, aResult, hlen]) (.still rfl) (by simp)
  · have hnl : ¬ ((i : Int) < (s.length : Nat)) := by omega
    have hd : s.drop i = [] := by simp; omega
    rw [hd, runS] at hc
    rw [hc, Nat.add_zero]
    simp only [wk, aBuiltin, AV.cells, AV.leaf, Nat.reduceEqDiff, Nat.reduceLT, Nat.reduceAdd, Nat.reduceLeDiff, reduceCtorEq, Nat.reduceMul, Nat.reduceMod, cfgP, u145, hlen, a0, a1, a2, hls, hnl, none_beq]
    exact Fin_pure (l := [.int .i64 i]) (by simp [wk, aBuiltin, AV.cells, AV.leaf, Nat.reduceEqDiff, Nat.reduceLT, Nat.reduceAdd, Nat.reduceLeDiff, reduceCtorEq, Nat.reduceMul, Nat.reduceMod, cfgP, u145, aResults, aResult, hlen]) (.still rfl) (by simp)
end Go.Proofs.YtnipaiklandliaaGreatDoor
/- num.Hex of four digits, walked. -/
namespace Go.Proofs.YtnipaiklandliaaGreatDoor
open Go Go.Abs AbsSeat Ty

theorem u204 : type_of% (And.intro (fun (K : Heap) (n : Int) => conv_int Tryz.underlying5 Tryz.underlying3 K n) (And.intro (fun (K : Heap) (n : Int) => conv_int Tryz.underlying3 Tryz.underlying21 K n) (And.intro ag3 (And.intro sz3 (And.intro by3 (And.intro ze3 (And.intro Tryz.underlying3 (And.intro ag5 (And.intro sz5 (And.intro by5 (And.intro ze5 (And.intro Tryz.underlying5 (And.intro ag9 (And.intro sz9 (And.intro by9 (And.intro ze9 (And.intro Tryz.underlying9 (And.intro ag21 (And.intro sz21 (And.intro by21 (And.intro ze21 (And.intro Tryz.underlying21 (And.intro ag28 (And.intro sz28 (And.intro by28 (And.intro ze28 Tryz.underlying28)))))))))))))))))))))))))) := And.intro (fun (K : Heap) (n : Int) => conv_int Tryz.underlying5 Tryz.underlying3 K n) (And.intro (fun (K : Heap) (n : Int) => conv_int Tryz.underlying3 Tryz.underlying21 K n) (And.intro ag3 (And.intro sz3 (And.intro by3 (And.intro ze3 (And.intro Tryz.underlying3 (And.intro ag5 (And.intro sz5 (And.intro by5 (And.intro ze5 (And.intro Tryz.underlying5 (And.intro ag9 (And.intro sz9 (And.intro by9 (And.intro ze9 (And.intro Tryz.underlying9 (And.intro ag21 (And.intro sz21 (And.intro by21 (And.intro ze21 (And.intro Tryz.underlying21 (And.intro ag28 (And.intro sz28 (And.intro by28 (And.intro ze28 Tryz.underlying28)))))))))))))))))))))))))
def g204 : Code :=
  .seq (.region 0 #[q 2 (.assign (ik 0)) 3] false) (.seq (.region 1 #[q 3 (.assign (ik 0)) 3] false) (.seq (.block 0 (.seq (.block 3 (.seq (.block 2 (.seq (.block 1 (.seq (.seq (.seq (.region 2 #[q 5 (.move (.tmp 0)) 5, q 6 (.binOp .geq 5 (.tmp 5) (.const (.int .u8 65)) 5) 4, q 7 (.move (.tmp 6)) 4, qg 8 (.move (.tmp 0)) 5 2 true, qg 9 (.binOp .leq 5 (.tmp 8) (.const (.int .u8 70)) 5) 4 2 true, q 10 (.pick (.tmp 7) (.tmp 9) (.const (.bool false))) 4, q 4 (.assign (.tmp 10)) 4] false) (.cond (.tmp 4) (.exit 1) .skip)) (.seq (.seq (.region 3 #[q 12 (.move (.tmp 0)) 5, q 13 (.binOp .geq 5 (.tmp 12) (.const (.int .u8 97)) 5) 4, q 14 (.move (.tmp 13)) 4, qg 15 (.move (.tmp 0)) 5 2 true, qg 16 (.binOp .leq 5 (.tmp 15) (.const (.int .u8 102)) 5) 4 2 true, q 17 (.pick (.tmp 14) (.tmp 16) (.const (.bool false))) 4, q 11 (.assign (.tmp 17)) 4] false) (.cond (.tmp 11) (.exit 2) .skip)) (.seq (.region 4 #[q 19 (.move (.tmp 0)) 5, q 20 (cl 62 #[.tmp 19] #[5]) 4, q 18 (.assign (.tmp 20)) 4] false) (.cond (.tmp 18) (.exit 3) .skip)))) (.exit 0))) (.region 5 #[q 21 (.move (.tmp 0)) 5, q 22 (.binOp .add 5 (.tmp 21) (.const (.int .u8 32)) 5) 5, q 0 (.assign (.tmp 22)) 5] false))) (.seq (.region 6 #[q 3 (.assign (ik 10)) 3] false) (.region 7 #[q 23 (.move (.tmp 0)) 5, q 24 (.binOp .sub 5 (.tmp 23) (.const (.int .u8 49)) 5) 5, q 0 (.assign (.tmp 24)) 5] false)))) (.seq (.seq (.region 8 #[q 25 (.move (.tmp 3)) 3, q 26 (.move (.tmp 0)) 5, q 27 (.binOp .sub 5 (.tmp 26) (.const (.int .u8 48)) 5) 5, q 28 (.convert 5 3 (.tmp 27)) 3, q 29 (.binOp .add 3 (.tmp 25) (.tmp 28) 3) 3, q 2 (.assign (.tmp 29)) 3] false) .ret) (.exit 0)))) (.seq (.region 9 #[q 2 (.assign (ik (-1))) 3] false) .ret)))
theorem s204 : Tryz.f204.body.map (slim cfg) = some g204 := by kernel_rfl
def g196 : Code :=
  .seq (.region 0 #[q 2 (.assign (ik 0)) 3, q 3 (.assign (ik 0)) 28] false) (.seq (.region 1 #[q 4 (.assign (ik 0)) 3, q 5 (.assign (.const (.bool false))) 4] false) (.seq (.seq (.region 2 #[q 8 (.move (.tmp 0)) 9, q 9 (bi .len #[.tmp 8] #[9]) 3, q 10 (.move (ik 0)) 3] false) (.block 0 (.loop (.seq (.region 3 #[q 11 (.binOp .lss 3 (.tmp 10) (.tmp 9) 3) 4] false) (.seq (.cond (.tmp 11) .skip (.exit 0)) (.seq (.block 1 (.seq (.region 4 #[q 12 (.move (.tmp 10)) 3, q 6 (.assign (.tmp 12)) 3] false) (.seq (.region 5 #[q 13 (.move (.tmp 0)) 9, q 14 (.move (.tmp 6)) 3, q 15 (.index 9 (.tmp 13) (.tmp 14)) 5, q 16 (cl 204 #[.tmp 15] #[5]) 3, q 7 (.assign (.tmp 16)) 3] false) (.seq (.seq (.region 6 #[q 17 (.move (.tmp 7)) 3, q 18 (.binOp .lss 3 (.tmp 17) (ik 0) 3) 4] false) (.cond (.tmp 18) (.seq (.region 7 #[q 2 (.assign (ik 0)) 3, q 3 (.assign (ik 3)) 28] false) .ret) .skip)) (.seq (.region 8 #[q 19 (.move (.tmp 5)) 4, q 20 (.move (.tmp 19)) 4, qg 21 (.move (.tmp 4)) 3 1 false, qg 22 (.move (.tmp 7)) 3 1 false, qg 23 (.binOp .sub 3 (ik 2147483647) (.tmp 22) 3) 3 1 false, qg 24 (.binOp .quo 3 (.tmp 23) (ik 16) 3) 3 1 false, qg 25 (.binOp .gtr 3 (.tmp 21) (.tmp 24) 3) 4 1 false, q 26 (.pick (.tmp 20) (.const (.bool true)) (.tmp 25)) 4, q 5 (.assign (.tmp 26)) 4] false) (.seq (.region 9 #[q 27 (.move (.tmp 5)) 4, q 28 (.unOp .not 4 (.tmp 27)) 4] false) (.cond (.tmp 28) (.region 10 #[q 29 (.move (.tmp 4)) 3, q 30 (.binOp .mul 3 (.tmp 29) (ik 16) 3) 3, q 31 (.move (.tmp 7)) 3, q 32 (.binOp .add 3 (.tmp 30) (.tmp 31) 3) 3, q 4 (.assign (.tmp 32)) 3] false) .skip))))))) (.region 11 #[q 33 (.binOp .add 3 (.tmp 10) (ik 1) 3) 3, q 10 (.move (.tmp 33)) 3] false))))))) (.seq (.block 2 (.seq (.region 12 #[q 35 (.move (.tmp 0)) 9, q 36 (.binOp .eql 9 (.tmp 35) (.const (.string { data := #[] })) 9) 4, q 34 (.assign (.tmp 36)) 4] false) (.cond (.tmp 34) (.seq (.region 13 #[q 2 (.assign (ik 0)) 3, q 3 (.assign (ik 3)) 28] false) .ret) (.seq (.region 14 #[q 38 (.move (.tmp 5)) 4, q 37 (.assign (.tmp 38)) 4] false) (.cond (.tmp 37) (.seq (.region 15 #[q 2 (.assign (ik 0)) 3, q 3 (.assign (ik 5)) 28] false) .ret) .skip))))) (.seq (.region 16 #[q 39 (.move (.tmp 4)) 3, q 2 (.assign (.tmp 39)) 3, q 3 (.assign (ik 0)) 28] false) .ret))))
theorem s196 : Tryz.f196.body.map (slim cfg) = some g196 := by kernel_rfl
def g190 : Code :=
  .seq (.region 0 #[q 4 (.assign (.const (.int .i32 0))) 21, q 5 (.assign (.const (.bool false))) 4] false) (.seq (.seq (.region 1 #[q 8 (.move (.tmp 0)) 9, q 9 (bi .len #[.tmp 8] #[9]) 3, q 10 (.move (.tmp 1)) 3, q 11 (.binOp .sub 3 (.tmp 9) (.tmp 10) 3) 3, q 12 (.binOp .lss 3 (.tmp 11) (ik 4) 3) 4] false) (.cond (.tmp 12) (.seq (.region 2 #[q 4 (.assign (.const (.int .i32 0))) 21, q 5 (.assign (.const (.bool false))) 4] false) .ret) .skip)) (.seq (.region 3 #[q 14 (.move (.tmp 0)) 9, q 15 (.move (.tmp 1)) 3, q 16 (.move (.tmp 1)) 3, q 17 (.binOp .add 3 (.tmp 16) (ik 4) 3) 3, q 18 (.slice 9 (.tmp 14) (some (.tmp 15)) (some (.tmp 17)) none) 9, q 19 (cl 196 #[.tmp 18] #[9]) 286, q 13 (.move (.tmp 19)) 286, q 20 (.extract (.tmp 13) 0) 3, q 21 (.extract (.tmp 13) 1) 28, q 6 (.assign (.tmp 20)) 3, q 7 (.assign (.tmp 21)) 28] false) (.seq (.region 4 #[q 22 (.move (.tmp 6)) 3, q 23 (.convert 3 21 (.tmp 22)) 21, q 24 (.move (.tmp 7)) 28, q 25 (.binOp .eql 28 (.tmp 24) (ik 0) 28) 4, q 4 (.assign (.tmp 23)) 21, q 5 (.assign (.tmp 25)) 4] false) .ret)))
theorem s190 : Tryz.f190.body.map (slim cfg) = some g190 := by kernel_rfl
/-- the worth of a digit by sixteen. -/
def hexC (c : Int) : Int := if 65 ≤ c ∧ c ≤ 70 then c - 55 else if 97 ≤ c ∧ c ≤ 102 then c - 87 else if 48 ≤ c ∧ c ≤ 57 then c - 48 else -1
theorem wrap8 {n : Int} (h0 : 0 ≤ n) (h1 : n < 256) : IntKind.u8.wrap n = n := by
  simp only [IntKind.wrap, IntKind.signed, IntKind.bits]; simp; omega

theorem hex_ok (c : Int) (hc0 : 0 ≤ c) (hc1 : c < 256) (prot : Nat) (H : Heap) (hp : prot ≤ H.length) : aLim cfg prot 204 [.int .u8 c] H = some (.int .i64 (hexC c), none) := by
  have hsnap : snap H [.int .u8 c] = some ([.int .u8 c], false) := rfl
  have n1 := digit_ok c H.length H (Nat.le_refl _)
  refine pure_slim rfl (by kernel_rfl) Tryz.func204 s204 hp hsnap (by simp [Tryz.f204]) fun fr hlen h => ?_
  simp only [Has, Nat.zero_add] at h
  obtain ⟨a0, -⟩ := h
  simp only [Tryz.f204] at hlen ⊢
  unfold g204
  by_cases h1 : 65 ≤ c ∧ c ≤ 70
  · obtain ⟨h1, h2⟩ := h1
    rw [show hexC c = c - 55 by simp [hexC, h1, h2]]
    have w1 : IntKind.u8.wrap (c + 32) = c + 32 := wrap8 (by omega) (by omega)
    have w2 : IntKind.u8.wrap (c + 32 - 49) = c - 17 := by rw [wrap8 (by omega) (by omega)]; omega
    have w3 : IntKind.u8.wrap (c - 17 - 48) = c - 65 := by rw [wrap8 (by omega) (by omega)]; omega
    have w4 : IntKind.i64.wrap (c - 65) = c - 65 := by rw [wrap64 (by omega) (by omega)]
    have w5 : IntKind.i64.wrap (10 + (c - 65)) = c - 55 := by rw [wrap64 (by omega) (by omega)]; omega
    simp only [wk, aBuiltin, AV.cells, AV.leaf, Nat.reduceEqDiff, Nat.reduceLT, Nat.reduceAdd, Nat.reduceLeDiff, reduceCtorEq, Nat.reduceMul, Nat.reduceMod, cfgP, u204, hlen, a0, h1, h2, none_beq, w1, w2, w3, w4, w5]
    exact Fin_pure (l := [.int .i64 (c - 55)]) (by simp [wk, aBuiltin, AV.cells, AV.leaf, Nat.reduceEqDiff, Nat.reduceLT, Nat.reduceAdd, Nat.reduceLeDiff, reduceCtorEq, Nat.reduceMul, Nat.reduceMod, cfgP, u204, aResults, aResult, hlen]) (.still rfl) (by simp)
  · by_cases h2 : 97 ≤ c ∧ c ≤ 102
    · obtain ⟨h3, h4⟩ := h2
      rw [show hexC c = c - 87 by unfold hexC; rw [if_neg h1, if_pos ⟨h3, h4⟩]]
      have h5 : 65 ≤ c := by omega
      have h6 : ¬ c ≤ 70 := by omega
      have w2 : IntKind.u8.wrap (c - 49) = c - 49 := wrap8 (by omega) (by omega)
      have w3 : IntKind.u8.wrap (c - 49 - 48) = c - 97 := by rw [wrap8 (by omega) (by omega)]; omega
      have w4 : IntKind.i64.wrap (c - 97) = c - 97 := by rw [wrap64 (by omega) (by omega)]
      have w5 : IntKind.i64.wrap (10 + (c - 97)) = c - 87 := by rw [wrap64 (by omega) (by omega)]; omega
      simp only [wk, aBuiltin, AV.cells, AV.leaf, Nat.reduceEqDiff, Nat.reduceLT, Nat.reduceAdd, Nat.reduceLeDiff, reduceCtorEq, Nat.reduceMul, Nat.reduceMod, cfgP, u204, hlen, a0, h3, h4, h5, h6, none_beq, w2, w3, w4, w5]
      exact Fin_pure (l := [.int .i64 (c - 87)]) (by simp [wk, aBuiltin, AV.cells, AV.leaf, Nat.reduceEqDiff, Nat.reduceLT, Nat.reduceAdd, Nat.reduceLeDiff, reduceCtorEq, Nat.reduceMul, Nat.reduceMod, cfgP, u204, aResults, aResult, hlen]) (.still rfl) (by simp)
    · have hd1 : decide (65 ≤ c) = false ∨ decide (65 ≤ c) = true ∧ decide (c ≤ 70) = false := by
        by_cases h : 65 ≤ c
        · right; simp; omega
        · left; simpa using h
      have hd2 : decide (97 ≤ c) = false ∨ decide (97 ≤ c) = true ∧ decide (c ≤ 102) = false := by
        by_cases h : 97 ≤ c
        · right; simp; omega
        · left; simpa using h
      by_cases h3 : 48 ≤ c ∧ c ≤ 57
      · rw [show hexC c = c - 48 by unfold hexC; rw [if_neg h1, if_neg h2, if_pos h3]]
        have hdg : digitC c = true := by simp [digitC, h3]
        rw [hdg] at n1
        have w3 : IntKind.u8.wrap (c - 48) = c - 48 := wrap8 (by omega) (by omega)
        have w4 : IntKind.i64.wrap (c - 48) = c - 48 := by rw [wrap64 (by omega) (by omega)]
        have w5 : IntKind.i64.wrap (0 + (c - 48)) = c - 48 := by rw [wrap64 (by omega) (by omega)]; omega
        rcases hd1 with d1 | ⟨d1, d2⟩ <;> rcases hd2 with d3 | ⟨d3, d4⟩
        · simp only [wk, aBuiltin, AV.cells, AV.leaf, Nat.reduceEqDiff, Nat.reduceLT, Nat.reduceAdd, Nat.reduceLeDiff, reduceCtorEq, Nat.reduceMul, Nat.reduceMod, cfgP, u204, hlen, a0, d1, d3, n1, none_beq, w3, w4, w5]
          exact Fin_pure (l := [.int .i64 (c - 48)]) (by simp [wk, aBuiltin, AV.cells, AV.leaf, Nat.reduceEqDiff, Nat.reduceLT, Nat.reduceAdd, Nat.reduceLeDiff, reduceCtorEq, Nat.reduceMul, Nat.reduceMod, cfgP, u204, aResults, aResult, hlen]) (.still rfl) (by simp)
        · simp only [wk, aBuiltin, AV.cells, AV.leaf, Nat.reduceEqDiff, Nat.reduceLT, Nat.reduceAdd, Nat.reduceLeDiff, reduceCtorEq, Nat.reduceMul, Nat.reduceMod, cfgP, u204, hlen, a0, d1, d3, d4, n1, none_beq, w3, w4, w5]
          exact Fin_pure (l := [.int .i64 (c - 48)]) (by simp [wk, aBuiltin, AV.cells, AV.leaf, Nat.reduceEqDiff, Nat.reduceLT, Nat.reduceAdd, Nat.reduceLeDiff, reduceCtorEq, Nat.reduceMul, Nat.reduceMod, cfgP, u204, aResults, aResult, hlen]) (.still rfl) (by simp)
        · simp only [wk, aBuiltin, AV.cells, AV.leaf, Nat.reduceEqDiff, Nat.reduceLT, Nat.reduceAdd, Nat.reduceLeDiff, reduceCtorEq, Nat.reduceMul, Nat.reduceMod, cfgP, u204, hlen, a0, d1, d2, d3, n1, none_beq, w3, w4, w5]
          exact Fin_pure (l := [.int .i64 (c - 48)]) (by simp [wk, aBuiltin, AV.cells, AV.leaf, Nat.reduceEqDiff, Nat.reduceLT, Nat.reduceAdd, Nat.reduceLeDiff, reduceCtorEq, Nat.reduceMul, Nat.reduceMod, cfgP, u204, aResults, aResult, hlen]) (.still rfl) (by simp)
        · simp only [wk, aBuiltin, AV.cells, AV.leaf, Nat.reduceEqDiff, Nat.reduceLT, Nat.reduceAdd, Nat.reduceLeDiff, reduceCtorEq, Nat.reduceMul, Nat.reduceMod, cfgP, u204, hlen, a0, d1, d2, d3, d4, n1, none_beq, w3, w4, w5]
          exact Fin_pure (l := [.int .i64 (c - 48)]) (by simp [wk, aBuiltin, AV.cells, AV.leaf, Nat.reduceEqDiff, Nat.reduceLT, Nat.reduceAdd, Nat.reduceLeDiff, reduceCtorEq, Nat.reduceMul, Nat.reduceMod, cfgP, u204, aResults, aResult, hlen]) (.still rfl) (by simp)
      · rw [show hexC c = -1 by unfold hexC; rw [if_neg h1, if_neg h2, if_neg h3]]
        have hdg : digitC c = false := by
          by_cases h : 48 ≤ c
          · have : ¬ c ≤ 57 := by omega
            simp [digitC, this]
          · simp [digitC, h]
        rw [hdg] at n1
        rcases hd1 with d1 | ⟨d1, d2⟩ <;> rcases hd2 with d3 | ⟨d3, d4⟩
        · simp only [wk, aBuiltin, AV.cells, AV.leaf, Nat.reduceEqDiff, Nat.reduceLT, Nat.reduceAdd, Nat.reduceLeDiff, reduceCtorEq, Nat.reduceMul, Nat.reduceMod, cfgP, u204, hlen, a0, d1, d3, n1, none_beq]
          exact Fin_pure (l := [.int .i64 (-1)]) (by simp [wk, aBuiltin, AV.cells, AV.leaf, Nat.reduceEqDiff, Nat.reduceLT, Nat.reduceAdd, Nat.reduceLeDiff, reduceCtorEq, Nat.reduceMul, Nat.reduceMod, cfgP, u204, aResults, aResult, hlen]) (.still rfl) (by simp)
        · simp only [wk, aBuiltin, AV.cells, AV.leaf, Nat.reduceEqDiff, Nat.reduceLT, Nat.reduceAdd, Nat.reduceLeDiff, reduceCtorEq, Nat.reduceMul, Nat.reduceMod, cfgP, u204, hlen, a0, d1, d3, d4, n1, none_beq]
          exact Fin_pure (l := [.int .i64 (-1)]) (by simp [wk, aBuiltin, AV.cells, AV.leaf, Nat.reduceEqDiff, Nat.reduceLT, Nat.reduceAdd, Nat.reduceLeDiff, reduceCtorEq, Nat.reduceMul, Nat.reduceMod, cfgP, u204, aResults, aResult, hlen]) (.still rfl) (by simp)
        · simp only [wk, aBuiltin, AV.cells, AV.leaf, Nat.reduceEqDiff, Nat.reduceLT, Nat.reduceAdd, Nat.reduceLeDiff, reduceCtorEq, Nat.reduceMul, Nat.reduceMod, cfgP, u204, hlen, a0, d1, d2, d3, n1, none_beq]
          exact Fin_pure (l := [.int .i64 (-1)]) (by simp [wk, aBuiltin, AV.cells, AV.leaf, Nat.reduceEqDiff, Nat.reduceLT, Nat.reduceAdd, Nat.reduceLeDiff, reduceCtorEq, Nat.reduceMul, Nat.reduceMod, cfgP, u204, aResults, aResult, hlen]) (.still rfl) (by simp)
        · simp only [wk, aBuiltin, AV.cells, AV.leaf, Nat.reduceEqDiff, Nat.reduceLT, Nat.reduceAdd, Nat.reduceLeDiff, reduceCtorEq, Nat.reduceMul, Nat.reduceMod, cfgP, u204, hlen, a0, d1, d2, d3, d4, n1, none_beq]
          exact Fin_pure (l := [.int .i64 (-1)]) (by simp [wk, aBuiltin, AV.cells, AV.leaf, Nat.reduceEqDiff, Nat.reduceLT, Nat.reduceAdd, Nat.reduceLeDiff, reduceCtorEq, Nat.reduceMul, Nat.reduceMod, cfgP, u204, aResults, aResult, hlen]) (.still rfl) (by simp)
theorem hexC_le (c : Int) : hexC c ≤ 15 := by unfold hexC; split <;> (try split) <;> (try split) <;> omega
theorem hexC_ge (c : Int) : -1 ≤ hexC c := by unfold hexC; split <;> (try split) <;> (try split) <;> omega

/-- a number by sixteen. -/
def hexV : List UInt8 → Nat → Option Nat
  | [], v => some v
  | c :: r, v => if hexC c.toNat < 0 then none else hexV r (v * 16 + (hexC c.toNat).toNat)
theorem hexV_lt : ∀ (l : List UInt8) (v w : Nat), hexV l v = some w → w < (v + 1) * 16 ^ l.length
  | [], v, w, h => by simp only [hexV, Option.some.injEq] at h; subst h; simp
  | c :: r, v, w, h => by
    simp only [hexV] at h
    split at h
    · cases h
    · have h1 := hexV_lt r _ w h
      have h2 := hexC_le c.toNat
      have h3 : v * 16 + (hexC c.toNat).toNat + 1 ≤ (v + 1) * 16 := by omega
      have h4 := Nat.mul_le_mul_right (16 ^ r.length) h3
      simp only [List.length_cons, Nat.pow_succ]
      calc w < _ := h1
        _ ≤ _ := h4
        _ = _ := by rw [Nat.mul_assoc, Nat.mul_comm 16]
def hexR : Option Nat → AV
  | none => .tup [.int .i64 0, .int .i64 3]
  | some v => .tup [.int .i64 v, .int .i64 0]

theorem Hex_ok (s : List UInt8) (hs : s.length = 4) (prot : Nat) (H : Heap) (hp : prot ≤ H.length) : aLim cfg prot 196 [.str s] H = some (hexR (hexV s 0), none) := by
  have hsnap : snap H [.str s] = some ([.str s], false) := rfl
  have hls : ∀ K, aLen Tryz.prog K 9 (.str s) = some (.int .i64 4) := fun K => by rw [str_len Tryz.underlying9 s K, hs]; rfl
  have hfz : ∀ (K : Heap) (x y : AV), still x = true → still y = true → Frz K H.length (packR [x, y]) (.tup [x, y]) := fun K x y h1 h2 => .tup (.cons (.still h1) (.cons (.still h2) .nil))
  refine pure_slim rfl (by kernel_rfl) Tryz.func196 s196 hp hsnap (by simp [Tryz.f196]) fun fr hlen h => ?_
  simp only [Has, Nat.zero_add] at h
  obtain ⟨a0, -⟩ := h
  simp only [Tryz.f196] at hlen ⊢
  unfold g196
  simp only [wk, aBuiltin, AV.cells, AV.leaf, Nat.reduceEqDiff, Nat.reduceLT, Nat.reduceAdd, Nat.reduceLeDiff, reduceCtorEq, Nat.reduceMul, Nat.reduceMod, cfgP, u204, hlen, a0, hls]
  refine loop_rule (fun m fr K => ∃ (i v : Nat), m = 4 - i ∧ i ≤ 4 ∧ fr.length = 40 ∧ fget fr 0 = .str s ∧ fget fr 4 = .int .i64 v ∧ fget fr 5 = .bool false ∧ fget fr 9 = .int .i64 4 ∧ fget fr 10 = .int .i64 i ∧ K = H ∧ v < 16 ^ i ∧ hexV s 0 = hexV (s.drop i) v) ?_ 4 _ _ ⟨0, 0, by simp [wk, aBuiltin, AV.cells, AV.leaf, Nat.reduceEqDiff, Nat.reduceLT, Nat.reduceAdd, Nat.reduceLeDiff, reduceCtorEq, Nat.reduceMul, Nat.reduceMod, cfgP, u204, hlen, a0]⟩
  rintro m fr K ⟨i, v, rfl, hi, hlen, a0, a4, a5, a9, a10, rfl, hv, hc⟩ ih
  by_cases hlt : i < 4
  · have hlt' : i < s.length := by omega
    have e1 := str_at (k := .i64) Tryz.underlying9 s hlt'
    have hd : s.drop i = s[i] :: s.drop (i + 1) := List.drop_eq_getElem_cons hlt'
    have hli : (i : Int) < 4 := by omega
    have hu8 : s[i].toNat < 256 := s[i].toNat_lt
    have n1 := hex_ok (s[i].toNat : Int) (by omega) (by omega) K.length K (Nat.le_refl _)
    have hh1 := hexC_le (s[i].toNat : Int)
    have hh2 := hexC_ge (s[i].toNat : Int)
    rw [hd, hexV] at hc
    generalize hexC (s[i].toNat : Int) = d at *
    have hww : IntKind.i64.wrap ((i : Int) + 1) = ((i + 1 : Nat) : Int) := by rw [wrap64 (by omega) (by omega)]; simp
    by_cases hd0 : d < 0
    · rw [if_pos hd0] at hc
      rw [hc, hexR]
      simp only [wk, aBuiltin, AV.cells, AV.leaf, Nat.reduceEqDiff, Nat.reduceLT, Nat.reduceAdd, Nat.reduceLeDiff, reduceCtorEq, Nat.reduceMul, Nat.reduceMod, cfgP, u204, hlen, a0, a4, a5, a9, a10, hli, e1, n1, hd0, none_beq]
      exact Fin_pure (l := [.int .i64 0, .int .i64 3]) (by simp [wk, aBuiltin, AV.cells, AV.leaf, Nat.reduceEqDiff, Nat.reduceLT, Nat.reduceAdd, Nat.reduceLeDiff, reduceCtorEq, Nat.reduceMul, Nat.reduceMod, cfgP, u204, hlen, aResults, aResult]) (hfz _ _ _ rfl rfl) (by simp)
    · rw [if_neg hd0] at hc
      have hv16 : v < 4096 := Nat.lt_of_lt_of_le hv (by
        have : (16 : Nat) ^ i ≤ 16 ^ 3 := Nat.pow_le_pow_right (by omega) (by omega)
        simpa using this)
      have w1 : IntKind.i64.wrap (2147483647 - d) = 2147483647 - d := by rw [wrap64 (by omega) (by omega)]
      have hq : (2147483647 - d).tdiv 16 = (2147483647 - d) / 16 := Int.tdiv_eq_ediv_of_nonneg (by omega)
      have w2 : IntKind.i64.wrap ((2147483647 - d).tdiv 16) = (2147483647 - d) / 16 := by rw [hq, wrap64 (by omega) (by omega)]
      have w3 : ¬ ((2147483647 - d) / 16 < (v : Int)) := by omega
      have w4 : IntKind.i64.wrap ((v : Int) * 16) = v * 16 := by rw [wrap64 (by omega) (by omega)]
      have w5 : IntKind.i64.wrap ((v : Int) * 16 + d) = ((v * 16 + d.toNat : Nat) : Int) := by rw [wrap64 (by omega) (by omega)]; omega
      have q1 := fun (t : TypeId) (xo yo : Operand) (a : Int) => bin_quo (P := Tryz.prog) (t := t) (xo := xo) (yo := yo) (k := .i64) (a := a) (b := 16) (by decide)
      simp only [wk, aBuiltin, AV.cells, AV.leaf, Nat.reduceEqDiff, Nat.reduceLT, Nat.reduceAdd, Nat.reduceLeDiff, reduceCtorEq, Nat.reduceMul, Nat.reduceMod, cfgP, u204, hlen, a0, a4, a5, a9, a10, hli, e1, n1, hd0, none_beq, w1, q1, w2, w3, w4, w5, hww]
      refine ih _ _ (4 - (i + 1)) (by omega) ⟨i + 1, v * 16 + d.toNat, rfl, by omega, ?_⟩
      rw [hc]
      simp [wk, aBuiltin, AV.cells, AV.leaf, Nat.reduceEqDiff, Nat.reduceLT, Nat.reduceAdd, Nat.reduceLeDiff, reduceCtorEq, Nat.reduceMul, Nat.reduceMod, cfgP, u204, hlen, a0, a9]
      rw [Nat.pow_succ]
      omega
  · have hnl : ¬ ((i : Int) < 4) := by omega
    have hd : s.drop i = [] := by simp; omega
    rw [hd, hexV] at hc
    rw [hc, hexR]
    have hse : (s == []) = false := by cases s with
      | nil => simp at hs
      | cons a r => rfl
    simp only [wk, aBuiltin, AV.cells, AV.leaf, Nat.reduceEqDiff, Nat.reduceLT, Nat.reduceAdd, Nat.reduceLeDiff, reduceCtorEq, Nat.reduceMul, Nat.reduceMod, cfgP, u204, hlen, a0, a4, a5, a9, a10, hnl, none_beq, str_eql, hse]
    exact Fin_pure (l := [.int .i64 v, .int .i64 0]) (by simp [wk, aBuiltin, AV.cells, AV.leaf, Nat.reduceEqDiff, Nat.reduceLT, Nat.reduceAdd, Nat.reduceLeDiff, reduceCtorEq, Nat.reduceMul, Nat.reduceMod, cfgP, u204, hlen, aResults, aResult]) (hfz _ _ _ rfl rfl) (by simp)
/-- the number of four digits. -/
def fourS (r : List UInt8) : Option Nat := if r.length < 4 then none else hexV (r.take 4) 0
def fourR : Option Nat → AV
  | none => .tup [.int .i32 0, .bool false]
  | some v => .tup [.int .i32 v, .bool true]
theorem wrap32 {n : Int} (h0 : 0 ≤ n) (h1 : n < 2147483648) : IntKind.i32.wrap n = n := by
  simp only [IntKind.wrap, IntKind.signed, IntKind.bits]; simp; omega

theorem four_ok (s : List UInt8) (hl : s.length < 1000000000000000000) (k : Nat) (hk : k ≤ s.length) (prot : Nat) (H : Heap) (hp : prot ≤ H.length) : aLim cfg prot 190 [.str s, .int .i64 k] H = some (fourR (fourS (s.drop k)), none) := by
  have hsnap : snap H [.str s, .int .i64 k] = some ([.str s, .int .i64 k], false) := rfl
  have hls : ∀ K, aLen Tryz.prog K 9 (.str s) = some (.int .i64 s.length) := fun K => str_len Tryz.underlying9 s K
  have hfz : ∀ (K : Heap) (x y : AV), still x = true → still y = true → Frz K H.length (packR [x, y]) (.tup [x, y]) := fun K x y h1 h2 => .tup (.cons (.still h1) (.cons (.still h2) .nil))
  have w1 : IntKind.i64.wrap ((s.length : Int) - k) = ((s.length : Int) - k) := by rw [wrap64 (by omega) (by omega)]
  have w2 : IntKind.i64.wrap ((k : Int) + 4) = ((k + 4 : Nat) : Int) := by rw [wrap64 (by omega) (by omega)]; simp
  refine pure_slim rfl (by kernel_rfl) Tryz.func190 s190 hp hsnap (by simp [Tryz.f190]) fun fr hlen h => ?_
  simp only [Has, Nat.zero_add] at h
  obtain ⟨a0, a1, -⟩ := h
  simp only [Tryz.f190] at hlen ⊢
  unfold g190
  by_cases h4 : (s.length : Int) - k < 4
  · have hd : fourS (s.drop k) = none := by unfold fourS; rw [if_pos (by simp; omega)]
    rw [hd, fourR]
    simp only [wk, aBuiltin, AV.cells, AV.leaf, Nat.reduceEqDiff, Nat.reduceLT, Nat.reduceAdd, Nat.reduceLeDiff, reduceCtorEq, Nat.reduceMul, Nat.reduceMod, cfgP, u204, hlen, a0, a1, hls, w1, h4]
    exact Fin_pure (l := [.int .i32 0, .bool false]) (by simp [wk, aBuiltin, AV.cells, AV.leaf, Nat.reduceEqDiff, Nat.reduceLT, Nat.reduceAdd, Nat.reduceLeDiff, reduceCtorEq, Nat.reduceMul, Nat.reduceMod, cfgP, u204, hlen, aResults, aResult]) (hfz _ _ _ rfl rfl) (by simp)
  · have hd : fourS (s.drop k) = hexV ((s.drop k).take 4) 0 := by unfold fourS; rw [if_neg (by simp; omega)]
    have e1 := str_mid (k := .i64) (k' := .i64) Tryz.underlying9 s (a := k) (b := k + 4) (by omega) (by omega)
    rw [show k + 4 - k = 4 by omega] at e1
    have n1 := Hex_ok ((s.drop k).take 4) (by simp; omega) H.length H (Nat.le_refl _)
    rw [hd]
    have hlt := hexV_lt ((s.drop k).take 4) 0
    generalize hexV ((s.drop k).take 4) 0 = o at *
    cases o with
    | none =>
      rw [hexR] at n1
      have w3 : IntKind.i32.wrap 0 = 0 := by rfl
      simp only [wk, aBuiltin, AV.cells, AV.leaf, Nat.reduceEqDiff, Nat.reduceLT, Nat.reduceAdd, Nat.reduceLeDiff, reduceCtorEq, Nat.reduceMul, Nat.reduceMod, cfgP, u204, hlen, a0, a1, hls, w1, h4, w2, e1, n1, w3]
      exact Fin_pure (l := [.int .i32 0, .bool false]) (by simp [wk, aBuiltin, AV.cells, AV.leaf, Nat.reduceEqDiff, Nat.reduceLT, Nat.reduceAdd, Nat.reduceLeDiff, reduceCtorEq, Nat.reduceMul, Nat.reduceMod, cfgP, u204, hlen, aResults, aResult]) (hfz _ _ _ rfl rfl) (by simp)
    | some v =>
      have hv := hlt v rfl
      rw [show ((s.drop k).take 4).length = 4 by simp; omega] at hv
      simp only [Nat.zero_add, Nat.one_mul] at hv
      have w3 : IntKind.i32.wrap v = v := wrap32 (by omega) (by omega)
      rw [hexR] at n1
      simp only [wk, aBuiltin, AV.cells, AV.leaf, Nat.reduceEqDiff, Nat.reduceLT, Nat.reduceAdd, Nat.reduceLeDiff, reduceCtorEq, Nat.reduceMul, Nat.reduceMod, cfgP, u204, hlen, a0, a1, hls, w1, h4, w2, e1, n1, w3]
      exact Fin_pure (l := [.int .i32 v, .bool true]) (by simp [wk, aBuiltin, AV.cells, AV.leaf, Nat.reduceEqDiff, Nat.reduceLT, Nat.reduceAdd, Nat.reduceLeDiff, reduceCtorEq, Nat.reduceMul, Nat.reduceMod, cfgP, u204, hlen, aResults, aResult]) (hfz _ _ _ rfl rfl) (by simp)
end Go.Proofs.YtnipaiklandliaaGreatDoor
