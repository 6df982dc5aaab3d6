import Derived.Test.YtjhgmoaabflbfaaLabel3
/-! Chapters 14, 22: pairs, sets and alerts as a law takes them, walked. -/
set_option linter.unusedSimpArgs false
namespace Go.Proofs.Ytjhgmoaabflbfaa
open Go Go.Abs AbsSeat Ty

theorem u20 : type_of% (And.intro ag3 (And.intro sz3 (And.intro by3 (And.intro ze3 (And.intro Try.underlying3 (And.intro ag22 (And.intro sz22 (And.intro by22 (And.intro se22 (And.intro ze22 (And.intro Try.underlying22 (And.intro ag68 (And.intro sz68 (And.intro by68 (And.intro ze68 (And.intro bu68 Try.underlying68)))))))))))))))) :=
  And.intro ag3 (And.intro sz3 (And.intro by3 (And.intro ze3 (And.intro Try.underlying3 (And.intro ag22 (And.intro sz22 (And.intro by22 (And.intro se22 (And.intro ze22 (And.intro Try.underlying22 (And.intro ag68 (And.intro sz68 (And.intro by68 (And.intro ze68 (And.intro bu68 Try.underlying68)))))))))))))))
def g20 : Code :=
  Go.Code.seq (Go.Code.region 0 #[{ dst := some 4, op := Go.Op.assign (Go.Operand.const (Go.Value.bool false)), type := 4, pos := "", after := #[], guard := none }] false) (Go.Code.seq (Go.Code.seq (Go.Code.region 1 #[{ dst := some 6, op := Go.Op.move (Go.Operand.tmp 0), type := 22, pos := "", after := #[], guard := none }, { dst := some 7, op := Go.Op.call { callee := Go.Callee.builtin Go.Builtin.len, args := #[Go.Operand.tmp 6], argTypes := #[22] }, type := 3, pos := "", after := #[], guard := none }, { dst := some 8, op := Go.Op.move (Go.Operand.tmp 1), type := 22, pos := "", after := #[], guard := none }, { dst := some 9, op := Go.Op.call { callee := Go.Callee.builtin Go.Builtin.len, args := #[Go.Operand.tmp 8], argTypes := #[22] }, type := 3, pos := "", after := #[], guard := none }, { dst := some 10, op := Go.Op.binOp Go.BinOp.neq 3 (Go.Operand.tmp 7) (Go.Operand.tmp 9) 3, type := 4, pos := "", after := #[], guard := none }] false) (Go.Code.cond (Go.Operand.tmp 10) (Go.Code.seq (Go.Code.region 2 #[{ dst := some 4, op := Go.Op.assign (Go.Operand.const (Go.Value.bool false)), type := 4, pos := "", after := #[], guard := none }] false) Go.Code.ret) Go.Code.skip)) (Go.Code.seq (Go.Code.seq (Go.Code.region 3 #[{ dst := some 11, op := Go.Op.move (Go.Operand.tmp 0), type := 22, pos := "", after := #[], guard := none }, { dst := some 12, op := Go.Op.call { callee := Go.Callee.builtin Go.Builtin.len, args := #[Go.Operand.tmp 11], argTypes := #[22] }, type := 3, pos := "", after := #[], guard := none }, { dst := some 13, op := Go.Op.move (Go.Operand.const (Go.Value.int Go.IntKind.i64 0)), type := 3, pos := "", after := #[], guard := none }] false) (Go.Code.block 0 (Go.Code.loop (Go.Code.seq (Go.Code.region 4 #[{ dst := some 14, op := Go.Op.binOp Go.BinOp.lss 3 (Go.Operand.tmp 13) (Go.Operand.tmp 12) 3, type := 0, pos := "", after := #[], guard := none }] false) (Go.Code.seq (Go.Code.cond (Go.Operand.tmp 14) Go.Code.skip (Go.Code.exit 0)) (Go.Code.seq (Go.Code.block 1 (Go.Code.seq (Go.Code.region 5 #[{ dst := some 15, op := Go.Op.move (Go.Operand.tmp 13), type := 3, pos := "", after := #[], guard := none }, { dst := some 5, op := Go.Op.assign (Go.Operand.tmp 15), type := 3, pos := "", after := #[], guard := none }] false) (Go.Code.seq (Go.Code.region 6 #[{ dst := some 16, op := Go.Op.move (Go.Operand.tmp 0), type := 22, pos := "", after := #[], guard := none }, { dst := some 17, op := Go.Op.move (Go.Operand.tmp 5), type := 3, pos := "", after := #[], guard := none }, { dst := some 18, op := Go.Op.indexAddr 22 (Go.Operand.tmp 16) (Go.Operand.tmp 17), type := 0, pos := "", after := #[], guard := none }, { dst := some 19, op := Go.Op.load 68 (Go.Operand.tmp 18), type := 68, pos := "", after := #[], guard := none }, { dst := some 20, op := Go.Op.move (Go.Operand.tmp 1), type := 22, pos := "", after := #[], guard := none }, { dst := some 21, op := Go.Op.move (Go.Operand.tmp 5), type := 3, pos := "", after := #[], guard := none }, { dst := some 22, op := Go.Op.indexAddr 22 (Go.Operand.tmp 20) (Go.Operand.tmp 21), type := 0, pos := "", after := #[], guard := none }, { dst := some 23, op := Go.Op.load 68 (Go.Operand.tmp 22), type := 68, pos := "", after := #[], guard := none }, { dst := some 24, op := Go.Op.binOp Go.BinOp.neq 68 (Go.Operand.tmp 19) (Go.Operand.tmp 23) 68, type := 4, pos := "", after := #[], guard := none }] false) (Go.Code.cond (Go.Operand.tmp 24) (Go.Code.seq (Go.Code.region 7 #[{ dst := some 4, op := Go.Op.assign (Go.Operand.const (Go.Value.bool false)), type := 4, pos := "", after := #[], guard := none }] false) Go.Code.ret) Go.Code.skip)))) (Go.Code.region 8 #[{ dst := some 25, op := Go.Op.binOp Go.BinOp.add 3 (Go.Operand.tmp 13) (Go.Operand.const (Go.Value.int Go.IntKind.i64 1)) 3, type := 3, pos := "", after := #[], guard := none }, { dst := some 13, op := Go.Op.move (Go.Operand.tmp 25), type := 3, pos := "", after := #[], guard := none }] false))))))) (Go.Code.seq (Go.Code.region 9 #[{ dst := some 4, op := Go.Op.assign (Go.Operand.const (Go.Value.bool true)), type := 4, pos := "", after := #[], guard := none }] false) Go.Code.ret)))
theorem s20 : Try.f20.body.map (slim cfg) = some g20 := by kernel_rfl
theorem u49 : type_of% (And.intro (show tagT Try.prog 27 = 0 from by kernel_rfl) (And.intro ag25 (And.intro sz25 (And.intro by25 (And.intro se25 (And.intro ze25 (And.intro Try.underlying25 (And.intro ag27 (And.intro sz27 (And.intro by27 (And.intro ze27 (And.intro bu27 (And.intro Try.underlying27 (And.intro ag59 (And.intro sz59 (And.intro by59 (And.intro ze59 (And.intro bu59 (And.intro Try.underlying59 (And.intro fa27_0 fd27_0)))))))))))))))))))) :=
  And.intro (show tagT Try.prog 27 = 0 from by kernel_rfl) (And.intro ag25 (And.intro sz25 (And.intro by25 (And.intro se25 (And.intro ze25 (And.intro Try.underlying25 (And.intro ag27 (And.intro sz27 (And.intro by27 (And.intro ze27 (And.intro bu27 (And.intro Try.underlying27 (And.intro ag59 (And.intro sz59 (And.intro by59 (And.intro ze59 (And.intro bu59 (And.intro Try.underlying59 (And.intro fa27_0 fd27_0)))))))))))))))))))
def g49 : Code :=
  Go.Code.seq (Go.Code.region 0 #[{ dst := some 1, op := Go.Op.box 27 (Go.Operand.tmp 0), type := 0, pos := "", after := #[], guard := none }, { dst := some 2, op := Go.Op.assign (Go.Operand.const (Go.Value.slice none 0 0)), type := 25, pos := "", after := #[], guard := none }] false) (Go.Code.seq (Go.Code.region 1 #[{ dst := some 3, op := Go.Op.fieldAddr 27 (Go.Operand.tmp 1) 0, type := 0, pos := "", after := #[], guard := none }, { dst := some 4, op := Go.Op.load 25 (Go.Operand.tmp 3), type := 25, pos := "", after := #[], guard := none }, { dst := some 5, op := Go.Op.call { callee := Go.Callee.value (Go.Operand.func 44), args := #[Go.Operand.tmp 4], argTypes := #[25] }, type := 25, pos := "", after := #[], guard := none }, { dst := some 2, op := Go.Op.assign (Go.Operand.tmp 5), type := 25, pos := "", after := #[], guard := none }] false) Go.Code.ret)
theorem s49 : Try.f49.body.map (slim cfg) = some g49 := by kernel_rfl
theorem u21 : type_of% (And.intro (show tagT Try.prog 27 = 0 from by kernel_rfl) (And.intro (show tagT Try.prog 59 = 0 from by kernel_rfl) (And.intro ag1 (And.intro sz1 (And.intro by1 (And.intro ze1 (And.intro Try.underlying1 (And.intro ag3 (And.intro sz3 (And.intro by3 (And.intro ze3 (And.intro Try.underlying3 (And.intro ag9 (And.intro sz9 (And.intro by9 (And.intro ze9 (And.intro Try.underlying9 (And.intro ag22 (And.intro sz22 (And.intro by22 (And.intro se22 (And.intro ze22 (And.intro Try.underlying22 (And.intro ag25 (And.intro sz25 (And.intro by25 (And.intro se25 (And.intro ze25 (And.intro Try.underlying25 (And.intro ag27 (And.intro sz27 (And.intro by27 (And.intro ze27 (And.intro bu27 (And.intro Try.underlying27 (And.intro ag59 (And.intro sz59 (And.intro by59 (And.intro ze59 (And.intro bu59 (And.intro Try.underlying59 (And.intro ag68 (And.intro sz68 (And.intro by68 (And.intro ze68 (And.intro bu68 (And.intro Try.underlying68 (And.intro fa59_0 (And.intro fd59_0 (And.intro fa59_1 fd59_1)))))))))))))))))))))))))))))))))))))))))))))))))) :=
  And.intro (show tagT Try.prog 27 = 0 from by kernel_rfl) (And.intro (show tagT Try.prog 59 = 0 from by kernel_rfl) (And.intro ag1 (And.intro sz1 (And.intro by1 (And.intro ze1 (And.intro Try.underlying1 (And.intro ag3 (And.intro sz3 (And.intro by3 (And.intro ze3 (And.intro Try.underlying3 (And.intro ag9 (And.intro sz9 (And.intro by9 (And.intro ze9 (And.intro Try.underlying9 (And.intro ag22 (And.intro sz22 (And.intro by22 (And.intro se22 (And.intro ze22 (And.intro Try.underlying22 (And.intro ag25 (And.intro sz25 (And.intro by25 (And.intro se25 (And.intro ze25 (And.intro Try.underlying25 (And.intro ag27 (And.intro sz27 (And.intro by27 (And.intro ze27 (And.intro bu27 (And.intro Try.underlying27 (And.intro ag59 (And.intro sz59 (And.intro by59 (And.intro ze59 (And.intro bu59 (And.intro Try.underlying59 (And.intro ag68 (And.intro sz68 (And.intro by68 (And.intro ze68 (And.intro bu68 (And.intro Try.underlying68 (And.intro fa59_0 (And.intro fd59_0 (And.intro fa59_1 fd59_1)))))))))))))))))))))))))))))))))))))))))))))))))
def g21 : Code :=
  Go.Code.seq (Go.Code.region 0 #[{ dst := some 1, op := Go.Op.box 27 (Go.Operand.tmp 0), type := 0, pos := "", after := #[], guard := none }, { dst := some 2, op := Go.Op.assign (Go.Operand.const (Go.Value.slice none 0 0)), type := 22, pos := "", after := #[], guard := none }] false) (Go.Code.seq (Go.Code.region 1 #[{ dst := some 3, op := Go.Op.assign (Go.Operand.const (Go.Value.slice none 0 0)), type := 22, pos := "", after := #[], guard := none }] false) (Go.Code.seq (Go.Code.seq (Go.Code.region 2 #[{ dst := some 6, op := Go.Op.load 27 (Go.Operand.tmp 1), type := 27, pos := "", after := #[], guard := none }, { dst := some 7, op := Go.Op.call { callee := Go.Callee.value (Go.Operand.func 49), args := #[Go.Operand.tmp 6], argTypes := #[27] }, type := 25, pos := "", after := #[], guard := none }, { dst := some 8, op := Go.Op.call { callee := Go.Callee.builtin Go.Builtin.len, args := #[Go.Operand.tmp 7], argTypes := #[25] }, type := 3, pos := "", after := #[], guard := none }, { dst := some 9, op := Go.Op.move (Go.Operand.const (Go.Value.int Go.IntKind.i64 0)), type := 3, pos := "", after := #[], guard := none }] false) (Go.Code.block 0 (Go.Code.loop (Go.Code.seq (Go.Code.region 3 #[{ dst := some 10, op := Go.Op.binOp Go.BinOp.lss 3 (Go.Operand.tmp 9) (Go.Operand.tmp 8) 3, type := 0, pos := "", after := #[], guard := none }] false) (Go.Code.seq (Go.Code.cond (Go.Operand.tmp 10) Go.Code.skip (Go.Code.exit 0)) (Go.Code.seq (Go.Code.block 1 (Go.Code.seq (Go.Code.region 4 #[{ dst := some 11, op := Go.Op.indexAddr 25 (Go.Operand.tmp 7) (Go.Operand.tmp 9), type := 0, pos := "", after := #[], guard := none }, { dst := some 12, op := Go.Op.load 59 (Go.Operand.tmp 11), type := 59, pos := "", after := #[], guard := none }, { dst := some 5, op := Go.Op.alloc 59, type := 0, pos := "", after := #[], guard := none }, { dst := none, op := Go.Op.store 59 (Go.Operand.tmp 5) (Go.Operand.tmp 12), type := 0, pos := "", after := #[], guard := none }] false) (Go.Code.region 5 #[{ dst := some 13, op := Go.Op.move (Go.Operand.tmp 3), type := 22, pos := "", after := #[], guard := none }, { dst := some 14, op := Go.Op.fieldAddr 59 (Go.Operand.tmp 5) 0, type := 0, pos := "", after := #[], guard := none }, { dst := some 15, op := Go.Op.load 9 (Go.Operand.tmp 14), type := 9, pos := "", after := #[], guard := none }, { dst := some 16, op := Go.Op.fieldAddr 59 (Go.Operand.tmp 5) 1, type := 0, pos := "", after := #[], guard := none }, { dst := some 17, op := Go.Op.load 9 (Go.Operand.tmp 16), type := 9, pos := "", after := #[], guard := none }, { dst := some 18, op := Go.Op.build 68 #[(0, Go.Operand.tmp 15), (1, Go.Operand.tmp 17)], type := 68, pos := "", after := #[], guard := none }, { dst := some 19, op := Go.Op.buildSlice 22 1 #[(0, Go.Operand.tmp 18)], type := 22, pos := "", after := #[], guard := none }, { dst := some 20, op := Go.Op.call { callee := Go.Callee.builtin Go.Builtin.append, args := #[Go.Operand.tmp 13, Go.Operand.tmp 19], argTypes := #[22, 22] }, type := 22, pos := "", after := #[], guard := none }, { dst := some 3, op := Go.Op.assign (Go.Operand.tmp 20), type := 22, pos := "", after := #[], guard := none }] false))) (Go.Code.region 6 #[{ dst := some 21, op := Go.Op.binOp Go.BinOp.add 3 (Go.Operand.tmp 9) (Go.Operand.const (Go.Value.int Go.IntKind.i64 1)) 3, type := 3, pos := "", after := #[], guard := none }, { dst := some 9, op := Go.Op.move (Go.Operand.tmp 21), type := 3, pos := "", after := #[], guard := none }] false))))))) (Go.Code.seq (Go.Code.region 7 #[{ dst := some 22, op := Go.Op.move (Go.Operand.tmp 3), type := 22, pos := "", after := #[], guard := none }, { dst := some 2, op := Go.Op.assign (Go.Operand.tmp 22), type := 22, pos := "", after := #[], guard := none }] false) Go.Code.ret)))
theorem s21 : Try.f21.body.map (slim cfg) = some g21 := by kernel_rfl

theorem rowRp : RowT Try.prog 22 68 2 32 true where
  un := Try.underlying22
  size := sz68
  bytes := by68
  agg := ag68
  zero := ⟨_, ze68, rfl⟩
  pos := by decide
  tree := rfl
theorem litRp (x : Pr) (H : Heap) : aBuildSlice Try.prog H 22 1 [(0, .agg [.str x.name, .str x.val])] = some (.vs ([x].map encP) true, none) := lit1 rowRp encP_T ze68 rfl (by decide) x rfl
theorem litPp (x : Pr) (H : Heap) : aBuildSlice Try.prog H 25 1 [(0, .agg [.str x.name, .str x.val])] = some (.vs ([x].map encP) true, none) := lit1 rowPr encP_T ze59 rfl (by decide) x rfl
theorem Sl.leaf {v : AV} {l : List Pr} (h : Sl encP v l) : v.leaf = true := by cases h <;> rfl

theorem eqFsP (a : Pr) : EqFs Try.prog 9999 #[.string ⟨a.name.toArray⟩, .string ⟨a.val.toArray⟩] #[.string ⟨a.name.toArray⟩, .string ⟨a.val.toArray⟩]
    [{ name := "Name", type := 9, offset := 0, embedded := false, tag := "", pkgPath := "", byteOffset := 0 }, { name := "Value", type := 9, offset := 1, embedded := false, tag := "", pkgPath := "", byteOffset := 16 }] (((⟨a.name.toArray⟩ : ByteArray) == ⟨a.name.toArray⟩) && (((⟨a.val.toArray⟩ : ByteArray) == ⟨a.val.toArray⟩) && true)) :=
  .cons (by decide) (pureOf_part (by kernel_rfl) rfl) (pureOf_part (by kernel_rfl) rfl) (equalIn_str Try.underlying9 _ _ _)
    (.cons (by decide) (pureOf_part (by kernel_rfl) rfl) (pureOf_part (by kernel_rfl) rfl) (equalIn_str Try.underlying9 _ _ _) .nil)
theorem nePr (a : Pr) (xo yo : Operand) : aBin Try.prog .neq 68 xo yo (.agg [.str a.name, .str a.val]) (.agg [.str a.name, .str a.val]) = some (.bool false) := by
  have h := bin_agg_ne (xo := xo) (yo := yo) Try.underlying68 (by kernel_rfl) (by kernel_rfl) (cs := [.str a.name, .str a.val]) (ds := [.str a.name, .str a.val]) rfl rfl (eqFsP a)
  rw [h]
  have e1 : ∀ s : List UInt8, ((⟨s.toArray⟩ : ByteArray) == ⟨s.toArray⟩) = true := fun s => by
    show (s.toArray == s.toArray) = true
    simp
  simp [e1]


theorem lsame_ok (l : List Pr) (v w : AV) (hv : Sl encP v l) (hw : Sl encP w l) (hl : l.length < 1000000) (prot : Nat) (H : Heap) (hp : prot ≤ H.length) :
    aLim cfg prot 20 [v, w] H = some (.bool true, none) := by
  have hsnap : snap H [v, w] = some ([v, w], false) := by cases hv <;> cases hw <;> rfl
  refine pure_slim rfl (by kernel_rfl) Try.func20 s20 hp hsnap (by simp [Try.f20]) fun fr hlen h => ?_
  simp only [Has, Nat.zero_add] at h
  obtain ⟨a0, a1, -⟩ := h
  simp only [Try.f20] at hlen ⊢
  unfold g20
  simp only [wk0, wk1, wk2, wk3, wk4, wk5, wk6, aWanted, aYield, Region.wanted, aOp, quiet, loud, aEvals, aParts, aOpt, aBuiltin, rd, win, AV.cells, AV.leaf, aNew, splice, fillA, Nat.reduceEqDiff, Nat.reduceLT, Nat.reduceAdd, Nat.reduceLeDiff, reduceCtorEq, Nat.reduceMul, cfgP, u20, hlen, a0, a1, hv.len Try.underlying22, hw.len Try.underlying22]
  refine loop_rule (fun m fr H' => ∃ (i : Nat), m = l.length - i ∧ i ≤ l.length ∧ fr.length = 26 ∧ fget fr 0 = v ∧ fget fr 1 = w ∧ fget fr 12 = .int .i64 l.length ∧ fget fr 13 = .int .i64 i ∧ H.length ≤ H'.length) ?_ l.length _ _ ⟨0, by simp [wk0, wk1, wk2, wk3, wk4, wk5, wk6, aWanted, aYield, Region.wanted, aOp, quiet, loud, aEvals, aParts, aOpt, aBuiltin, rd, win, AV.cells, AV.leaf, aNew, splice, fillA, Nat.reduceEqDiff, Nat.reduceLT, Nat.reduceAdd, Nat.reduceLeDiff, reduceCtorEq, Nat.reduceMul, cfgP, u20, hlen, a0, a1]⟩
  rintro m fr H' ⟨i, rfl, hi, hlen, a0, a1, a12, a13, hH⟩ ih
  simp only [wk0, wk1, wk2, wk3, wk4, wk5, wk6, aWanted, aYield, Region.wanted, aOp, quiet, loud, aEvals, aParts, aOpt, aBuiltin, rd, win, AV.cells, AV.leaf, aNew, splice, fillA, Nat.reduceEqDiff, Nat.reduceLT, Nat.reduceAdd, Nat.reduceLeDiff, reduceCtorEq, Nat.reduceMul, cfgP, u20, hlen, a0, a1, a12, a13]
  refine RC_split (fun h => ?_) (fun h => ?_)
  · have hlt : i < l.length := by simpa using h
    have hww : IntKind.i64.wrap ((i : Int) + 1) = ((i + 1 : Nat) : Int) := by rw [wrap64 (by omega) (by omega)]; simp
    have e1 := hv.at (k := .i64) Try.underlying22 sz68 encP_len hlt
    have e2 := hw.at (k := .i64) Try.underlying22 sz68 encP_len hlt
    generalize l[i] = x at *
    simp only [wk0, wk1, wk2, wk3, wk4, wk5, wk6, aWanted, aYield, Region.wanted, aOp, quiet, loud, aEvals, aParts, aOpt, aBuiltin, rd, win, AV.cells, AV.leaf, aNew, splice, fillA, Nat.reduceEqDiff, Nat.reduceLT, Nat.reduceAdd, Nat.reduceLeDiff, reduceCtorEq, Nat.reduceMul, cfgP, u20, hlen, a0, a1, a12, a13, e1, e2, encP, hH, nePr, hww]
    refine ih _ _ (l.length - (i + 1)) (by omega) ⟨i + 1, rfl, hlt, ?_⟩
    simp [wk0, wk1, wk2, wk3, wk4, wk5, wk6, aWanted, aYield, Region.wanted, aOp, quiet, loud, aEvals, aParts, aOpt, aBuiltin, rd, win, AV.cells, AV.leaf, aNew, splice, fillA, Nat.reduceEqDiff, Nat.reduceLT, Nat.reduceAdd, Nat.reduceLeDiff, reduceCtorEq, Nat.reduceMul, cfgP, u20, hlen, a0, a1, a12, a13, hH]
  · simp only [wk0, wk1, wk2, wk3, wk4, wk5, wk6, aWanted, aYield, Region.wanted, aOp, quiet, loud, aEvals, aParts, aOpt, aBuiltin, rd, win, AV.cells, AV.leaf, aNew, splice, fillA, Nat.reduceEqDiff, Nat.reduceLT, Nat.reduceAdd, Nat.reduceLeDiff, reduceCtorEq, Nat.reduceMul, cfgP, u20, hlen, a0, a1, a12, a13]
    exact Fin_pure (l := [.bool true]) (by simp [wk0, wk1, wk2, wk3, wk4, wk5, wk6, aWanted, aYield, Region.wanted, aOp, quiet, loud, aEvals, aParts, aOpt, aBuiltin, rd, win, AV.cells, AV.leaf, aNew, splice, fillA, Nat.reduceEqDiff, Nat.reduceLT, Nat.reduceAdd, Nat.reduceLeDiff, reduceCtorEq, Nat.reduceMul, cfgP, u20, aResults, aResult, hlen]) (.still rfl) (by simp)


theorem setPairs_ok (l : List Pr) (v : AV) (hv : Sl encP v l) (hl : l.length < 1000000) (prot : Nat) (H : Heap) (hp : prot ≤ H.length) :
    ∃ w, Sl encP w l ∧ aLim cfg prot 49 [.agg [v]] H = some (w, none) := by
  have hsnap : snap H [.agg [v]] = some ([.agg [v]], false) := rfl
  have hlf := Sl.leaf hv
  unfold AV.leaf at hlf
  by_cases hz : l = []
  · subst hz
    have hk : v = .nilS ∨ (∃ es f, v = .vs es f) ∨ ∃ s, v = .bs s := by cases hv with | nil => exact .inl rfl | vs _ f => exact .inr (.inl ⟨_, _, rfl⟩)
    obtain ⟨o, ho, n1⟩ := pclone_none v H.length (H ++ [Blk.cells 0 [v]]) (hv.elems encP_T _) hk
    refine ⟨o, by rcases ho with rfl | rfl; exact .nil; exact .vs [] true, ?_⟩
    rcases ho with rfl | rfl
    · refine pure_slim rfl (by kernel_rfl) Try.func49 s49 hp hsnap (by simp [Try.f49]) fun fr hlen h => ?_
      simp only [Has, Nat.zero_add] at h
      obtain ⟨a0, -⟩ := h
      simp only [Try.f49] at hlen ⊢
      unfold g49
      simp only [wk0, wk1, wk2, wk3, wk4, wk5, wk6, aWanted, aYield, Region.wanted, aOp, quiet, loud, aEvals, aParts, aOpt, aBuiltin, rd, win, AV.cells, AV.leaf, aNew, splice, fillA, Nat.reduceEqDiff, Nat.reduceLT, Nat.reduceAdd, Nat.reduceLeDiff, reduceCtorEq, Nat.reduceMul, cfgP, u49, hlen, a0, hlf, n1]
      exact Fin_pure (l := [.nilS]) (by simp [wk0, wk1, wk2, wk3, wk4, wk5, wk6, aWanted, aYield, Region.wanted, aOp, quiet, loud, aEvals, aParts, aOpt, aBuiltin, rd, win, AV.cells, AV.leaf, aNew, splice, fillA, Nat.reduceEqDiff, Nat.reduceLT, Nat.reduceAdd, Nat.reduceLeDiff, reduceCtorEq, Nat.reduceMul, cfgP, u49, aResults, aResult, hlen]) (.still rfl) (by simp)
    · refine pure_slim rfl (by kernel_rfl) Try.func49 s49 hp hsnap (by simp [Try.f49]) fun fr hlen h => ?_
      simp only [Has, Nat.zero_add] at h
      obtain ⟨a0, -⟩ := h
      simp only [Try.f49] at hlen ⊢
      unfold g49
      simp only [wk0, wk1, wk2, wk3, wk4, wk5, wk6, aWanted, aYield, Region.wanted, aOp, quiet, loud, aEvals, aParts, aOpt, aBuiltin, rd, win, AV.cells, AV.leaf, aNew, splice, fillA, Nat.reduceEqDiff, Nat.reduceLT, Nat.reduceAdd, Nat.reduceLeDiff, reduceCtorEq, Nat.reduceMul, cfgP, u49, hlen, a0, hlf, n1]
      exact Fin_pure (l := [.vs [] true]) (by simp [wk0, wk1, wk2, wk3, wk4, wk5, wk6, aWanted, aYield, Region.wanted, aOp, quiet, loud, aEvals, aParts, aOpt, aBuiltin, rd, win, AV.cells, AV.leaf, aNew, splice, fillA, Nat.reduceEqDiff, Nat.reduceLT, Nat.reduceAdd, Nat.reduceLeDiff, reduceCtorEq, Nat.reduceMul, cfgP, u49, aResults, aResult, hlen]) (.still rfl) (by simp)
  · have hk : (∃ es f, v = .vs es f) ∨ ∃ s, v = .bs s := by
      cases hv with
      | nil => exact absurd rfl hz
      | vs _ f => exact .inl ⟨_, _, rfl⟩
    have n1 := pclone_some l v hz hl H.length (H ++ [Blk.cells 0 [v]]) (hv.elems encP_T _) hk
    refine ⟨.vs (l.map encP) false, .vs l false, ?_⟩
    refine pure_slim rfl (by kernel_rfl) Try.func49 s49 hp hsnap (by simp [Try.f49]) fun fr hlen h => ?_
    simp only [Has, Nat.zero_add] at h
    obtain ⟨a0, -⟩ := h
    simp only [Try.f49] at hlen ⊢
    unfold g49
    simp only [wk0, wk1, wk2, wk3, wk4, wk5, wk6, aWanted, aYield, Region.wanted, aOp, quiet, loud, aEvals, aParts, aOpt, aBuiltin, rd, win, AV.cells, AV.leaf, aNew, splice, fillA, Nat.reduceEqDiff, Nat.reduceLT, Nat.reduceAdd, Nat.reduceLeDiff, reduceCtorEq, Nat.reduceMul, cfgP, u49, hlen, a0, hlf, n1]
    have hr : Row encP 2 true H.length (H ++ [Blk.cells 0 [v]] ++ [Blk.cells 0 (cellsOf encP l)]) (.bs ⟨(H ++ [Blk.cells 0 [v]]).length, 0, 0, l.length, 0, 2, true, false⟩) l := .inr ⟨_, 0, rfl, by simp, by rw [hget_new rfl]; rfl, rfl⟩
    have hf := hr.frozen encP_T (by decide) rfl (.inr hz)
    have e : slv encP l = .vs (l.map encP) false := by cases l with | nil => exact absurd rfl hz | cons y r => rfl
    rw [e] at hf
    exact Fin_pure (l := [.bs ⟨(H ++ [Blk.cells 0 [v]]).length, 0, 0, l.length, 0, 2, true, false⟩]) (by simp [wk0, wk1, wk2, wk3, wk4, wk5, wk6, aWanted, aYield, Region.wanted, aOp, quiet, loud, aEvals, aParts, aOpt, aBuiltin, rd, win, AV.cells, AV.leaf, aNew, splice, fillA, Nat.reduceEqDiff, Nat.reduceLT, Nat.reduceAdd, Nat.reduceLeDiff, reduceCtorEq, Nat.reduceMul, cfgP, u49, hlen, aResults, aResult]) hf (by simp)


theorem plain14_ok (l : List Pr) (v : AV) (hv : Sl encP v l) (hl : l.length < 1000000) (prot : Nat) (H : Heap) (hp : prot ≤ H.length) :
    aLim cfg prot 21 [.agg [v]] H = some (slv encP l, none) := by
  have hsnap : snap H [.agg [v]] = some ([.agg [v]], false) := rfl
  have hlf := Sl.leaf hv
  unfold AV.leaf at hlf
  obtain ⟨w, hw, n1⟩ := setPairs_ok l v hv hl H.length (H ++ [Blk.cells 0 [v]]) (by simp)
  refine pure_slim rfl (by kernel_rfl) Try.func21 s21 hp hsnap (by simp [Try.f21]) fun fr hlen h => ?_
  simp only [Has, Nat.zero_add] at h
  obtain ⟨a0, -⟩ := h
  simp only [Try.f21] at hlen ⊢
  unfold g21
  simp only [wk0, wk1, wk2, wk3, wk4, wk5, wk6, aWanted, aYield, Region.wanted, aOp, quiet, loud, aEvals, aParts, aOpt, aBuiltin, rd, win, AV.cells, AV.leaf, aNew, splice, fillA, Nat.reduceEqDiff, Nat.reduceLT, Nat.reduceAdd, Nat.reduceLeDiff, reduceCtorEq, Nat.reduceMul, cfgP, u21, hlen, a0, hlf, n1, hw.len Try.underlying25]
  refine loop_rule (fun m fr H' => ∃ (i : Nat) (o : AV), m = l.length - i ∧ i ≤ l.length ∧ fr.length = 23 ∧ fget fr 7 = w ∧ fget fr 8 = .int .i64 l.length ∧ fget fr 9 = .int .i64 i ∧ fget fr 3 = o
    ∧ H.length ≤ H'.length ∧ Row encP 2 true H.length H' o (l.take i) ∧ (o = .nilS ∨ l.take i ≠ [])) ?_ l.length _ _ ⟨0, .nilS, by simp [wk0, wk1, wk2, wk3, wk4, wk5, wk6, aWanted, aYield, Region.wanted, aOp, quiet, loud, aEvals, aParts, aOpt, aBuiltin, rd, win, AV.cells, AV.leaf, aNew, splice, fillA, Nat.reduceEqDiff, Nat.reduceLT, Nat.reduceAdd, Nat.reduceLeDiff, reduceCtorEq, Nat.reduceMul, cfgP, u21, hlen, a0, Row.nil]⟩
  rintro m fr H' ⟨i, o, rfl, hi, hlen, a7, a8, a9, a3, hH, hrow, hne⟩ ih
  simp only [wk0, wk1, wk2, wk3, wk4, wk5, wk6, aWanted, aYield, Region.wanted, aOp, quiet, loud, aEvals, aParts, aOpt, aBuiltin, rd, win, AV.cells, AV.leaf, aNew, splice, fillA, Nat.reduceEqDiff, Nat.reduceLT, Nat.reduceAdd, Nat.reduceLeDiff, reduceCtorEq, Nat.reduceMul, cfgP, u21, hlen, a7, a8, a9, a3]
  refine RC_split (fun h => ?_) (fun h => ?_)
  · have hlt : i < l.length := by simpa using h
    have hww : IntKind.i64.wrap ((i : Int) + 1) = ((i + 1 : Nat) : Int) := by rw [wrap64 (by omega) (by omega)]; simp
    have e1 := hw.at (k := .i64) Try.underlying25 sz59 encP_len hlt
    have htk : l.take (i + 1) = l.take i ++ [l[i]] := by simp
    generalize l[i] = x at *
    have hrow2 := hrow.more [Blk.cells 0 (encP x).cells]
    obtain ⟨o', H2, happ, hrow3, hle, hno, hold⟩ := hrow2.app (prot := H.length) (xt := 22) encP_T rowRp (.inl ⟨_, Try.underlying22⟩) (elem_vs encP_T [x] true) (by simp) (by simp [roomy]; omega) (Nat.le_refl _) (by simp; omega)
    simp only [encP, AV.cells] at happ hle
    have hlit := litRp x
    simp only [wk0, wk1, wk2, wk3, wk4, wk5, wk6, aWanted, aYield, Region.wanted, aOp, quiet, loud, aEvals, aParts, aOpt, aBuiltin, rd, win, AV.cells, AV.leaf, aNew, splice, fillA, Nat.reduceEqDiff, Nat.reduceLT, Nat.reduceAdd, Nat.reduceLeDiff, reduceCtorEq, Nat.reduceMul, cfgP, u21, hlen, a7, a8, a9, a3, e1, encP, hH, hlit, happ, hww]
    refine ih _ _ (l.length - (i + 1)) (by omega) ⟨i + 1, o', rfl, hlt, ?_⟩
    rw [htk]
    simp [wk0, wk1, wk2, wk3, wk4, wk5, wk6, aWanted, aYield, Region.wanted, aOp, quiet, loud, aEvals, aParts, aOpt, aBuiltin, rd, win, AV.cells, AV.leaf, aNew, splice, fillA, Nat.reduceEqDiff, Nat.reduceLT, Nat.reduceAdd, Nat.reduceLeDiff, reduceCtorEq, Nat.reduceMul, cfgP, u21, hlen, a7, a8, a9, hrow3]
    exact Nat.le_trans (Nat.le_trans hH (by simp)) hle
  · simp only [wk0, wk1, wk2, wk3, wk4, wk5, wk6, aWanted, aYield, Region.wanted, aOp, quiet, loud, aEvals, aParts, aOpt, aBuiltin, rd, win, AV.cells, AV.leaf, aNew, splice, fillA, Nat.reduceEqDiff, Nat.reduceLT, Nat.reduceAdd, Nat.reduceLeDiff, reduceCtorEq, Nat.reduceMul, cfgP, u21, hlen, a7, a8, a9, a3]
    have hnl : ¬ i < l.length := by simpa using h
    rw [List.take_of_length_le (l := l) (by omega)] at hrow hne
    exact Fin_pure (l := [o]) (by simp [wk0, wk1, wk2, wk3, wk4, wk5, wk6, aWanted, aYield, Region.wanted, aOp, quiet, loud, aEvals, aParts, aOpt, aBuiltin, rd, win, AV.cells, AV.leaf, aNew, splice, fillA, Nat.reduceEqDiff, Nat.reduceLT, Nat.reduceAdd, Nat.reduceLeDiff, reduceCtorEq, Nat.reduceMul, cfgP, u21, hlen, aResults, aResult]) (hrow.frozen encP_T (by decide) rfl hne) (by simp)
end Go.Proofs.Ytjhgmoaabflbfaa
