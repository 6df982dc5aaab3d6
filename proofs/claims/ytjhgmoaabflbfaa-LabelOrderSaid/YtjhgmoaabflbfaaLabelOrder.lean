import Derived.Test.YtjhgmoaabflbfaaLabel4
import Derived.Test.YtjhgmoaabflbfaaLord
import Derived.Test.YtjhgmoaabflbfaaLabelPick
/-! The law LabelOrder, walked. -/
set_option linter.unusedSimpArgs false
namespace Go.Proofs.Ytjhgmoaabflbfaa
open Go Go.Abs AbsSeat Ty

theorem u6 : type_of% (And.intro (show tagT Try.prog 27 = 0 from by kernel_rfl) (And.intro ag1 (And.intro sz1 (And.intro by1 (And.intro ze1 (And.intro Try.underlying1 (And.intro ag3 (And.intro sz3 (And.intro by3 (And.intro ze3 (And.intro Try.underlying3 (And.intro ag22 (And.intro sz22 (And.intro by22 (And.intro se22 (And.intro ze22 (And.intro Try.underlying22 (And.intro ag25 (And.intro sz25 (And.intro by25 (And.intro se25 (And.intro ze25 (And.intro Try.underlying25 (And.intro ag27 (And.intro sz27 (And.intro by27 (And.intro ze27 (And.intro bu27 (And.intro Try.underlying27 (And.intro ag38 (And.intro sz38 (And.intro by38 (And.intro ze38 (And.intro Try.underlying38 (And.intro ag51 (And.intro sz51 (And.intro by51 (And.intro ze51 (And.intro Try.underlying51 (And.intro ag59 (And.intro sz59 (And.intro by59 (And.intro ze59 (And.intro bu59 (And.intro Try.underlying59 (And.intro ag68 (And.intro sz68 (And.intro by68 (And.intro ze68 (And.intro bu68 Try.underlying68)))))))))))))))))))))))))))))))))))))))))))))))))) :=
  And.intro (show tagT Try.prog 27 = 0 from by kernel_rfl) (And.intro ag1 (And.intro sz1 (And.intro by1 (And.intro ze1 (And.intro Try.underlying1 (And.intro ag3 (And.intro sz3 (And.intro by3 (And.intro ze3 (And.intro Try.underlying3 (And.intro ag22 (And.intro sz22 (And.intro by22 (And.intro se22 (And.intro ze22 (And.intro Try.underlying22 (And.intro ag25 (And.intro sz25 (And.intro by25 (And.intro se25 (And.intro ze25 (And.intro Try.underlying25 (And.intro ag27 (And.intro sz27 (And.intro by27 (And.intro ze27 (And.intro bu27 (And.intro Try.underlying27 (And.intro ag38 (And.intro sz38 (And.intro by38 (And.intro ze38 (And.intro Try.underlying38 (And.intro ag51 (And.intro sz51 (And.intro by51 (And.intro ze51 (And.intro Try.underlying51 (And.intro ag59 (And.intro sz59 (And.intro by59 (And.intro ze59 (And.intro bu59 (And.intro Try.underlying59 (And.intro ag68 (And.intro sz68 (And.intro by68 (And.intro ze68 (And.intro bu68 Try.underlying68)))))))))))))))))))))))))))))))))))))))))))))))))
def g6 : Code :=
  Go.Code.seq (Go.Code.region 0 #[{ dst := some 2, op := Go.Op.assign (Go.Operand.const (Go.Value.bool false)), type := 4, pos := "", after := #[], guard := none }] false) (Go.Code.seq (Go.Code.region 1 #[{ dst := some 12, op := Go.Op.move (Go.Operand.tmp 0), type := 22, pos := "", after := #[], guard := none }, { dst := some 13, op := Go.Op.call { callee := Go.Callee.value (Go.Operand.func 17), args := #[Go.Operand.tmp 12], argTypes := #[22] }, type := 40, pos := "", after := #[], guard := none }, { dst := some 11, op := Go.Op.move (Go.Operand.tmp 13), type := 40, pos := "", after := #[], guard := none }, { dst := some 14, op := Go.Op.extract (Go.Operand.tmp 11) 0, type := 25, pos := "", after := #[], guard := none }, { dst := some 15, op := Go.Op.extract (Go.Operand.tmp 11) 1, type := 22, pos := "", after := #[], guard := none }, { dst := some 3, op := Go.Op.assign (Go.Operand.tmp 14), type := 25, pos := "", after := #[], guard := none }, { dst := some 4, op := Go.Op.assign (Go.Operand.tmp 15), type := 22, pos := "", after := #[], guard := none }] false) (Go.Code.seq (Go.Code.region 2 #[{ dst := some 5, op := Go.Op.assign (Go.Operand.const (Go.Value.slice none 0 0)), type := 25, pos := "", after := #[], guard := none }] false) (Go.Code.seq (Go.Code.seq (Go.Code.region 3 #[{ dst := some 16, op := Go.Op.move (Go.Operand.tmp 3), type := 25, pos := "", after := #[], guard := none }, { dst := some 17, op := Go.Op.call { callee := Go.Callee.builtin Go.Builtin.len, args := #[Go.Operand.tmp 16], argTypes := #[25] }, type := 3, pos := "", after := #[], guard := none }, { dst := some 18, op := Go.Op.binOp Go.BinOp.sub 3 (Go.Operand.tmp 17) (Go.Operand.const (Go.Value.int Go.IntKind.i64 1)) 3, type := 3, pos := "", after := #[], guard := none }, { dst := some 6, op := Go.Op.assign (Go.Operand.tmp 18), type := 3, pos := "", after := #[], guard := none }] false) (Go.Code.block 0 (Go.Code.loop (Go.Code.seq (Go.Code.seq (Go.Code.region 4 #[{ dst := some 19, op := Go.Op.move (Go.Operand.tmp 6), type := 3, pos := "", after := #[], guard := none }, { dst := some 20, op := Go.Op.binOp Go.BinOp.geq 3 (Go.Operand.tmp 19) (Go.Operand.const (Go.Value.int Go.IntKind.i64 0)) 3, type := 4, pos := "", after := #[], guard := none }] false) (Go.Code.cond (Go.Operand.tmp 20) Go.Code.skip (Go.Code.exit 0))) (Go.Code.seq (Go.Code.block 1 (Go.Code.region 6 #[{ dst := some 23, op := Go.Op.move (Go.Operand.tmp 5), type := 25, pos := "", after := #[], guard := none }, { dst := some 24, op := Go.Op.move (Go.Operand.tmp 3), type := 25, pos := "", after := #[], guard := none }, { dst := some 25, op := Go.Op.move (Go.Operand.tmp 6), type := 3, pos := "", after := #[], guard := none }, { dst := some 26, op := Go.Op.indexAddr 25 (Go.Operand.tmp 24) (Go.Operand.tmp 25), type := 0, pos := "", after := #[], guard := none }, { dst := some 27, op := Go.Op.load 59 (Go.Operand.tmp 26), type := 59, pos := "", after := #[], guard := none }, { dst := some 28, op := Go.Op.buildSlice 25 1 #[(0, Go.Operand.tmp 27)], type := 25, pos := "", after := #[], guard := none }, { dst := some 29, op := Go.Op.call { callee := Go.Callee.builtin Go.Builtin.append, args := #[Go.Operand.tmp 23, Go.Operand.tmp 28], argTypes := #[25, 25] }, type := 25, pos := "", after := #[], guard := none }, { dst := some 5, op := Go.Op.assign (Go.Operand.tmp 29), type := 25, pos := "", after := #[], guard := none }] false)) (Go.Code.region 5 #[{ dst := some 21, op := Go.Op.move (Go.Operand.tmp 6), type := 3, pos := "", after := #[], guard := none }, { dst := some 22, op := Go.Op.binOp Go.BinOp.sub 3 (Go.Operand.tmp 21) (Go.Operand.const (Go.Value.int Go.IntKind.i64 1)) 3, type := 3, pos := "", after := #[], guard := none }, { dst := some 6, op := Go.Op.assign (Go.Operand.tmp 22), type := 3, pos := "", after := #[], guard := none }] false)))))) (Go.Code.seq (Go.Code.region 7 #[{ dst := some 31, op := Go.Op.move (Go.Operand.tmp 3), type := 25, pos := "", after := #[], guard := none }, { dst := some 32, op := Go.Op.call { callee := Go.Callee.value (Go.Operand.func 18), args := #[Go.Operand.tmp 31], argTypes := #[25] }, type := 42, pos := "", after := #[], guard := none }, { dst := some 30, op := Go.Op.move (Go.Operand.tmp 32), type := 42, pos := "", after := #[], guard := none }, { dst := some 33, op := Go.Op.extract (Go.Operand.tmp 30) 0, type := 27, pos := "", after := #[], guard := none }, { dst := some 34, op := Go.Op.extract (Go.Operand.tmp 30) 1, type := 38, pos := "", after := #[], guard := none }, { dst := some 7, op := Go.Op.alloc 27, type := 0, pos := "", after := #[], guard := none }, { dst := none, op := Go.Op.store 27 (Go.Operand.tmp 7) (Go.Operand.tmp 33), type := 0, pos := "", after := #[], guard := none }, { dst := some 8, op := Go.Op.assign (Go.Operand.tmp 34), type := 38, pos := "", after := #[], guard := none }] false) (Go.Code.seq (Go.Code.region 8 #[{ dst := some 36, op := Go.Op.move (Go.Operand.tmp 5), type := 25, pos := "", after := #[], guard := none }, { dst := some 37, op := Go.Op.call { callee := Go.Callee.value (Go.Operand.func 18), args := #[Go.Operand.tmp 36], argTypes := #[25] }, type := 42, pos := "", after := #[], guard := none }, { dst := some 35, op := Go.Op.move (Go.Operand.tmp 37), type := 42, pos := "", after := #[], guard := none }, { dst := some 38, op := Go.Op.extract (Go.Operand.tmp 35) 0, type := 27, pos := "", after := #[], guard := none }, { dst := some 39, op := Go.Op.extract (Go.Operand.tmp 35) 1, type := 38, pos := "", after := #[], guard := none }, { dst := some 9, op := Go.Op.alloc 27, type := 0, pos := "", after := #[], guard := none }, { dst := none, op := Go.Op.store 27 (Go.Operand.tmp 9) (Go.Operand.tmp 38), type := 0, pos := "", after := #[], guard := none }, { dst := some 10, op := Go.Op.assign (Go.Operand.tmp 39), type := 38, pos := "", after := #[], guard := none }] false) (Go.Code.seq (Go.Code.region 9 #[{ dst := some 40, op := Go.Op.move (Go.Operand.tmp 8), type := 38, pos := "", after := #[], guard := none }, { dst := some 41, op := Go.Op.move (Go.Operand.tmp 10), type := 38, pos := "", after := #[], guard := none }, { dst := some 42, op := Go.Op.binOp Go.BinOp.eql 38 (Go.Operand.tmp 40) (Go.Operand.tmp 41) 38, type := 4, pos := "", after := #[], guard := none }, { dst := some 43, op := Go.Op.move (Go.Operand.tmp 42), type := 4, pos := "", after := #[], guard := none }, { dst := some 44, op := Go.Op.load 27 (Go.Operand.tmp 7), type := 27, pos := "", after := #[], guard := some (3, true) }, { dst := some 45, op := Go.Op.load 27 (Go.Operand.tmp 9), type := 27, pos := "", after := #[], guard := some (3, true) }, { dst := some 46, op := Go.Op.call { callee := Go.Callee.value (Go.Operand.func 32), args := #[Go.Operand.tmp 44, Go.Operand.tmp 45], argTypes := #[27, 27] }, type := 4, pos := "", after := #[], guard := some (3, true) }, { dst := some 47, op := Go.Op.pick (Go.Operand.tmp 43) (Go.Operand.tmp 46) (Go.Operand.const (Go.Value.bool false)), type := 4, pos := "", after := #[], guard := none }, { dst := some 48, op := Go.Op.move (Go.Operand.tmp 47), type := 4, pos := "", after := #[], guard := none }, { dst := some 49, op := Go.Op.load 27 (Go.Operand.tmp 7), type := 27, pos := "", after := #[], guard := some (8, true) }, { dst := some 50, op := Go.Op.call { callee := Go.Callee.value (Go.Operand.func 25), args := #[Go.Operand.tmp 49], argTypes := #[27] }, type := 51, pos := "", after := #[], guard := some (8, true) }, { dst := some 51, op := Go.Op.load 27 (Go.Operand.tmp 9), type := 27, pos := "", after := #[], guard := some (8, true) }, { dst := some 52, op := Go.Op.call { callee := Go.Callee.value (Go.Operand.func 25), args := #[Go.Operand.tmp 51], argTypes := #[27] }, type := 51, pos := "", after := #[], guard := some (8, true) }, { dst := some 53, op := Go.Op.binOp Go.BinOp.eql 51 (Go.Operand.tmp 50) (Go.Operand.tmp 52) 51, type := 4, pos := "", after := #[], guard := some (8, true) }, { dst := some 54, op := Go.Op.pick (Go.Operand.tmp 48) (Go.Operand.tmp 53) (Go.Operand.const (Go.Value.bool false)), type := 4, pos := "", after := #[], guard := none }, { dst := some 55, op := Go.Op.move (Go.Operand.tmp 54), type := 4, pos := "", after := #[], guard := none }, { dst := some 56, op := Go.Op.call { callee := Go.Callee.value (Go.Operand.func 31), args := #[], argTypes := #[] }, type := 4, pos := "", after := #[], guard := some (15, true) }, { dst := some 57, op := Go.Op.pick (Go.Operand.tmp 55) (Go.Operand.tmp 56) (Go.Operand.const (Go.Value.bool false)), type := 4, pos := "", after := #[], guard := none }, { dst := some 2, op := Go.Op.assign (Go.Operand.tmp 57), type := 4, pos := "", after := #[], guard := none }] false) Go.Code.ret))))))
theorem s6 : Try.f6.body.map (slim cfg) = some g6 := by kernel_rfl

theorem cutL_small (l : List Pr) : ∀ x ∈ cutL l, Small x := by
  intro x hx
  obtain ⟨y, _, rfl⟩ := List.mem_map.1 hx
  simp [Small, cutPr]; omega
theorem ofP_small {l : List Pr} (h : ∀ x ∈ l, Small x) : ∀ x ∈ (ofP l).1, Small x := by
  intro x hx
  refine h x ?_
  unfold ofP at hx
  split at hx
  · simp at hx
  · split at hx
    · simp at hx
    · exact (isortP_perm l).mem_iff.1 hx
theorem rowTree {v : AV} {l : List Pr} {base : Nat} {H : Heap} (h : Row encP 2 true base H v l) (hne : v ≠ .nilS) : ∃ b ver, v = .bs ⟨b, ver, 0, l.length, 0, 2, true, false⟩ ∧ base ≤ b ∧ b < H.length ∧ snap H [v] = some ([.vs (l.map encP) false], true) := by
  rcases h with ⟨h, _⟩ | ⟨b, ver, rfl, h2, h3, h4⟩
  · exact absurd h hne
  · have hcr : CRow encP 2 true H (.bs ⟨b, ver, 0, l.length, 0, 2, true, false⟩) l := .inl (.inr ⟨b, ver, rfl, Nat.zero_le _, h3, h4⟩)
    have hw : win (cellsOf encP l) 0 (l.length * 2) = some (cellsOf encP l) := by
      have := cellsOf_drop encP_T l 0 (by simp)
      simpa using this
    have hpl : AV.plL (cellsOf encP l) = true := by
      clear h3 hw hcr hne
      induction l with
      | nil => rfl
      | cons x r ih =>
        rw [show cellsOf encP (x :: r) = (encP x).cells ++ cellsOf encP r from by simp [cellsOf]]
        exact plL_append rfl ih
    refine ⟨b, ver, rfl, h2, hget_lt h3, ?_⟩
    have hc := chunk_cellsOf encP_T (by decide) l
    simp [snap, h3, hw, hpl, hc]
theorem flat_of {v : AV} {l : List Pr} (h : Sl encP v l) (e : Int) : flat (.tup [.agg [v], .int .i64 e]) = true ∨ flat (.tup [.agg [v], .int .i64 e]) = false := by
  cases flat (.tup [.agg [v], .int .i64 e]) <;> simp
/-- Of, of a row that grew. -/
theorem of_row (l : List Pr) (o : AV) (prot base : Nat) (H : Heap) (ho : Row encP 2 true base H o l) (hb : prot ≤ base) (hl : l.length ≤ 12) (hls : ∀ x ∈ l, x.name.length ≤ 9223372036854775807 ∧ x.val.length ≤ 9223372036854775807) (hp : prot ≤ H.length) :
    ∃ v h, Sl encP v (ofP l).1 ∧ aLim cfg prot 18 [o] H = some (.tup [.agg [v], .int .i64 (ofP l).2], h) ∧ H.length ≤ (h.getD H).length ∧ ∀ b v' cs, (∀ s, o = .bs s → s.b ≠ b) → hget H b v' = some cs → hget (h.getD H) b v' = some cs := by
  by_cases hne : o = .nilS
  · subst hne
    have hl0 : l = [] := by
      rcases ho with ⟨_, h⟩ | ⟨b, ver, h, _⟩
      · exact h
      · cases h
    obtain ⟨v, h1, h2⟩ := of_ok l .nilS (by rw [hl0]; exact .nil) hl hls prot H hp
    exact ⟨v, none, h1, h2, Nat.le_refl _, fun _ _ _ _ h => h⟩
  · obtain ⟨b, ver, rfl, hbb, hbl, hs⟩ := rowTree ho hne
    obtain ⟨v1, g1, g2⟩ := of_ok l (.vs (l.map encP) false) (.vs _ _) hl hls prot H hp
    have hfn : cfg.P.funcs[18]? = some Try.f18 := Try.func18
    have hpu : cfg.pure 18 = true := by kernel_rfl
    have hea : cfg.eats 18 = true := by kernel_rfl
    have hbo : Try.f18.body.isSome = true := by kernel_rfl
    rcases flat_of g1 (ofP l).2 with hf | hf
    · exact ⟨v1, none, g1, lim_snap hpu hfn hbo hs rfl g2 hf, Nat.le_refl _, fun _ _ _ _ h => h⟩
    · obtain ⟨v2, k1, k2⟩ := of_ok l (.vs (l.map encP) false) (.vs _ _) hl hls prot (H.set b .dead) (by simpa using hp)
      have hk : killA prot H [.bs ⟨b, ver, 0, l.length, 0, 2, true, false⟩] = some (H.set b .dead) := by simp [killA, Nat.le_trans hb hbb]
      refine ⟨v2, some (H.set b .dead), k1, lim_eat hpu hea hfn hbo hs hk rfl rfl (by simp) g2 k2 hf, by simp, fun b' v' cs h h1 => ?_⟩
      show hget (H.set b .dead) b' v' = some cs
      rw [hget_set_ne (fun e => h _ rfl e.symm)]; exact h1


theorem orderLaw_ok (l : List Pr) (w : AV) (hw : Sl encP w l) (hl : l.length ≤ 9223372036854775807) (prot : Nat) (H : Heap) (hp : prot ≤ H.length) :
    aLim cfg prot 6 [w] H = some (.bool true, none) := by
  have hsnap : snap H [w] = some ([w], false) := by cases hw <;> rfl
  have cl := cutL_len l
  have p1 := pairs_ok l w hw hl H.length H (Nat.le_refl _)
  have hc := slv_sl encP (cutL l)
  have hsm := cutL_small l
  have hfit := cutL_fit l
  generalize slv encP (cutL l) = z at *
  generalize cutL l = c at *
  have w0 : IntKind.i64.wrap ((c.length : Int) - 1) = (c.length : Int) - 1 := by rw [wrap64 (by omega) (by omega)]
  refine pure_slim rfl (by kernel_rfl) Try.func6 s6 hp hsnap (by simp [Try.f6]) fun fr hlen h => ?_
  simp only [Has, Nat.zero_add] at h
  obtain ⟨a0, -⟩ := h
  simp only [Try.f6] at hlen ⊢
  unfold g6
  simp only [wk0, wk1, wk2, wk3, wk4, wk5, wk6, aWanted, aYield, Region.wanted, aOp, quiet, loud, aEvals, aParts, aOpt, aBuiltin, rd, win, AV.cells, AV.leaf, aNew, splice, fillA, Nat.reduceEqDiff, Nat.reduceLT, Nat.reduceAdd, Nat.reduceLeDiff, reduceCtorEq, Nat.reduceMul, cfgP, u6, hlen, a0, p1, hc.len Try.underlying25, w0]
  refine loop_rule (fun m fr H' => ∃ (j : Nat) (o : AV), m = j ∧ j ≤ c.length ∧ fr.length = 58 ∧ fget fr 3 = z ∧ fget fr 6 = .int .i64 ((j : Int) - 1) ∧ fget fr 5 = o ∧ H.length ≤ H'.length ∧ Row encP 2 true H.length H' o (c.drop j).reverse) ?_ c.length _ _ ⟨c.length, .nilS, by simp [wk0, wk1, wk2, wk3, wk4, wk5, wk6, aWanted, aYield, Region.wanted, aOp, quiet, loud, aEvals, aParts, aOpt, aBuiltin, rd, win, AV.cells, AV.leaf, aNew, splice, fillA, Nat.reduceEqDiff, Nat.reduceLT, Nat.reduceAdd, Nat.reduceLeDiff, reduceCtorEq, Nat.reduceMul, cfgP, u6, hlen, a0, Row.nil]⟩
  rintro m fr H' ⟨j, o, rfl, hj, hlen, a3, a6, a5, hH, hrow⟩ ih
  simp only [wk0, wk1, wk2, wk3, wk4, wk5, wk6, aWanted, aYield, Region.wanted, aOp, quiet, loud, aEvals, aParts, aOpt, aBuiltin, rd, win, AV.cells, AV.leaf, aNew, splice, fillA, Nat.reduceEqDiff, Nat.reduceLT, Nat.reduceAdd, Nat.reduceLeDiff, reduceCtorEq, Nat.reduceMul, cfgP, u6, hlen, a3, a6, a5]
  refine RC_split (fun h => ?_) (fun h => ?_)
  · have hpos : 0 < m := by have : (0 : Int) ≤ (m : Int) - 1 := by simpa using h
                            omega
    obtain ⟨k, rfl⟩ : ∃ k, m = k + 1 := ⟨m - 1, by omega⟩
    have ek : (((k + 1 : Nat) : Int) - 1) = (k : Nat) := by omega
    have hww : IntKind.i64.wrap ((k : Int) - 1) = (k : Int) - 1 := by rw [wrap64 (by omega) (by omega)]
    rw [ek] at a6
    have e1 := hc.at (k := .i64) Try.underlying25 sz59 encP_len (i := k) (by omega)
    have hd : (c.drop k).reverse = (c.drop (k + 1)).reverse ++ [c[k]] := by
      rw [List.drop_eq_getElem_cons (by omega : k < c.length)]; simp
    generalize c[k] = x at *
    obtain ⟨o', H2, happ, hrow3, hle, hno, hold⟩ := hrow.app (prot := H.length) (xt := 25) encP_T rowPr hxtPr (elem_vs encP_T [x] true) (by simp) (by simp [roomy]; omega) (by omega) hH
    have hlit := litPp x
    simp only [wk0, wk1, wk2, wk3, wk4, wk5, wk6, aWanted, aYield, Region.wanted, aOp, quiet, loud, aEvals, aParts, aOpt, aBuiltin, rd, win, AV.cells, AV.leaf, aNew, splice, fillA, Nat.reduceEqDiff, Nat.reduceLT, Nat.reduceAdd, Nat.reduceLeDiff, reduceCtorEq, Nat.reduceMul, cfgP, u6, hlen, a3, a6, a5, ek, e1, encP, hlit, happ, hww]
    refine ih _ _ k (by omega) ⟨k, o', rfl, by omega, ?_⟩
    rw [hd]
    simp [wk0, wk1, wk2, wk3, wk4, wk5, wk6, aWanted, aYield, Region.wanted, aOp, quiet, loud, aEvals, aParts, aOpt, aBuiltin, rd, win, AV.cells, AV.leaf, aNew, splice, fillA, Nat.reduceEqDiff, Nat.reduceLT, Nat.reduceAdd, Nat.reduceLeDiff, reduceCtorEq, Nat.reduceMul, cfgP, u6, hlen, a3, a6, a5, hrow3]
    omega
  · have hj0 : m = 0 := by
      have : ¬ (0 : Int) ≤ (m : Int) - 1 := by simpa using h
      omega
    subst hj0
    rw [List.drop_zero] at hrow
    obtain ⟨v, r1, o1⟩ := of_ok c z hc (by omega) hfit H.length H' hH
    have k1 := Sl.leaf r1
    have k2 := Sl.cells1 r1
    have hrow2 := hrow.more [Blk.cells 0 [v]]
    obtain ⟨v2, h2, r2, o2, hle2, hold2⟩ := of_row c.reverse o H.length H.length (H' ++ [Blk.cells 0 [v]]) hrow2 (Nat.le_refl _) (by simp; omega) (fun x hx => hfit x (by simpa using hx)) (by simp; omega)
    have hperm : ofP c.reverse = ofP c := ofP_perm (List.reverse_perm c)
    rw [hperm] at r2 o2
    have hsl : (ofP c).1.length ≤ 6 := by
      unfold ofP
      split
      · simp
      · split
        · simp
        · rw [isortP_len]; exact cl
    have hss := ofP_small hsm
    generalize (ofP c).2 = e at *
    generalize (ofP c).1 = s at *
    have k3 := Sl.leaf r2
    have k4 := Sl.cells1 r2
    have hget1 : hget (h2.getD (H' ++ [Blk.cells 0 [v]])) H'.length 0 = some [v] := hold2 _ _ _ (fun q hq => by
      rcases hrow with ⟨g, _⟩ | ⟨b, ver, g, _, g3, _⟩
      · rw [g] at hq; cases hq
      · rw [g] at hq; cases hq
        have := hget_lt g3
        simp only; omega) (hget_new rfl)
    have sm := fun (K : Heap) (hK : H.length ≤ K.length) => setSame_ok s v v2 r1 r2 (by omega) H.length K hK
    have hh1 := fun (K : Heap) (hK : H.length ≤ K.length) => setHash_ok s v r1 hss (by omega) H.length K hK
    have hh2 := fun (K : Heap) (hK : H.length ≤ K.length) => setHash_ok s v2 r2 hss (by omega) H.length K hK
    have hle3 : H.length ≤ (h2.getD (H' ++ [Blk.cells 0 [v]])).length := Nat.le_trans (by simp; omega) hle2
    have hlt3 : H'.length < (h2.getD (H' ++ [Blk.cells 0 [v]])).length := Nat.lt_of_lt_of_le (by simp) hle2
    have dd : decide (e = e) = true := by simp
    have ee : ∀ x : Int, decide (x = x) = true := fun x => by simp
    unfold AV.leaf at k1 k3
    unfold AV.cells at k2 k4
    simp only [wk0, wk1, wk2, wk3, wk4, wk5, wk6, aWanted, aYield, Region.wanted, aOp, quiet, loud, aEvals, aParts, aOpt, aBuiltin, rd, win, AV.cells, AV.leaf, aNew, splice, fillA, Nat.reduceEqDiff, Nat.reduceLT, Nat.reduceAdd, Nat.reduceLeDiff, reduceCtorEq, Nat.reduceMul, cfgP, u6, hlen, a3, a6, a5, hH, o1, k1, k2, k3, k4, o2, S1_any, hget1, hle3, hlt3, ee, sm, hh1, hh2, lawake_ok]
    exact Fin_pure (l := [.bool true]) (by simp [wk0, wk1, wk2, wk3, wk4, wk5, wk6, aWanted, aYield, Region.wanted, aOp, quiet, loud, aEvals, aParts, aOpt, aBuiltin, rd, win, AV.cells, AV.leaf, aNew, splice, fillA, Nat.reduceEqDiff, Nat.reduceLT, Nat.reduceAdd, Nat.reduceLeDiff, reduceCtorEq, Nat.reduceMul, cfgP, u6, aResults, aResult, hlen]) (.still rfl) (by simp)
end Go.Proofs.Ytjhgmoaabflbfaa
