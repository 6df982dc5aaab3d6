import Derived.Test.YtjhgmoaabflbfaaAlert3
/-! The law AlertAgain, walked. -/
set_option linter.unusedSimpArgs false
namespace Go.Proofs.Ytjhgmoaabflbfaa
open Go Go.Abs AbsSeat Ty

theorem u3 : type_of% (And.intro (show tagT Try.prog 24 = 0 from by kernel_rfl) (And.intro (show tagT Try.prog 29 = 0 from by kernel_rfl) (And.intro ag24 (And.intro sz24 (And.intro by24 (And.intro ze24 (And.intro bu24 (And.intro Try.underlying24 (And.intro ag29 (And.intro sz29 (And.intro by29 (And.intro ze29 (And.intro bu29 Try.underlying29))))))))))))) :=
  And.intro (show tagT Try.prog 24 = 0 from by kernel_rfl) (And.intro (show tagT Try.prog 29 = 0 from by kernel_rfl) (And.intro ag24 (And.intro sz24 (And.intro by24 (And.intro ze24 (And.intro bu24 (And.intro Try.underlying24 (And.intro ag29 (And.intro sz29 (And.intro by29 (And.intro ze29 (And.intro bu29 Try.underlying29))))))))))))
def g3 : Code :=
  Go.Code.seq (Go.Code.region 0 #[{ dst := some 2, op := Go.Op.box 24 (Go.Operand.tmp 0), type := 0, pos := "", after := #[], guard := none }, { dst := some 3, op := Go.Op.box 24 (Go.Operand.tmp 1), type := 0, pos := "", after := #[], guard := none }, { dst := some 4, op := Go.Op.assign (Go.Operand.const (Go.Value.bool false)), type := 4, pos := "", after := #[], guard := none }] false) (Go.Code.seq (Go.Code.region 1 #[{ dst := some 11, op := Go.Op.load 24 (Go.Operand.tmp 2), type := 24, pos := "", after := #[], guard := none }, { dst := some 12, op := Go.Op.call { callee := Go.Callee.value (Go.Operand.func 9), args := #[Go.Operand.tmp 11], argTypes := #[24] }, type := 30, pos := "", after := #[], guard := none }, { dst := some 10, op := Go.Op.move (Go.Operand.tmp 12), type := 30, pos := "", after := #[], guard := none }, { dst := some 13, op := Go.Op.extract (Go.Operand.tmp 10) 0, type := 29, pos := "", after := #[], guard := none }, { dst := some 14, op := Go.Op.extract (Go.Operand.tmp 10) 1, type := 24, pos := "", after := #[], guard := none }, { dst := some 5, op := Go.Op.alloc 29, type := 0, pos := "", after := #[], guard := none }, { dst := some 6, op := Go.Op.alloc 24, type := 0, pos := "", after := #[], guard := none }, { dst := none, op := Go.Op.store 29 (Go.Operand.tmp 5) (Go.Operand.tmp 13), type := 0, pos := "", after := #[], guard := none }, { dst := none, op := Go.Op.store 24 (Go.Operand.tmp 6) (Go.Operand.tmp 14), type := 0, pos := "", after := #[], guard := none }] false) (Go.Code.seq (Go.Code.region 2 #[{ dst := some 16, op := Go.Op.load 24 (Go.Operand.tmp 3), type := 24, pos := "", after := #[], guard := none }, { dst := some 17, op := Go.Op.call { callee := Go.Callee.value (Go.Operand.func 9), args := #[Go.Operand.tmp 16], argTypes := #[24] }, type := 30, pos := "", after := #[], guard := none }, { dst := some 15, op := Go.Op.move (Go.Operand.tmp 17), type := 30, pos := "", after := #[], guard := none }, { dst := some 18, op := Go.Op.extract (Go.Operand.tmp 15) 0, type := 29, pos := "", after := #[], guard := none }, { dst := some 19, op := Go.Op.extract (Go.Operand.tmp 15) 1, type := 24, pos := "", after := #[], guard := none }, { dst := some 7, op := Go.Op.alloc 29, type := 0, pos := "", after := #[], guard := none }, { dst := some 8, op := Go.Op.alloc 24, type := 0, pos := "", after := #[], guard := none }, { dst := none, op := Go.Op.store 29 (Go.Operand.tmp 7) (Go.Operand.tmp 18), type := 0, pos := "", after := #[], guard := none }, { dst := none, op := Go.Op.store 24 (Go.Operand.tmp 8) (Go.Operand.tmp 19), type := 0, pos := "", after := #[], guard := none }] false) (Go.Code.seq (Go.Code.region 3 #[{ dst := some 20, op := Go.Op.load 29 (Go.Operand.tmp 5), type := 29, pos := "", after := #[], guard := none }, { dst := some 21, op := Go.Op.load 29 (Go.Operand.tmp 7), type := 29, pos := "", after := #[], guard := none }, { dst := some 22, op := Go.Op.call { callee := Go.Callee.value (Go.Operand.func 10), args := #[Go.Operand.tmp 20, Go.Operand.tmp 21], argTypes := #[29, 29] }, type := 29, pos := "", after := #[], guard := none }, { dst := some 9, op := Go.Op.alloc 29, type := 0, pos := "", after := #[], guard := none }, { dst := none, op := Go.Op.store 29 (Go.Operand.tmp 9) (Go.Operand.tmp 22), type := 0, pos := "", after := #[], guard := none }] false) (Go.Code.seq (Go.Code.region 4 #[{ dst := some 23, op := Go.Op.load 24 (Go.Operand.tmp 8), type := 24, pos := "", after := #[], guard := none }, { dst := some 24, op := Go.Op.call { callee := Go.Callee.value (Go.Operand.func 11), args := #[Go.Operand.tmp 23], argTypes := #[24] }, type := 4, pos := "", after := #[], guard := none }, { dst := some 25, op := Go.Op.unOp Go.UnOp.not 4 (Go.Operand.tmp 24), type := 4, pos := "", after := #[], guard := none }, { dst := some 26, op := Go.Op.move (Go.Operand.tmp 25), type := 4, pos := "", after := #[], guard := none }, { dst := some 27, op := Go.Op.load 29 (Go.Operand.tmp 9), type := 29, pos := "", after := #[], guard := some (3, false) }, { dst := some 28, op := Go.Op.load 29 (Go.Operand.tmp 7), type := 29, pos := "", after := #[], guard := some (3, false) }, { dst := some 29, op := Go.Op.call { callee := Go.Callee.value (Go.Operand.func 10), args := #[Go.Operand.tmp 27, Go.Operand.tmp 28], argTypes := #[29, 29] }, type := 29, pos := "", after := #[], guard := some (3, false) }, { dst := some 30, op := Go.Op.call { callee := Go.Callee.value (Go.Operand.func 13), args := #[Go.Operand.tmp 29], argTypes := #[29] }, type := 24, pos := "", after := #[], guard := some (3, false) }, { dst := some 31, op := Go.Op.load 29 (Go.Operand.tmp 9), type := 29, pos := "", after := #[], guard := some (3, false) }, { dst := some 32, op := Go.Op.call { callee := Go.Callee.value (Go.Operand.func 13), args := #[Go.Operand.tmp 31], argTypes := #[29] }, type := 24, pos := "", after := #[], guard := some (3, false) }, { dst := some 33, op := Go.Op.call { callee := Go.Callee.value (Go.Operand.func 12), args := #[Go.Operand.tmp 30, Go.Operand.tmp 32], argTypes := #[24, 24] }, type := 4, pos := "", after := #[], guard := some (3, false) }, { dst := some 34, op := Go.Op.pick (Go.Operand.tmp 26) (Go.Operand.const (Go.Value.bool true)) (Go.Operand.tmp 33), type := 4, pos := "", after := #[], guard := none }, { dst := some 35, op := Go.Op.move (Go.Operand.tmp 34), type := 4, pos := "", after := #[], guard := none }, { dst := some 36, op := Go.Op.call { callee := Go.Callee.value (Go.Operand.func 14), args := #[], argTypes := #[] }, type := 4, pos := "", after := #[], guard := some (12, true) }, { dst := some 37, op := Go.Op.pick (Go.Operand.tmp 35) (Go.Operand.tmp 36) (Go.Operand.const (Go.Value.bool false)), type := 4, pos := "", after := #[], guard := none }, { dst := some 4, op := Go.Op.assign (Go.Operand.tmp 37), type := 4, pos := "", after := #[], guard := none }] false) Go.Code.ret))))
theorem s3 : Try.f3.body.map (slim cfg) = some g3 := by kernel_rfl

theorem aawake_ok (prot : Nat) (H : Heap) : aLim cfg prot 14 [] H = some (.bool true, none) :=
  lim_shut (k := 1000) (by kernel_rfl) (by kernel_rfl) (by kernel_rfl) prot H

theorem hput_mid (p : Nat) (K : Heap) (hK : p ≤ K.length) (cs zs : List AV) (B : Blk) (hl : cs.length = zs.length) (hx : cs.all AV.leaf = true) : hput p (K ++ [Blk.cells 0 zs] ++ [B]) K.length 0 0 cs = some (K ++ [Blk.cells 0 cs] ++ [B]) := by
  have := hput_new (prot := p) (H := K) (b := K.length) (v := 0) (off := 0) (xs := cs) (cs := zs) (l := [B]) rfl hK (by omega) hx
  have e : splice zs 0 cs = cs := by unfold splice; rw [List.take_zero, List.nil_append, Nat.zero_add, List.drop_eq_nil_of_le (by omega), List.append_nil]
  rw [e] at this
  simpa using this
theorem hput_last (p : Nat) (K : Heap) (hK : p ≤ K.length) (cs zs : List AV) (B B' : Blk) (hl : cs.length = zs.length) (hx : cs.all AV.leaf = true) : hput p (K ++ [B'] ++ [Blk.cells 0 zs]) (K ++ [B]).length 0 0 cs = some (K ++ [B'] ++ [Blk.cells 0 cs]) := by
  have := hput_new (prot := p) (H := K ++ [B']) (b := (K ++ [B']).length) (v := 0) (off := 0) (xs := cs) (cs := zs) (l := []) rfl (by simp; omega) (by omega) hx
  have e : splice zs 0 cs = cs := by unfold splice; rw [List.take_zero, List.nil_append, Nat.zero_add, List.drop_eq_nil_of_le (by omega), List.append_nil]
  rw [e] at this
  simpa using this


theorem again_ok (l n l' n' : List Pr) (z1 z2 z3 z4 : AV) (s e s' e' : Int) (h1 : Sl encP z1 l) (h2 : Sl encP z2 n) (h3 : Sl encP z3 l') (h4 : Sl encP z4 n')
    (hl : l.length ≤ 9223372036854775807) (hn : n.length ≤ 9223372036854775807) (hl' : l'.length ≤ 9223372036854775807) (hn' : n'.length ≤ 9223372036854775807) (prot : Nat) (H : Heap) (hp : prot ≤ H.length) :
    aLim cfg prot 3 [.agg [z1, z2, .int .i64 s, .int .i64 e], .agg [z3, z4, .int .i64 s', .int .i64 e']] H = some (.bool true, none) := by
  have hsnap : snap H [.agg [z1, z2, .int .i64 s, .int .i64 e], .agg [z3, z4, .int .i64 s', .int .i64 e']] = some ([.agg [z1, z2, .int .i64 s, .int .i64 e], .agg [z3, z4, .int .i64 s', .int .i64 e']], false) := rfl
  have sl' := setL_len l'
  have sn' := setL_len n'
  let A1 : Blk := Blk.cells 0 [z1, z2, .int .i64 s, .int .i64 e]
  let A2 : Blk := Blk.cells 0 [z3, z4, .int .i64 s', .int .i64 e']
  obtain ⟨v1, v2, r1, r2, o1⟩ := ours_ok l n z1 z2 s e h1 h2 hl hn H.length (H ++ [A1] ++ [A2]) (by simp)
  have k1 := Sl.leaf h1
  have k2 := Sl.leaf h2
  have k3 := Sl.leaf h3
  have k4 := Sl.leaf h4
  have k5 := Sl.leaf r1
  have k6 := Sl.leaf r2
  have k7 := Sl.leaf (slv_sl encP (setL l))
  have k8 := Sl.leaf (slv_sl encP (setL n))
  generalize slv encP (setL l) = x1 at *
  generalize slv encP (setL n) = y1 at *
  let X1 : Blk := Blk.cells 0 [v1, v2, .int .i64 s, .int .i64 e]
  let P1 : Blk := Blk.cells 0 [x1, y1, .int .i64 s, .int .i64 e]
  obtain ⟨w1, w2, r3, r4, o2⟩ := ours_ok l' n' z3 z4 s' e' h3 h4 hl' hn' H.length (H ++ [A1] ++ [A2] ++ [X1] ++ [P1]) (by simp)
  have k9 := Sl.leaf r3
  have k10 := Sl.leaf r4
  have q1 := slv_sl encP (setL l')
  have q2 := slv_sl encP (setL n')
  have pl := fun (t : Int) (K : Heap) (hK : H.length ≤ K.length) => plain22_ok (setL l') (setL n') w1 w2 t e' r3 r4 (by omega) (by omega) H.length K hK
  have f3 := Sl.frz r3
  have f4 := Sl.frz r4
  generalize slv encP (setL l') = x2 at *
  generalize slv encP (setL n') = y2 at *
  have k11 := Sl.leaf q1
  have k12 := Sl.leaf q2
  have rt := fun (K : Heap) (hK : H.length ≤ K.length) => right_ok (setL l') x2 y2 s' e' q1 k12 H.length K hK
  have sm := fun (t : Int) (K : Heap) (hK : H.length ≤ K.length) => asame_ok (setL l') (setL n') x2 y2 x2 y2 t e' q1 q2 q1 q2 (by omega) (by omega) H.length K hK
  have m1 := fun (K : Heap) (hK : H.length ≤ K.length) => merge_ok ⟨[], [], s, e⟩ ⟨[], [], s', e'⟩ v1 v2 w1 w2 k5 k6 k9 k10 f3 f4 H.length K hK
  have m2 := fun (t : Int) (K : Heap) (hK : H.length ≤ K.length) => merge_ok ⟨[], [], t, e'⟩ ⟨[], [], s', e'⟩ w1 w2 w1 w2 k9 k10 k9 k10 f3 f4 H.length K hK
  simp only at m1 m2
  have hmS : mergeS ⟨[], [], s, e⟩ ⟨[], [], s', e'⟩ ≤ s' := by unfold mergeS; simp only; split <;> omega
  have hm2 : ∀ t, t ≤ s' → s' < e' → mergeS ⟨[], [], t, e'⟩ ⟨[], [], s', e'⟩ = t := fun t h1 h2 => by unfold mergeS; simp only; rw [if_pos (by omega)]; omega
  generalize mergeS ⟨[], [], s, e⟩ ⟨[], [], s', e'⟩ = mS at *
  have lf1 : ([v1, v2, .int .i64 s, .int .i64 e] : List AV).all AV.leaf = true := by simp only [List.all_cons, k5, k6, List.all_nil]; rfl
  have lf2 : ([x1, y1, .int .i64 s, .int .i64 e] : List AV).all AV.leaf = true := by simp only [List.all_cons, k7, k8, List.all_nil]; rfl
  have lf3 : ([w1, w2, .int .i64 s', .int .i64 e'] : List AV).all AV.leaf = true := by simp only [List.all_cons, k9, k10, List.all_nil]; rfl
  have lf4 : ([x2, y2, .int .i64 s', .int .i64 e'] : List AV).all AV.leaf = true := by simp only [List.all_cons, k11, k12, List.all_nil]; rfl
  have i1 := fun (K : Heap) (hK : H.length ≤ K.length) (B : Blk) => hput_mid H.length K hK [v1, v2, .int .i64 s, .int .i64 e] [.nilS, .nilS, .int .i64 0, .int .i64 0] B rfl lf1
  have i2 := fun (K : Heap) (hK : H.length ≤ K.length) (B B' : Blk) => hput_last H.length K hK [x1, y1, .int .i64 s, .int .i64 e] [.nilS, .nilS, .int .i64 0, .int .i64 0] B B' rfl lf2
  have i3 := fun (K : Heap) (hK : H.length ≤ K.length) (B : Blk) => hput_mid H.length K hK [w1, w2, .int .i64 s', .int .i64 e'] [.nilS, .nilS, .int .i64 0, .int .i64 0] B rfl lf3
  have i4 := fun (K : Heap) (hK : H.length ≤ K.length) (B B' : Blk) => hput_last H.length K hK [x2, y2, .int .i64 s', .int .i64 e'] [.nilS, .nilS, .int .i64 0, .int .i64 0] B B' rfl lf4
  have hgP : ∀ (K : Heap) (B B' M : Blk) (cs : List AV), hget (K ++ [B'] ++ [Blk.cells 0 cs] ++ [M]) (K ++ [B]).length 0 = some cs := fun K B B' M cs => by simp [hget]
  unfold AV.leaf at k1 k2 k3 k4 k5 k6 k7 k8 k9 k10 k11 k12
  refine pure_slim rfl (by kernel_rfl) Try.func3 s3 hp hsnap (by simp [Try.f3]) fun fr hlen h => ?_
  simp only [Has, Nat.zero_add] at h
  obtain ⟨a0, a1, -⟩ := h
  simp only [Try.f3] at hlen ⊢
  unfold g3
  simp only [A1, A2, X1, P1] at o1 o2
  cases hr : rightA (setL l') s' e' with
  | false =>
    rw [hr] at rt
    simp only [wk0, wk1, wk2, wk3, wk4, wk5, wk6, aWanted, aYield, Region.wanted, aOp, quiet, loud, aEvals, aParts, aOpt, aBuiltin, rd, win, AV.cells, AV.leaf, aNew, splice, fillA, Nat.reduceEqDiff, Nat.reduceLT, Nat.reduceAdd, Nat.reduceLeDiff, reduceCtorEq, Nat.reduceMul, cfgP, u3, hlen, a0, a1, k1, k2, k3, k4, k5, k6, k7, k8, k9, k10, k11, k12, o1, o2, i1, i2, i3, i4, m1, rt, hgP, aawake_ok, none_beq, lts1, lts2, lts3, lts4, lts5, lts6, les2, les3, les4, les5, les6]
    exact Fin_pure (l := [.bool true]) (by simp [wk0, wk1, wk2, wk3, wk4, wk5, wk6, aWanted, aYield, Region.wanted, aOp, quiet, loud, aEvals, aParts, aOpt, aBuiltin, rd, win, AV.cells, AV.leaf, aNew, splice, fillA, Nat.reduceEqDiff, Nat.reduceLT, Nat.reduceAdd, Nat.reduceLeDiff, reduceCtorEq, Nat.reduceMul, cfgP, u3, aResults, aResult, hlen]) (.still rfl) (by simp)
  | true =>
    rw [hr] at rt
    have hlt : s' < e' := by
      unfold rightA at hr
      simp only [Bool.and_eq_true, decide_eq_true_eq] at hr
      exact hr.2.2.2
    have m2' := fun (K : Heap) (hK : H.length ≤ K.length) => m2 mS K hK
    rw [hm2 mS hmS hlt] at m2'
    simp only [wk0, wk1, wk2, wk3, wk4, wk5, wk6, aWanted, aYield, Region.wanted, aOp, quiet, loud, aEvals, aParts, aOpt, aBuiltin, rd, win, AV.cells, AV.leaf, aNew, splice, fillA, Nat.reduceEqDiff, Nat.reduceLT, Nat.reduceAdd, Nat.reduceLeDiff, reduceCtorEq, Nat.reduceMul, cfgP, u3, hlen, a0, a1, k1, k2, k3, k4, k5, k6, k7, k8, k9, k10, k11, k12, o1, o2, i1, i2, i3, i4, m1, m2', pl, sm, rt, hgP, aawake_ok, none_beq, lts1, lts2, lts3, lts4, lts5, lts6, les2, les3, les4, les5, les6]
    exact Fin_pure (l := [.bool true]) (by simp [wk0, wk1, wk2, wk3, wk4, wk5, wk6, aWanted, aYield, Region.wanted, aOp, quiet, loud, aEvals, aParts, aOpt, aBuiltin, rd, win, AV.cells, AV.leaf, aNew, splice, fillA, Nat.reduceEqDiff, Nat.reduceLT, Nat.reduceAdd, Nat.reduceLeDiff, reduceCtorEq, Nat.reduceMul, cfgP, u3, aResults, aResult, hlen]) (.still rfl) (by simp)
end Go.Proofs.Ytjhgmoaabflbfaa
