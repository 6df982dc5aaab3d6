import Derived.Test.YtjhgmoaabflbfaaAlert2
/-! Chapter 22: alerts as a law takes them, walked. -/
set_option linter.unusedSimpArgs false
namespace Go.Proofs.Ytjhgmoaabflbfaa
open Go Go.Abs AbsSeat Ty

theorem u9 : type_of% (And.intro (show tagT Try.prog 24 = 0 from by kernel_rfl) (And.intro (show tagT Try.prog 29 = 0 from by kernel_rfl) (And.intro (show tagT Try.prog 27 = 0 from by kernel_rfl) (And.intro ag2 (And.intro sz2 (And.intro by2 (And.intro ze2 (And.intro Try.underlying2 (And.intro ag22 (And.intro sz22 (And.intro by22 (And.intro se22 (And.intro ze22 (And.intro Try.underlying22 (And.intro ag24 (And.intro sz24 (And.intro by24 (And.intro ze24 (And.intro bu24 (And.intro Try.underlying24 (And.intro ag25 (And.intro sz25 (And.intro by25 (And.intro se25 (And.intro ze25 (And.intro Try.underlying25 (And.intro ag27 (And.intro sz27 (And.intro by27 (And.intro ze27 (And.intro bu27 (And.intro Try.underlying27 (And.intro ag29 (And.intro sz29 (And.intro by29 (And.intro ze29 (And.intro bu29 (And.intro Try.underlying29 (And.intro ag59 (And.intro sz59 (And.intro by59 (And.intro ze59 (And.intro bu59 (And.intro Try.underlying59 (And.intro ag68 (And.intro sz68 (And.intro by68 (And.intro ze68 (And.intro bu68 (And.intro Try.underlying68 (And.intro fa24_0 (And.intro fd24_0 (And.intro fa24_1 (And.intro fd24_1 (And.intro fa24_2 (And.intro fd24_2 (And.intro fa24_3 fd24_3))))))))))))))))))))))))))))))))))))))))))))))))))))))))) :=
  And.intro (show tagT Try.prog 24 = 0 from by kernel_rfl) (And.intro (show tagT Try.prog 29 = 0 from by kernel_rfl) (And.intro (show tagT Try.prog 27 = 0 from by kernel_rfl) (And.intro ag2 (And.intro sz2 (And.intro by2 (And.intro ze2 (And.intro Try.underlying2 (And.intro ag22 (And.intro sz22 (And.intro by22 (And.intro se22 (And.intro ze22 (And.intro Try.underlying22 (And.intro ag24 (And.intro sz24 (And.intro by24 (And.intro ze24 (And.intro bu24 (And.intro Try.underlying24 (And.intro ag25 (And.intro sz25 (And.intro by25 (And.intro se25 (And.intro ze25 (And.intro Try.underlying25 (And.intro ag27 (And.intro sz27 (And.intro by27 (And.intro ze27 (And.intro bu27 (And.intro Try.underlying27 (And.intro ag29 (And.intro sz29 (And.intro by29 (And.intro ze29 (And.intro bu29 (And.intro Try.underlying29 (And.intro ag59 (And.intro sz59 (And.intro by59 (And.intro ze59 (And.intro bu59 (And.intro Try.underlying59 (And.intro ag68 (And.intro sz68 (And.intro by68 (And.intro ze68 (And.intro bu68 (And.intro Try.underlying68 (And.intro fa24_0 (And.intro fd24_0 (And.intro fa24_1 (And.intro fd24_1 (And.intro fa24_2 (And.intro fd24_2 (And.intro fa24_3 fd24_3))))))))))))))))))))))))))))))))))))))))))))))))))))))))
def g9 : Code :=
  Go.Code.seq (Go.Code.region 0 #[{ dst := some 1, op := Go.Op.box 24 (Go.Operand.tmp 0), type := 0, pos := "", after := #[], guard := none }, { dst := some 2, op := Go.Op.alloc 29, type := 0, pos := "", after := #[], guard := none }, { dst := some 3, op := Go.Op.alloc 24, type := 0, pos := "", after := #[], guard := none }] false) (Go.Code.seq (Go.Code.region 1 #[{ dst := some 14, op := Go.Op.fieldAddr 24 (Go.Operand.tmp 1) 0, type := 0, pos := "", after := #[], guard := none }, { dst := some 15, op := Go.Op.load 22 (Go.Operand.tmp 14), type := 22, pos := "", after := #[], guard := none }, { dst := some 16, op := Go.Op.call { callee := Go.Callee.value (Go.Operand.func 17), args := #[Go.Operand.tmp 15], argTypes := #[22] }, type := 40, pos := "", after := #[], guard := none }, { dst := some 13, op := Go.Op.move (Go.Operand.tmp 16), type := 40, pos := "", after := #[], guard := none }, { dst := some 17, op := Go.Op.extract (Go.Operand.tmp 13) 0, type := 25, pos := "", after := #[], guard := none }, { dst := some 18, op := Go.Op.extract (Go.Operand.tmp 13) 1, type := 22, pos := "", after := #[], guard := none }, { dst := some 4, op := Go.Op.assign (Go.Operand.tmp 17), type := 25, pos := "", after := #[], guard := none }, { dst := some 5, op := Go.Op.assign (Go.Operand.tmp 18), type := 22, pos := "", after := #[], guard := none }] false) (Go.Code.seq (Go.Code.region 2 #[{ dst := some 20, op := Go.Op.fieldAddr 24 (Go.Operand.tmp 1) 1, type := 0, pos := "", after := #[], guard := none }, { dst := some 21, op := Go.Op.load 22 (Go.Operand.tmp 20), type := 22, pos := "", after := #[], guard := none }, { dst := some 22, op := Go.Op.call { callee := Go.Callee.value (Go.Operand.func 17), args := #[Go.Operand.tmp 21], argTypes := #[22] }, type := 40, pos := "", after := #[], guard := none }, { dst := some 19, op := Go.Op.move (Go.Operand.tmp 22), type := 40, pos := "", after := #[], guard := none }, { dst := some 23, op := Go.Op.extract (Go.Operand.tmp 19) 0, type := 25, pos := "", after := #[], guard := none }, { dst := some 24, op := Go.Op.extract (Go.Operand.tmp 19) 1, type := 22, pos := "", after := #[], guard := none }, { dst := some 6, op := Go.Op.assign (Go.Operand.tmp 23), type := 25, pos := "", after := #[], guard := none }, { dst := some 7, op := Go.Op.assign (Go.Operand.tmp 24), type := 22, pos := "", after := #[], guard := none }] false) (Go.Code.seq (Go.Code.region 3 #[{ dst := some 26, op := Go.Op.move (Go.Operand.tmp 4), type := 25, pos := "", after := #[], guard := none }, { dst := some 27, op := Go.Op.call { callee := Go.Callee.value (Go.Operand.func 18), args := #[Go.Operand.tmp 26], argTypes := #[25] }, type := 42, pos := "", after := #[], guard := none }, { dst := some 25, op := Go.Op.move (Go.Operand.tmp 27), type := 42, pos := "", after := #[], guard := none }, { dst := some 28, op := Go.Op.extract (Go.Operand.tmp 25) 0, type := 27, pos := "", after := #[], guard := none }, { dst := some 29, op := Go.Op.extract (Go.Operand.tmp 25) 1, type := 38, pos := "", after := #[], guard := none }, { dst := some 8, op := Go.Op.alloc 27, type := 0, pos := "", after := #[], guard := none }, { dst := none, op := Go.Op.store 27 (Go.Operand.tmp 8) (Go.Operand.tmp 28), type := 0, pos := "", after := #[], guard := none }, { dst := some 9, op := Go.Op.assign (Go.Operand.tmp 29), type := 38, pos := "", after := #[], guard := none }] false) (Go.Code.seq (Go.Code.region 4 #[{ dst := some 31, op := Go.Op.move (Go.Operand.tmp 6), type := 25, pos := "", after := #[], guard := none }, { dst := some 32, op := Go.Op.call { callee := Go.Callee.value (Go.Operand.func 18), args := #[Go.Operand.tmp 31], argTypes := #[25] }, type := 42, pos := "", after := #[], guard := none }, { dst := some 30, op := Go.Op.move (Go.Operand.tmp 32), type := 42, pos := "", after := #[], guard := none }, { dst := some 33, op := Go.Op.extract (Go.Operand.tmp 30) 0, type := 27, pos := "", after := #[], guard := none }, { dst := some 34, op := Go.Op.extract (Go.Operand.tmp 30) 1, type := 38, pos := "", after := #[], guard := none }, { dst := some 10, op := Go.Op.alloc 27, type := 0, pos := "", after := #[], guard := none }, { dst := none, op := Go.Op.store 27 (Go.Operand.tmp 10) (Go.Operand.tmp 33), type := 0, pos := "", after := #[], guard := none }, { dst := some 11, op := Go.Op.assign (Go.Operand.tmp 34), type := 38, pos := "", after := #[], guard := none }] false) (Go.Code.seq (Go.Code.region 5 #[{ dst := some 35, op := Go.Op.load 27 (Go.Operand.tmp 8), type := 27, pos := "", after := #[], guard := none }, { dst := some 36, op := Go.Op.load 27 (Go.Operand.tmp 10), type := 27, pos := "", after := #[], guard := none }, { dst := some 37, op := Go.Op.fieldAddr 24 (Go.Operand.tmp 1) 2, type := 0, pos := "", after := #[], guard := none }, { dst := some 38, op := Go.Op.load 2 (Go.Operand.tmp 37), type := 2, pos := "", after := #[], guard := none }, { dst := some 39, op := Go.Op.fieldAddr 24 (Go.Operand.tmp 1) 3, type := 0, pos := "", after := #[], guard := none }, { dst := some 40, op := Go.Op.load 2 (Go.Operand.tmp 39), type := 2, pos := "", after := #[], guard := none }, { dst := some 41, op := Go.Op.build 29 #[(0, Go.Operand.tmp 35), (1, Go.Operand.tmp 36), (2, Go.Operand.tmp 38), (3, Go.Operand.tmp 40)], type := 29, pos := "", after := #[], guard := none }, { dst := some 12, op := Go.Op.alloc 29, type := 0, pos := "", after := #[], guard := none }, { dst := none, op := Go.Op.store 29 (Go.Operand.tmp 12) (Go.Operand.tmp 41), type := 0, pos := "", after := #[], guard := none }] false) (Go.Code.seq (Go.Code.region 6 #[{ dst := some 42, op := Go.Op.load 29 (Go.Operand.tmp 12), type := 29, pos := "", after := #[], guard := none }, { dst := some 43, op := Go.Op.load 29 (Go.Operand.tmp 12), type := 29, pos := "", after := #[], guard := none }, { dst := some 44, op := Go.Op.call { callee := Go.Callee.value (Go.Operand.func 13), args := #[Go.Operand.tmp 43], argTypes := #[29] }, type := 24, pos := "", after := #[], guard := none }, { dst := none, op := Go.Op.store 29 (Go.Operand.tmp 2) (Go.Operand.tmp 42), type := 0, pos := "", after := #[], guard := none }, { dst := none, op := Go.Op.store 24 (Go.Operand.tmp 3) (Go.Operand.tmp 44), type := 0, pos := "", after := #[], guard := none }] false) Go.Code.ret))))))
theorem s9 : Try.f9.body.map (slim cfg) = some g9 := by kernel_rfl

theorem lts1 (K : Heap) (A : Blk) : K.length < (K ++ [A]).length := by simp
theorem lts2 (K : Heap) (A B : Blk) : K.length < (K ++ [A] ++ [B]).length := by simp
theorem lts3 (K : Heap) (A B C : Blk) : K.length < (K ++ [A] ++ [B] ++ [C]).length := by simp
theorem lts4 (K : Heap) (A B C D : Blk) : K.length < (K ++ [A] ++ [B] ++ [C] ++ [D]).length := by simp
theorem lts5 (K : Heap) (A B C D E : Blk) : K.length < (K ++ [A] ++ [B] ++ [C] ++ [D] ++ [E]).length := by simp
theorem lts6 (K : Heap) (A B C D E F : Blk) : K.length < (K ++ [A] ++ [B] ++ [C] ++ [D] ++ [E] ++ [F]).length := by simp
theorem les2 (K : Heap) (A B : Blk) : K.length ≤ (K ++ [A] ++ [B]).length := by simp
theorem les3 (K : Heap) (A B C : Blk) : K.length ≤ (K ++ [A] ++ [B] ++ [C]).length := by simp
theorem les4 (K : Heap) (A B C D : Blk) : K.length ≤ (K ++ [A] ++ [B] ++ [C] ++ [D]).length := by simp
theorem les5 (K : Heap) (A B C D E : Blk) : K.length ≤ (K ++ [A] ++ [B] ++ [C] ++ [D] ++ [E]).length := by simp
theorem les6 (K : Heap) (A B C D E F : Blk) : K.length ≤ (K ++ [A] ++ [B] ++ [C] ++ [D] ++ [E] ++ [F]).length := by simp

/-- the set that pairs make, or none. -/
def setL (l : List Pr) : List Pr := (ofP (cutL l)).1
theorem setL_len (l : List Pr) : (setL l).length ≤ 6 := by
  have h := cutL_len l
  have h2 := isortP_len (cutL l)
  unfold setL ofP
  split
  · simp
  · split
    · simp
    · simp only; omega
theorem cutL_fit (l : List Pr) : ∀ x ∈ cutL l, x.name.length ≤ 9223372036854775807 ∧ x.val.length ≤ 9223372036854775807 := by
  intro x hx
  obtain ⟨y, _, rfl⟩ := List.mem_map.1 hx
  simp [cutPr]
  omega


theorem ours_ok (l n : List Pr) (u1 u2 : AV) (s e : Int) (h1 : Sl encP u1 l) (h2 : Sl encP u2 n) (hl : l.length ≤ 9223372036854775807) (hn : n.length ≤ 9223372036854775807) (prot : Nat) (H : Heap) (hp : prot ≤ H.length) :
    ∃ v1 v2, Sl encP v1 (setL l) ∧ Sl encP v2 (setL n) ∧ aLim cfg prot 9 [.agg [u1, u2, .int .i64 s, .int .i64 e]] H = some (.tup [.agg [v1, v2, .int .i64 s, .int .i64 e], .agg [slv encP (setL l), slv encP (setL n), .int .i64 s, .int .i64 e]], none) := by
  have hsnap : snap H [.agg [u1, u2, .int .i64 s, .int .i64 e]] = some ([.agg [u1, u2, .int .i64 s, .int .i64 e]], false) := rfl
  have cl := cutL_len l
  have cn := cutL_len n
  have sl := setL_len l
  have sn := setL_len n
  let A : Blk := Blk.cells 0 [u1, u2, .int .i64 s, .int .i64 e]
  let Z : Blk := Blk.cells 0 [.nilS, .nilS, .int .i64 0, .int .i64 0]
  have p1 := pairs_ok l u1 h1 hl H.length (H ++ [A] ++ [Z] ++ [Z]) (by simp)
  have p2 := pairs_ok n u2 h2 hn H.length (H ++ [A] ++ [Z] ++ [Z]) (by simp)
  obtain ⟨v1, g1, o1⟩ := of_ok (cutL l) _ (slv_sl encP (cutL l)) (by omega) (cutL_fit l) H.length (H ++ [A] ++ [Z] ++ [Z]) (by simp)
  obtain ⟨v2, g2, o2⟩ := of_ok (cutL n) _ (slv_sl encP (cutL n)) (by omega) (cutL_fit n) H.length (H ++ [A] ++ [Z] ++ [Z] ++ [Blk.cells 0 [v1]]) (by simp)
  have q := plain22_ok (setL l) (setL n) v1 v2 s e g1 g2 (by omega) (by omega) H.length (H ++ [A] ++ [Z] ++ [Z] ++ [Blk.cells 0 [v1]] ++ [Blk.cells 0 [v2]] ++ [Blk.cells 0 [v1, v2, .int .i64 s, .int .i64 e]]) (by simp)
  refine ⟨v1, v2, g1, g2, ?_⟩
  have k1 := Sl.leaf h1
  have k2 := Sl.leaf h2
  have k3 := Sl.leaf g1
  have k4 := Sl.leaf g2
  have k5 := Sl.leaf (slv_sl encP (setL l))
  have k6 := Sl.leaf (slv_sl encP (setL n))
  have c3 := Sl.cells1 g1
  have c4 := Sl.cells1 g2
  have f3 := Sl.frz g1
  have f4 := Sl.frz g2
  have f5 := Sl.frz (slv_sl encP (setL l))
  have f6 := Sl.frz (slv_sl encP (setL n))
  generalize slv encP (setL l) = x at *
  generalize slv encP (setL n) = y at *
  have hp1 : ∀ (B1 B2 B3 Z2 : Blk), hput H.length (H ++ [A] ++ [Z] ++ [Z2] ++ [B1] ++ [B2] ++ [B3]) (H ++ [A]).length 0 0 [v1, v2, .int .i64 s, .int .i64 e] = some (H ++ [A] ++ [Blk.cells 0 [v1, v2, .int .i64 s, .int .i64 e]] ++ [Z2] ++ [B1] ++ [B2] ++ [B3]) := fun B1 B2 B3 Z2 => by
    have := hput_new (prot := H.length) (H := H ++ [A]) (b := (H ++ [A]).length) (v := 0) (off := 0) (xs := [v1, v2, .int .i64 s, .int .i64 e]) (cs := [.nilS, .nilS, .int .i64 0, .int .i64 0]) (l := [Z2, B1, B2, B3]) rfl (by simp) (by simp) (by simp only [List.all_cons, k3, k4, List.all_nil]; rfl)
    simpa [splice] using this
  have hp2 : ∀ (B1 B2 B3 Z1 Z1' : Blk), hput H.length (H ++ [A] ++ [Z1] ++ [Z] ++ [B1] ++ [B2] ++ [B3]) (H ++ [A] ++ [Z1']).length 0 0 [x, y, .int .i64 s, .int .i64 e] = some (H ++ [A] ++ [Z1] ++ [Blk.cells 0 [x, y, .int .i64 s, .int .i64 e]] ++ [B1] ++ [B2] ++ [B3]) := fun B1 B2 B3 Z1 Z1' => by
    have := hput_new (prot := H.length) (H := H ++ [A] ++ [Z1]) (b := (H ++ [A] ++ [Z1]).length) (v := 0) (off := 0) (xs := [x, y, .int .i64 s, .int .i64 e]) (cs := [.nilS, .nilS, .int .i64 0, .int .i64 0]) (l := [B1, B2, B3]) rfl (by simp) (by simp) (by simp only [List.all_cons, k5, k6, List.all_nil]; rfl)
    simpa [splice] using this
  have hg1 : ∀ (Y1 Y2 Y3 Y4 : Blk) (cs : List AV), hget (H ++ [A] ++ [Blk.cells 0 cs] ++ [Y1] ++ [Y2] ++ [Y3] ++ [Y4]) (H ++ [A]).length 0 = some cs := fun Y1 Y2 Y3 Y4 cs => by simp [hget]
  have hg2 : ∀ (Y1 Y1' Y2 Y3 Y4 : Blk) (cs : List AV), hget (H ++ [A] ++ [Y1] ++ [Blk.cells 0 cs] ++ [Y2] ++ [Y3] ++ [Y4]) (H ++ [A] ++ [Y1']).length 0 = some cs := fun Y1 Y1' Y2 Y3 Y4 cs => by simp [hget]
  unfold AV.leaf at k1 k2 k3 k4 k5 k6
  unfold AV.cells at c3 c4
  refine pure_slim rfl (by kernel_rfl) Try.func9 s9 hp hsnap (by simp [Try.f9]) fun fr hlen h => ?_
  simp only [Has, Nat.zero_add] at h
  obtain ⟨a0, -⟩ := h
  simp only [Try.f9] at hlen ⊢
  unfold g9
  simp only [A, Z] at p1 p2 o1 o2 q hp1 hp2 hg1 hg2
  simp only [wk0, wk1, wk2, wk3, wk4, wk5, wk6, aWanted, aYield, Region.wanted, aOp, quiet, loud, aEvals, aParts, aOpt, aBuiltin, rd, win, AV.cells, AV.leaf, aNew, splice, fillA, Nat.reduceEqDiff, Nat.reduceLT, Nat.reduceAdd, Nat.reduceLeDiff, reduceCtorEq, Nat.reduceMul, cfgP, u9, hlen, a0, k1, k2, k3, k4, k5, k6, c3, c4, p1, p2, o1, o2, q, hp1, hp2, lts1, lts2, lts3, lts4, lts5, les2, les3, les4, les5, les6]
  exact Fin_pure (l := [.agg [v1, v2, .int .i64 s, .int .i64 e], .agg [x, y, .int .i64 s, .int .i64 e]]) (by simp only [wk0, wk1, wk2, wk3, wk4, wk5, wk6, aWanted, aYield, Region.wanted, aOp, quiet, loud, aEvals, aParts, aOpt, aBuiltin, rd, win, AV.cells, AV.leaf, aNew, splice, fillA, Nat.reduceEqDiff, Nat.reduceLT, Nat.reduceAdd, Nat.reduceLeDiff, reduceCtorEq, Nat.reduceMul, cfgP, u9, hlen, hg1, hg2, aResults, aResult])
    (.tup (.cons (.agg (.cons (f3 _ _) (.cons (f4 _ _) (.cons (.still rfl) (.cons (.still rfl) .nil))))) (.cons (.agg (.cons (f5 _ _) (.cons (f6 _ _) (.cons (.still rfl) (.cons (.still rfl) .nil))))) .nil))) (by simp)
end Go.Proofs.Ytjhgmoaabflbfaa
