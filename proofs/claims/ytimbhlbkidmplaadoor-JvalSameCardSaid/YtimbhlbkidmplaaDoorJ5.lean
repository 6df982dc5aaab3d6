import Derived.Test.YtimbhlbkidmplaaDoorJ4
/-! Chapter 6: the law on values that are the same, walked. -/
set_option linter.unusedSimpArgs false
namespace Go.Proofs.YtimbhlbkidmplaaDoor
open Go Go.Abs AbsSeat Ty

mutual
theorem same_ours : ∀ (x y : JV), sameJ (oursJ x) (oursJ y) = sameJ x y
  | .mk k i n t tag l kt ks, .mk k' i' n' t' tag' l' kt' ks' => by
    simp only [oursJ, sameJ, JV.kind, JV.is, JV.n, JV.text, JV.keys, JV.items, same_ourss l l']
    rfl
theorem same_ourss : ∀ (l m : List JV), sameJs (oursJs l) (oursJs m) = sameJs l m
  | [], [] => rfl
  | [], _ :: _ => by simp [oursJs, sameJs]
  | _ :: _, [] => by simp [oursJs, sameJs]
  | x :: l, y :: m => by simp only [oursJs, sameJs, same_ours x y, same_ourss l m]
end
mutual
theorem sameJ_refl : ∀ (x : JV), sameJ x x = true
  | .mk k i n t tag l kt ks => by
    simp only [sameJ, JV.kind, JV.is, JV.n, JV.text, JV.keys, JV.items, sameJs_refl l, ne_eq, not_true_eq_false, if_false, beq_self_eq_true, decide_true, Bool.and_self, ite_self]
theorem sameJs_refl : ∀ (l : List JV), sameJs l l = true
  | [] => rfl
  | x :: l => by simp only [sameJs, sameJ_refl x, sameJs_refl l, Bool.and_self]
end
mutual
theorem depth_ours : ∀ (x : JV), depthJ (oursJ x) = depthJ x
  | .mk k i n t tag l kt ks => by simp only [oursJ, depthJ, depth_ourss l]
theorem depth_ourss : ∀ (l : List JV), depthJs (oursJs l) = depthJs l
  | [] => rfl
  | x :: l => by simp only [oursJs, depthJs, depth_ours x, depth_ourss l]
end
theorem fit_ours {m : Nat} {x : JV} (h : Fit m x) : Fit m (oursJ x) := by
  induction h with
  | mk x h1 h2 h3 ih =>
    rw [oursJ_eq]
    refine .mk _ (by simpa [JV.items] using h1) (by simpa [JV.keys] using h2) fun y hy => ?_
    simp only [JV.items, List.mem_map] at hy
    obtain ⟨z, hz, rfl⟩ := hy
    exact ih z hz
theorem fit_cut : ∀ (d : Nat) (x : JV), Fit 6 (cutJ d x)
  | 0, x => .mk _ (by simp [cutJ, JV.items]) (by simp [cutJ, JV.keys]; omega) fun y hy => by simp [cutJ, JV.items] at hy
  | d + 1, x => .mk _ (by simp [cutJ, JV.items]; omega) (by simp [cutJ, JV.keys]; omega) fun y hy => by
    simp only [cutJ, JV.items, List.mem_map] at hy
    obtain ⟨z, _, rfl⟩ := hy
    exact fit_cut d z
theorem Fit.le {m n : Nat} {x : JV} (h : Fit m x) (hmn : m ≤ n) : Fit n x := by
  induction h with
  | mk x h1 h2 h3 ih => exact .mk x (by omega) (by omega) ih
theorem depthJs_le {d : Nat} : ∀ {l : List JV}, (∀ y ∈ l, depthJ y ≤ d) → depthJs l ≤ d
  | [], _ => by simp [depthJs]
  | x :: l, h => by
    rw [depthJs]
    have h1 := h x (by simp)
    have h2 := depthJs_le (l := l) fun y hy => h y (by simp [hy])
    omega
theorem depth_cut : ∀ (d : Nat) (x : JV), depthJ (cutJ d x) ≤ d + 1
  | 0, x => by
    rw [depthJ_eq]
    split
    · omega
    · simp [cutJ, JV.items, depthJs]
  | d + 1, x => by
    rw [depthJ_eq]
    split
    · omega
    · have := depthJs_le (d := d + 1) (l := (cutJ (d + 1) x).items) fun y hy => by
        simp only [cutJ, JV.items, List.mem_map] at hy
        obtain ⟨z, _, rfl⟩ := hy
        exact depth_cut d z
      omega

theorem u5 : type_of% (And.intro (show tagT Tryd.prog 41 = 0 from by kernel_rfl) (And.intro ag3 (And.intro sz3 (And.intro by3 (And.intro ze3 (And.intro Tryd.underlying3 (And.intro ag4 (And.intro sz4 (And.intro by4 (And.intro ze4 (And.intro Tryd.underlying4 (And.intro ag25 (And.intro sz25 (And.intro by25 (And.intro ze25 (And.intro bu25 (And.intro Tryd.underlying25 (And.intro ag41 (And.intro sz41 (And.intro by41 (And.intro ze41 (And.intro bu41 Tryd.underlying41)))))))))))))))))))))) := And.intro (show tagT Tryd.prog 41 = 0 from by kernel_rfl) (And.intro ag3 (And.intro sz3 (And.intro by3 (And.intro ze3 (And.intro Tryd.underlying3 (And.intro ag4 (And.intro sz4 (And.intro by4 (And.intro ze4 (And.intro Tryd.underlying4 (And.intro ag25 (And.intro sz25 (And.intro by25 (And.intro ze25 (And.intro bu25 (And.intro Tryd.underlying25 (And.intro ag41 (And.intro sz41 (And.intro by41 (And.intro ze41 (And.intro bu41 Tryd.underlying41)))))))))))))))))))))
def g5 : Code :=
  .seq (.region 0 #[q 2 (.box 41 (.tmp 0)) 0, q 3 (.box 41 (.tmp 1)) 0, q 4 (.assign (.const (.bool false))) 4] false) (.seq (.region 1 #[q 5 (.load 41 (.tmp 2)) 41, q 6 (cl 16 #[.tmp 5, ik 3] #[41, 3]) 41, q 7 (.load 41 (.tmp 3)) 41, q 8 (cl 16 #[.tmp 7, ik 3] #[41, 3]) 41, qn (.store 41 (.tmp 2) (.tmp 6)) 0, qn (.store 41 (.tmp 3) (.tmp 8)) 0] false) (.seq (.region 2 #[q 9 (.load 41 (.tmp 2)) 41, q 10 (cl 17 #[.tmp 9] #[41]) 25, q 11 (.load 41 (.tmp 3)) 41, q 12 (cl 17 #[.tmp 11] #[41]) 25, q 13 (cl 14 #[.tmp 10, .tmp 12] #[25, 25]) 4, q 14 (.load 41 (.tmp 2)) 41, q 15 (.load 41 (.tmp 3)) 41, q 16 (cl 18 #[.tmp 14, .tmp 15] #[41, 41]) 4, q 17 (.binOp .eql 4 (.tmp 13) (.tmp 16) 4) 4, q 18 (.move (.tmp 17)) 4, qg 19 (.load 41 (.tmp 2)) 41 9 true, qg 20 (cl 17 #[.tmp 19] #[41]) 25 9 true, qg 21 (.load 41 (.tmp 2)) 41 9 true, qg 22 (cl 17 #[.tmp 21] #[41]) 25 9 true, qg 23 (cl 14 #[.tmp 20, .tmp 22] #[25, 25]) 4 9 true, q 24 (.pick (.tmp 18) (.tmp 23) (.const (.bool false))) 4, q 25 (.move (.tmp 24)) 4, qg 26 (.load 41 (.tmp 2)) 41 16 true, qg 27 (cl 17 #[.tmp 26] #[41]) 25 16 true, qg 28 (cl 11 #[.tmp 27] #[25]) 3 16 true, qg 29 (.load 41 (.tmp 2)) 41 16 true, qg 30 (cl 19 #[.tmp 29] #[41]) 3 16 true, qg 31 (.binOp .eql 3 (.tmp 28) (.tmp 30) 3) 4 16 true, q 32 (.pick (.tmp 25) (.tmp 31) (.const (.bool false))) 4, q 33 (.move (.tmp 32)) 4, qg 34 (cl 12 #[] #[]) 4 24 true, q 35 (.pick (.tmp 33) (.tmp 34) (.const (.bool false))) 4, q 4 (.assign (.tmp 35)) 4] false) .ret))
theorem s5 : Tryd.f5.body.map (slim cfg) = some g5 := by kernel_rfl


theorem sameLaw_ok (a b : JV) (ha : Fit 9223372036854775807 a) (hb : Fit 9223372036854775807 b) (prot : Nat) (H : Heap) (hp : prot ≤ H.length) : aLim cfg prot 5 [encJ a, encJ b] H = some (.bool true, none) := by
  have hsnap : snap H [encJ a, encJ b] = some ([encJ a, encJ b], false) := by rw [encJ_snap, encJ_snap]; rfl
  have c1 : ∀ (K : Heap), H.length ≤ K.length → aLim cfg H.length 16 [encJ a, .int .i64 3] K = some (encJ (cutJ 3 a), none) := fun K hK => cut_ok 3 a (by omega) ha H.length K hK
  have c2 : ∀ (K : Heap), H.length ≤ K.length → aLim cfg H.length 16 [encJ b, .int .i64 3] K = some (encJ (cutJ 3 b), none) := fun K hK => cut_ok 3 b (by omega) hb H.length K hK
  have fx := (fit_cut 3 a).le (show 6 ≤ 1000000 by omega)
  have fy := (fit_cut 3 b).le (show 6 ≤ 1000000 by omega)
  have dx := depth_cut 3 a
  generalize cutJ 3 a = x at *
  generalize cutJ 3 b = y at *
  have o1 := fun (K : Heap) (hK : H.length ≤ K.length) => ours_ok x fx H.length K hK
  have o2 := fun (K : Heap) (hK : H.length ≤ K.length) => ours_ok y fy H.length K hK
  have s1 := fun (K : Heap) (hK : H.length ≤ K.length) => same_ok (oursJ x) (fit_ours fx) (oursJ y) H.length K hK
  have s2 := fun (K : Heap) (hK : H.length ≤ K.length) => same_ok (oursJ x) (fit_ours fx) (oursJ x) H.length K hK
  have r1 := fun (K : Heap) (hK : H.length ≤ K.length) => rsame_ok x fx y fy H.length K hK
  have d1 := fun (K : Heap) (hK : H.length ≤ K.length) => depth_ok (oursJ x) ((fit_ours fx).le (by omega)) (by rw [depth_ours]; omega) H.length K hK
  have d2 := fun (K : Heap) (hK : H.length ≤ K.length) => rdepth_ok x (fx.le (by omega)) (by omega) H.length K hK
  have w1 := fun (K : Heap) => awake_ok H.length K
  simp only [same_ours, sameJ_refl, depth_ours] at s1 s2 d1
  have hqq : ∀ xo yo (c : Bool), aBin Tryd.prog .eql 4 xo yo (.bool c) (.bool c) = some (.bool true) := fun xo yo c => by rw [bin_eqb Tryd.underlying4]; simp
  have la1 := a.iv_leaf
  have la2 := a.kv_leaf
  have lb1 := b.iv_leaf
  have lb2 := b.kv_leaf
  have lx1 := x.iv_leaf
  have lx2 := x.kv_leaf
  have ly1 := y.iv_leaf
  have ly2 := y.kv_leaf
  unfold AV.leaf at la1 la2 lb1 lb2 lx1 lx2 ly1 ly2
  obtain ⟨ox, hox⟩ : ∃ ox, ox = encJ (oursJ x) := ⟨_, rfl⟩
  obtain ⟨oy, hoy⟩ : ∃ oy, oy = encJ (oursJ y) := ⟨_, rfl⟩
  simp only [encJ_eq a, encJ_eq b, encJ_eq x, encJ_eq y, ← hox, ← hoy] at c1 c2 o1 o2 s1 s2 r1 d1 d2
  refine pure_slim rfl (by kernel_rfl) Tryd.func5 s5 hp hsnap (by simp [Tryd.f5]) fun fr hlen h => ?_
  simp only [Has, Nat.zero_add] at h
  obtain ⟨a0, a1, -⟩ := h
  simp only [Tryd.f5] at hlen ⊢
  unfold g5
  rw [encJ_eq] at a0 a1
  have hgA : ∀ (A : List AV) (B : Blk), hget (H ++ [Blk.cells 0 A] ++ [B]) H.length 0 = some A := fun A B => hget_mono (by rw [hget_new rfl, if_pos rfl]) _
  have hgB : ∀ (A : Blk) (B : List AV), hget (H ++ [A] ++ [Blk.cells 0 B]) (H.length + 1) 0 = some B := fun A B => by rw [hget_new (by simp), if_pos rfl]
  have hpA : ∀ (B : Blk), hput H.length (H ++ [Blk.cells 0 [.int .i64 a.kind, .bool a.is, .int .i64 a.n, .str a.text, a.iv, a.kv]] ++ [B]) H.length 0 0 [.int .i64 x.kind, .bool x.is, .int .i64 x.n, .str x.text, x.iv, x.kv] = some (H ++ [Blk.cells 0 [.int .i64 x.kind, .bool x.is, .int .i64 x.n, .str x.text, x.iv, x.kv]] ++ [B]) := fun B => by
    rw [hput_eq (hgA _ _) (Nat.le_refl _) (by simp) (by simp [AV.leaf, lx1, lx2])]
    simp [splice]
  have hpB : ∀ (A : Blk), hput H.length (H ++ [A] ++ [Blk.cells 0 [.int .i64 b.kind, .bool b.is, .int .i64 b.n, .str b.text, b.iv, b.kv]]) (H.length + 1) 0 0 [.int .i64 y.kind, .bool y.is, .int .i64 y.n, .str y.text, y.iv, y.kv] = some (H ++ [A] ++ [Blk.cells 0 [.int .i64 y.kind, .bool y.is, .int .i64 y.n, .str y.text, y.iv, y.kv]]) := fun A => by
    rw [hput_eq (hgB _ _) (by omega) (by simp) (by simp [AV.leaf, ly1, ly2])]
    simp [splice]
  have hle : ∀ (B C : Blk), H.length ≤ (H ++ [B] ++ [C]).length := fun B C => by simp
  have c1 := fun B C => c1 _ (hle B C)
  have c2 := fun B C => c2 _ (hle B C)
  have o1 := fun B C => o1 _ (hle B C)
  have o2 := fun B C => o2 _ (hle B C)
  have s1 := fun B C => s1 _ (hle B C)
  have s2 := fun B C => s2 _ (hle B C)
  have r1 := fun B C => r1 _ (hle B C)
  have d1 := fun B C => d1 _ (hle B C)
  have d2 := fun B C => d2 _ (hle B C)
  simp only [wk, aBuiltin, AV.cells, AV.leaf, Nat.reduceEqDiff, Nat.reduceLT, Nat.reduceAdd, Nat.reduceLeDiff, reduceCtorEq, Nat.reduceMul, Nat.reduceMod, cfgP, u5, hlen, a0, a1, la1, la2, lb1, lb2, List.length_append, hgA, hgB, hpA, hpB, c1, c2, o1, o2, s1, s2, r1, d1, d2, w1, hqq]
  exact Fin_pure (l := [.bool true]) (by simp [wk, aBuiltin, AV.cells, AV.leaf, Nat.reduceEqDiff, Nat.reduceLT, Nat.reduceAdd, Nat.reduceLeDiff, reduceCtorEq, Nat.reduceMul, Nat.reduceMod, cfgP, u5, aResults, aResult, hlen]) (.still rfl) (by simp)
end Go.Proofs.YtimbhlbkidmplaaDoor
