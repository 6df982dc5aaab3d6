import Derived.Test.YtoblikhnbddfmaaQ5
/-! Chapter 16: the law NfaJoined, walked. -/
set_option linter.unusedSimpArgs false
namespace Go.Proofs.Ytoblikhnbddfmaa
open Go Go.Abs AbsSeat Ty

/-- a text's machine. -/
def tm (s : List UInt8) : List St := (mkN (parseU s).1 H0 0).1
theorem of_shape (s : List UInt8) (hs : s.length ≤ 1000) : ∃ (v : AV) (e : Int), ofS s = .tup [v, .int .i64 e] ∧ (e = 0 → ∃ a : Nat, (parseU s).2 = 0 ∧ RightM (tm s) ∧ SpOk (tm s) ∧ (tm s).length ≤ 401 ∧ a < (tm s).length ∧ (mkN (parseU s).1 H0 0).2 = (a : Nat) ∧ v = encM (tm s) a) := by
  unfold ofS tm
  by_cases h : (parseU s).2 = 0
  · rw [if_pos h]
    obtain ⟨-, hf, -, -⟩ := parse_known s hs h
    have hsp := mkN_sp _ hf [⟨3, false, [], 0, 0⟩] 0 (fun t ht => by rw [List.mem_singleton.1 ht]; simp)
    have hH : H0 = [⟨3, false, [], 0, 0⟩] := rfl
    rw [← hH] at hsp ⊢
    generalize mkN (parseU s).1 H0 0 = w at *
    unfold newS
    by_cases hc : (decide (w.1.length ≤ 401) && inN w.1.length w.2 && w.1.all (rightB w.1.length)) = true
    · rw [if_pos hc]
      simp only [Bool.and_eq_true, decide_eq_true_eq, inN] at hc
      obtain ⟨⟨c1, c2, c3⟩, c4⟩ := hc
      refine ⟨_, _, rfl, fun _ => ⟨w.2.toNat, h, rightM_of c4, hsp, c1, by omega, by omega, ?_⟩⟩
      unfold encM
      rw [show ((w.2.toNat : Nat) : Int) = w.2 by omega]
    · rw [if_neg hc]
      exact ⟨_, _, rfl, fun h => by cases h⟩
  · rw [if_neg h]
    exact ⟨_, _, rfl, fun h2 => absurd h2 h⟩
theorem u9 : type_of% (And.intro ag3 (And.intro sz3 (And.intro by3 (And.intro ze3 (And.intro Try.underlying3 (And.intro ag9 (And.intro sz9 (And.intro by9 (And.intro ze9 (And.intro Try.underlying9 (And.intro ag29 (And.intro sz29 (And.intro by29 (And.intro ze29 (And.intro Try.underlying29 (And.intro ag75 (And.intro sz75 (And.intro by75 (And.intro ze75 Try.underlying75))))))))))))))))))) := And.intro ag3 (And.intro sz3 (And.intro by3 (And.intro ze3 (And.intro Try.underlying3 (And.intro ag9 (And.intro sz9 (And.intro by9 (And.intro ze9 (And.intro Try.underlying9 (And.intro ag29 (And.intro sz29 (And.intro by29 (And.intro ze29 (And.intro Try.underlying29 (And.intro ag75 (And.intro sz75 (And.intro by75 (And.intro ze75 Try.underlying75))))))))))))))))))
def g9 : Code :=
  .seq (.region 0 #[q 8 (.assign (.const (.bool false))) 4] false) (.seq (.seq (.region 1 #[q 17 (.move (.tmp 0)) 9, q 18 (bi .len #[.tmp 17] #[9]) 3, q 19 (.binOp .gtr 3 (.tmp 18) (ik 20) 3) 4] false) (.cond (.tmp 19) (.region 2 #[q 20 (.move (.tmp 0)) 9, q 21 (.slice 9 (.tmp 20) none (some (ik 20)) none) 9, q 0 (.assign (.tmp 21)) 9] false) .skip)) (.seq (.seq (.region 3 #[q 22 (.move (.tmp 1)) 9, q 23 (bi .len #[.tmp 22] #[9]) 3, q 24 (.binOp .gtr 3 (.tmp 23) (ik 20) 3) 4] false) (.cond (.tmp 24) (.region 4 #[q 25 (.move (.tmp 1)) 9, q 26 (.slice 9 (.tmp 25) none (some (ik 20)) none) 9, q 1 (.assign (.tmp 26)) 9] false) .skip)) (.seq (.region 5 #[q 27 (.move (.tmp 2)) 9, q 28 (cl 39 #[.tmp 27] #[9]) 9, q 29 (.move (.tmp 3)) 9, q 30 (cl 39 #[.tmp 29] #[9]) 9, q 2 (.assign (.tmp 28)) 9, q 3 (.assign (.tmp 30)) 9] false) (.seq (.region 6 #[q 32 (.move (.tmp 0)) 9, q 33 (cl 40 #[.tmp 32] #[9]) 76, q 31 (.move (.tmp 33)) 76, q 34 (.extract (.tmp 31) 0) 75, q 35 (.extract (.tmp 31) 1) 29, q 9 (.assign (.tmp 34)) 75, q 10 (.assign (.tmp 35)) 29] false) (.seq (.region 7 #[q 37 (.move (.tmp 1)) 9, q 38 (cl 40 #[.tmp 37] #[9]) 76, q 36 (.move (.tmp 38)) 76, q 39 (.extract (.tmp 36) 0) 75, q 40 (.extract (.tmp 36) 1) 29, q 11 (.assign (.tmp 39)) 75, q 12 (.assign (.tmp 40)) 29] false) (.seq (.region 8 #[q 42 (.move (.tmp 0)) 9, q 43 (.binOp .add 9 (.const (.string { data := #[40] })) (.tmp 42) 9) 9, q 44 (.binOp .add 9 (.tmp 43) (.const (.string { data := #[41, 40] })) 9) 9, q 45 (.move (.tmp 1)) 9, q 46 (.binOp .add 9 (.tmp 44) (.tmp 45) 9) 9, q 47 (.binOp .add 9 (.tmp 46) (.const (.string { data := #[41] })) 9) 9, q 48 (cl 40 #[.tmp 47] #[9]) 76, q 41 (.move (.tmp 48)) 76, q 49 (.extract (.tmp 41) 0) 75, q 50 (.extract (.tmp 41) 1) 29, q 13 (.assign (.tmp 49)) 75, q 14 (.assign (.tmp 50)) 29] false) (.seq (.region 9 #[q 52 (.move (.tmp 0)) 9, q 53 (.binOp .add 9 (.tmp 52) (.const (.string { data := #[124] })) 9) 9, q 54 (.move (.tmp 1)) 9, q 55 (.binOp .add 9 (.tmp 53) (.tmp 54) 9) 9, q 56 (cl 40 #[.tmp 55] #[9]) 76, q 51 (.move (.tmp 56)) 76, q 57 (.extract (.tmp 51) 0) 75, q 58 (.extract (.tmp 51) 1) 29, q 15 (.assign (.tmp 57)) 75, q 16 (.assign (.tmp 58)) 29] false) (.seq (.seq (.region 10 #[q 59 (.move (.tmp 10)) 29, q 60 (.binOp .neq 29 (.tmp 59) (ik 0) 29) 4, q 61 (.move (.tmp 60)) 4, qg 62 (.move (.tmp 12)) 29 2 false, qg 63 (.binOp .neq 29 (.tmp 62) (ik 0) 29) 4 2 false, q 64 (.pick (.tmp 61) (.const (.bool true)) (.tmp 63)) 4, q 65 (.move (.tmp 64)) 4, qg 66 (.move (.tmp 14)) 29 6 false, qg 67 (.binOp .neq 29 (.tmp 66) (ik 0) 29) 4 6 false, q 68 (.pick (.tmp 65) (.const (.bool true)) (.tmp 67)) 4, q 69 (.move (.tmp 68)) 4, qg 70 (.move (.tmp 16)) 29 10 false, qg 71 (.binOp .neq 29 (.tmp 70) (ik 0) 29) 4 10 false, q 72 (.pick (.tmp 69) (.const (.bool true)) (.tmp 71)) 4, q 73 (.move (.tmp 72)) 4, qg 74 (.move (.tmp 9)) 75 14 false, qg 75 (.move (.tmp 2)) 9 14 false, qg 76 (cl 41 #[.tmp 74, .tmp 75] #[75, 9]) 4 14 false, qg 77 (.unOp .not 4 (.tmp 76)) 4 14 false, q 78 (.pick (.tmp 73) (.const (.bool true)) (.tmp 77)) 4, q 79 (.move (.tmp 78)) 4, qg 80 (.move (.tmp 11)) 75 20 false, qg 81 (.move (.tmp 3)) 9 20 false, qg 82 (cl 41 #[.tmp 80, .tmp 81] #[75, 9]) 4 20 false, qg 83 (.unOp .not 4 (.tmp 82)) 4 20 false, q 84 (.pick (.tmp 79) (.const (.bool true)) (.tmp 83)) 4] false) (.cond (.tmp 84) (.seq (.region 11 #[q 85 (cl 42 #[] #[]) 4, q 8 (.assign (.tmp 85)) 4] false) .ret) .skip)) (.seq (.region 12 #[q 86 (.move (.tmp 13)) 75, q 87 (.move (.tmp 2)) 9, q 88 (.move (.tmp 3)) 9, q 89 (.binOp .add 9 (.tmp 87) (.tmp 88) 9) 9, q 90 (cl 41 #[.tmp 86, .tmp 89] #[75, 9]) 4, q 91 (.move (.tmp 90)) 4, qg 92 (.move (.tmp 15)) 75 5 true, qg 93 (.move (.tmp 2)) 9 5 true, qg 94 (cl 41 #[.tmp 92, .tmp 93] #[75, 9]) 4 5 true, q 95 (.pick (.tmp 91) (.tmp 94) (.const (.bool false))) 4, q 96 (.move (.tmp 95)) 4, qg 97 (.move (.tmp 15)) 75 10 true, qg 98 (.move (.tmp 3)) 9 10 true, qg 99 (cl 41 #[.tmp 97, .tmp 98] #[75, 9]) 4 10 true, q 100 (.pick (.tmp 96) (.tmp 99) (.const (.bool false))) 4, q 101 (.move (.tmp 100)) 4, qg 102 (cl 42 #[] #[]) 4 15 true, q 103 (.pick (.tmp 101) (.tmp 102) (.const (.bool false))) 4, q 8 (.assign (.tmp 103)) 4] false) .ret)))))))))
theorem s9 : Try.f9.body.map (slim cfg) = some g9 := by kernel_rfl

set_option maxHeartbeats 1000000 in
theorem nfaJoined_ok (x0 y0 s0 t0 : List UInt8) (prot : Nat) (H : Heap) (hp : prot ≤ H.length) : aLim cfg prot 9 [.str x0, .str y0, .str s0, .str t0] H = some (.bool true, none) := by
  have hsnap : snap H [.str x0, .str y0, .str s0, .str t0] = some ([.str x0, .str y0, .str s0, .str t0], false) := rfl
  have hln : ∀ s K, aLen Try.prog K 9 (.str s) = some (.int .i64 s.length) := fun s K => str_len Try.underlying9 s K
  have sh1 := short_ok s0 H.length H (Nat.le_refl _)
  have sh2 := short_ok t0 H.length H (Nat.le_refl _)
  have hs : (s0.take 24).length ≤ 24 := by simp; omega
  have ht : (t0.take 24).length ≤ 24 := by simp; omega
  generalize s0.take 24 = s at *
  generalize t0.take 24 = t at *
  have cutx : ∃ x : List UInt8, x.length ≤ 20 ∧ (20 < x0.length → aSlice Try.prog 9 (.str x0) none (some (.int .i64 20)) none = some (.str x)) ∧ (¬ 20 < x0.length → x0 = x) := ⟨x0.take 20, by simp; omega, fun h => str_upto (b := 20) Try.underlying9 x0 (by omega), fun h => (List.take_of_length_le (by omega)).symm⟩
  have cuty : ∃ y : List UInt8, y.length ≤ 20 ∧ (20 < y0.length → aSlice Try.prog 9 (.str y0) none (some (.int .i64 20)) none = some (.str y)) ∧ (¬ 20 < y0.length → y0 = y) := ⟨y0.take 20, by simp; omega, fun h => str_upto (b := 20) Try.underlying9 y0 (by omega), fun h => (List.take_of_length_le (by omega)).symm⟩
  obtain ⟨x, hx, cx1, cx2⟩ := cutx
  obtain ⟨y, hy, cy1, cy2⟩ := cuty
  have aw := fun K : Heap => awake16_ok H.length K
  have e1 : aStr .add [40] x = some (.str ([40] ++ x)) := str_add (by simp; omega)
  have e2 : aStr .add ([40] ++ x) [41, 40] = some (.str ([40] ++ x ++ [41, 40])) := str_add (by simp; omega)
  have e3 : aStr .add ([40] ++ x ++ [41, 40]) y = some (.str ([40] ++ x ++ [41, 40] ++ y)) := str_add (by simp; omega)
  have e4 : aStr .add ([40] ++ x ++ [41, 40] ++ y) [41] = some (.str ([40] ++ x ++ [41, 40] ++ y ++ [41])) := str_add (by simp; omega)
  have e5 : aStr .add x [124] = some (.str (x ++ [124])) := str_add (by simp; omega)
  have e6 : aStr .add (x ++ [124]) y = some (.str (x ++ [124] ++ y)) := str_add (by simp; omega)
  have e7 : aStr .add s t = some (.str (s ++ t)) := str_add (by omega)
  have n1 := nof_ok x (by omega) H.length H (Nat.le_refl _)
  have n2 := nof_ok y (by omega) H.length H (Nat.le_refl _)
  have n3 := nof_ok ([40] ++ x ++ [41, 40] ++ y ++ [41]) (by simp; omega) H.length H (Nat.le_refl _)
  have n4 := nof_ok (x ++ [124] ++ y) (by simp; omega) H.length H (Nat.le_refl _)
  obtain ⟨vx, ex, hx1, px⟩ := of_shape x (by omega)
  obtain ⟨vy, ey, hy1, py⟩ := of_shape y (by omega)
  obtain ⟨vc, ec, hc1, pc⟩ := of_shape ([40] ++ x ++ [41, 40] ++ y ++ [41]) (by simp; omega)
  obtain ⟨vd, ed, hd1, pd⟩ := of_shape (x ++ [124] ++ y) (by simp; omega)
  rw [hx1] at n1
  rw [hy1] at n2
  rw [hc1] at n3
  rw [hd1] at n4
  have dz : decide (¬ (0 : Int) = 0) = false := rfl
  -- what the four machines tell
  have good : ex = 0 → ey = 0 → ec = 0 → ed = 0 → ∃ bx by_ : Bool, aLim cfg H.length 41 [vx, .str s] H = some (.bool bx, none) ∧ aLim cfg H.length 41 [vy, .str t] H = some (.bool by_, none) ∧
      (bx = true → by_ = true → aLim cfg H.length 41 [vc, .str (s ++ t)] H = some (.bool true, none) ∧ aLim cfg H.length 41 [vd, .str s] H = some (.bool true, none) ∧ aLim cfg H.length 41 [vd, .str t] H = some (.bool true, none)) := fun qx qy qc qd => by
    obtain ⟨a, x1, x2, x3, x4, x5, x6, rfl⟩ := px qx
    obtain ⟨b, y1, y2, y3, y4, y5, y6, rfl⟩ := py qy
    obtain ⟨c, c1, c2, c3, c4, c5, c6, rfl⟩ := pc qc
    obtain ⟨d, d1, d2, d3, d4, d5, d6, rfl⟩ := pd qd
    have sp : ∀ {l : List St}, SpOk l → ∀ t ∈ l, t.sp.length < 1000000000 := fun h t ht => by have := h t ht; omega
    obtain ⟨bx, hbx, mx⟩ := match_acc (tm x) x2 (sp x3) a x5 (by omega) s (by omega) H.length H (Nat.le_refl _)
    obtain ⟨by_, hby, my⟩ := match_acc (tm y) y2 (sp y3) b y5 (by omega) t (by omega) H.length H (Nat.le_refl _)
    obtain ⟨bc, hbc, mc⟩ := match_acc _ c2 (sp c3) c c5 (by omega) (s ++ t) (by simp; omega) H.length H (Nat.le_refl _)
    obtain ⟨bd, hbd, md⟩ := match_acc _ d2 (sp d3) d d5 (by omega) s (by omega) H.length H (Nat.le_refl _)
    obtain ⟨be, hbe, me⟩ := match_acc _ d2 (sp d3) d d5 (by omega) t (by omega) H.length H (Nat.le_refl _)
    refine ⟨bx, by_, mx, my, fun h1 h2 => ?_⟩
    obtain ⟨u, ru, au⟩ := hbx.1 h1
    obtain ⟨w, rw_, aw'⟩ := hby.1 h2
    have hcc := parse_par x y (by omega) (by omega) x1 y1 c1
    obtain ⟨A, B, hA, hB, hXA, hYB, hD⟩ := parse_or x y (by omega) (by omega) x1 y1 d1
    have hbc' : bc = true := hbc.2 ⟨u ++ w, runes_app ru rw_, by
      unfold tm at au aw' ⊢
      have hk : mkN (parseU ([40] ++ x ++ [41, 40] ++ y ++ [41])).1 H0 0 = mkN (parseU x).1 (mkN (parseU y).1 H0 0).1 (mkN (parseU y).1 H0 0).2 := by
        rw [hcc, mkN.eq_def]; simp [mkC]
      rw [hk] at c6 ⊢
      exact concat_acc _ _ x6 y6 au aw' c6⟩
    have hkd : mkN (parseU (x ++ [124] ++ y)).1 H0 0 = mkE (A ++ B) H0 0 := by rw [hD, mkN_eitN _ (by simp [hA])]
    have hbd' : bd = true := hbd.2 ⟨u, ru, by
      unfold tm at au ⊢
      rw [hkd] at d6 ⊢
      rw [hXA, mkN_eitN A hA] at x6 au
      exact alt_more A (A ++ B) hA (fun z hz => by simp [hz]) x6 d6 au⟩
    have hbe' : be = true := hbe.2 ⟨w, rw_, by
      unfold tm at aw' ⊢
      rw [hkd] at d6 ⊢
      rw [hYB, mkN_eitN B hB] at y6 aw'
      exact alt_more B (A ++ B) hB (fun z hz => by simp [hz]) y6 d6 aw'⟩
    rw [hbc'] at mc
    rw [hbd'] at md
    rw [hbe'] at me
    exact ⟨mc, md, me⟩
  have aw2 := aw H
  clear aw px py pc pd hx1 hy1 hc1 hd1
  generalize [40] ++ x = p1 at *
  generalize p1 ++ [41, 40] = p2 at *
  generalize p2 ++ y = p3 at *
  generalize p3 ++ [41] = p4 at *
  generalize x ++ [124] = p5 at *
  generalize p5 ++ y = p6 at *
  generalize s ++ t = st at *
  refine pure_slim rfl (by kernel_rfl) Try.func9 s9 hp hsnap (by simp [Try.f9]) fun fr hlen h => ?_
  simp only [Has, Nat.zero_add] at h
  obtain ⟨a0, a1, a2, a3, -⟩ := h
  simp only [Try.f9] at hlen ⊢
  unfold g9
  have xt : (decide ((20 : Int) < (x.length : Nat))) = false := decide_eq_false (by omega)
  have yt : (decide ((20 : Int) < (y.length : Nat))) = false := decide_eq_false (by omega)
  by_cases h6 : 20 < x0.length
  all_goals by_cases h7 : 20 < y0.length
  · have d1 : decide ((20 : Int) < (x0.length : Nat)) = true := decide_eq_true (by omega)
    have q1 := cx1 h6
    have d2 : decide ((20 : Int) < (y0.length : Nat)) = true := decide_eq_true (by omega)
    have q2 := cy1 h7
    simp only [wk, aBuiltin, AV.cells, AV.leaf, Nat.reduceEqDiff, Nat.reduceLT, Nat.reduceAdd, Nat.reduceLeDiff, reduceCtorEq, Nat.reduceMul, cfgP, u9, hlen, a0, a1, a2, a3, hln, d1, d2, q1, q2, sh1, sh2, none_beq]
    by_cases k1 : ex = 0
    · subst k1
      by_cases k2 : ey = 0
      · subst k2
        by_cases k3 : ec = 0
        · subst k3
          by_cases k4 : ed = 0
          · subst k4
            obtain ⟨bx, by_, mx, my, mm⟩ := good rfl rfl rfl rfl
            cases bx with
            | false =>
              simp only [wk, aBuiltin, AV.cells, AV.leaf, Nat.reduceEqDiff, Nat.reduceLT, Nat.reduceAdd, Nat.reduceLeDiff, reduceCtorEq, Nat.reduceMul, cfgP, u9, hlen, a0, a1, a2, a3, n1, n2, n3, n4, e1, e2, e3, e4, e5, e6, dz, mx, my, aw2, none_beq]
              exact Fin_pure (l := [.bool true]) (by simp [wk, aBuiltin, AV.cells, AV.leaf, Nat.reduceEqDiff, Nat.reduceLT, Nat.reduceAdd, Nat.reduceLeDiff, reduceCtorEq, Nat.reduceMul, cfgP, u9, aResults, aResult, hlen]) (.still rfl) (by simp)
            | true =>
              cases by_ with
              | false =>
                simp only [wk, aBuiltin, AV.cells, AV.leaf, Nat.reduceEqDiff, Nat.reduceLT, Nat.reduceAdd, Nat.reduceLeDiff, reduceCtorEq, Nat.reduceMul, cfgP, u9, hlen, a0, a1, a2, a3, n1, n2, n3, n4, e1, e2, e3, e4, e5, e6, dz, mx, my, aw2, none_beq]
                exact Fin_pure (l := [.bool true]) (by simp [wk, aBuiltin, AV.cells, AV.leaf, Nat.reduceEqDiff, Nat.reduceLT, Nat.reduceAdd, Nat.reduceLeDiff, reduceCtorEq, Nat.reduceMul, cfgP, u9, aResults, aResult, hlen]) (.still rfl) (by simp)
              | true =>
                obtain ⟨mc, md, me⟩ := mm rfl rfl
                simp only [wk, aBuiltin, AV.cells, AV.leaf, Nat.reduceEqDiff, Nat.reduceLT, Nat.reduceAdd, Nat.reduceLeDiff, reduceCtorEq, Nat.reduceMul, cfgP, u9, hlen, a0, a1, a2, a3, n1, n2, n3, n4, e1, e2, e3, e4, e5, e6, e7, dz, mx, my, mc, md, me, aw2, none_beq]
                exact Fin_pure (l := [.bool true]) (by simp [wk, aBuiltin, AV.cells, AV.leaf, Nat.reduceEqDiff, Nat.reduceLT, Nat.reduceAdd, Nat.reduceLeDiff, reduceCtorEq, Nat.reduceMul, cfgP, u9, aResults, aResult, hlen]) (.still rfl) (by simp)
          · have f4 : decide (¬ ed = 0) = true := decide_eq_true k4
            simp only [wk, aBuiltin, AV.cells, AV.leaf, Nat.reduceEqDiff, Nat.reduceLT, Nat.reduceAdd, Nat.reduceLeDiff, reduceCtorEq, Nat.reduceMul, cfgP, u9, hlen, a0, a1, a2, a3, n1, n2, n3, n4, e1, e2, e3, e4, e5, e6, dz, f4, aw2, none_beq]
            exact Fin_pure (l := [.bool true]) (by simp [wk, aBuiltin, AV.cells, AV.leaf, Nat.reduceEqDiff, Nat.reduceLT, Nat.reduceAdd, Nat.reduceLeDiff, reduceCtorEq, Nat.reduceMul, cfgP, u9, aResults, aResult, hlen]) (.still rfl) (by simp)
        · have f3 : decide (¬ ec = 0) = true := decide_eq_true k3
          simp only [wk, aBuiltin, AV.cells, AV.leaf, Nat.reduceEqDiff, Nat.reduceLT, Nat.reduceAdd, Nat.reduceLeDiff, reduceCtorEq, Nat.reduceMul, cfgP, u9, hlen, a0, a1, a2, a3, n1, n2, n3, n4, e1, e2, e3, e4, e5, e6, dz, f3, aw2, none_beq]
          exact Fin_pure (l := [.bool true]) (by simp [wk, aBuiltin, AV.cells, AV.leaf, Nat.reduceEqDiff, Nat.reduceLT, Nat.reduceAdd, Nat.reduceLeDiff, reduceCtorEq, Nat.reduceMul, cfgP, u9, aResults, aResult, hlen]) (.still rfl) (by simp)
      · have f2 : decide (¬ ey = 0) = true := decide_eq_true k2
        simp only [wk, aBuiltin, AV.cells, AV.leaf, Nat.reduceEqDiff, Nat.reduceLT, Nat.reduceAdd, Nat.reduceLeDiff, reduceCtorEq, Nat.reduceMul, cfgP, u9, hlen, a0, a1, a2, a3, n1, n2, n3, n4, e1, e2, e3, e4, e5, e6, dz, f2, aw2, none_beq]
        exact Fin_pure (l := [.bool true]) (by simp [wk, aBuiltin, AV.cells, AV.leaf, Nat.reduceEqDiff, Nat.reduceLT, Nat.reduceAdd, Nat.reduceLeDiff, reduceCtorEq, Nat.reduceMul, cfgP, u9, aResults, aResult, hlen]) (.still rfl) (by simp)
    · have f1 : decide (¬ ex = 0) = true := decide_eq_true k1
      simp only [wk, aBuiltin, AV.cells, AV.leaf, Nat.reduceEqDiff, Nat.reduceLT, Nat.reduceAdd, Nat.reduceLeDiff, reduceCtorEq, Nat.reduceMul, cfgP, u9, hlen, a0, a1, a2, a3, n1, n2, n3, n4, e1, e2, e3, e4, e5, e6, f1, aw2, none_beq]
      exact Fin_pure (l := [.bool true]) (by simp [wk, aBuiltin, AV.cells, AV.leaf, Nat.reduceEqDiff, Nat.reduceLT, Nat.reduceAdd, Nat.reduceLeDiff, reduceCtorEq, Nat.reduceMul, cfgP, u9, aResults, aResult, hlen]) (.still rfl) (by simp)
  · have d1 : decide ((20 : Int) < (x0.length : Nat)) = true := decide_eq_true (by omega)
    have q1 := cx1 h6
    have q2 := cy2 h7
    subst q2
    have d2 := yt
    simp only [wk, aBuiltin, AV.cells, AV.leaf, Nat.reduceEqDiff, Nat.reduceLT, Nat.reduceAdd, Nat.reduceLeDiff, reduceCtorEq, Nat.reduceMul, cfgP, u9, hlen, a0, a1, a2, a3, hln, d1, d2, q1, sh1, sh2, none_beq]
    by_cases k1 : ex = 0
    · subst k1
      by_cases k2 : ey = 0
      · subst k2
        by_cases k3 : ec = 0
        · subst k3
          by_cases k4 : ed = 0
          · subst k4
            obtain ⟨bx, by_, mx, my, mm⟩ := good rfl rfl rfl rfl
            cases bx with
            | false =>
              simp only [wk, aBuiltin, AV.cells, AV.leaf, Nat.reduceEqDiff, Nat.reduceLT, Nat.reduceAdd, Nat.reduceLeDiff, reduceCtorEq, Nat.reduceMul, cfgP, u9, hlen, a0, a1, a2, a3, n1, n2, n3, n4, e1, e2, e3, e4, e5, e6, dz, mx, my, aw2, none_beq]
              exact Fin_pure (l := [.bool true]) (by simp [wk, aBuiltin, AV.cells, AV.leaf, Nat.reduceEqDiff, Nat.reduceLT, Nat.reduceAdd, Nat.reduceLeDiff, reduceCtorEq, Nat.reduceMul, cfgP, u9, aResults, aResult, hlen]) (.still rfl) (by simp)
            | true =>
              cases by_ with
              | false =>
                simp only [wk, aBuiltin, AV.cells, AV.leaf, Nat.reduceEqDiff, Nat.reduceLT, Nat.reduceAdd, Nat.reduceLeDiff, reduceCtorEq, Nat.reduceMul, cfgP, u9, hlen, a0, a1, a2, a3, n1, n2, n3, n4, e1, e2, e3, e4, e5, e6, dz, mx, my, aw2, none_beq]
                exact Fin_pure (l := [.bool true]) (by simp [wk, aBuiltin, AV.cells, AV.leaf, Nat.reduceEqDiff, Nat.reduceLT, Nat.reduceAdd, Nat.reduceLeDiff, reduceCtorEq, Nat.reduceMul, cfgP, u9, aResults, aResult, hlen]) (.still rfl) (by simp)
              | true =>
                obtain ⟨mc, md, me⟩ := mm rfl rfl
                simp only [wk, aBuiltin, AV.cells, AV.leaf, Nat.reduceEqDiff, Nat.reduceLT, Nat.reduceAdd, Nat.reduceLeDiff, reduceCtorEq, Nat.reduceMul, cfgP, u9, hlen, a0, a1, a2, a3, n1, n2, n3, n4, e1, e2, e3, e4, e5, e6, e7, dz, mx, my, mc, md, me, aw2, none_beq]
                exact Fin_pure (l := [.bool true]) (by simp [wk, aBuiltin, AV.cells, AV.leaf, Nat.reduceEqDiff, Nat.reduceLT, Nat.reduceAdd, Nat.reduceLeDiff, reduceCtorEq, Nat.reduceMul, cfgP, u9, aResults, aResult, hlen]) (.still rfl) (by simp)
          · have f4 : decide (¬ ed = 0) = true := decide_eq_true k4
            simp only [wk, aBuiltin, AV.cells, AV.leaf, Nat.reduceEqDiff, Nat.reduceLT, Nat.reduceAdd, Nat.reduceLeDiff, reduceCtorEq, Nat.reduceMul, cfgP, u9, hlen, a0, a1, a2, a3, n1, n2, n3, n4, e1, e2, e3, e4, e5, e6, dz, f4, aw2, none_beq]
            exact Fin_pure (l := [.bool true]) (by simp [wk, aBuiltin, AV.cells, AV.leaf, Nat.reduceEqDiff, Nat.reduceLT, Nat.reduceAdd, Nat.reduceLeDiff, reduceCtorEq, Nat.reduceMul, cfgP, u9, aResults, aResult, hlen]) (.still rfl) (by simp)
        · have f3 : decide (¬ ec = 0) = true := decide_eq_true k3
          simp only [wk, aBuiltin, AV.cells, AV.leaf, Nat.reduceEqDiff, Nat.reduceLT, Nat.reduceAdd, Nat.reduceLeDiff, reduceCtorEq, Nat.reduceMul, cfgP, u9, hlen, a0, a1, a2, a3, n1, n2, n3, n4, e1, e2, e3, e4, e5, e6, dz, f3, aw2, none_beq]
          exact Fin_pure (l := [.bool true]) (by simp [wk, aBuiltin, AV.cells, AV.leaf, Nat.reduceEqDiff, Nat.reduceLT, Nat.reduceAdd, Nat.reduceLeDiff, reduceCtorEq, Nat.reduceMul, cfgP, u9, aResults, aResult, hlen]) (.still rfl) (by simp)
      · have f2 : decide (¬ ey = 0) = true := decide_eq_true k2
        simp only [wk, aBuiltin, AV.cells, AV.leaf, Nat.reduceEqDiff, Nat.reduceLT, Nat.reduceAdd, Nat.reduceLeDiff, reduceCtorEq, Nat.reduceMul, cfgP, u9, hlen, a0, a1, a2, a3, n1, n2, n3, n4, e1, e2, e3, e4, e5, e6, dz, f2, aw2, none_beq]
        exact Fin_pure (l := [.bool true]) (by simp [wk, aBuiltin, AV.cells, AV.leaf, Nat.reduceEqDiff, Nat.reduceLT, Nat.reduceAdd, Nat.reduceLeDiff, reduceCtorEq, Nat.reduceMul, cfgP, u9, aResults, aResult, hlen]) (.still rfl) (by simp)
    · have f1 : decide (¬ ex = 0) = true := decide_eq_true k1
      simp only [wk, aBuiltin, AV.cells, AV.leaf, Nat.reduceEqDiff, Nat.reduceLT, Nat.reduceAdd, Nat.reduceLeDiff, reduceCtorEq, Nat.reduceMul, cfgP, u9, hlen, a0, a1, a2, a3, n1, n2, n3, n4, e1, e2, e3, e4, e5, e6, f1, aw2, none_beq]
      exact Fin_pure (l := [.bool true]) (by simp [wk, aBuiltin, AV.cells, AV.leaf, Nat.reduceEqDiff, Nat.reduceLT, Nat.reduceAdd, Nat.reduceLeDiff, reduceCtorEq, Nat.reduceMul, cfgP, u9, aResults, aResult, hlen]) (.still rfl) (by simp)
  · have q1 := cx2 h6
    subst q1
    have d1 := xt
    have d2 : decide ((20 : Int) < (y0.length : Nat)) = true := decide_eq_true (by omega)
    have q2 := cy1 h7
    simp only [wk, aBuiltin, AV.cells, AV.leaf, Nat.reduceEqDiff, Nat.reduceLT, Nat.reduceAdd, Nat.reduceLeDiff, reduceCtorEq, Nat.reduceMul, cfgP, u9, hlen, a0, a1, a2, a3, hln, d1, d2, q2, sh1, sh2, none_beq]
    by_cases k1 : ex = 0
    · subst k1
      by_cases k2 : ey = 0
      · subst k2
        by_cases k3 : ec = 0
        · subst k3
          by_cases k4 : ed = 0
          · subst k4
            obtain ⟨bx, by_, mx, my, mm⟩ := good rfl rfl rfl rfl
            cases bx with
            | false =>
              simp only [wk, aBuiltin, AV.cells, AV.leaf, Nat.reduceEqDiff, Nat.reduceLT, Nat.reduceAdd, Nat.reduceLeDiff, reduceCtorEq, Nat.reduceMul, cfgP, u9, hlen, a0, a1, a2, a3, n1, n2, n3, n4, e1, e2, e3, e4, e5, e6, dz, mx, my, aw2, none_beq]
              exact Fin_pure (l := [.bool true]) (by simp [wk, aBuiltin, AV.cells, AV.leaf, Nat.reduceEqDiff, Nat.reduceLT, Nat.reduceAdd, Nat.reduceLeDiff, reduceCtorEq, Nat.reduceMul, cfgP, u9, aResults, aResult, hlen]) (.still rfl) (by simp)
            | true =>
              cases by_ with
              | false =>
                simp only [wk, aBuiltin, AV.cells, AV.leaf, Nat.reduceEqDiff, Nat.reduceLT, Nat.reduceAdd, Nat.reduceLeDiff, reduceCtorEq, Nat.reduceMul, cfgP, u9, hlen, a0, a1, a2, a3, n1, n2, n3, n4, e1, e2, e3, e4, e5, e6, dz, mx, my, aw2, none_beq]
                exact Fin_pure (l := [.bool true]) (by simp [wk, aBuiltin, AV.cells, AV.leaf, Nat.reduceEqDiff, Nat.reduceLT, Nat.reduceAdd, Nat.reduceLeDiff, reduceCtorEq, Nat.reduceMul, cfgP, u9, aResults, aResult, hlen]) (.still rfl) (by simp)
              | true =>
                obtain ⟨mc, md, me⟩ := mm rfl rfl
                simp only [wk, aBuiltin, AV.cells, AV.leaf, Nat.reduceEqDiff, Nat.reduceLT, Nat.reduceAdd, Nat.reduceLeDiff, reduceCtorEq, Nat.reduceMul, cfgP, u9, hlen, a0, a1, a2, a3, n1, n2, n3, n4, e1, e2, e3, e4, e5, e6, e7, dz, mx, my, mc, md, me, aw2, none_beq]
                exact Fin_pure (l := [.bool true]) (by simp [wk, aBuiltin, AV.cells, AV.leaf, Nat.reduceEqDiff, Nat.reduceLT, Nat.reduceAdd, Nat.reduceLeDiff, reduceCtorEq, Nat.reduceMul, cfgP, u9, aResults, aResult, hlen]) (.still rfl) (by simp)
          · have f4 : decide (¬ ed = 0) = true := decide_eq_true k4
            simp only [wk, aBuiltin, AV.cells, AV.leaf, Nat.reduceEqDiff, Nat.reduceLT, Nat.reduceAdd, Nat.reduceLeDiff, reduceCtorEq, Nat.reduceMul, cfgP, u9, hlen, a0, a1, a2, a3, n1, n2, n3, n4, e1, e2, e3, e4, e5, e6, dz, f4, aw2, none_beq]
            exact Fin_pure (l := [.bool true]) (by simp [wk, aBuiltin, AV.cells, AV.leaf, Nat.reduceEqDiff, Nat.reduceLT, Nat.reduceAdd, Nat.reduceLeDiff, reduceCtorEq, Nat.reduceMul, cfgP, u9, aResults, aResult, hlen]) (.still rfl) (by simp)
        · have f3 : decide (¬ ec = 0) = true := decide_eq_true k3
          simp only [wk, aBuiltin, AV.cells, AV.leaf, Nat.reduceEqDiff, Nat.reduceLT, Nat.reduceAdd, Nat.reduceLeDiff, reduceCtorEq, Nat.reduceMul, cfgP, u9, hlen, a0, a1, a2, a3, n1, n2, n3, n4, e1, e2, e3, e4, e5, e6, dz, f3, aw2, none_beq]
          exact Fin_pure (l := [.bool true]) (by simp [wk, aBuiltin, AV.cells, AV.leaf, Nat.reduceEqDiff, Nat.reduceLT, Nat.reduceAdd, Nat.reduceLeDiff, reduceCtorEq, Nat.reduceMul, cfgP, u9, aResults, aResult, hlen]) (.still rfl) (by simp)
      · have f2 : decide (¬ ey = 0) = true := decide_eq_true k2
        simp only [wk, aBuiltin, AV.cells, AV.leaf, Nat.reduceEqDiff, Nat.reduceLT, Nat.reduceAdd, Nat.reduceLeDiff, reduceCtorEq, Nat.reduceMul, cfgP, u9, hlen, a0, a1, a2, a3, n1, n2, n3, n4, e1, e2, e3, e4, e5, e6, dz, f2, aw2, none_beq]
        exact Fin_pure (l := [.bool true]) (by simp [wk, aBuiltin, AV.cells, AV.leaf, Nat.reduceEqDiff, Nat.reduceLT, Nat.reduceAdd, Nat.reduceLeDiff, reduceCtorEq, Nat.reduceMul, cfgP, u9, aResults, aResult, hlen]) (.still rfl) (by simp)
    · have f1 : decide (¬ ex = 0) = true := decide_eq_true k1
      simp only [wk, aBuiltin, AV.cells, AV.leaf, Nat.reduceEqDiff, Nat.reduceLT, Nat.reduceAdd, Nat.reduceLeDiff, reduceCtorEq, Nat.reduceMul, cfgP, u9, hlen, a0, a1, a2, a3, n1, n2, n3, n4, e1, e2, e3, e4, e5, e6, f1, aw2, none_beq]
      exact Fin_pure (l := [.bool true]) (by simp [wk, aBuiltin, AV.cells, AV.leaf, Nat.reduceEqDiff, Nat.reduceLT, Nat.reduceAdd, Nat.reduceLeDiff, reduceCtorEq, Nat.reduceMul, cfgP, u9, aResults, aResult, hlen]) (.still rfl) (by simp)
  · have q1 := cx2 h6
    subst q1
    have d1 := xt
    have q2 := cy2 h7
    subst q2
    have d2 := yt
    simp only [wk, aBuiltin, AV.cells, AV.leaf, Nat.reduceEqDiff, Nat.reduceLT, Nat.reduceAdd, Nat.reduceLeDiff, reduceCtorEq, Nat.reduceMul, cfgP, u9, hlen, a0, a1, a2, a3, hln, d1, d2, sh1, sh2, none_beq]
    by_cases k1 : ex = 0
    · subst k1
      by_cases k2 : ey = 0
      · subst k2
        by_cases k3 : ec = 0
        · subst k3
          by_cases k4 : ed = 0
          · subst k4
            obtain ⟨bx, by_, mx, my, mm⟩ := good rfl rfl rfl rfl
            cases bx with
            | false =>
              simp only [wk, aBuiltin, AV.cells, AV.leaf, Nat.reduceEqDiff, Nat.reduceLT, Nat.reduceAdd, Nat.reduceLeDiff, reduceCtorEq, Nat.reduceMul, cfgP, u9, hlen, a0, a1, a2, a3, n1, n2, n3, n4, e1, e2, e3, e4, e5, e6, dz, mx, my, aw2, none_beq]
              exact Fin_pure (l := [.bool true]) (by simp [wk, aBuiltin, AV.cells, AV.leaf, Nat.reduceEqDiff, Nat.reduceLT, Nat.reduceAdd, Nat.reduceLeDiff, reduceCtorEq, Nat.reduceMul, cfgP, u9, aResults, aResult, hlen]) (.still rfl) (by simp)
            | true =>
              cases by_ with
              | false =>
                simp only [wk, aBuiltin, AV.cells, AV.leaf, Nat.reduceEqDiff, Nat.reduceLT, Nat.reduceAdd, Nat.reduceLeDiff, reduceCtorEq, Nat.reduceMul, cfgP, u9, hlen, a0, a1, a2, a3, n1, n2, n3, n4, e1, e2, e3, e4, e5, e6, dz, mx, my, aw2, none_beq]
                exact Fin_pure (l := [.bool true]) (by simp [wk, aBuiltin, AV.cells, AV.leaf, Nat.reduceEqDiff, Nat.reduceLT, Nat.reduceAdd, Nat.reduceLeDiff, reduceCtorEq, Nat.reduceMul, cfgP, u9, aResults, aResult, hlen]) (.still rfl) (by simp)
              | true =>
                obtain ⟨mc, md, me⟩ := mm rfl rfl
                simp only [wk, aBuiltin, AV.cells, AV.leaf, Nat.reduceEqDiff, Nat.reduceLT, Nat.reduceAdd, Nat.reduceLeDiff, reduceCtorEq, Nat.reduceMul, cfgP, u9, hlen, a0, a1, a2, a3, n1, n2, n3, n4, e1, e2, e3, e4, e5, e6, e7, dz, mx, my, mc, md, me, aw2, none_beq]
                exact Fin_pure (l := [.bool true]) (by simp [wk, aBuiltin, AV.cells, AV.leaf, Nat.reduceEqDiff, Nat.reduceLT, Nat.reduceAdd, Nat.reduceLeDiff, reduceCtorEq, Nat.reduceMul, cfgP, u9, aResults, aResult, hlen]) (.still rfl) (by simp)
          · have f4 : decide (¬ ed = 0) = true := decide_eq_true k4
            simp only [wk, aBuiltin, AV.cells, AV.leaf, Nat.reduceEqDiff, Nat.reduceLT, Nat.reduceAdd, Nat.reduceLeDiff, reduceCtorEq, Nat.reduceMul, cfgP, u9, hlen, a0, a1, a2, a3, n1, n2, n3, n4, e1, e2, e3, e4, e5, e6, dz, f4, aw2, none_beq]
            exact Fin_pure (l := [.bool true]) (by simp [wk, aBuiltin, AV.cells, AV.leaf, Nat.reduceEqDiff, Nat.reduceLT, Nat.reduceAdd, Nat.reduceLeDiff, reduceCtorEq, Nat.reduceMul, cfgP, u9, aResults, aResult, hlen]) (.still rfl) (by simp)
        · have f3 : decide (¬ ec = 0) = true := decide_eq_true k3
          simp only [wk, aBuiltin, AV.cells, AV.leaf, Nat.reduceEqDiff, Nat.reduceLT, Nat.reduceAdd, Nat.reduceLeDiff, reduceCtorEq, Nat.reduceMul, cfgP, u9, hlen, a0, a1, a2, a3, n1, n2, n3, n4, e1, e2, e3, e4, e5, e6, dz, f3, aw2, none_beq]
          exact Fin_pure (l := [.bool true]) (by simp [wk, aBuiltin, AV.cells, AV.leaf, Nat.reduceEqDiff, Nat.reduceLT, Nat.reduceAdd, Nat.reduceLeDiff, reduceCtorEq, Nat.reduceMul, cfgP, u9, aResults, aResult, hlen]) (.still rfl) (by simp)
      · have f2 : decide (¬ ey = 0) = true := decide_eq_true k2
        simp only [wk, aBuiltin, AV.cells, AV.leaf, Nat.reduceEqDiff, Nat.reduceLT, Nat.reduceAdd, Nat.reduceLeDiff, reduceCtorEq, Nat.reduceMul, cfgP, u9, hlen, a0, a1, a2, a3, n1, n2, n3, n4, e1, e2, e3, e4, e5, e6, dz, f2, aw2, none_beq]
        exact Fin_pure (l := [.bool true]) (by simp [wk, aBuiltin, AV.cells, AV.leaf, Nat.reduceEqDiff, Nat.reduceLT, Nat.reduceAdd, Nat.reduceLeDiff, reduceCtorEq, Nat.reduceMul, cfgP, u9, aResults, aResult, hlen]) (.still rfl) (by simp)
    · have f1 : decide (¬ ex = 0) = true := decide_eq_true k1
      simp only [wk, aBuiltin, AV.cells, AV.leaf, Nat.reduceEqDiff, Nat.reduceLT, Nat.reduceAdd, Nat.reduceLeDiff, reduceCtorEq, Nat.reduceMul, cfgP, u9, hlen, a0, a1, a2, a3, n1, n2, n3, n4, e1, e2, e3, e4, e5, e6, f1, aw2, none_beq]
      exact Fin_pure (l := [.bool true]) (by simp [wk, aBuiltin, AV.cells, AV.leaf, Nat.reduceEqDiff, Nat.reduceLT, Nat.reduceAdd, Nat.reduceLeDiff, reduceCtorEq, Nat.reduceMul, cfgP, u9, aResults, aResult, hlen]) (.still rfl) (by simp)
end Go.Proofs.Ytoblikhnbddfmaa
