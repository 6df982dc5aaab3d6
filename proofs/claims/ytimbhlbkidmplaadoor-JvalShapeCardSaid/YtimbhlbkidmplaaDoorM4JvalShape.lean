import Derived.Test.YtimbhlbkidmplaaDoorM3JvalShape
import Derived.Test.YtimbhlbkidmplaaDoorAbsTy
import Derived.Test.YtimbhlbkidmplaaDoorAbsMore
/-! Part 4 of the proof of JvalShape: the texts Jp9 Aw6 J4 Jc Js1 RunJvalShape. -/
set_option linter.unusedSimpArgs false
/- jval.Parse, walked. -/
namespace Go.Proofs.YtimbhlbkidmplaaDoor
open Go Go.Abs AbsSeat Ty

theorem u13 : type_of% (And.intro (show tagT Tryd.prog 25 = 0 from by kernel_rfl) (And.intro (show tagT Tryd.prog 51 = 0 from by kernel_rfl) (And.intro ag3 (And.intro sz3 (And.intro by3 (And.intro ze3 (And.intro Tryd.underlying3 (And.intro ag9 (And.intro sz9 (And.intro by9 (And.intro ze9 (And.intro Tryd.underlying9 (And.intro ag25 (And.intro sz25 (And.intro by25 (And.intro ze25 (And.intro bu25 (And.intro Tryd.underlying25 (And.intro ag33 (And.intro sz33 (And.intro by33 (And.intro ze33 (And.intro Tryd.underlying33 (And.intro ag47 (And.intro sz47 (And.intro by47 (And.intro ze47 (And.intro Tryd.underlying47 (And.intro ag51 (And.intro sz51 (And.intro by51 (And.intro ze51 (And.intro bu51 (And.intro Tryd.underlying51 (And.intro fa51_2 fd51_2))))))))))))))))))))))))))))))))))) := And.intro (show tagT Tryd.prog 25 = 0 from by kernel_rfl) (And.intro (show tagT Tryd.prog 51 = 0 from by kernel_rfl) (And.intro ag3 (And.intro sz3 (And.intro by3 (And.intro ze3 (And.intro Tryd.underlying3 (And.intro ag9 (And.intro sz9 (And.intro by9 (And.intro ze9 (And.intro Tryd.underlying9 (And.intro ag25 (And.intro sz25 (And.intro by25 (And.intro ze25 (And.intro bu25 (And.intro Tryd.underlying25 (And.intro ag33 (And.intro sz33 (And.intro by33 (And.intro ze33 (And.intro Tryd.underlying33 (And.intro ag47 (And.intro sz47 (And.intro by47 (And.intro ze47 (And.intro Tryd.underlying47 (And.intro ag51 (And.intro sz51 (And.intro by51 (And.intro ze51 (And.intro bu51 (And.intro Tryd.underlying51 (And.intro fa51_2 fd51_2))))))))))))))))))))))))))))))))))
def g13 : Code :=
  .seq (.region 0 #[q 4 (.alloc 25) 0, q 5 (.assign (ik 0)) 3, q 6 (.assign (ik 0)) 33] false) (.seq (.region 1 #[q 10 (.move (.tmp 0)) 9, q 11 (.move (.tmp 1)) 3, q 12 (bi .min #[.tmp 11, ik 16] #[3, 3]) 3, q 13 (.build 51 #[(0, .tmp 10), (4, .tmp 12)]) 51, q 14 (.box 51 (.tmp 13)) 47, q 7 (.assign (.tmp 14)) 47] false) (.seq (.region 2 #[q 15 (.move (.tmp 7)) 47, q 16 (cl 21 #[.tmp 15] #[47]) 0] false) (.seq (.region 3 #[q 18 (.move (.tmp 7)) 47, q 19 (cl 22 #[.tmp 18] #[47]) 52, q 17 (.move (.tmp 19)) 52, q 20 (.extract (.tmp 17) 0) 25, q 21 (.extract (.tmp 17) 1) 33, q 8 (.alloc 25) 0, qn (.store 25 (.tmp 8) (.tmp 20)) 0, q 9 (.assign (.tmp 21)) 33] false) (.seq (.seq (.region 4 #[q 22 (.move (.tmp 9)) 33, q 23 (.binOp .neq 33 (.tmp 22) (ik 0) 33) 4] false) (.cond (.tmp 23) (.seq (.region 5 #[q 24 (.build 25 #[]) 25, q 25 (.move (.tmp 7)) 47, q 26 (cl 23 #[.tmp 25] #[47]) 3, q 27 (.move (.tmp 9)) 33, qn (.store 25 (.tmp 4) (.tmp 24)) 0, q 5 (.assign (.tmp 26)) 3, q 6 (.assign (.tmp 27)) 33] false) .ret) .skip)) (.seq (.seq (.region 6 #[q 28 (.move (.tmp 7)) 47, q 29 (.nilCheck (.tmp 28)) 0, q 30 (.fieldAddr 51 (.tmp 29) 2) 0, q 31 (.load 33 (.tmp 30)) 33, q 32 (.binOp .neq 33 (.tmp 31) (ik 6) 33) 4] false) (.cond (.tmp 32) (.seq (.region 7 #[q 33 (.build 25 #[]) 25, q 34 (.move (.tmp 7)) 47, q 35 (cl 23 #[.tmp 34] #[47]) 3, q 36 (.move (.tmp 7)) 47, q 37 (cl 24 #[.tmp 36] #[47]) 33, qn (.store 25 (.tmp 4) (.tmp 33)) 0, q 5 (.assign (.tmp 35)) 3, q 6 (.assign (.tmp 37)) 33] false) .ret) .skip)) (.seq (.region 8 #[q 38 (.load 25 (.tmp 8)) 25, q 39 (.move (.tmp 0)) 9, q 40 (bi .len #[.tmp 39] #[9]) 3, qn (.store 25 (.tmp 4) (.tmp 38)) 0, q 5 (.assign (.tmp 40)) 3, q 6 (.assign (ik 0)) 33] false) .ret))))))
theorem s13 : Tryd.f13.body.map (slim cfg) = some g13 := by kernel_rfl

theorem jparse_ok (s : List UInt8) (hl : s.length < 400000000) (d : Int) (prot : Nat) (H : Heap) (hg0 : hget H 0 (gver 0) = some [ET]) (hp : prot ≤ H.length) :
    aLim cfg prot 13 [.str s, .int .i64 d] H = some (.tup [encJ (parseJ s (min d 16)).1, .int .i64 (parseJ s (min d 16)).2.1, .int .i64 (parseJ s (min d 16)).2.2], none) := by
  have hsnap : snap H [.str s, .int .i64 d] = some ([.str s, .int .i64 d], false) := rfl
  have hl0 := hget_lt hg0
  have hls : ∀ K : Heap, aLen Tryd.prog K 9 (.str s) = some (.int .i64 s.length) := fun K => by simp [aLen, Tryd.underlying9]
  generalize hdd : min d 16 = dd
  have hd16 : dd ≤ 16 := by omega
  have hl1 : ∀ a : Blk, (H ++ [a]).length = H.length + 1 := fun a => by simp
  have e1 : cellsPs s ps0 dd = [.str s, .int .i64 0, .int .i64 0, .int .i64 0, .str [], .int .i64 0, .int .i64 0, .int .i64 0, .int .i64 dd] := rfl
  have gb1 : hget (H ++ [Blk.cells 0 zeroC] ++ [Blk.cells 0 (cellsPs s ps0 dd)]) (H.length + 1) 0 = some (cellsPs s ps0 dd) := by rw [hget_new (by simp), if_pos rfl]
  have gz1 : hget (H ++ [Blk.cells 0 zeroC] ++ [Blk.cells 0 (cellsPs s ps0 dd)]) H.length 0 = some zeroC := hget_mono (by rw [hget_new rfl, if_pos rfl]) _
  have g01 : hget (H ++ [Blk.cells 0 zeroC] ++ [Blk.cells 0 (cellsPs s ps0 dd)]) 0 (gver 0) = some [ET] := hget_mono (hget_mono hg0 _) _
  have n1 := step_ok s (by omega) ps0 dd (Nat.zero_le _) (H.length + 1) H.length _ gb1 g01 (by omega)
  have gb2 : hget ((H ++ [Blk.cells 0 zeroC] ++ [Blk.cells 0 (cellsPs s ps0 dd)]).set (H.length + 1) (Blk.cells 0 (cellsPs s (stepP s ps0) dd))) (H.length + 1) 0 = some (cellsPs s (stepP s ps0) dd) := hget_set_at (by simp)
  have gz2 : hget ((H ++ [Blk.cells 0 zeroC] ++ [Blk.cells 0 (cellsPs s ps0 dd)]).set (H.length + 1) (Blk.cells 0 (cellsPs s (stepP s ps0) dd))) H.length 0 = some zeroC := by rw [hget_set_ne (by omega)]; exact gz1
  have g02 : hget ((H ++ [Blk.cells 0 zeroC] ++ [Blk.cells 0 (cellsPs s ps0 dd)]).set (H.length + 1) (Blk.cells 0 (cellsPs s (stepP s ps0) dd))) 0 (gver 0) = some [ET] := by rw [hget_set_ne (by omega)]; exact g01
  have hl2 : ((H ++ [Blk.cells 0 zeroC] ++ [Blk.cells 0 (cellsPs s ps0 dd)]).set (H.length + 1) (Blk.cells 0 (cellsPs s (stepP s ps0) dd))).length = H.length + 2 := by simp
  rw [e1] at n1
  simp only [zeroC] at n1
  have n1' := n1
  simp only [zeroC, e1] at gb2 gz2 g02 hl2
  generalize ((H ++ [Blk.cells 0 [.int .i64 0, .bool false, .int .i64 0, .str [], .nilS, .nilS]] ++ [Blk.cells 0 [.str s, .int .i64 0, .int .i64 0, .int .i64 0, .str [], .int .i64 0, .int .i64 0, .int .i64 0, .int .i64 dd]]).set (H.length + 1) (Blk.cells 0 (cellsPs s (stepP s ps0) dd))) = H2 at *
  have hGP : GP s (stepP s ps0) := stepP_GP (Nat.zero_le _)
  obtain ⟨r, K', hV, n2⟩ := value_ok s hl (stepP s ps0) dd hd16 hGP (H.length + 1) H.length H2 gb2 g02 (by omega)
  have hRO : ROk s dd (runP s dd (.outer (stepP s ps0) [])) := runP_ok ⟨hGP, trivial⟩
  unfold parseJ
  generalize runP s dd (.outer (stepP s ps0) []) = T at *
  obtain ⟨h01, hold, hV⟩ := hV
  have gz3 : hget K' H.length 0 = some zeroC := hget_same (hold H.length (by omega) (by omega)) gz2
  have hlK := hget_lt gz3
  cases T with
  | bad e p =>
    obtain ⟨he, rfl, gb3⟩ := hV
    dsimp only
    have d1 : decide (¬ e = 0) = true := decide_eq_true he
    simp only [zeroC] at n2 gz3
    have hpt : Go.Abs.hput H.length (K' ++ [Blk.cells 0 [.int .i64 0, .bool false, .int .i64 0, .str [], .nilS, .nilS]]) K'.length 0 0 [.int .i64 0, .bool false, .int .i64 0, .str [], .nilS, .nilS] = some (K' ++ [Blk.cells 0 zeroC]) := by
      rw [hput_new rfl (by omega) (by simp) rfl]; rfl
    have n3 := place_ok s (by omega) p dd hRO.2.at_ (H.length + 1) H.length (K' ++ [Blk.cells 0 zeroC]) (hget_mono gb3 _) (hget_mono h01 _) (by simp; omega)
    have hpz : Go.Abs.hput H.length (K' ++ [Blk.cells 0 zeroC]) H.length 0 0 [.int .i64 0, .bool false, .int .i64 0, .str [], .nilS, .nilS] = some ((K' ++ [Blk.cells 0 zeroC]).set H.length (.cells 0 zeroC)) := by
      rw [hput_eq (hget_mono gz3 _) (Nat.le_refl _) (by simp) rfl, splice_all (by simp)]; rfl
    have hlz : hget ((K' ++ [Blk.cells 0 zeroC]).set H.length (.cells 0 zeroC)) H.length 0 = some [.int .i64 0, .bool false, .int .i64 0, .str [], .nilS, .nilS] := hget_set_at (by simp; omega)
    refine pure_slim rfl (by kernel_rfl) Tryd.func13 s13 hp hsnap (by simp [Tryd.f13]) fun fr hlen h => ?_
    simp only [Has, Nat.zero_add] at h
    obtain ⟨a0, a1, -⟩ := h
    simp only [Tryd.f13] at hlen ⊢
    unfold g13
    simp only [wk, aBuiltin, AV.cells, AV.leaf, Nat.reduceEqDiff, Nat.reduceLT, Nat.reduceAdd, Nat.reduceLeDiff, reduceCtorEq, Nat.reduceMul, Nat.reduceMod, cfgP, u13, hlen, a0, a1, hdd, hl1, n1, n2, d1, hpt, n3, hpz]
    exact Fin_pure (l := [.agg [.int .i64 0, .bool false, .int .i64 0, .str [], .nilS, .nilS], .int .i64 (placeP s p), .int .i64 e]) (by simp [wk, aBuiltin, AV.cells, AV.leaf, Nat.reduceEqDiff, Nat.reduceLT, Nat.reduceAdd, Nat.reduceLeDiff, reduceCtorEq, Nat.reduceMul, Nat.reduceMod, cfgP, u13, hlen, aResults, aResult, hlz]) (by rw [zeroJ, enc0]; exact .tup (.cons (by have := @encJ_still zeroJ; rw [zeroJ, enc0] at this; exact this) (.cons (.still rfl) (.cons (.still rfl) .nil)))) (by simp)
  | ok v p =>
    obtain ⟨vs, S, rfl, hVR, gb3, hS0⟩ := hV
    dsimp only
    have hvl := hVR.len
    obtain ⟨vs0, vs1, vs2, vs3, vs4, vs5, rfl⟩ : ∃ v0 v1 v2 v3 v4 v5, vs = [v0, v1, v2, v3, v4, v5] := by
      match vs, hvl with
      | [v0, v1, v2, v3, v4, v5], _ => exact ⟨v0, v1, v2, v3, v4, v5, rfl⟩
    have d1 : decide (¬ (0 : Int) = 0) = false := by decide
    have hpt : Go.Abs.hput H.length (K' ++ [Blk.cells 0 [.int .i64 0, .bool false, .int .i64 0, .str [], .nilS, .nilS]]) K'.length 0 0 [vs0, vs1, vs2, vs3, vs4, vs5] = some (K' ++ [Blk.cells 0 [vs0, vs1, vs2, vs3, vs4, vs5]]) := by
      rw [hput_new rfl (by omega) (by simp) hVR.leaf]; rfl
    have gb4 : hget (K' ++ [Blk.cells 0 [vs0, vs1, vs2, vs3, vs4, vs5]]) (H.length + 1) 0 = some (cellsPs s p dd) := hget_mono gb3 _
    have gbx : hget (K' ++ [Blk.cells 0 [vs0, vs1, vs2, vs3, vs4, vs5]]) K'.length 0 = some [vs0, vs1, vs2, vs3, vs4, vs5] := by rw [hget_new rfl, if_pos rfl]
    have n3 := place_ok s (by omega) p dd hRO.2.at_ (H.length + 1) H.length (K' ++ [Blk.cells 0 [vs0, vs1, vs2, vs3, vs4, vs5]]) gb4 (hget_mono h01 _) (by simp; omega)
    have n4 := amiss_ok s p dd (H.length + 1) H.length (K' ++ [Blk.cells 0 [vs0, vs1, vs2, vs3, vs4, vs5]]) gb4 (by simp; omega)
    simp only [cellsPs] at gb4
    by_cases h6 : p.e = 6
    · have d2 : decide (¬ p.e = 6) = false := by simp [h6]
      rw [if_pos h6]
      have hpz : Go.Abs.hput H.length (K' ++ [Blk.cells 0 [vs0, vs1, vs2, vs3, vs4, vs5]]) H.length 0 0 [vs0, vs1, vs2, vs3, vs4, vs5] = some ((K' ++ [Blk.cells 0 [vs0, vs1, vs2, vs3, vs4, vs5]]).set H.length (.cells 0 [vs0, vs1, vs2, vs3, vs4, vs5])) := by
        rw [hput_eq (hget_mono gz3 _) (Nat.le_refl _) (by simp [zeroC]) hVR.leaf, splice_all (by simp [zeroC])]
      have hlz : hget ((K' ++ [Blk.cells 0 [vs0, vs1, vs2, vs3, vs4, vs5]]).set H.length (.cells 0 [vs0, vs1, vs2, vs3, vs4, vs5])) H.length 0 = some [vs0, vs1, vs2, vs3, vs4, vs5] := hget_set_at (by simp; omega)
      have hF := hVR.fz ((K' ++ [Blk.cells 0 [vs0, vs1, vs2, vs3, vs4, vs5]]).set H.length (.cells 0 [vs0, vs1, vs2, vs3, vs4, vs5])) fun z hz => by
        have := hS0 z hz
        have := (hVR.low z hz).1
        rw [List.getElem?_set_ne (by omega), List.getElem?_append_left (by omega)]
      refine pure_slim rfl (by kernel_rfl) Tryd.func13 s13 hp hsnap (by simp [Tryd.f13]) fun fr hlen h => ?_
      simp only [Has, Nat.zero_add] at h
      obtain ⟨a0, a1, -⟩ := h
      simp only [Tryd.f13] at hlen ⊢
      unfold g13
      simp only [wk, aBuiltin, AV.cells, AV.leaf, Nat.reduceEqDiff, Nat.reduceLT, Nat.reduceAdd, Nat.reduceLeDiff, reduceCtorEq, Nat.reduceMul, Nat.reduceMod, cfgP, u13, hlen, a0, a1, hdd, hl1, n1, n2, d1, hpt, gb4, d2, gbx, hls, hpz]
      exact Fin_pure (l := [.agg [vs0, vs1, vs2, vs3, vs4, vs5], .int .i64 s.length, .int .i64 0]) (by simp [wk, aBuiltin, AV.cells, AV.leaf, Nat.reduceEqDiff, Nat.reduceLT, Nat.reduceAdd, Nat.reduceLeDiff, reduceCtorEq, Nat.reduceMul, Nat.reduceMod, cfgP, u13, hlen, aResults, aResult, hlz]) (.tup (.cons (by rw [encJ_eq] at hF ⊢; exact .agg hF) (.cons (.still rfl) (.cons (.still rfl) .nil)))) (by simp)
    · have d2 : decide (¬ p.e = 6) = true := decide_eq_true h6
      rw [if_neg h6]
      have hpz : Go.Abs.hput H.length (K' ++ [Blk.cells 0 [vs0, vs1, vs2, vs3, vs4, vs5]]) H.length 0 0 [.int .i64 0, .bool false, .int .i64 0, .str [], .nilS, .nilS] = some ((K' ++ [Blk.cells 0 [vs0, vs1, vs2, vs3, vs4, vs5]]).set H.length (.cells 0 zeroC)) := by
        rw [hput_eq (hget_mono gz3 _) (Nat.le_refl _) (by simp [zeroC]) rfl, splice_all (by simp [zeroC])]; rfl
      have hlz : hget ((K' ++ [Blk.cells 0 [vs0, vs1, vs2, vs3, vs4, vs5]]).set H.length (.cells 0 zeroC)) H.length 0 = some [.int .i64 0, .bool false, .int .i64 0, .str [], .nilS, .nilS] := hget_set_at (by simp; omega)
      refine pure_slim rfl (by kernel_rfl) Tryd.func13 s13 hp hsnap (by simp [Tryd.f13]) fun fr hlen h => ?_
      simp only [Has, Nat.zero_add] at h
      obtain ⟨a0, a1, -⟩ := h
      simp only [Tryd.f13] at hlen ⊢
      unfold g13
      simp only [wk, aBuiltin, AV.cells, AV.leaf, Nat.reduceEqDiff, Nat.reduceLT, Nat.reduceAdd, Nat.reduceLeDiff, reduceCtorEq, Nat.reduceMul, Nat.reduceMod, cfgP, u13, hlen, a0, a1, hdd, hl1, n1, n2, d1, hpt, gb4, d2, n3, n4, hpz]
      exact Fin_pure (l := [.agg [.int .i64 0, .bool false, .int .i64 0, .str [], .nilS, .nilS], .int .i64 (placeP s p), .int .i64 (amissP p)]) (by simp [wk, aBuiltin, AV.cells, AV.leaf, Nat.reduceEqDiff, Nat.reduceLT, Nat.reduceAdd, Nat.reduceLeDiff, reduceCtorEq, Nat.reduceMul, Nat.reduceMod, cfgP, u13, hlen, aResults, aResult, hlz]) (by rw [zeroJ, enc0]; exact .tup (.cons (by have := @encJ_still zeroJ; rw [zeroJ, enc0] at this; exact this) (.cons (.still rfl) (.cons (.still rfl) .nil)))) (by simp)
end Go.Proofs.YtimbhlbkidmplaaDoor
/- Chapter 6's example. -/
namespace Go.Proofs.YtimbhlbkidmplaaDoor
open Go Go.Abs AbsSeat Ty
theorem awake_run : aCall cfg 1000 0 12 [] [] = some (.bool true, none) := by kernel_rfl
theorem awake_ok (prot : Nat) (H : Heap) : aLim cfg prot 12 [] H = some (.bool true, none) :=
  lim_shut (k := 1000) (by kernel_rfl) (by kernel_rfl) awake_run prot H
end Go.Proofs.YtimbhlbkidmplaaDoor
/- Chapter 6: are two the same, walked. -/
namespace Go.Proofs.YtimbhlbkidmplaaDoor
open Go Go.Abs AbsSeat Ty

mutual
def sameJ : JV → JV → Bool
  | .mk k i n t _ l _ ks, y => if k ≠ y.kind then false else if k = 1 then i == y.is else if k = 2 then decide (n = y.n) else if k = 3 then t == y.text else if k = 5 then ks == y.keys && sameJs l y.items else if k = 4 then sameJs l y.items else true
def sameJs : List JV → List JV → Bool
  | [], [] => true
  | x :: r, y :: s => sameJ x y && sameJs r s
  | _, _ => false
end
theorem sameJ_eq (x y : JV) : sameJ x y = if x.kind ≠ y.kind then false else if x.kind = 1 then x.is == y.is else if x.kind = 2 then decide (x.n = y.n) else if x.kind = 3 then x.text == y.text else if x.kind = 5 then x.keys == y.keys && sameJs x.items y.items else if x.kind = 4 then sameJs x.items y.items else true := by
  cases x; rw [sameJ]; rfl
theorem sameJs_len : ∀ (l m : List JV), l.length ≠ m.length → sameJs l m = false
  | [], [], h => absurd rfl h
  | [], _ :: _, _ => by simp [sameJs]
  | _ :: _, [], _ => by simp [sameJs]
  | x :: l, y :: m, h => by simp only [sameJs, sameJs_len l m (by simpa using h), Bool.and_false]

theorem u14 : type_of% (And.intro (show tagT Tryd.prog 25 = 0 from by kernel_rfl) (And.intro ag2 (And.intro sz2 (And.intro by2 (And.intro ze2 (And.intro Tryd.underlying2 (And.intro ag3 (And.intro sz3 (And.intro by3 (And.intro ze3 (And.intro Tryd.underlying3 (And.intro ag4 (And.intro sz4 (And.intro by4 (And.intro ze4 (And.intro Tryd.underlying4 (And.intro ag9 (And.intro sz9 (And.intro by9 (And.intro ze9 (And.intro Tryd.underlying9 (And.intro ag22 (And.intro sz22 (And.intro by22 (And.intro se22 (And.intro ze22 (And.intro Tryd.underlying22 (And.intro ag23 (And.intro sz23 (And.intro by23 (And.intro se23 (And.intro ze23 (And.intro Tryd.underlying23 (And.intro ag25 (And.intro sz25 (And.intro by25 (And.intro ze25 (And.intro bu25 (And.intro Tryd.underlying25 (And.intro ag36 (And.intro sz36 (And.intro by36 (And.intro ze36 (And.intro Tryd.underlying36 (And.intro fa25_0 (And.intro fd25_0 (And.intro fa25_1 (And.intro fd25_1 (And.intro fa25_2 (And.intro fd25_2 (And.intro fa25_3 (And.intro fd25_3 (And.intro fa25_4 (And.intro fd25_4 (And.intro fa25_5 fd25_5))))))))))))))))))))))))))))))))))))))))))))))))))))))) := And.intro (show tagT Tryd.prog 25 = 0 from by kernel_rfl) (And.intro ag2 (And.intro sz2 (And.intro by2 (And.intro ze2 (And.intro Tryd.underlying2 (And.intro ag3 (And.intro sz3 (And.intro by3 (And.intro ze3 (And.intro Tryd.underlying3 (And.intro ag4 (And.intro sz4 (And.intro by4 (And.intro ze4 (And.intro Tryd.underlying4 (And.intro ag9 (And.intro sz9 (And.intro by9 (And.intro ze9 (And.intro Tryd.underlying9 (And.intro ag22 (And.intro sz22 (And.intro by22 (And.intro se22 (And.intro ze22 (And.intro Tryd.underlying22 (And.intro ag23 (And.intro sz23 (And.intro by23 (And.intro se23 (And.intro ze23 (And.intro Tryd.underlying23 (And.intro ag25 (And.intro sz25 (And.intro by25 (And.intro ze25 (And.intro bu25 (And.intro Tryd.underlying25 (And.intro ag36 (And.intro sz36 (And.intro by36 (And.intro ze36 (And.intro Tryd.underlying36 (And.intro fa25_0 (And.intro fd25_0 (And.intro fa25_1 (And.intro fd25_1 (And.intro fa25_2 (And.intro fd25_2 (And.intro fa25_3 (And.intro fd25_3 (And.intro fa25_4 (And.intro fd25_4 (And.intro fa25_5 fd25_5))))))))))))))))))))))))))))))))))))))))))))))))))))))
def g14 : Code :=
  .seq (.region 0 #[q 2 (.box 25 (.tmp 0)) 0, q 3 (.box 25 (.tmp 1)) 0, q 4 (.assign (.const (.bool false))) 4] false) (.seq (.seq (.region 1 #[q 5 (.fieldAddr 25 (.tmp 2) 0) 0, q 6 (.load 3 (.tmp 5)) 3, q 7 (.fieldAddr 25 (.tmp 3) 0) 0, q 8 (.load 3 (.tmp 7)) 3, q 9 (.binOp .neq 3 (.tmp 6) (.tmp 8) 3) 4] false) (.cond (.tmp 9) (.seq (.region 2 #[q 4 (.assign (.const (.bool false))) 4] false) .ret) .skip)) (.seq (.seq (.region 3 #[q 10 (.fieldAddr 25 (.tmp 2) 0) 0, q 11 (.load 3 (.tmp 10)) 3] false) (.block 0 (.seq (.block 5 (.seq (.block 4 (.seq (.block 3 (.seq (.block 2 (.seq (.block 1 (.seq (.seq (.seq (.region 4 #[q 13 (.binOp .eql 3 (.tmp 11) (ik 1) 3) 4, q 12 (.assign (.tmp 13)) 4] false) (.cond (.tmp 12) (.exit 1) .skip)) (.seq (.seq (.region 5 #[q 15 (.binOp .eql 3 (.tmp 11) (ik 2) 3) 4, q 14 (.assign (.tmp 15)) 4] false) (.cond (.tmp 14) (.exit 2) .skip)) (.seq (.seq (.region 6 #[q 17 (.binOp .eql 3 (.tmp 11) (ik 3) 3) 4, q 16 (.assign (.tmp 17)) 4] false) (.cond (.tmp 16) (.exit 3) .skip)) (.seq (.seq (.region 7 #[q 19 (.binOp .eql 3 (.tmp 11) (ik 5) 3) 4, q 18 (.assign (.tmp 19)) 4] false) (.cond (.tmp 18) (.exit 4) .skip)) (.seq (.region 8 #[q 21 (.binOp .eql 3 (.tmp 11) (ik 4) 3) 4, q 20 (.assign (.tmp 21)) 4] false) (.cond (.tmp 20) (.exit 5) .skip)))))) (.exit 0))) (.seq (.seq (.region 9 #[q 22 (.fieldAddr 25 (.tmp 2) 1) 0, q 23 (.load 4 (.tmp 22)) 4, q 24 (.fieldAddr 25 (.tmp 3) 1) 0, q 25 (.load 4 (.tmp 24)) 4, q 26 (.binOp .eql 4 (.tmp 23) (.tmp 25) 4) 4, q 4 (.assign (.tmp 26)) 4] false) .ret) (.exit 0)))) (.seq (.seq (.region 10 #[q 27 (.fieldAddr 25 (.tmp 2) 2) 0, q 28 (.load 2 (.tmp 27)) 2, q 29 (.fieldAddr 25 (.tmp 3) 2) 0, q 30 (.load 2 (.tmp 29)) 2, q 31 (.binOp .eql 2 (.tmp 28) (.tmp 30) 2) 4, q 4 (.assign (.tmp 31)) 4] false) .ret) (.exit 0)))) (.seq (.seq (.region 11 #[q 32 (.fieldAddr 25 (.tmp 2) 3) 0, q 33 (.load 9 (.tmp 32)) 9, q 34 (.fieldAddr 25 (.tmp 3) 3) 0, q 35 (.load 9 (.tmp 34)) 9, q 36 (.binOp .eql 9 (.tmp 33) (.tmp 35) 9) 4, q 4 (.assign (.tmp 36)) 4] false) .ret) (.exit 0)))) (.seq (.region 12 #[q 37 (.fieldAddr 25 (.tmp 2) 5) 0, q 38 (.load 23 (.tmp 37)) 23, q 39 (.fieldAddr 25 (.tmp 3) 5) 0, q 40 (.load 23 (.tmp 39)) 23, q 41 (cl 25 #[.tmp 38, .tmp 40] #[23, 23]) 4, q 42 (.unOp .not 4 (.tmp 41)) 4] false) (.cond (.tmp 42) (.seq (.region 13 #[q 4 (.assign (.const (.bool false))) 4] false) .ret) .skip)))) (.seq (.seq (.region 14 #[q 43 (.fieldAddr 25 (.tmp 2) 4) 0, q 44 (.load 22 (.tmp 43)) 22, q 45 (.fieldAddr 25 (.tmp 3) 4) 0, q 46 (.load 22 (.tmp 45)) 22, q 47 (cl 26 #[.tmp 44, .tmp 46, .func 14] #[22, 22, 36]) 4, q 4 (.assign (.tmp 47)) 4] false) .ret) (.exit 0))))) (.seq (.region 15 #[q 4 (.assign (.const (.bool true))) 4] false) .ret)))
theorem s14 : Tryd.f14.body.map (slim cfg) = some g14 := by kernel_rfl
def g25 : Code :=
  .seq (.region 0 #[q 4 (.assign (.const (.bool false))) 4] false) (.seq (.seq (.region 1 #[q 6 (.move (.tmp 0)) 23, q 7 (bi .len #[.tmp 6] #[23]) 3, q 8 (.move (.tmp 1)) 23, q 9 (bi .len #[.tmp 8] #[23]) 3, q 10 (.binOp .neq 3 (.tmp 7) (.tmp 9) 3) 4] false) (.cond (.tmp 10) (.seq (.region 2 #[q 4 (.assign (.const (.bool false))) 4] false) .ret) .skip)) (.seq (.seq (.region 3 #[q 11 (.move (.tmp 0)) 23, q 12 (bi .len #[.tmp 11] #[23]) 3, q 13 (.move (ik 0)) 3] false) (.block 0 (.loop (.seq (.region 4 #[q 14 (.binOp .lss 3 (.tmp 13) (.tmp 12) 3) 0] false) (.seq (.cond (.tmp 14) .skip (.exit 0)) (.seq (.block 1 (.seq (.region 5 #[q 15 (.move (.tmp 13)) 3, q 5 (.assign (.tmp 15)) 3] false) (.seq (.region 6 #[q 16 (.move (.tmp 0)) 23, q 17 (.move (.tmp 5)) 3, q 18 (.indexAddr 23 (.tmp 16) (.tmp 17)) 0, q 19 (.load 9 (.tmp 18)) 9, q 20 (.move (.tmp 1)) 23, q 21 (.move (.tmp 5)) 3, q 22 (.indexAddr 23 (.tmp 20) (.tmp 21)) 0, q 23 (.load 9 (.tmp 22)) 9, q 24 (.binOp .neq 9 (.tmp 19) (.tmp 23) 9) 4] false) (.cond (.tmp 24) (.seq (.region 7 #[q 4 (.assign (.const (.bool false))) 4] false) .ret) .skip)))) (.region 8 #[q 25 (.binOp .add 3 (.tmp 13) (ik 1) 3) 3, q 13 (.move (.tmp 25)) 3] false))))))) (.seq (.region 9 #[q 4 (.assign (.const (.bool true))) 4] false) .ret)))
theorem s25 : Tryd.f25.body.map (slim cfg) = some g25 := by kernel_rfl
def g26 : Code :=
  .seq (.region 0 #[q 6 (.assign (.const (.bool false))) 4] false) (.seq (.seq (.region 1 #[q 10 (.move (.tmp 0)) 22, q 11 (bi .len #[.tmp 10] #[22]) 3, q 12 (.move (.tmp 1)) 22, q 13 (bi .len #[.tmp 12] #[22]) 3, q 14 (.binOp .neq 3 (.tmp 11) (.tmp 13) 3) 4] false) (.cond (.tmp 14) (.seq (.region 2 #[q 6 (.assign (.const (.bool false))) 4] false) .ret) .skip)) (.seq (.seq (.region 3 #[q 15 (.move (.tmp 0)) 22, q 16 (bi .len #[.tmp 15] #[22]) 3, q 17 (.move (ik 0)) 3] false) (.block 0 (.loop (.seq (.region 4 #[q 18 (.binOp .lss 3 (.tmp 17) (.tmp 16) 3) 0] false) (.seq (.cond (.tmp 18) .skip (.exit 0)) (.seq (.block 1 (.seq (.region 5 #[q 19 (.move (.tmp 17)) 3, q 20 (.indexAddr 22 (.tmp 15) (.tmp 17)) 0, q 21 (.load 25 (.tmp 20)) 25, q 8 (.alloc 25) 0, q 7 (.assign (.tmp 19)) 3, qn (.store 25 (.tmp 8) (.tmp 21)) 0] false) (.seq (.region 6 #[q 22 (.move (.tmp 1)) 22, q 23 (.move (.tmp 7)) 3, q 24 (.indexAddr 22 (.tmp 22) (.tmp 23)) 0, q 25 (.load 25 (.tmp 24)) 25, q 9 (.alloc 25) 0, qn (.store 25 (.tmp 9) (.tmp 25)) 0] false) (.seq (.region 7 #[q 26 (.move (.tmp 2)) 36, q 27 (.load 25 (.tmp 8)) 25, q 28 (.load 25 (.tmp 9)) 25, q 29 (cv (.tmp 26) #[.tmp 27, .tmp 28] #[25, 25]) 4, q 30 (.unOp .not 4 (.tmp 29)) 4] false) (.cond (.tmp 30) (.seq (.region 8 #[q 6 (.assign (.const (.bool false))) 4] false) .ret) .skip))))) (.region 9 #[q 31 (.binOp .add 3 (.tmp 17) (ik 1) 3) 3, q 17 (.move (.tmp 31)) 3] false))))))) (.seq (.region 10 #[q 6 (.assign (.const (.bool true))) 4] false) .ret)))
theorem s26 : Tryd.f26.body.map (slim cfg) = some g26 := by kernel_rfl
theorem i12 : ((1 : Int) = 2) = False := by simp
theorem i13 : ((1 : Int) = 3) = False := by simp
theorem i14 : ((1 : Int) = 4) = False := by simp
theorem i15 : ((1 : Int) = 5) = False := by simp
theorem i23 : ((2 : Int) = 3) = False := by simp
theorem i24 : ((2 : Int) = 4) = False := by simp
theorem i25 : ((2 : Int) = 5) = False := by simp
theorem i34 : ((3 : Int) = 4) = False := by simp
theorem i35 : ((3 : Int) = 5) = False := by simp
theorem i21 : ((2 : Int) = 1) = False := by simp
theorem i31 : ((3 : Int) = 1) = False := by simp
theorem i32 : ((3 : Int) = 2) = False := by simp
theorem i51 : ((5 : Int) = 1) = False := by simp
theorem i52 : ((5 : Int) = 2) = False := by simp
theorem i53 : ((5 : Int) = 3) = False := by simp
theorem i41 : ((4 : Int) = 1) = False := by simp
theorem i42 : ((4 : Int) = 2) = False := by simp
theorem i43 : ((4 : Int) = 3) = False := by simp
theorem i45 : ((4 : Int) = 5) = False := by simp
theorem encStr_len (x : List UInt8) : (AV.str x).cells.length = 1 := rfl


theorem eqKeys_ok (l m : List (List UInt8)) (v w : AV) (hv : Sl AV.str v l) (hw : Sl AV.str w m) (hl : l.length < 1000000000000000000) (prot : Nat) (H : Heap) (hp : prot ≤ H.length) :
    aLim cfg prot 25 [v, w] H = some (.bool (l == m), none) := by
  have hsnap : snap H [v, w] = some ([v, w], false) := by cases hv <;> cases hw <;> rfl
  have hvl := fun (K : Heap) => hv.len (H := K) Tryd.underlying23
  have hwl := fun (K : Heap) => hw.len (H := K) Tryd.underlying23
  refine pure_slim rfl (by kernel_rfl) Tryd.func25 s25 hp hsnap (by simp [Tryd.f25]) fun fr hlen h => ?_
  simp only [Has, Nat.zero_add] at h
  obtain ⟨a0, a1, -⟩ := h
  simp only [Tryd.f25] at hlen ⊢
  unfold g25
  by_cases hlen' : l.length = m.length
  · have hne : (((l.length : Nat) : Int) = (m.length : Nat)) = True := by simp [hlen']
    simp only [wk, aBuiltin, AV.cells, AV.leaf, Nat.reduceEqDiff, Nat.reduceLT, Nat.reduceAdd, Nat.reduceLeDiff, reduceCtorEq, Nat.reduceMul, Nat.reduceMod, cfgP, u14, hlen, a0, a1, hvl, hwl, hne]
    refine loop_rule (fun k fr K => ∃ (i : Nat), k = l.length - i ∧ i ≤ l.length ∧ fr.length = 26 ∧ fget fr 0 = v ∧ fget fr 1 = w ∧ fget fr 12 = .int .i64 l.length ∧ fget fr 13 = .int .i64 i ∧ K = H ∧ (l == m) = (l.drop i == m.drop i)) ?_ l.length _ _ ⟨0, by simp [wk, aBuiltin, AV.cells, AV.leaf, Nat.reduceEqDiff, Nat.reduceLT, Nat.reduceAdd, Nat.reduceLeDiff, reduceCtorEq, Nat.reduceMul, Nat.reduceMod, cfgP, u14, hlen, a0, a1]⟩
    rintro k fr K ⟨i, rfl, hi, hlen, a0, a1, a12, a13, rfl, hc⟩ ih
    simp only [wk, aBuiltin, AV.cells, AV.leaf, Nat.reduceEqDiff, Nat.reduceLT, Nat.reduceAdd, Nat.reduceLeDiff, reduceCtorEq, Nat.reduceMul, Nat.reduceMod, cfgP, u14, hlen, a0, a1, a12, a13]
    refine RC_split (fun h => ?_) (fun h => ?_)
    · have hlt : i < l.length := by simpa using h
      have hlt2 : i < m.length := by omega
      have e1 := hv.at (k := .i64) Tryd.underlying23 sz9 encStr_len hlt
      have e2 := hw.at (k := .i64) Tryd.underlying23 sz9 encStr_len hlt2
      have hww : IntKind.i64.wrap ((i : Int) + 1) = ((i + 1 : Nat) : Int) := by rw [wrap64 (by omega) (by omega)]; simp
      rw [List.drop_eq_getElem_cons hlt, List.drop_eq_getElem_cons hlt2] at hc
      generalize l[i] = a at *
      generalize m[i] = b at *
      have hn := str_neq a b
      simp only [AV.cells] at e1 e2
      cases hab : a == b with
      | true =>
        rw [hab] at hn
        have hc' : (l == m) = (l.drop (i + 1) == m.drop (i + 1)) := by rw [hc]; show (a == b && (l.drop (i + 1) == m.drop (i + 1))) = _; rw [hab, Bool.true_and]
        simp only [wk, aBuiltin, AV.cells, AV.leaf, Nat.reduceEqDiff, Nat.reduceLT, Nat.reduceAdd, Nat.reduceLeDiff, reduceCtorEq, Nat.reduceMul, Nat.reduceMod, cfgP, u14, hlen, a0, a1, a12, a13, e1, e2, hn, hww]
        refine ih _ _ (l.length - (i + 1)) (by omega) ⟨i + 1, rfl, hlt, ?_⟩
        rw [hc']
        simp [wk, aBuiltin, AV.cells, AV.leaf, Nat.reduceEqDiff, Nat.reduceLT, Nat.reduceAdd, Nat.reduceLeDiff, reduceCtorEq, Nat.reduceMul, Nat.reduceMod, cfgP, u14, hlen, a0, a1, a12]
      | false =>
        rw [hab] at hn
        have hc' : (l == m) = false := by rw [hc]; show (a == b && (l.drop (i + 1) == m.drop (i + 1))) = _; rw [hab, Bool.false_and]
        simp only [wk, aBuiltin, AV.cells, AV.leaf, Nat.reduceEqDiff, Nat.reduceLT, Nat.reduceAdd, Nat.reduceLeDiff, reduceCtorEq, Nat.reduceMul, Nat.reduceMod, cfgP, u14, hlen, a0, a1, a12, a13, e1, e2, hn]
        rw [hc']
        exact Fin_pure (l := [.bool false]) (by simp [wk, aBuiltin, AV.cells, AV.leaf, Nat.reduceEqDiff, Nat.reduceLT, Nat.reduceAdd, Nat.reduceLeDiff, reduceCtorEq, Nat.reduceMul, Nat.reduceMod, cfgP, u14, aResults, aResult, hlen]) (.still rfl) (by simp)
    · have hnl : ¬ i < l.length := by simpa using h
      rw [List.drop_eq_nil_of_le (by omega), List.drop_eq_nil_of_le (by omega)] at hc
      rw [hc]
      simp only [wk, aBuiltin, AV.cells, AV.leaf, Nat.reduceEqDiff, Nat.reduceLT, Nat.reduceAdd, Nat.reduceLeDiff, reduceCtorEq, Nat.reduceMul, Nat.reduceMod, cfgP, u14, hlen, a0, a1]
      exact Fin_pure (l := [.bool true]) (by simp [wk, aBuiltin, AV.cells, AV.leaf, Nat.reduceEqDiff, Nat.reduceLT, Nat.reduceAdd, Nat.reduceLeDiff, reduceCtorEq, Nat.reduceMul, Nat.reduceMod, cfgP, u14, aResults, aResult, hlen]) (.still rfl) (by simp)
  · have hne : (((l.length : Nat) : Int) = (m.length : Nat)) = False := by simp; omega
    have hf : (l == m) = false := by
      rw [beq_eq_false_iff_ne]
      rintro rfl
      exact hlen' rfl
    simp only [wk, aBuiltin, AV.cells, AV.leaf, Nat.reduceEqDiff, Nat.reduceLT, Nat.reduceAdd, Nat.reduceLeDiff, reduceCtorEq, Nat.reduceMul, Nat.reduceMod, cfgP, u14, hlen, a0, a1, hvl, hwl, hne]
    rw [hf]
    exact Fin_pure (l := [.bool false]) (by simp [wk, aBuiltin, AV.cells, AV.leaf, Nat.reduceEqDiff, Nat.reduceLT, Nat.reduceAdd, Nat.reduceLeDiff, reduceCtorEq, Nat.reduceMul, Nat.reduceMod, cfgP, u14, aResults, aResult, hlen]) (.still rfl) (by simp)


theorem eqItems_ok (l m : List JV) (v w : AV) (hv : Sl encJ v l) (hw : Sl encJ w m) (hl : l.length < 1000000000000000000) (hS : ∀ x ∈ l, ∀ y ∈ m, ∀ (prot : Nat) (H : Heap), prot ≤ H.length → aLim cfg prot 14 [encJ x, encJ y] H = some (.bool (sameJ x y), none)) (prot : Nat) (H : Heap) (hp : prot ≤ H.length) :
    aLim cfg prot 26 [v, w, .func 14 [] []] H = some (.bool (sameJs l m), none) := by
  have hsnap : snap H [v, w, .func 14 [] []] = some ([v, w, .func 14 [] []], false) := by cases hv <;> cases hw <;> rfl
  have hvl := fun (K : Heap) => hv.len (H := K) Tryd.underlying22
  have hwl := fun (K : Heap) => hw.len (H := K) Tryd.underlying22
  refine pure_slim rfl (by kernel_rfl) Tryd.func26 s26 hp hsnap (by simp [Tryd.f26]) fun fr hlen h => ?_
  simp only [Has, Nat.zero_add] at h
  obtain ⟨a0, a1, a2, -⟩ := h
  simp only [Tryd.f26] at hlen ⊢
  unfold g26
  by_cases hlen' : l.length = m.length
  · have hne : (((l.length : Nat) : Int) = (m.length : Nat)) = True := by simp [hlen']
    simp only [wk, aBuiltin, AV.cells, AV.leaf, Nat.reduceEqDiff, Nat.reduceLT, Nat.reduceAdd, Nat.reduceLeDiff, reduceCtorEq, Nat.reduceMul, Nat.reduceMod, cfgP, u14, hlen, a0, a1, a2, hvl, hwl, hne]
    refine loop_rule (fun k fr K => ∃ (i : Nat), k = l.length - i ∧ i ≤ l.length ∧ fr.length = 32 ∧ fget fr 1 = w ∧ fget fr 2 = .func 14 [] [] ∧ fget fr 15 = v ∧ fget fr 16 = .int .i64 l.length ∧ fget fr 17 = .int .i64 i ∧ H.length ≤ K.length ∧ sameJs l m = sameJs (l.drop i) (m.drop i)) ?_ l.length _ _ ⟨0, by simp [wk, aBuiltin, AV.cells, AV.leaf, Nat.reduceEqDiff, Nat.reduceLT, Nat.reduceAdd, Nat.reduceLeDiff, reduceCtorEq, Nat.reduceMul, Nat.reduceMod, cfgP, u14, hlen, a0, a1, a2]⟩
    rintro k fr K ⟨i, rfl, hi, hlen, a1, a2, a15, a16, a17, hK, hc⟩ ih
    simp only [wk, aBuiltin, AV.cells, AV.leaf, Nat.reduceEqDiff, Nat.reduceLT, Nat.reduceAdd, Nat.reduceLeDiff, reduceCtorEq, Nat.reduceMul, Nat.reduceMod, cfgP, u14, hlen, a1, a2, a15, a16, a17]
    refine RC_split (fun h => ?_) (fun h => ?_)
    · have hlt : i < l.length := by simpa using h
      have hlt2 : i < m.length := by omega
      have e1 := hv.at (k := .i64) Tryd.underlying22 sz25 encJ_len hlt
      have e2 := hw.at (k := .i64) Tryd.underlying22 sz25 encJ_len hlt2
      have hww : IntKind.i64.wrap ((i : Int) + 1) = ((i + 1 : Nat) : Int) := by rw [wrap64 (by omega) (by omega)]; simp
      have hm1 : l[i] ∈ l := List.getElem_mem hlt
      have hm2 : m[i] ∈ m := List.getElem_mem hlt2
      rw [List.drop_eq_getElem_cons hlt, List.drop_eq_getElem_cons hlt2, sameJs] at hc
      generalize l[i] = x at *
      generalize m[i] = y at *
      have l1 := x.iv_leaf
      have l2 := x.kv_leaf
      have l3 := y.iv_leaf
      have l4 := y.kv_leaf
      unfold AV.leaf at l1 l2 l3 l4
      have n1 := fun (B C : Blk) => hS x hm1 y hm2 H.length (K ++ [B] ++ [C]) (by simp; omega)
      rw [encJ_eq] at e1 e2
      rw [encJ_eq, encJ_eq] at n1
      have hK2 : H.length ≤ K.length + 1 := by omega
      have hgA : ∀ (A : List AV) (B : Blk), hget (K ++ [Blk.cells 0 A] ++ [B]) K.length 0 = some A := fun A B => hget_mono (by rw [hget_new rfl, if_pos rfl]) _
      cases hab : sameJ x y with
      | true =>
        rw [hab] at n1 hc
        rw [Bool.true_and] at hc
        simp only [wk, aBuiltin, AV.cells, AV.leaf, Nat.reduceEqDiff, Nat.reduceLT, Nat.reduceAdd, Nat.reduceLeDiff, reduceCtorEq, Nat.reduceMul, Nat.reduceMod, cfgP, u14, hlen, a1, a2, a15, a16, a17, e1, e2, l1, l2, l3, l4, hK, hK2, hgA, n1, hww, List.length_append]
        refine ih _ _ (l.length - (i + 1)) (by omega) ⟨i + 1, rfl, hlt, ?_⟩
        rw [hc]
        simp [wk, aBuiltin, AV.cells, AV.leaf, Nat.reduceEqDiff, Nat.reduceLT, Nat.reduceAdd, Nat.reduceLeDiff, reduceCtorEq, Nat.reduceMul, Nat.reduceMod, cfgP, u14, hlen, a1, a2, a15, a16]
        omega
      | false =>
        rw [hab] at n1 hc
        rw [Bool.false_and] at hc
        simp only [wk, aBuiltin, AV.cells, AV.leaf, Nat.reduceEqDiff, Nat.reduceLT, Nat.reduceAdd, Nat.reduceLeDiff, reduceCtorEq, Nat.reduceMul, Nat.reduceMod, cfgP, u14, hlen, a1, a2, a15, a16, a17, e1, e2, l1, l2, l3, l4, hK, hK2, hgA, n1, List.length_append]
        rw [hc]
        exact Fin_pure (l := [.bool false]) (by simp [wk, aBuiltin, AV.cells, AV.leaf, Nat.reduceEqDiff, Nat.reduceLT, Nat.reduceAdd, Nat.reduceLeDiff, reduceCtorEq, Nat.reduceMul, Nat.reduceMod, cfgP, u14, aResults, aResult, hlen]) (.still rfl) (by simp)
    · have hnl : ¬ i < l.length := by simpa using h
      rw [List.drop_eq_nil_of_le (by omega), List.drop_eq_nil_of_le (by omega), sameJs] at hc
      rw [hc]
      simp only [wk, aBuiltin, AV.cells, AV.leaf, Nat.reduceEqDiff, Nat.reduceLT, Nat.reduceAdd, Nat.reduceLeDiff, reduceCtorEq, Nat.reduceMul, Nat.reduceMod, cfgP, u14, hlen, a1, a2]
      exact Fin_pure (l := [.bool true]) (by simp [wk, aBuiltin, AV.cells, AV.leaf, Nat.reduceEqDiff, Nat.reduceLT, Nat.reduceAdd, Nat.reduceLeDiff, reduceCtorEq, Nat.reduceMul, Nat.reduceMod, cfgP, u14, aResults, aResult, hlen]) (.still rfl) (by simp)
  · have hne : (((l.length : Nat) : Int) = (m.length : Nat)) = False := by simp; omega
    simp only [wk, aBuiltin, AV.cells, AV.leaf, Nat.reduceEqDiff, Nat.reduceLT, Nat.reduceAdd, Nat.reduceLeDiff, reduceCtorEq, Nat.reduceMul, Nat.reduceMod, cfgP, u14, hlen, a0, a1, a2, hvl, hwl, hne]
    rw [sameJs_len l m hlen']
    exact Fin_pure (l := [.bool false]) (by simp [wk, aBuiltin, AV.cells, AV.leaf, Nat.reduceEqDiff, Nat.reduceLT, Nat.reduceAdd, Nat.reduceLeDiff, reduceCtorEq, Nat.reduceMul, Nat.reduceMod, cfgP, u14, aResults, aResult, hlen]) (.still rfl) (by simp)

theorem same_ok : ∀ (x : JV), Fit 1000000 x → ∀ (y : JV) (prot : Nat) (H : Heap), prot ≤ H.length → aLim cfg prot 14 [encJ x, encJ y] H = some (.bool (sameJ x y), none) := by
  intro x
  induction hn : SizeOf.sizeOf x using Nat.strongRecOn generalizing x with
  | _ k IH =>
  subst hn
  intro hfit y prot H hp
  have hsnap : snap H [encJ x, encJ y] = some ([encJ x, encJ y], false) := by rw [encJ_snap, encJ_snap]; rfl
  have hfi := hfit.items
  have l1 := x.iv_leaf
  have l2 := x.kv_leaf
  have l3 := y.iv_leaf
  have l4 := y.kv_leaf
  unfold AV.leaf at l1 l2 l3 l4
  have n1 := fun (K : Heap) (hK : H.length ≤ K.length) => eqKeys_ok x.keys y.keys x.kv y.kv x.kv_sl y.kv_sl (by have := hfit.keys; omega) H.length K hK
  have n2 := fun (K : Heap) (hK : H.length ≤ K.length) => eqItems_ok x.items y.items x.iv y.iv x.iv_sl y.iv_sl (by omega) (fun z hz w _ prot H hp => IH _ (size_mem hz) z rfl (hfit.mem hz) w prot H hp) H.length K hK
  have n1 := fun (B C : Blk) => n1 (H ++ [B] ++ [C]) (by simp)
  have n2 := fun (B C : Blk) => n2 (H ++ [B] ++ [C]) (by simp)
  have hgA : ∀ (A : List AV) (B : Blk), hget (H ++ [Blk.cells 0 A] ++ [B]) H.length 0 = some A := fun A B => hget_mono (by rw [hget_new rfl, if_pos rfl]) _
  have hbb : ∀ xo yo, aBin Tryd.prog .eql 4 xo yo (.bool x.is) (.bool y.is) = some (.bool (x.is == y.is)) := fun xo yo => bin_eqb Tryd.underlying4 _ _
  have hss := str_eql x.text y.text
  rw [sameJ_eq]
  refine pure_slim rfl (by kernel_rfl) Tryd.func14 s14 hp hsnap (by simp [Tryd.f14]) fun fr hlen h => ?_
  simp only [Has, Nat.zero_add] at h
  obtain ⟨a0, a1, -⟩ := h
  simp only [Tryd.f14] at hlen ⊢
  unfold g14
  rw [encJ_eq] at a0 a1
  by_cases hk : x.kind = y.kind
  · rw [if_neg (by simpa using hk)]
    by_cases h1 : x.kind = 1
    · rw [if_pos h1]
      rw [← hk] at a1
      rw [h1] at a0 a1
      simp only [wk, aBuiltin, AV.cells, AV.leaf, Nat.reduceEqDiff, Nat.reduceLT, Nat.reduceAdd, Nat.reduceLeDiff, reduceCtorEq, Nat.reduceMul, Nat.reduceMod, cfgP, u14, hlen, a0, a1, hgA, l1, l2, l3, l4, hbb, List.length_append]
      exact Fin_pure (l := [.bool (x.is == y.is)]) (by simp [wk, aBuiltin, AV.cells, AV.leaf, Nat.reduceEqDiff, Nat.reduceLT, Nat.reduceAdd, Nat.reduceLeDiff, reduceCtorEq, Nat.reduceMul, Nat.reduceMod, cfgP, u14, aResults, aResult, hlen]) (.still rfl) (by simp)
    · rw [if_neg h1]
      by_cases h2 : x.kind = 2
      · rw [if_pos h2]
        rw [← hk] at a1
        rw [h2] at a0 a1
        simp only [wk, aBuiltin, AV.cells, AV.leaf, Nat.reduceEqDiff, Nat.reduceLT, Nat.reduceAdd, Nat.reduceLeDiff, reduceCtorEq, Nat.reduceMul, Nat.reduceMod, cfgP, u14, hlen, a0, a1, hgA, l1, l2, l3, l4, i21, List.length_append]
        exact Fin_pure (l := [.bool (decide (x.n = y.n))]) (by simp [wk, aBuiltin, AV.cells, AV.leaf, Nat.reduceEqDiff, Nat.reduceLT, Nat.reduceAdd, Nat.reduceLeDiff, reduceCtorEq, Nat.reduceMul, Nat.reduceMod, cfgP, u14, aResults, aResult, hlen]) (.still rfl) (by simp)
      · rw [if_neg h2]
        by_cases h3 : x.kind = 3
        · rw [if_pos h3]
          rw [← hk] at a1
          rw [h3] at a0 a1
          simp only [wk, aBuiltin, AV.cells, AV.leaf, Nat.reduceEqDiff, Nat.reduceLT, Nat.reduceAdd, Nat.reduceLeDiff, reduceCtorEq, Nat.reduceMul, Nat.reduceMod, cfgP, u14, hlen, a0, a1, hgA, l1, l2, l3, l4, i31, i32, hss, List.length_append]
          exact Fin_pure (l := [.bool (x.text == y.text)]) (by simp [wk, aBuiltin, AV.cells, AV.leaf, Nat.reduceEqDiff, Nat.reduceLT, Nat.reduceAdd, Nat.reduceLeDiff, reduceCtorEq, Nat.reduceMul, Nat.reduceMod, cfgP, u14, aResults, aResult, hlen]) (.still rfl) (by simp)
        · rw [if_neg h3]
          by_cases h5 : x.kind = 5
          · rw [if_pos h5]
            rw [← hk] at a1
            rw [h5] at a0 a1
            cases hke : x.keys == y.keys with
            | true =>
              rw [hke] at n1
              simp only [wk, aBuiltin, AV.cells, AV.leaf, Nat.reduceEqDiff, Nat.reduceLT, Nat.reduceAdd, Nat.reduceLeDiff, reduceCtorEq, Nat.reduceMul, Nat.reduceMod, cfgP, u14, hlen, a0, a1, hgA, l1, l2, l3, l4, i51, i52, i53, n1, n2, List.length_append]
              simp only [Bool.true_and]
              exact Fin_pure (l := [.bool (sameJs x.items y.items)]) (by simp [wk, aBuiltin, AV.cells, AV.leaf, Nat.reduceEqDiff, Nat.reduceLT, Nat.reduceAdd, Nat.reduceLeDiff, reduceCtorEq, Nat.reduceMul, Nat.reduceMod, cfgP, u14, aResults, aResult, hlen]) (.still rfl) (by simp)
            | false =>
              rw [hke] at n1
              simp only [wk, aBuiltin, AV.cells, AV.leaf, Nat.reduceEqDiff, Nat.reduceLT, Nat.reduceAdd, Nat.reduceLeDiff, reduceCtorEq, Nat.reduceMul, Nat.reduceMod, cfgP, u14, hlen, a0, a1, hgA, l1, l2, l3, l4, i51, i52, i53, n1, List.length_append]
              simp only [Bool.false_and]
              exact Fin_pure (l := [.bool false]) (by simp [wk, aBuiltin, AV.cells, AV.leaf, Nat.reduceEqDiff, Nat.reduceLT, Nat.reduceAdd, Nat.reduceLeDiff, reduceCtorEq, Nat.reduceMul, Nat.reduceMod, cfgP, u14, aResults, aResult, hlen]) (.still rfl) (by simp)
          · rw [if_neg h5]
            by_cases h4 : x.kind = 4
            · rw [if_pos h4]
              rw [← hk] at a1
              rw [h4] at a0 a1
              simp only [wk, aBuiltin, AV.cells, AV.leaf, Nat.reduceEqDiff, Nat.reduceLT, Nat.reduceAdd, Nat.reduceLeDiff, reduceCtorEq, Nat.reduceMul, Nat.reduceMod, cfgP, u14, hlen, a0, a1, hgA, l1, l2, l3, l4, i41, i42, i43, i45, n2, List.length_append]
              exact Fin_pure (l := [.bool (sameJs x.items y.items)]) (by simp [wk, aBuiltin, AV.cells, AV.leaf, Nat.reduceEqDiff, Nat.reduceLT, Nat.reduceAdd, Nat.reduceLeDiff, reduceCtorEq, Nat.reduceMul, Nat.reduceMod, cfgP, u14, aResults, aResult, hlen]) (.still rfl) (by simp)
            · rw [if_neg h4]
              rw [← hk] at a1
              simp only [wk, aBuiltin, AV.cells, AV.leaf, Nat.reduceEqDiff, Nat.reduceLT, Nat.reduceAdd, Nat.reduceLeDiff, reduceCtorEq, Nat.reduceMul, Nat.reduceMod, cfgP, u14, hlen, a0, a1, hgA, l1, l2, l3, l4, h1, h2, h3, h4, h5, List.length_append]
              exact Fin_pure (l := [.bool true]) (by simp [wk, aBuiltin, AV.cells, AV.leaf, Nat.reduceEqDiff, Nat.reduceLT, Nat.reduceAdd, Nat.reduceLeDiff, reduceCtorEq, Nat.reduceMul, Nat.reduceMod, cfgP, u14, aResults, aResult, hlen]) (.still rfl) (by simp)
  · rw [if_pos (by simpa using hk)]
    simp only [wk, aBuiltin, AV.cells, AV.leaf, Nat.reduceEqDiff, Nat.reduceLT, Nat.reduceAdd, Nat.reduceLeDiff, reduceCtorEq, Nat.reduceMul, Nat.reduceMod, cfgP, u14, hlen, a0, a1, hgA, l1, l2, l3, l4, hk, List.length_append]
    exact Fin_pure (l := [.bool false]) (by simp [wk, aBuiltin, AV.cells, AV.leaf, Nat.reduceEqDiff, Nat.reduceLT, Nat.reduceAdd, Nat.reduceLeDiff, reduceCtorEq, Nat.reduceMul, Nat.reduceMod, cfgP, u14, aResults, aResult, hlen]) (.still rfl) (by simp)
mutual
theorem sameJ_refl : ∀ (x : JV), sameJ x x = true
  | .mk k i n t tag l kt ks => by
    simp only [sameJ, JV.kind, JV.is, JV.n, JV.text, JV.keys, JV.items, sameJs_refl l, ne_eq, not_true_eq_false, if_false, beq_self_eq_true, decide_true, Bool.and_self, ite_self]
theorem sameJs_refl : ∀ (l : List JV), sameJs l l = true
  | [] => rfl
  | x :: l => by simp only [sameJs, sameJ_refl x, sameJs_refl l, Bool.and_self]
end
theorem Fit.le {m n : Nat} {x : JV} (h : Fit m x) (hmn : m ≤ n) : Fit n x := by
  induction h with
  | mk x h1 h2 h3 ih => exact .mk x (by omega) (by omega) ih
theorem depthJs_le {d : Nat} : ∀ {l : List JV}, (∀ y ∈ l, depthJ y ≤ d) → depthJs l ≤ d
  | [], _ => by simp [depthJs]
  | x :: l, h => by
    rw [depthJs]
    have h1 := h x (by simp)
    have h2 := depthJs_le (l := l) fun y hy => h y (by simp [hy])
    omega
end Go.Proofs.YtimbhlbkidmplaaDoor
/- What is common to the laws on values that were read. -/
namespace Go.Proofs.YtimbhlbkidmplaaDoor
open Go Go.Abs AbsSeat Ty

theorem Fit.of {s : List UInt8} {d : Int} {k : Nat} {v : JV} (h : VOk s d k v) (hl : s.length ≤ 400000) : Fit 1000000 v := h.fit.le (by omega)
theorem zeroJ_fit (m : Nat) : Fit m zeroJ := .mk _ (by simp [zeroJ, JV.items]) (by simp [zeroJ, JV.keys]) (by simp [zeroJ, JV.items])
theorem parseJ_fit (s : List UInt8) (d : Int) (hl : s.length ≤ 400000) : Fit 1000000 (parseJ s d).1 := by
  obtain ⟨h1, h2, -⟩ := parseJ_ok s d
  by_cases h : (parseJ s d).2.2 = 0
  · exact Fit.of (h1 h).1 hl
  · rw [h2 h]; exact zeroJ_fit _
/-- a text that is cut. -/
theorem cut_str (s0 : List UInt8) (n : Nat) : ∃ s : List UInt8, s.length ≤ n ∧ ((decide ((n : Int) < (s0.length : Int)) = true ∧ aSlice Tryd.prog 9 (.str s0) none (some (.int .i64 n)) none = some (.str s)) ∨ (decide ((n : Int) < (s0.length : Int)) = false ∧ s = s0)) := by
  by_cases h : (n : Int) < (s0.length : Int)
  · exact ⟨s0.take n, by simp; omega, .inl ⟨decide_eq_true h, str_upto (b := n) Tryd.underlying9 s0 (by omega)⟩⟩
  · exact ⟨s0, by omega, .inr ⟨decide_eq_false h, rfl⟩⟩
end Go.Proofs.YtimbhlbkidmplaaDoor
/- Chapter 6: the law on the shape of a value that was read, walked. -/
namespace Go.Proofs.YtimbhlbkidmplaaDoor
open Go Go.Abs AbsSeat Ty

theorem u4 : type_of% (And.intro (show tagT Tryd.prog 25 = 0 from by kernel_rfl) (And.intro ag3 (And.intro sz3 (And.intro by3 (And.intro ze3 (And.intro Tryd.underlying3 (And.intro ag9 (And.intro sz9 (And.intro by9 (And.intro ze9 (And.intro Tryd.underlying9 (And.intro ag22 (And.intro sz22 (And.intro by22 (And.intro se22 (And.intro ze22 (And.intro Tryd.underlying22 (And.intro ag23 (And.intro sz23 (And.intro by23 (And.intro se23 (And.intro ze23 (And.intro Tryd.underlying23 (And.intro ag25 (And.intro sz25 (And.intro by25 (And.intro ze25 (And.intro bu25 (And.intro Tryd.underlying25 (And.intro ag33 (And.intro sz33 (And.intro by33 (And.intro ze33 (And.intro Tryd.underlying33 (And.intro fa25_0 (And.intro fd25_0 (And.intro fa25_4 (And.intro fd25_4 (And.intro fa25_5 fd25_5))))))))))))))))))))))))))))))))))))))) := And.intro (show tagT Tryd.prog 25 = 0 from by kernel_rfl) (And.intro ag3 (And.intro sz3 (And.intro by3 (And.intro ze3 (And.intro Tryd.underlying3 (And.intro ag9 (And.intro sz9 (And.intro by9 (And.intro ze9 (And.intro Tryd.underlying9 (And.intro ag22 (And.intro sz22 (And.intro by22 (And.intro se22 (And.intro ze22 (And.intro Tryd.underlying22 (And.intro ag23 (And.intro sz23 (And.intro by23 (And.intro se23 (And.intro ze23 (And.intro Tryd.underlying23 (And.intro ag25 (And.intro sz25 (And.intro by25 (And.intro ze25 (And.intro bu25 (And.intro Tryd.underlying25 (And.intro ag33 (And.intro sz33 (And.intro by33 (And.intro ze33 (And.intro Tryd.underlying33 (And.intro fa25_0 (And.intro fd25_0 (And.intro fa25_4 (And.intro fd25_4 (And.intro fa25_5 fd25_5))))))))))))))))))))))))))))))))))))))
def g4 : Code :=
  .seq (.region 0 #[q 4 (.assign (.const (.bool false))) 4] false) (.seq (.seq (.region 1 #[q 8 (.move (.tmp 0)) 9, q 9 (bi .len #[.tmp 8] #[9]) 3, q 10 (.binOp .gtr 3 (.tmp 9) (ik 150) 3) 4] false) (.cond (.tmp 10) (.region 2 #[q 11 (.move (.tmp 0)) 9, q 12 (.slice 9 (.tmp 11) none (some (ik 150)) none) 9, q 0 (.assign (.tmp 12)) 9] false) .skip)) (.seq (.region 3 #[q 14 (.move (.tmp 0)) 9, q 15 (.move (.tmp 1)) 3, q 16 (cl 13 #[.tmp 14, .tmp 15] #[9, 3]) 34, q 13 (.move (.tmp 16)) 34, q 17 (.extract (.tmp 13) 0) 25, q 18 (.extract (.tmp 13) 1) 3, q 19 (.extract (.tmp 13) 2) 33, q 5 (.alloc 25) 0, qn (.store 25 (.tmp 5) (.tmp 17)) 0, q 6 (.assign (.tmp 18)) 3, q 7 (.assign (.tmp 19)) 33] false) (.seq (.seq (.region 4 #[q 20 (.move (.tmp 7)) 33, q 21 (.binOp .neq 33 (.tmp 20) (ik 0) 33) 4] false) (.cond (.tmp 21) (.seq (.region 5 #[q 22 (.move (.tmp 6)) 3, q 23 (.binOp .geq 3 (.tmp 22) (ik 0) 3) 4, q 24 (.move (.tmp 23)) 4, qg 25 (.move (.tmp 6)) 3 2 true, qg 26 (.move (.tmp 0)) 9 2 true, qg 27 (bi .len #[.tmp 26] #[9]) 3 2 true, qg 28 (.binOp .leq 3 (.tmp 25) (.tmp 27) 3) 4 2 true, q 29 (.pick (.tmp 24) (.tmp 28) (.const (.bool false))) 4, q 30 (.move (.tmp 29)) 4, qg 31 (.load 25 (.tmp 5)) 25 8 true, qg 32 (.build 25 #[]) 25 8 true, qg 33 (cl 14 #[.tmp 31, .tmp 32] #[25, 25]) 4 8 true, q 34 (.pick (.tmp 30) (.tmp 33) (.const (.bool false))) 4, q 35 (.move (.tmp 34)) 4, qg 36 (cl 12 #[] #[]) 4 13 true, q 37 (.pick (.tmp 35) (.tmp 36) (.const (.bool false))) 4, q 4 (.assign (.tmp 37)) 4] false) .ret) .skip)) (.seq (.region 6 #[q 38 (.move (.tmp 6)) 3, q 39 (.move (.tmp 0)) 9, q 40 (bi .len #[.tmp 39] #[9]) 3, q 41 (.binOp .eql 3 (.tmp 38) (.tmp 40) 3) 4, q 42 (.move (.tmp 41)) 4, qg 43 (.move (.tmp 1)) 3 4 true, qg 44 (.binOp .lss 3 (.tmp 43) (ik 0) 3) 4 4 true, qg 45 (.move (.tmp 44)) 4 4 true, qg 46 (.load 25 (.tmp 5)) 25 7 false, qg 47 (cl 11 #[.tmp 46] #[25]) 3 7 false, qg 48 (.move (.tmp 1)) 3 7 false, qg 49 (.binOp .leq 3 (.tmp 47) (.tmp 48) 3) 4 7 false, qg 50 (.pick (.tmp 45) (.const (.bool true)) (.tmp 49)) 4 4 true, q 51 (.pick (.tmp 42) (.tmp 50) (.const (.bool false))) 4, q 52 (.move (.tmp 51)) 4, qg 53 (.load 25 (.tmp 5)) 25 14 true, qg 54 (cl 11 #[.tmp 53] #[25]) 3 14 true, qg 55 (.binOp .leq 3 (.tmp 54) (ik 16) 3) 4 14 true, q 56 (.pick (.tmp 52) (.tmp 55) (.const (.bool false))) 4, q 57 (.move (.tmp 56)) 4, qg 58 (.load 25 (.tmp 5)) 25 19 true, qg 59 (cl 15 #[.tmp 58] #[25]) 4 19 true, q 60 (.pick (.tmp 57) (.tmp 59) (.const (.bool false))) 4, q 61 (.move (.tmp 60)) 4, qg 62 (cl 12 #[] #[]) 4 23 true, q 63 (.pick (.tmp 61) (.tmp 62) (.const (.bool false))) 4, q 4 (.assign (.tmp 63)) 4] false) .ret))))
theorem s4 : Tryd.f4.body.map (slim cfg) = some g4 := by kernel_rfl
def g15 : Code :=
  .seq (.region 0 #[q 1 (.box 25 (.tmp 0)) 0, q 2 (.assign (.const (.bool false))) 4] false) (.seq (.seq (.region 1 #[q 9 (.fieldAddr 25 (.tmp 1) 0) 0, q 10 (.load 3 (.tmp 9)) 3, q 11 (.binOp .eql 3 (.tmp 10) (ik 5) 3) 4, q 12 (.move (.tmp 11)) 4, qg 13 (.fieldAddr 25 (.tmp 1) 5) 0 3 true, qg 14 (.load 23 (.tmp 13)) 23 3 true, qg 15 (bi .len #[.tmp 14] #[23]) 3 3 true, qg 16 (.fieldAddr 25 (.tmp 1) 4) 0 3 true, qg 17 (.load 22 (.tmp 16)) 22 3 true, qg 18 (bi .len #[.tmp 17] #[22]) 3 3 true, qg 19 (.binOp .neq 3 (.tmp 15) (.tmp 18) 3) 4 3 true, q 20 (.pick (.tmp 12) (.tmp 19) (.const (.bool false))) 4] false) (.cond (.tmp 20) (.seq (.region 2 #[q 2 (.assign (.const (.bool false))) 4] false) .ret) .skip)) (.seq (.seq (.region 3 #[q 21 (.fieldAddr 25 (.tmp 1) 5) 0, q 22 (.load 23 (.tmp 21)) 23, q 23 (bi .len #[.tmp 22] #[23]) 3, q 24 (.move (ik 0)) 3] false) (.block 0 (.loop (.seq (.region 4 #[q 25 (.binOp .lss 3 (.tmp 24) (.tmp 23) 3) 0] false) (.seq (.cond (.tmp 25) .skip (.exit 0)) (.seq (.block 1 (.seq (.region 5 #[q 26 (.move (.tmp 24)) 3, q 27 (.indexAddr 23 (.tmp 22) (.tmp 24)) 0, q 28 (.load 9 (.tmp 27)) 9, q 3 (.assign (.tmp 26)) 3, q 4 (.assign (.tmp 28)) 9] false) (.seq (.region 6 #[q 29 (.fieldAddr 25 (.tmp 1) 5) 0, q 30 (.load 23 (.tmp 29)) 23, q 31 (.move (.tmp 3)) 3, q 32 (.slice 23 (.tmp 30) none (some (.tmp 31)) none) 23, q 33 (bi .len #[.tmp 32] #[23]) 3, q 34 (.move (ik 0)) 3] false) (.block 2 (.loop (.seq (.region 7 #[q 35 (.binOp .lss 3 (.tmp 34) (.tmp 33) 3) 0] false) (.seq (.cond (.tmp 35) .skip (.exit 2)) (.seq (.block 3 (.seq (.region 8 #[q 36 (.indexAddr 23 (.tmp 32) (.tmp 34)) 0, q 37 (.load 9 (.tmp 36)) 9, q 6 (.assign (.tmp 37)) 9] false) (.seq (.region 9 #[q 38 (.move (.tmp 6)) 9, q 39 (.move (.tmp 4)) 9, q 40 (.binOp .eql 9 (.tmp 38) (.tmp 39) 9) 4] false) (.cond (.tmp 40) (.seq (.region 10 #[q 2 (.assign (.const (.bool false))) 4] false) .ret) .skip)))) (.region 11 #[q 41 (.binOp .add 3 (.tmp 34) (ik 1) 3) 3, q 34 (.move (.tmp 41)) 3] false))))))))) (.region 12 #[q 42 (.binOp .add 3 (.tmp 24) (ik 1) 3) 3, q 24 (.move (.tmp 42)) 3] false))))))) (.seq (.seq (.region 13 #[q 43 (.fieldAddr 25 (.tmp 1) 4) 0, q 44 (.load 22 (.tmp 43)) 22, q 45 (bi .len #[.tmp 44] #[22]) 3, q 46 (.move (ik 0)) 3] false) (.block 4 (.loop (.seq (.region 14 #[q 47 (.binOp .lss 3 (.tmp 46) (.tmp 45) 3) 0] false) (.seq (.cond (.tmp 47) .skip (.exit 4)) (.seq (.block 5 (.seq (.region 15 #[q 48 (.indexAddr 22 (.tmp 44) (.tmp 46)) 0, q 49 (.load 25 (.tmp 48)) 25, q 8 (.alloc 25) 0, qn (.store 25 (.tmp 8) (.tmp 49)) 0] false) (.seq (.region 16 #[q 50 (.load 25 (.tmp 8)) 25, q 51 (cl 15 #[.tmp 50] #[25]) 4, q 52 (.unOp .not 4 (.tmp 51)) 4] false) (.cond (.tmp 52) (.seq (.region 17 #[q 2 (.assign (.const (.bool false))) 4] false) .ret) .skip)))) (.region 18 #[q 53 (.binOp .add 3 (.tmp 46) (ik 1) 3) 3, q 46 (.move (.tmp 53)) 3] false))))))) (.seq (.region 19 #[q 2 (.assign (.const (.bool true))) 4] false) .ret))))
theorem s15 : Tryd.f15.body.map (slim cfg) = some g15 := by kernel_rfl
theorem slice_upto {α : Type} {enc : α → AV} {P : Program} {t e : TypeId} {sz : Nat} {k : IntKind} {v : AV} {l : List α} (hu : P.underlying t = some (.slice e)) (hs : sizeT P e = some sz) (he : ∀ x, (enc x).cells.length = sz) (h : Sl enc v l) {i : Nat} (hi : i ≤ l.length) :
    ∃ z, aSlice P t v none (some (.int k i)) none = some z ∧ Sl enc z (l.take i) := by
  cases h with
  | nil =>
    obtain rfl : i = 0 := by simpa using hi
    exact ⟨.nilS, by simp [aSlice, hu, hs, aBounds, optInt, asNat], .nil⟩
  | vs l full =>
    refine ⟨.vs ((l.map enc).take i) (fullOf full i (l.map enc).length none), ?_, by rw [← List.map_take]; exact .vs _ _⟩
    have hall : ((l.map enc).all fun v => v.cells.length == sz) = true := by simp [he]
    simp only [aSlice, hu, hs, Option.bind_some, hall, if_true]
    simp [aBounds, optInt, asNat, hi]

theorem once_ok : ∀ (x : JV), Fit 1000000 x → Once x → ∀ (prot : Nat) (H : Heap), prot ≤ H.length → aLim cfg prot 15 [encJ x] H = some (.bool true, none) := by
  intro x
  induction hn : SizeOf.sizeOf x using Nat.strongRecOn generalizing x with
  | _ k IH =>
  subst hn
  intro hfit honce prot H hp
  have hsnap : snap H [encJ x] = some ([encJ x], false) := by rw [encJ_snap]; rfl
  have hfi := hfit.items
  have hfk := hfit.keys
  obtain ⟨_, o1, o2, o3⟩ := honce
  have l1 := x.iv_leaf
  have l2 := x.kv_leaf
  unfold AV.leaf at l1 l2
  have hgA : ∀ (A : List AV), hget (H ++ [Blk.cells 0 A]) H.length 0 = some A := fun A => by rw [hget_new rfl, if_pos rfl]
  have hl1 : ∀ B : Blk, (H ++ [B]).length = H.length + 1 := fun B => by simp
  have hlk : ∀ K, aLen Tryd.prog K 23 x.kv = some (.int .i64 x.keys.length) := fun K => x.kv_sl.len Tryd.underlying23
  have hli : ∀ K, aLen Tryd.prog K 22 x.iv = some (.int .i64 x.items.length) := fun K => x.iv_sl.len Tryd.underlying22
  refine pure_slim rfl (by kernel_rfl) Tryd.func15 s15 hp hsnap (by simp [Tryd.f15]) fun fr hlen h => ?_
  simp only [Has, Nat.zero_add] at h
  obtain ⟨a0, -⟩ := h
  simp only [Tryd.f15] at hlen ⊢
  unfold g15
  rw [encJ_eq] at a0
  by_cases h5 : x.kind = 5
  case' pos =>
    have d5 : decide (x.kind = 5) = true := decide_eq_true h5
    have d6 : decide (¬ (x.keys.length : Int) = (x.items.length : Int)) = false := by rw [o1 h5]; simp
    simp only [wk, aBuiltin, AV.cells, AV.leaf, Nat.reduceEqDiff, Nat.reduceLT, Nat.reduceAdd, Nat.reduceLeDiff, reduceCtorEq, Nat.reduceMul, Nat.reduceMod, cfgP, u4, hlen, a0, l1, l2, hgA, d5, d6, hlk, hli, x.iv_cells, x.kv_cells]
  case' neg =>
    have d5 : decide (x.kind = 5) = false := decide_eq_false h5
    simp only [wk, aBuiltin, AV.cells, AV.leaf, Nat.reduceEqDiff, Nat.reduceLT, Nat.reduceAdd, Nat.reduceLeDiff, reduceCtorEq, Nat.reduceMul, Nat.reduceMod, cfgP, u4, hlen, a0, l1, l2, hgA, d5, hlk, hli, none_beq, x.iv_cells, x.kv_cells]
  all_goals
    refine loop_rule (fun m fr K => ∃ (i : Nat), m = x.keys.length - i ∧ i ≤ x.keys.length ∧ fr.length = 54 ∧ fget fr 1 = .ptr H.length 0 0 ∧ fget fr 22 = x.kv ∧ fget fr 23 = .int .i64 x.keys.length ∧ fget fr 24 = .int .i64 i ∧ K = H ++ [Blk.cells 0 [.int .i64 x.kind, .bool x.is, .int .i64 x.n, .str x.text, x.iv, x.kv]]) ?_ x.keys.length _ _ ⟨0, by simp [wk, aBuiltin, AV.cells, AV.leaf, Nat.reduceEqDiff, Nat.reduceLT, Nat.reduceAdd, Nat.reduceLeDiff, reduceCtorEq, Nat.reduceMul, Nat.reduceMod, cfgP, u4, hlen]⟩
    rintro m fr K ⟨i, rfl, hi, hlen, a1, a22, a23, a24, rfl⟩ ih
    simp only [wk, aBuiltin, AV.cells, AV.leaf, Nat.reduceEqDiff, Nat.reduceLT, Nat.reduceAdd, Nat.reduceLeDiff, reduceCtorEq, Nat.reduceMul, Nat.reduceMod, cfgP, u4, hlen, a1, a22, a23, a24]
    refine RC_split (fun h => ?_) (fun h => ?_)
    · have hlt : i < x.keys.length := by simpa using h
      have e1 := x.kv_sl.at (k := .i64) Tryd.underlying23 sz9 strLen hlt
      obtain ⟨z, hz1, hz2⟩ := slice_upto (k := .i64) Tryd.underlying23 sz9 strLen x.kv_sl (i := i) (by omega)
      have hlz : ∀ K, aLen Tryd.prog K 23 z = some (.int .i64 i) := fun K => by have := hz2.len (P := Tryd.prog) (H := K) Tryd.underlying23; rw [this]; simp; omega
      have hwi : IntKind.i64.wrap ((i : Int) + 1) = ((i + 1 : Nat) : Int) := by rw [wrap64 (by omega) (by omega)]; simp
      simp only [wk, aBuiltin, AV.cells, AV.leaf, Nat.reduceEqDiff, Nat.reduceLT, Nat.reduceAdd, Nat.reduceLeDiff, reduceCtorEq, Nat.reduceMul, Nat.reduceMod, cfgP, u4, hlen, a1, a22, a23, a24, e1, hgA, hz1, hlz]
      refine loop_rule (fun m fr K => ∃ (j : Nat), m = i - j ∧ j ≤ i ∧ fr.length = 54 ∧ fget fr 1 = .ptr H.length 0 0 ∧ fget fr 22 = x.kv ∧ fget fr 23 = .int .i64 x.keys.length ∧ fget fr 24 = .int .i64 i ∧ fget fr 4 = .str x.keys[i] ∧ fget fr 32 = z ∧ fget fr 33 = .int .i64 i ∧ fget fr 34 = .int .i64 j ∧ K = H ++ [Blk.cells 0 [.int .i64 x.kind, .bool x.is, .int .i64 x.n, .str x.text, x.iv, x.kv]]) ?_ i _ _ ⟨0, by simp [wk, aBuiltin, AV.cells, AV.leaf, Nat.reduceEqDiff, Nat.reduceLT, Nat.reduceAdd, Nat.reduceLeDiff, reduceCtorEq, Nat.reduceMul, Nat.reduceMod, cfgP, u4, hlen, a1, a22, a23, a24]⟩
      rintro m fr K ⟨j, rfl, hj, hlen, a1, a22, a23, a24, a4, a32, a33, a34, rfl⟩ ih2
      simp only [wk, aBuiltin, AV.cells, AV.leaf, Nat.reduceEqDiff, Nat.reduceLT, Nat.reduceAdd, Nat.reduceLeDiff, reduceCtorEq, Nat.reduceMul, Nat.reduceMod, cfgP, u4, hlen, a1, a22, a23, a24, a32, a33, a34]
      refine RC_split (fun h => ?_) (fun h => ?_)
      · have hjt : j < i := by simpa using h
        have hjl : j < (x.keys.take i).length := by simp; omega
        have e2 := hz2.at (k := .i64) Tryd.underlying23 sz9 strLen hjl
        have hne : ((x.keys.take i)[j] == x.keys[i]) = false := by
          rw [List.getElem_take]
          simp only [beq_eq_false_iff_ne]
          intro e
          have := (List.getElem_inj o2).1 e
          omega
        have hwj : IntKind.i64.wrap ((j : Int) + 1) = ((j + 1 : Nat) : Int) := by rw [wrap64 (by omega) (by omega)]; simp
        have hcmp := str_eql (x.keys.take i)[j] x.keys[i]
        rw [hne] at hcmp
        simp only [wk, aBuiltin, AV.cells, AV.leaf, Nat.reduceEqDiff, Nat.reduceLT, Nat.reduceAdd, Nat.reduceLeDiff, reduceCtorEq, Nat.reduceMul, Nat.reduceMod, cfgP, u4, hlen, a1, a22, a23, a24, a4, a32, a33, a34, e2, hcmp, hwj]
        exact ih2 _ _ (i - (j + 1)) (by omega) ⟨j + 1, rfl, hjt, by simp [wk, aBuiltin, AV.cells, AV.leaf, Nat.reduceEqDiff, Nat.reduceLT, Nat.reduceAdd, Nat.reduceLeDiff, reduceCtorEq, Nat.reduceMul, Nat.reduceMod, cfgP, u4, hlen, a1, a22, a23, a24, a4, a32, a33]⟩
      · simp only [wk, aBuiltin, AV.cells, AV.leaf, Nat.reduceEqDiff, Nat.reduceLT, Nat.reduceAdd, Nat.reduceLeDiff, reduceCtorEq, Nat.reduceMul, Nat.reduceMod, cfgP, u4, hlen, a1, a22, a23, a24, hwi]
        exact ih _ _ (x.keys.length - (i + 1)) (by omega) ⟨i + 1, rfl, hlt, by simp [wk, aBuiltin, AV.cells, AV.leaf, Nat.reduceEqDiff, Nat.reduceLT, Nat.reduceAdd, Nat.reduceLeDiff, reduceCtorEq, Nat.reduceMul, Nat.reduceMod, cfgP, u4, hlen, a1, a22, a23]⟩
    · simp only [wk, aBuiltin, AV.cells, AV.leaf, Nat.reduceEqDiff, Nat.reduceLT, Nat.reduceAdd, Nat.reduceLeDiff, reduceCtorEq, Nat.reduceMul, Nat.reduceMod, cfgP, u4, hlen, a1, a22, a23, a24, hgA, hli]
      refine loop_rule (fun m fr K => ∃ (i : Nat), m = x.items.length - i ∧ i ≤ x.items.length ∧ fr.length = 54 ∧ fget fr 44 = x.iv ∧ fget fr 45 = .int .i64 x.items.length ∧ fget fr 46 = .int .i64 i ∧ H.length ≤ K.length) ?_ x.items.length _ _ ⟨0, by simp [wk, aBuiltin, AV.cells, AV.leaf, Nat.reduceEqDiff, Nat.reduceLT, Nat.reduceAdd, Nat.reduceLeDiff, reduceCtorEq, Nat.reduceMul, Nat.reduceMod, cfgP, u4, hlen]⟩
      rintro m fr K ⟨i, rfl, hi, hlen, a44, a45, a46, hK⟩ ih
      simp only [wk, aBuiltin, AV.cells, AV.leaf, Nat.reduceEqDiff, Nat.reduceLT, Nat.reduceAdd, Nat.reduceLeDiff, reduceCtorEq, Nat.reduceMul, Nat.reduceMod, cfgP, u4, hlen, a44, a45, a46]
      refine RC_split (fun h => ?_) (fun h => ?_)
      · have hlt : i < x.items.length := by simpa using h
        have e1 := x.iv_sl.at (k := .i64) Tryd.underlying22 sz25 encJ_len hlt
        have hmem : x.items[i] ∈ x.items := List.getElem_mem hlt
        have hwi : IntKind.i64.wrap ((i : Int) + 1) = ((i + 1 : Nat) : Int) := by rw [wrap64 (by omega) (by omega)]; simp
        generalize hy : x.items[i] = y at *
        have n1 := fun (K : Heap) (hK : H.length ≤ K.length) => IH _ (size_mem hmem) y rfl (hfit.mem hmem) (o3 y hmem) H.length K hK
        have l1 := y.iv_leaf
        have l2 := y.kv_leaf
        unfold AV.leaf at l1 l2
        simp only [encJ_eq] at n1
        rw [encJ_eq] at e1
        simp only [wk, aBuiltin, AV.cells, AV.leaf, Nat.reduceEqDiff, Nat.reduceLT, Nat.reduceAdd, Nat.reduceLeDiff, reduceCtorEq, Nat.reduceMul, Nat.reduceMod, cfgP, u4, hlen, a44, a45, a46, e1, l1, l2, y.iv_cells, y.kv_cells, hK, n1, hwi, Nat.le_trans hK (Nat.le_add_right _ 1), List.length_append]
        refine ih _ _ (x.items.length - (i + 1)) (by omega) ⟨i + 1, rfl, hlt, ?_⟩
        simp [wk, aBuiltin, AV.cells, AV.leaf, Nat.reduceEqDiff, Nat.reduceLT, Nat.reduceAdd, Nat.reduceLeDiff, reduceCtorEq, Nat.reduceMul, Nat.reduceMod, cfgP, u4, hlen, a44, a45]
        omega
      · simp only [wk, aBuiltin, AV.cells, AV.leaf, Nat.reduceEqDiff, Nat.reduceLT, Nat.reduceAdd, Nat.reduceLeDiff, reduceCtorEq, Nat.reduceMul, Nat.reduceMod, cfgP, u4, hlen, a44, a45, a46]
        exact Fin_pure (l := [.bool true]) (by simp [wk, aBuiltin, AV.cells, AV.leaf, Nat.reduceEqDiff, Nat.reduceLT, Nat.reduceAdd, Nat.reduceLeDiff, reduceCtorEq, Nat.reduceMul, Nat.reduceMod, cfgP, u4, aResults, aResult, hlen]) (.still rfl) (by simp)

theorem shapeLaw_ok (s0 : List UInt8) (d : Int) (prot : Nat) (H : Heap) (hg0 : hget H 0 (gver 0) = some [ET]) (hp : prot ≤ H.length) :
    aLim cfg prot 4 [.str s0, .int .i64 d] H = some (.bool true, none) := by
  have hsnap : snap H [.str s0, .int .i64 d] = some ([.str s0, .int .i64 d], false) := rfl
  obtain ⟨s, hs, hcut⟩ := cut_str s0 150
  simp only [show ((150 : Nat) : Int) = 150 from rfl] at hcut
  have n1 := jparse_ok s (by omega) d H.length H hg0 (Nat.le_refl _)
  have n3 := fun K => awake_ok H.length K
  obtain ⟨c1, c2, c3⟩ := parseJ_ok s (min d 16)
  have hfit := parseJ_fit s (min d 16) (by omega)
  generalize parseJ s (min d 16) = A at *
  obtain ⟨v, at1, e⟩ := A
  dsimp only at *
  have hll : ∀ (B : Blk), H.length ≤ (H ++ [B]).length := fun B => by simp
  rw [encJ_eq] at n1
  have hlf : ([.int .i64 v.kind, .bool v.is, .int .i64 v.n, .str v.text, v.iv, v.kv] : List AV).all AV.leaf = true := by simp only [List.all_cons, List.all_nil, v.iv_leaf, v.kv_leaf]; rfl
  have p1 : Go.Abs.hput H.length (H ++ [Blk.cells 0 [.int .i64 0, .bool false, .int .i64 0, .str [], .nilS, .nilS]]) H.length 0 0 [.int .i64 v.kind, .bool v.is, .int .i64 v.n, .str v.text, v.iv, v.kv] = some (H ++ [Blk.cells 0 [.int .i64 v.kind, .bool v.is, .int .i64 v.n, .str v.text, v.iv, v.kv]]) := by
    rw [hput_new rfl (Nat.le_refl _) (by simp) hlf]; rfl
  have hl1 : ∀ B : Blk, (H ++ [B]).length = H.length + 1 := fun B => by simp
  have r1 : hget (H ++ [Blk.cells 0 [.int .i64 v.kind, .bool v.is, .int .i64 v.n, .str v.text, v.iv, v.kv]]) H.length 0 = some [.int .i64 v.kind, .bool v.is, .int .i64 v.n, .str v.text, v.iv, v.kv] := by rw [hget_new rfl, if_pos rfl]
  have hls : ∀ (K : Heap), aLen Tryd.prog K 9 (.str s0) = some (.int .i64 s0.length) := fun K => str_len Tryd.underlying9 s0 K
  have hls2 : ∀ (K : Heap), aLen Tryd.prog K 9 (.str s) = some (.int .i64 s.length) := fun K => str_len Tryd.underlying9 s K
  refine pure_slim rfl (by kernel_rfl) Tryd.func4 s4 hp hsnap (by simp [Tryd.f4]) fun fr hlen h => ?_
  simp only [Has, Nat.zero_add] at h
  obtain ⟨a0, a1, -⟩ := h
  simp only [Tryd.f4] at hlen ⊢
  unfold g4
  rcases hcut with ⟨hb, hsl⟩ | ⟨hb, hsl⟩
  · skip
    by_cases he : e = 0
    · have d1 : decide (¬ e = 0) = false := by simp [he]
      obtain ⟨⟨hvo, hat⟩, hle⟩ := (⟨c1 he, c3⟩ : _ ∧ _)
      have deq : decide ((at1 : Int) = (s.length : Int)) = true := decide_eq_true (by rw [hat])
      have hdep := hvo.deep
      have n4 := fun (K : Heap) (hK : H.length ≤ K.length) => depth_ok v (hfit.le (by omega)) (by omega) H.length K hK
      have n5 := fun (K : Heap) (hK : H.length ≤ K.length) => once_ok v hfit hvo.once H.length K hK
      have n4 := fun B => n4 (H ++ [B]) (hll B)
      have n5 := fun B => n5 (H ++ [B]) (hll B)
      rw [encJ_eq] at n4 n5
      have dd2 : decide ((depthJ v : Int) ≤ 16) = true := decide_eq_true (by omega)
      by_cases hd0 : d < 0
      · have dn : decide (d < 0) = true := decide_eq_true hd0
        simp only [wk, aBuiltin, AV.cells, AV.leaf, Nat.reduceEqDiff, Nat.reduceLT, Nat.reduceAdd, Nat.reduceLeDiff, reduceCtorEq, Nat.reduceMul, Nat.reduceMod, cfgP, u4, hlen, a0, a1, hls, hb, hsl, n1, hl1, p1, d1, deq, dn, dd2, hls2, r1, n4, n5, n3, none_beq]
        exact Fin_pure (l := [.bool true]) (by simp [wk, aBuiltin, AV.cells, AV.leaf, Nat.reduceEqDiff, Nat.reduceLT, Nat.reduceAdd, Nat.reduceLeDiff, reduceCtorEq, Nat.reduceMul, Nat.reduceMod, cfgP, u4, aResults, aResult, hlen]) (.still rfl) (by simp)
      · have dn : decide (d < 0) = false := decide_eq_false hd0
        have dd1 : decide ((depthJ v : Int) ≤ d) = true := decide_eq_true (by omega)
        simp only [wk, aBuiltin, AV.cells, AV.leaf, Nat.reduceEqDiff, Nat.reduceLT, Nat.reduceAdd, Nat.reduceLeDiff, reduceCtorEq, Nat.reduceMul, Nat.reduceMod, cfgP, u4, hlen, a0, a1, hls, hb, hsl, n1, hl1, p1, d1, deq, dn, dd1, dd2, hls2, r1, n4, n5, n3]
        exact Fin_pure (l := [.bool true]) (by simp [wk, aBuiltin, AV.cells, AV.leaf, Nat.reduceEqDiff, Nat.reduceLT, Nat.reduceAdd, Nat.reduceLeDiff, reduceCtorEq, Nat.reduceMul, Nat.reduceMod, cfgP, u4, aResults, aResult, hlen]) (.still rfl) (by simp)
    · have d1 : decide (¬ e = 0) = true := decide_eq_true he
      have hz := c2 he
      subst hz
      have n4 := fun (K : Heap) (hK : H.length ≤ K.length) => same_ok zeroJ (zeroJ_fit _) zeroJ H.length K hK
      have n4 := fun B => n4 (H ++ [B]) (hll B)
      rw [sameJ_refl] at n4
      have dge : decide ((at1 : Int) ≥ 0) = true := decide_eq_true (by omega)
      have dle : decide ((at1 : Int) ≤ (s.length : Int)) = true := decide_eq_true (by omega)
      simp only [encJ_eq, zeroJ, JV.kind, JV.is, JV.n, JV.text, JV.iv, JV.kv, JV.tag, JV.items, JV.ktag, JV.keys, tg, List.map_nil] at n1 n4 p1 r1
      simp only [wk, aBuiltin, AV.cells, AV.leaf, Nat.reduceEqDiff, Nat.reduceLT, Nat.reduceAdd, Nat.reduceLeDiff, reduceCtorEq, Nat.reduceMul, Nat.reduceMod, cfgP, u4, hlen, a0, a1, hls, hb, hsl, n1, hl1, p1, d1, dge, dle, hls2, r1, n4, n3]
      exact Fin_pure (l := [.bool true]) (by simp [wk, aBuiltin, AV.cells, AV.leaf, Nat.reduceEqDiff, Nat.reduceLT, Nat.reduceAdd, Nat.reduceLeDiff, reduceCtorEq, Nat.reduceMul, Nat.reduceMod, cfgP, u4, aResults, aResult, hlen]) (.still rfl) (by simp)
  · subst hsl
    have hsl := hb
    by_cases he : e = 0
    · have d1 : decide (¬ e = 0) = false := by simp [he]
      obtain ⟨⟨hvo, hat⟩, hle⟩ := (⟨c1 he, c3⟩ : _ ∧ _)
      have deq : decide ((at1 : Int) = (s.length : Int)) = true := decide_eq_true (by rw [hat])
      have hdep := hvo.deep
      have n4 := fun (K : Heap) (hK : H.length ≤ K.length) => depth_ok v (hfit.le (by omega)) (by omega) H.length K hK
      have n5 := fun (K : Heap) (hK : H.length ≤ K.length) => once_ok v hfit hvo.once H.length K hK
      have n4 := fun B => n4 (H ++ [B]) (hll B)
      have n5 := fun B => n5 (H ++ [B]) (hll B)
      rw [encJ_eq] at n4 n5
      have dd2 : decide ((depthJ v : Int) ≤ 16) = true := decide_eq_true (by omega)
      by_cases hd0 : d < 0
      · have dn : decide (d < 0) = true := decide_eq_true hd0
        simp only [wk, aBuiltin, AV.cells, AV.leaf, Nat.reduceEqDiff, Nat.reduceLT, Nat.reduceAdd, Nat.reduceLeDiff, reduceCtorEq, Nat.reduceMul, Nat.reduceMod, cfgP, u4, hlen, a0, a1, hls, hb, hsl, n1, hl1, p1, d1, deq, dn, dd2, hls2, r1, n4, n5, n3, none_beq]
        exact Fin_pure (l := [.bool true]) (by simp [wk, aBuiltin, AV.cells, AV.leaf, Nat.reduceEqDiff, Nat.reduceLT, Nat.reduceAdd, Nat.reduceLeDiff, reduceCtorEq, Nat.reduceMul, Nat.reduceMod, cfgP, u4, aResults, aResult, hlen]) (.still rfl) (by simp)
      · have dn : decide (d < 0) = false := decide_eq_false hd0
        have dd1 : decide ((depthJ v : Int) ≤ d) = true := decide_eq_true (by omega)
        simp only [wk, aBuiltin, AV.cells, AV.leaf, Nat.reduceEqDiff, Nat.reduceLT, Nat.reduceAdd, Nat.reduceLeDiff, reduceCtorEq, Nat.reduceMul, Nat.reduceMod, cfgP, u4, hlen, a0, a1, hls, hb, hsl, n1, hl1, p1, d1, deq, dn, dd1, dd2, hls2, r1, n4, n5, n3]
        exact Fin_pure (l := [.bool true]) (by simp [wk, aBuiltin, AV.cells, AV.leaf, Nat.reduceEqDiff, Nat.reduceLT, Nat.reduceAdd, Nat.reduceLeDiff, reduceCtorEq, Nat.reduceMul, Nat.reduceMod, cfgP, u4, aResults, aResult, hlen]) (.still rfl) (by simp)
    · have d1 : decide (¬ e = 0) = true := decide_eq_true he
      have hz := c2 he
      subst hz
      have n4 := fun (K : Heap) (hK : H.length ≤ K.length) => same_ok zeroJ (zeroJ_fit _) zeroJ H.length K hK
      have n4 := fun B => n4 (H ++ [B]) (hll B)
      rw [sameJ_refl] at n4
      have dge : decide ((at1 : Int) ≥ 0) = true := decide_eq_true (by omega)
      have dle : decide ((at1 : Int) ≤ (s.length : Int)) = true := decide_eq_true (by omega)
      simp only [encJ_eq, zeroJ, JV.kind, JV.is, JV.n, JV.text, JV.iv, JV.kv, JV.tag, JV.items, JV.ktag, JV.keys, tg, List.map_nil] at n1 n4 p1 r1
      simp only [wk, aBuiltin, AV.cells, AV.leaf, Nat.reduceEqDiff, Nat.reduceLT, Nat.reduceAdd, Nat.reduceLeDiff, reduceCtorEq, Nat.reduceMul, Nat.reduceMod, cfgP, u4, hlen, a0, a1, hls, hb, hsl, n1, hl1, p1, d1, dge, dle, hls2, r1, n4, n3]
      exact Fin_pure (l := [.bool true]) (by simp [wk, aBuiltin, AV.cells, AV.leaf, Nat.reduceEqDiff, Nat.reduceLT, Nat.reduceAdd, Nat.reduceLeDiff, reduceCtorEq, Nat.reduceMul, Nat.reduceMod, cfgP, u4, aResults, aResult, hlen]) (.still rfl) (by simp)
end Go.Proofs.YtimbhlbkidmplaaDoor
/- The law JvalShape on what came in. -/
namespace Go.Proofs.YtimbhlbkidmplaaDoor.jvalShape
open Go Go.Abs AbsSeat Ty
theorem abs (xs : List AV) (h : HasTs Tryd.prog Tryd.f4.params.toList xs) : ∃ k H', aCall cfg k 1 4 xs H0 = some (.bool true, H') := by
  rw [Tryd.params4] at h
  obtain ⟨x0, r0, rfl, h0, h⟩ := h.inv
  obtain ⟨x1, r1, rfl, h1, h⟩ := h.inv
  obtain rfl := h.done
  obtain ⟨s, rfl, -⟩ := h0.str Tryd.underlying9
  obtain ⟨d, rfl, -⟩ := h1.int Tryd.underlying3
  exact lim_call (shapeLaw_ok s d 1 H0 rfl (by decide))
end Go.Proofs.YtimbhlbkidmplaaDoor.jvalShape
