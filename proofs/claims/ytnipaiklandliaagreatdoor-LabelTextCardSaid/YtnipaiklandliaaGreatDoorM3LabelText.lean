import Derived.Test.YtnipaiklandliaaGreatDoorM2LabelText
import Derived.Test.YtnipaiklandliaaGreatDoorAbsTy
import Derived.Test.YtnipaiklandliaaGreatDoorAbsMore
/-! Part 3 of the proof of LabelText: the texts Jt3 Jt4 Pp Jt5 Jt7 Rt1 Lt1 Eq1 Jt8 Aw14. -/
set_option linter.unusedSimpArgs false
/- utf.Put, utf.Pair, HasPrefix, walked. -/
namespace Go.Proofs.YtnipaiklandliaaGreatDoor
open Go Go.Abs AbsSeat Ty

theorem u197 : type_of% (And.intro (fun (K : Heap) (n : Int) => conv_int Tryz.underlying21 Tryz.underlying5 K n) (And.intro ag3 (And.intro sz3 (And.intro by3 (And.intro ze3 (And.intro Tryz.underlying3 (And.intro ag5 (And.intro sz5 (And.intro by5 (And.intro ze5 (And.intro Tryz.underlying5 (And.intro ag9 (And.intro sz9 (And.intro by9 (And.intro ze9 (And.intro Tryz.underlying9 (And.intro ag21 (And.intro sz21 (And.intro by21 (And.intro ze21 (And.intro Tryz.underlying21 (And.intro ag72 (And.intro sz72 (And.intro by72 (And.intro se72 (And.intro ze72 (And.intro Tryz.underlying72 (And.intro ag116 (And.intro sz116 (And.intro by116 (And.intro ze116 Tryz.underlying116))))))))))))))))))))))))))))))) := And.intro (fun (K : Heap) (n : Int) => conv_int Tryz.underlying21 Tryz.underlying5 K n) (And.intro ag3 (And.intro sz3 (And.intro by3 (And.intro ze3 (And.intro Tryz.underlying3 (And.intro ag5 (And.intro sz5 (And.intro by5 (And.intro ze5 (And.intro Tryz.underlying5 (And.intro ag9 (And.intro sz9 (And.intro by9 (And.intro ze9 (And.intro Tryz.underlying9 (And.intro ag21 (And.intro sz21 (And.intro by21 (And.intro ze21 (And.intro Tryz.underlying21 (And.intro ag72 (And.intro sz72 (And.intro by72 (And.intro se72 (And.intro ze72 (And.intro Tryz.underlying72 (And.intro ag116 (And.intro sz116 (And.intro by116 (And.intro ze116 Tryz.underlying116))))))))))))))))))))))))))))))
def g197 : Code :=
  .seq (.region 0 #[q 2 (.assign (.const (.bool false))) 4] false) (.seq (.region 1 #[q 3 (.move (.tmp 0)) 21, q 4 (.binOp .geq 21 (.tmp 3) (.const (.int .i32 0)) 21) 4, q 5 (.move (.tmp 4)) 4, qg 6 (.move (.tmp 0)) 21 2 true, qg 7 (.binOp .leq 21 (.tmp 6) (.const (.int .i32 1114111)) 21) 4 2 true, q 8 (.pick (.tmp 5) (.tmp 7) (.const (.bool false))) 4, q 9 (.move (.tmp 8)) 4, qg 10 (.move (.tmp 0)) 21 6 true, qg 11 (.binOp .lss 21 (.tmp 10) (.const (.int .i32 55296)) 21) 4 6 true, qg 12 (.move (.tmp 11)) 4 6 true, qg 13 (.move (.tmp 0)) 21 9 false, qg 14 (.binOp .geq 21 (.tmp 13) (.const (.int .i32 57344)) 21) 4 9 false, qg 15 (.pick (.tmp 12) (.const (.bool true)) (.tmp 14)) 4 6 true, q 16 (.pick (.tmp 9) (.tmp 15) (.const (.bool false))) 4, q 2 (.assign (.tmp 16)) 4] false) .ret)
theorem s197 : Tryz.f197.body.map (slim cfg) = some g197 := by kernel_rfl
def g198 : Code :=
  .seq (.region 0 #[q 2 (.assign (ik 0)) 3] false) (.seq (.region 1 #[q 3 (.assign (ik 1)) 3] false) (.seq (.block 0 (.seq (.block 3 (.seq (.block 2 (.seq (.block 1 (.seq (.seq (.seq (.region 2 #[q 5 (.move (.tmp 0)) 21, q 6 (.binOp .geq 21 (.tmp 5) (.const (.int .i32 65536)) 21) 4, q 4 (.assign (.tmp 6)) 4] false) (.cond (.tmp 4) (.exit 1) .skip)) (.seq (.seq (.region 3 #[q 8 (.move (.tmp 0)) 21, q 9 (.binOp .geq 21 (.tmp 8) (.const (.int .i32 2048)) 21) 4, q 7 (.assign (.tmp 9)) 4] false) (.cond (.tmp 7) (.exit 2) .skip)) (.seq (.region 4 #[q 11 (.move (.tmp 0)) 21, q 12 (.binOp .geq 21 (.tmp 11) (.const (.int .i32 128)) 21) 4, q 10 (.assign (.tmp 12)) 4] false) (.cond (.tmp 10) (.exit 3) .skip)))) (.exit 0))) (.region 5 #[q 13 (.move (.tmp 3)) 3, q 14 (.binOp .add 3 (.tmp 13) (ik 1) 3) 3, q 3 (.assign (.tmp 14)) 3] false))) (.region 6 #[q 15 (.move (.tmp 3)) 3, q 16 (.binOp .add 3 (.tmp 15) (ik 1) 3) 3, q 3 (.assign (.tmp 16)) 3] false))) (.seq (.region 7 #[q 17 (.move (.tmp 3)) 3, q 18 (.binOp .add 3 (.tmp 17) (ik 1) 3) 3, q 3 (.assign (.tmp 18)) 3] false) (.exit 0)))) (.seq (.region 8 #[q 19 (.move (.tmp 3)) 3, q 2 (.assign (.tmp 19)) 3] false) .ret)))
theorem s198 : Tryz.f198.body.map (slim cfg) = some g198 := by kernel_rfl
def g192 : Code :=
  .seq (.region 0 #[q 2 (.assign (.const (.slice none 0 0))) 72, q 3 (.assign (ik 0)) 28] false) (.seq (.seq (.region 1 #[q 7 (.move (.tmp 0)) 21, q 8 (cl 197 #[.tmp 7] #[21]) 4, q 9 (.unOp .not 4 (.tmp 8)) 4] false) (.cond (.tmp 9) (.seq (.region 2 #[q 2 (.assign (.const (.slice none 0 0))) 72, q 3 (.assign (ik 1)) 28] false) .ret) .skip)) (.seq (.region 3 #[q 10 (.move (.tmp 0)) 21, q 11 (cl 198 #[.tmp 10] #[21]) 3, q 4 (.assign (.tmp 11)) 3] false) (.seq (.region 4 #[q 12 (.move (.tmp 4)) 3, q 13 (.makeSlice 72 (.tmp 12) (.tmp 12)) 72, q 5 (.assign (.tmp 13)) 72] false) (.seq (.seq (.region 5 #[q 14 (.move (.tmp 4)) 3, q 15 (.binOp .sub 3 (.tmp 14) (ik 1) 3) 3, q 6 (.assign (.tmp 15)) 3] false) (.block 0 (.loop (.seq (.seq (.region 6 #[q 16 (.move (.tmp 6)) 3, q 17 (.binOp .gtr 3 (.tmp 16) (ik 0) 3) 4] false) (.cond (.tmp 17) .skip (.exit 0))) (.seq (.block 1 (.seq (.region 8 #[q 20 (.move (.tmp 5)) 72, q 21 (.move (.tmp 6)) 3, q 22 (.move (.tmp 0)) 21, q 23 (.binOp .and 21 (.tmp 22) (.const (.int .i32 63)) 21) 21, q 24 (.binOp .or 21 (.const (.int .i32 128)) (.tmp 23) 21) 21, q 25 (.convert 21 5 (.tmp 24)) 5, q 26 (.indexAddr 72 (.tmp 20) (.tmp 21)) 0, qn (.store 5 (.tmp 26) (.tmp 25)) 0] false) (.region 9 #[q 27 (.move (.tmp 0)) 21, q 28 (.binOp .shr 21 (.tmp 27) (.const (.int .u64 6)) 116) 21, q 0 (.assign (.tmp 28)) 21] false))) (.region 7 #[q 18 (.move (.tmp 6)) 3, q 19 (.binOp .sub 3 (.tmp 18) (ik 1) 3) 3, q 6 (.assign (.tmp 19)) 3] false)))))) (.seq (.region 10 #[q 29 (.move (.tmp 5)) 72, q 30 (.move (.tmp 4)) 3, q 31 (cl 135 #[.tmp 30] #[3]) 21, q 32 (.move (.tmp 0)) 21, q 33 (.binOp .or 21 (.tmp 31) (.tmp 32) 21) 21, q 34 (.convert 21 5 (.tmp 33)) 5, q 35 (.indexAddr 72 (.tmp 29) (ik 0)) 0, qn (.store 5 (.tmp 35) (.tmp 34)) 0] false) (.seq (.region 11 #[q 36 (.move (.tmp 5)) 72, q 2 (.assign (.tmp 36)) 72, q 3 (.assign (ik 0)) 28] false) .ret))))))
theorem s192 : Tryz.f192.body.map (slim cfg) = some g192 := by kernel_rfl
def g191 : Code :=
  .seq (.region 0 #[q 4 (.assign (.const (.int .i32 0))) 21, q 5 (.assign (.const (.bool false))) 4] false) (.seq (.seq (.region 1 #[q 6 (.move (.tmp 0)) 21, q 7 (.binOp .lss 21 (.tmp 6) (.const (.int .i32 55296)) 21) 4, q 8 (.move (.tmp 7)) 4, qg 9 (.move (.tmp 0)) 21 2 false, qg 10 (.binOp .geq 21 (.tmp 9) (.const (.int .i32 56320)) 21) 4 2 false, q 11 (.pick (.tmp 8) (.const (.bool true)) (.tmp 10)) 4, q 12 (.move (.tmp 11)) 4, qg 13 (.move (.tmp 1)) 21 6 false, qg 14 (.binOp .lss 21 (.tmp 13) (.const (.int .i32 56320)) 21) 4 6 false, q 15 (.pick (.tmp 12) (.const (.bool true)) (.tmp 14)) 4, q 16 (.move (.tmp 15)) 4, qg 17 (.move (.tmp 1)) 21 10 false, qg 18 (.binOp .geq 21 (.tmp 17) (.const (.int .i32 57344)) 21) 4 10 false, q 19 (.pick (.tmp 16) (.const (.bool true)) (.tmp 18)) 4] false) (.cond (.tmp 19) (.seq (.region 2 #[q 4 (.assign (.const (.int .i32 0))) 21, q 5 (.assign (.const (.bool false))) 4] false) .ret) .skip)) (.seq (.region 3 #[q 20 (.move (.tmp 0)) 21, q 21 (.binOp .sub 21 (.tmp 20) (.const (.int .i32 55296)) 21) 21, q 22 (.binOp .shl 21 (.tmp 21) (.const (.int .u64 10)) 116) 21, q 23 (.binOp .add 21 (.const (.int .i32 65536)) (.tmp 22) 21) 21, q 24 (.move (.tmp 1)) 21, q 25 (.binOp .sub 21 (.tmp 24) (.const (.int .i32 56320)) 21) 21, q 26 (.binOp .add 21 (.tmp 23) (.tmp 25) 21) 21, q 4 (.assign (.tmp 26)) 21, q 5 (.assign (.const (.bool true))) 4] false) .ret))
theorem s191 : Tryz.f191.body.map (slim cfg) = some g191 := by kernel_rfl
def g78 : Code :=
  .seq (.region 0 #[q 4 (.assign (.const (.bool false))) 4] false) (.seq (.region 1 #[q 5 (.move (.tmp 0)) 9, q 6 (.move (.tmp 1)) 9, q 7 (cl 105 #[.tmp 5, .tmp 6] #[9, 9]) 4, q 4 (.assign (.tmp 7)) 4] false) .ret)
theorem s78 : Tryz.f78.body.map (slim cfg) = some g78 := by kernel_rfl
def g105 : Code :=
  .seq (.region 0 #[q 4 (.assign (.const (.bool false))) 4] false) (.seq (.region 1 #[q 5 (.move (.tmp 0)) 9, q 6 (bi .len #[.tmp 5] #[9]) 3, q 7 (.move (.tmp 1)) 9, q 8 (bi .len #[.tmp 7] #[9]) 3, q 9 (.binOp .geq 3 (.tmp 6) (.tmp 8) 3) 4, q 10 (.move (.tmp 9)) 4, qg 11 (.move (.tmp 0)) 9 5 true, qg 12 (.move (.tmp 1)) 9 5 true, qg 13 (bi .len #[.tmp 12] #[9]) 3 5 true, qg 14 (.slice 9 (.tmp 11) none (some (.tmp 13)) none) 9 5 true, qg 15 (.move (.tmp 1)) 9 5 true, qg 16 (.binOp .eql 9 (.tmp 14) (.tmp 15) 9) 4 5 true, q 17 (.pick (.tmp 10) (.tmp 16) (.const (.bool false))) 4, q 4 (.assign (.tmp 17)) 4] false) .ret)
theorem s105 : Tryz.f105.body.map (slim cfg) = some g105 := by kernel_rfl
def isU (r : Int) : Bool := decide (0 ≤ r) && decide (r ≤ 1114111) && (decide (r < 55296) || decide (57344 ≤ r))

theorem isU_ok (r : Int) (prot : Nat) (H : Heap) (hp : prot ≤ H.length) : aLim cfg prot 197 [.int .i32 r] H = some (.bool (isU r), none) := by
  have hsnap : snap H [.int .i32 r] = some ([.int .i32 r], false) := rfl
  have hv : isU r = (decide (0 ≤ r) && decide (r ≤ 1114111) && (decide (r < 55296) || decide (57344 ≤ r))) := rfl
  refine pure_slim rfl (by kernel_rfl) Tryz.func197 s197 hp hsnap (by simp [Tryz.f197]) fun fr hlen h => ?_
  simp only [Has, Nat.zero_add] at h
  obtain ⟨a0, -⟩ := h
  simp only [Tryz.f197] at hlen ⊢
  unfold g197
  cases h1 : decide (0 ≤ r) with
  | false =>
    rw [show isU r = false by rw [hv, h1]; rfl]
    simp only [wk, aBuiltin, AV.cells, AV.leaf, Nat.reduceEqDiff, Nat.reduceLT, Nat.reduceAdd, Nat.reduceLeDiff, reduceCtorEq, Nat.reduceMul, Nat.reduceMod, cfgP, u197, hlen, a0, h1, none_beq]
    exact Fin_pure (l := [.bool false]) (by simp [wk, aBuiltin, AV.cells, AV.leaf, Nat.reduceEqDiff, Nat.reduceLT, Nat.reduceAdd, Nat.reduceLeDiff, reduceCtorEq, Nat.reduceMul, Nat.reduceMod, cfgP, u197, aResults, aResult, hlen]) (.still rfl) (by simp)
  | true =>
    cases h2 : decide (r ≤ 1114111) with
    | false =>
      rw [show isU r = false by rw [hv, h1, h2]; rfl]
      simp only [wk, aBuiltin, AV.cells, AV.leaf, Nat.reduceEqDiff, Nat.reduceLT, Nat.reduceAdd, Nat.reduceLeDiff, reduceCtorEq, Nat.reduceMul, Nat.reduceMod, cfgP, u197, hlen, a0, h1, h2, none_beq]
      exact Fin_pure (l := [.bool false]) (by simp [wk, aBuiltin, AV.cells, AV.leaf, Nat.reduceEqDiff, Nat.reduceLT, Nat.reduceAdd, Nat.reduceLeDiff, reduceCtorEq, Nat.reduceMul, Nat.reduceMod, cfgP, u197, aResults, aResult, hlen]) (.still rfl) (by simp)
    | true =>
      cases h3 : decide (r < 55296) with
      | true =>
        rw [show isU r = true by rw [hv, h1, h2, h3]; rfl]
        simp only [wk, aBuiltin, AV.cells, AV.leaf, Nat.reduceEqDiff, Nat.reduceLT, Nat.reduceAdd, Nat.reduceLeDiff, reduceCtorEq, Nat.reduceMul, Nat.reduceMod, cfgP, u197, hlen, a0, h1, h2, h3, none_beq]
        exact Fin_pure (l := [.bool true]) (by simp [wk, aBuiltin, AV.cells, AV.leaf, Nat.reduceEqDiff, Nat.reduceLT, Nat.reduceAdd, Nat.reduceLeDiff, reduceCtorEq, Nat.reduceMul, Nat.reduceMod, cfgP, u197, aResults, aResult, hlen]) (.still rfl) (by simp)
      | false =>
        rw [show isU r = decide (57344 ≤ r) by rw [hv, h1, h2, h3]; simp]
        simp only [wk, aBuiltin, AV.cells, AV.leaf, Nat.reduceEqDiff, Nat.reduceLT, Nat.reduceAdd, Nat.reduceLeDiff, reduceCtorEq, Nat.reduceMul, Nat.reduceMod, cfgP, u197, hlen, a0, h1, h2, h3, none_beq]
        exact Fin_pure (l := [.bool (decide (57344 ≤ r))]) (by simp [wk, aBuiltin, AV.cells, AV.leaf, Nat.reduceEqDiff, Nat.reduceLT, Nat.reduceAdd, Nat.reduceLeDiff, reduceCtorEq, Nat.reduceMul, Nat.reduceMod, cfgP, u197, aResults, aResult, hlen]) (.still rfl) (by simp)
def widthU (r : Int) : Nat := if 65536 ≤ r then 4 else if 2048 ≤ r then 3 else if 128 ≤ r then 2 else 1
theorem wr2 : IntKind.i64.wrap (1 + 1) = 2 := by rfl
theorem wr3 : IntKind.i64.wrap (2 + 1) = 3 := by rfl
theorem wr4 : IntKind.i64.wrap (3 + 1) = 4 := by rfl

theorem width_ok (r : Int) (prot : Nat) (H : Heap) (hp : prot ≤ H.length) : aLim cfg prot 198 [.int .i32 r] H = some (.int .i64 (widthU r), none) := by
  have hsnap : snap H [.int .i32 r] = some ([.int .i32 r], false) := rfl
  unfold widthU
  refine pure_slim rfl (by kernel_rfl) Tryz.func198 s198 hp hsnap (by simp [Tryz.f198]) fun fr hlen h => ?_
  simp only [Has, Nat.zero_add] at h
  obtain ⟨a0, -⟩ := h
  simp only [Tryz.f198] at hlen ⊢
  unfold g198
  by_cases h1 : 65536 ≤ r
  · rw [if_pos h1]
    simp only [wk, aBuiltin, AV.cells, AV.leaf, Nat.reduceEqDiff, Nat.reduceLT, Nat.reduceAdd, Nat.reduceLeDiff, reduceCtorEq, Nat.reduceMul, Nat.reduceMod, cfgP, u197, hlen, a0, h1, wr2, wr3, wr4]
    exact Fin_pure (l := [.int .i64 4]) (by simp [wk, aBuiltin, AV.cells, AV.leaf, Nat.reduceEqDiff, Nat.reduceLT, Nat.reduceAdd, Nat.reduceLeDiff, reduceCtorEq, Nat.reduceMul, Nat.reduceMod, cfgP, u197, aResults, aResult, hlen]) (.still rfl) (by simp)
  · by_cases h2 : 2048 ≤ r
    · rw [if_neg h1, if_pos h2]
      simp only [wk, aBuiltin, AV.cells, AV.leaf, Nat.reduceEqDiff, Nat.reduceLT, Nat.reduceAdd, Nat.reduceLeDiff, reduceCtorEq, Nat.reduceMul, Nat.reduceMod, cfgP, u197, hlen, a0, h1, h2, wr2, wr3, wr4]
      exact Fin_pure (l := [.int .i64 3]) (by simp [wk, aBuiltin, AV.cells, AV.leaf, Nat.reduceEqDiff, Nat.reduceLT, Nat.reduceAdd, Nat.reduceLeDiff, reduceCtorEq, Nat.reduceMul, Nat.reduceMod, cfgP, u197, aResults, aResult, hlen]) (.still rfl) (by simp)
    · by_cases h3 : 128 ≤ r
      · rw [if_neg h1, if_neg h2, if_pos h3]
        simp only [wk, aBuiltin, AV.cells, AV.leaf, Nat.reduceEqDiff, Nat.reduceLT, Nat.reduceAdd, Nat.reduceLeDiff, reduceCtorEq, Nat.reduceMul, Nat.reduceMod, cfgP, u197, hlen, a0, h1, h2, h3, wr2, wr3, wr4]
        exact Fin_pure (l := [.int .i64 2]) (by simp [wk, aBuiltin, AV.cells, AV.leaf, Nat.reduceEqDiff, Nat.reduceLT, Nat.reduceAdd, Nat.reduceLeDiff, reduceCtorEq, Nat.reduceMul, Nat.reduceMod, cfgP, u197, aResults, aResult, hlen]) (.still rfl) (by simp)
      · rw [if_neg h1, if_neg h2, if_neg h3]
        simp only [wk, aBuiltin, AV.cells, AV.leaf, Nat.reduceEqDiff, Nat.reduceLT, Nat.reduceAdd, Nat.reduceLeDiff, reduceCtorEq, Nat.reduceMul, Nat.reduceMod, cfgP, u197, hlen, a0, h1, h2, h3, wr2, wr3, wr4]
        exact Fin_pure (l := [.int .i64 1]) (by simp [wk, aBuiltin, AV.cells, AV.leaf, Nat.reduceEqDiff, Nat.reduceLT, Nat.reduceAdd, Nat.reduceLeDiff, reduceCtorEq, Nat.reduceMul, Nat.reduceMod, cfgP, u197, aResults, aResult, hlen]) (.still rfl) (by simp)
theorem widthU_b (r : Int) : 1 ≤ widthU r ∧ widthU r ≤ 4 := by unfold widthU; split <;> (try split) <;> (try split) <;> omega
def lowI (r : Int) : Int := IntKind.u8.wrap (IntKind.i32.wrap (BitVec.ofInt IntKind.i32.bits 128 ||| BitVec.ofInt IntKind.i32.bits (IntKind.i32.wrap (BitVec.ofInt IntKind.i32.bits r &&& BitVec.ofInt IntKind.i32.bits 63).toNat)).toNat)
def firstI (n : Nat) (r : Int) : Int := IntKind.u8.wrap (IntKind.i32.wrap (BitVec.ofInt IntKind.i32.bits (leadU n) ||| BitVec.ofInt IntKind.i32.bits r).toNat)
def putT : Nat → Int → List UInt8 → Int × List UInt8
  | 0, r, t => (r, t)
  | k + 1, r, t => putT k (r.fdiv 64) ((lowI r).toNat.toUInt8 :: t)
def putU (r : Int) : List UInt8 := (firstI (widthU r) (putT (widthU r - 1) r []).1).toNat.toUInt8 :: (putT (widthU r - 1) r []).2
theorem u8_wrap_b (x : Int) : 0 ≤ IntKind.u8.wrap x ∧ IntKind.u8.wrap x < 256 := by
  simp only [IntKind.wrap, IntKind.signed, IntKind.bits]; simp; omega
theorem u8_back (x : Int) : (((IntKind.u8.wrap x).toNat.toUInt8.toNat : Nat) : Int) = IntKind.u8.wrap x := by
  have := u8_wrap_b x
  rw [show (IntKind.u8.wrap x).toNat.toUInt8.toNat = (IntKind.u8.wrap x).toNat % 256 from by simp]
  omega
theorem makeU (n : Nat) (h1 : 1 ≤ n) (hn : n ≤ 4) (H : Heap) : aMakeSlice Tryz.prog H 72 (.int .i64 (n : Nat)) (.int .i64 (n : Nat)) = some (.bs ⟨H.length, 0, 0, n, n, 1, false, true⟩, some (H ++ [Blk.cells 0 (List.replicate n (.int .u8 0))])) := by
  have hz : zrep n [AV.int .u8 0] = List.replicate n (.int .u8 0) := by
    have : n = 1 ∨ n = 2 ∨ n = 3 ∨ n = 4 := by omega
    rcases this with rfl | rfl | rfl | rfl <;> rfl
  have h2 : roomy n 1 = true := by simp [roomy]; omega
  simp [aMakeSlice, se72, sz5, by5, ag5, ze5, AV.cells, hz, h2, AV.leaf]
  omega
theorem leafB (m : Nat) (t : List UInt8) : (List.replicate m (AV.int .u8 0) ++ t.map encB).all AV.leaf = true := by
  rw [List.all_eq_true]; intro y hy
  rcases List.mem_append.1 hy with h | h
  · rw [(List.mem_replicate.1 h).2]; rfl
  · obtain ⟨c, _, rfl⟩ := List.mem_map.1 h; rfl
theorem spliceB (m : Nat) (t : List UInt8) (c : UInt8) : splice (List.replicate (m + 1) (AV.int .u8 0) ++ t.map encB) m [encB c] = List.replicate m (AV.int .u8 0) ++ (c :: t).map encB := by
  have h : List.replicate (m + 1) (AV.int .u8 0) ++ t.map encB = List.replicate m (AV.int .u8 0) ++ (AV.int .u8 0 :: t.map encB) := by rw [List.replicate_succ']; simp
  have h2 : List.drop (m + 1) (List.replicate (m + 1) (AV.int .u8 0) ++ t.map encB) = t.map encB := List.drop_left' (by simp)
  have h3 : List.take m (List.replicate (m + 1) (AV.int .u8 0) ++ t.map encB) = List.replicate m (AV.int .u8 0) := by rw [h]; exact List.take_left' (by simp)
  simp [splice, h2, h3]

theorem put_ok (r : Int) (prot : Nat) (H : Heap) (hp : prot ≤ H.length) : aLim cfg prot 192 [.int .i32 r] H = some (if isU r then .tup [.vs ((putU r).map encB) true, .int .i64 0] else .tup [.nilS, .int .i64 1], none) := by
  have hsnap : snap H [.int .i32 r] = some ([.int .i32 r], false) := rfl
  have n1 := isU_ok r H.length H (Nat.le_refl _)
  have n2 := width_ok r H.length H (Nat.le_refl _)
  have hfz : ∀ (K : Heap) (x y : AV), still x = true → still y = true → Frz K H.length (packR [x, y]) (.tup [x, y]) := fun K x y h1 h2 => .tup (.cons (.still h1) (.cons (.still h2) .nil))
  obtain ⟨hw1, hw4⟩ := widthU_b r
  have hpu : putU r = (firstI (widthU r) (putT (widthU r - 1) r []).1).toNat.toUInt8 :: (putT (widthU r - 1) r []).2 := rfl
  refine pure_slim rfl (by kernel_rfl) Tryz.func192 s192 hp hsnap (by simp [Tryz.f192]) fun fr hlen h => ?_
  simp only [Has, Nat.zero_add] at h
  obtain ⟨a0, -⟩ := h
  simp only [Tryz.f192] at hlen ⊢
  unfold g192
  generalize widthU r = n at *
  generalize isU r = g at *
  generalize putU r = pu at *
  cases g with
  | false =>
    simp only [wk, aBuiltin, AV.cells, AV.leaf, Nat.reduceEqDiff, Nat.reduceLT, Nat.reduceAdd, Nat.reduceLeDiff, reduceCtorEq, Nat.reduceMul, Nat.reduceMod, cfgP, u197, hlen, a0, n1]
    exact Fin_pure (l := [.nilS, .int .i64 1]) (by simp [wk, aBuiltin, AV.cells, AV.leaf, Nat.reduceEqDiff, Nat.reduceLT, Nat.reduceAdd, Nat.reduceLeDiff, reduceCtorEq, Nat.reduceMul, Nat.reduceMod, cfgP, u197, hlen, aResults, aResult]) (hfz _ _ _ rfl rfl) (by simp)
  | true =>
    have mk := makeU n hw1 hw4
    have w1 : IntKind.i64.wrap ((n : Int) - 1) = ((n - 1 : Nat) : Int) := by rw [wrap64 (by omega) (by omega)]; omega
    simp only [wk, aBuiltin, AV.cells, AV.leaf, Nat.reduceEqDiff, Nat.reduceLT, Nat.reduceAdd, Nat.reduceLeDiff, reduceCtorEq, Nat.reduceMul, Nat.reduceMod, cfgP, u197, hlen, a0, n1, n2, mk, w1]
    refine loop_rule (fun m fr K => ∃ (x : Int) (t : List UInt8), m + t.length + 1 = n ∧ fr.length = 37 ∧ fget fr 0 = .int .i32 x ∧ fget fr 4 = .int .i64 n ∧ fget fr 5 = .bs ⟨H.length, 0, 0, n, n, 1, false, true⟩ ∧ fget fr 6 = .int .i64 m ∧
      K = H ++ [Blk.cells 0 (List.replicate (m + 1) (.int .u8 0) ++ t.map encB)] ∧ pu = (firstI n (putT m x t).1).toNat.toUInt8 :: (putT m x t).2) ?_ (n - 1) _ _ ⟨r, [], by simp [wk, aBuiltin, AV.cells, AV.leaf, Nat.reduceEqDiff, Nat.reduceLT, Nat.reduceAdd, Nat.reduceLeDiff, reduceCtorEq, Nat.reduceMul, Nat.reduceMod, cfgP, u197, hlen, a0]; rw [show n - 1 + 1 = n by omega]; exact ⟨rfl, rfl, hpu⟩⟩
    rintro m fr K ⟨x, t, hk, hlen, a0, a4, a5, a6, rfl, hc⟩ ih
    have hix : ∀ i : Nat, i < n → aIndexAddr Tryz.prog 72 (.bs ⟨H.length, 0, 0, n, n, 1, false, true⟩) (.int .i64 i) = some (.ptr H.length 0 i) := fun i hi => by simp [aIndexAddr, Tryz.underlying72, asNat, hi, sz5]
    simp only [wk, aBuiltin, AV.cells, AV.leaf, Nat.reduceEqDiff, Nat.reduceLT, Nat.reduceAdd, Nat.reduceLeDiff, reduceCtorEq, Nat.reduceMul, Nat.reduceMod, cfgP, u197, hlen, a0, a4, a5, a6]
    refine RC_split (fun h => ?_) (fun h => ?_)
    · have hk0 : 0 < m := by simpa using h
      have hi1 := hix m (by omega)
      have hlo : (IntKind.u8.wrap (IntKind.i32.wrap (BitVec.ofInt IntKind.i32.bits 128 ||| BitVec.ofInt IntKind.i32.bits (IntKind.i32.wrap (BitVec.ofInt IntKind.i32.bits x &&& BitVec.ofInt IntKind.i32.bits 63).toNat)).toNat)) = lowI x := rfl
      have hpt : hput H.length (H ++ [Blk.cells 0 (List.replicate (m + 1) (.int .u8 0) ++ t.map encB)]) H.length 0 m [.int .u8 (lowI x)] = some (H ++ [Blk.cells 0 (List.replicate m (.int .u8 0) ++ ((lowI x).toNat.toUInt8 :: t).map encB)]) := by
        rw [hput_new rfl (Nat.le_refl _) (by simp) rfl]
        have := spliceB m t (lowI x).toNat.toUInt8
        rw [encB, show (((lowI x).toNat.toUInt8.toNat : Nat) : Int) = lowI x from u8_back _] at this
        rw [this]
      have w2 : IntKind.i64.wrap ((m : Int) - 1) = ((m - 1 : Nat) : Int) := by rw [wrap64 (by omega) (by omega)]; omega
      have sh := fun (t : TypeId) (xo yo : Operand) => bin_shr (P := Tryz.prog) (t := t) (xo := xo) (yo := yo) (k := .i32) (k' := .u64) x 6 (by decide)
      simp only [wk, aBuiltin, AV.cells, AV.leaf, Nat.reduceEqDiff, Nat.reduceLT, Nat.reduceAdd, Nat.reduceLeDiff, reduceCtorEq, Nat.reduceMul, Nat.reduceMod, cfgP, u197, hlen, a0, a4, a5, a6, hi1, hlo, hpt, w2, sh]
      obtain ⟨k, rfl⟩ : ∃ k, m = k + 1 := ⟨m - 1, by omega⟩
      rw [putT] at hc
      refine ih _ _ k (by omega) ⟨x.fdiv 64, (lowI x).toNat.toUInt8 :: t, ?_⟩
      simp [wk, aBuiltin, AV.cells, AV.leaf, Nat.reduceEqDiff, Nat.reduceLT, Nat.reduceAdd, Nat.reduceLeDiff, reduceCtorEq, Nat.reduceMul, Nat.reduceMod, cfgP, u197, hlen, a4, a5]
      refine ⟨by omega, ?_, hc⟩
      rfl
    · have hm0 : m = 0 := by simpa using h
      subst hm0
      have hlt : t.length + 1 = n := by omega
      have hi0 : aIndexAddr Tryz.prog 72 (.bs ⟨H.length, 0, 0, n, n, 1, false, true⟩) (.int .i64 0) = some (.ptr H.length 0 0) := hix 0 (by omega)
      have n3 := lead_ok n hw4 H.length (H ++ [Blk.cells 0 (List.replicate (0 + 1) (.int .u8 0) ++ t.map encB)]) (by simp)
      have hlo : IntKind.u8.wrap (IntKind.i32.wrap (BitVec.ofInt IntKind.i32.bits (leadU n) ||| BitVec.ofInt IntKind.i32.bits x).toNat) = firstI n x := rfl
      have hpt : hput H.length (H ++ [Blk.cells 0 (List.replicate (0 + 1) (.int .u8 0) ++ t.map encB)]) H.length 0 0 [.int .u8 (firstI n x)] = some (H ++ [Blk.cells 0 (((firstI n x).toNat.toUInt8 :: t).map encB)]) := by
        rw [hput_new rfl (Nat.le_refl _) (by simp) rfl]
        have := spliceB 0 t (firstI n x).toNat.toUInt8
        rw [encB, show (((firstI n x).toNat.toUInt8.toNat : Nat) : Int) = firstI n x from u8_back _] at this
        rw [this]
        rfl
      rw [putT] at hc
      simp only [wk, aBuiltin, AV.cells, AV.leaf, Nat.reduceEqDiff, Nat.reduceLT, Nat.reduceAdd, Nat.reduceLeDiff, reduceCtorEq, Nat.reduceMul, Nat.reduceMod, cfgP, u197, hlen, a0, a4, a5, a6, n3, hlo, hi0, hpt]
      rw [← hc]
      have hpl : pu.length = n := by rw [hc]; simp [hlt]
      have hfr : Frz (H ++ [Blk.cells 0 (pu.map encB)]) H.length (.bs ⟨H.length, 0, 0, n, n, 1, false, true⟩) (.vs (pu.map encB) true) := by
        have hw : win (cellsOf encB pu) 0 (n * 1) = some (cellsOf encB pu) := by
          have := cellsOf_drop encB_T pu 0 (by simp)
          rw [← hpl]
          simpa using this
        have hst : FrzL (H ++ [Blk.cells 0 (pu.map encB)]) H.length (cellsOf encB pu) (cellsOf encB pu) := .still fun c hc => by
          obtain ⟨x, _, hx⟩ := List.mem_flatMap.1 hc
          exact encB_T.still x c hx
        have hg : hget (H ++ [Blk.cells 0 (pu.map encB)]) H.length 0 = some (cellsOf encB pu) := by rw [hget_new rfl, if_pos rfl]; exact congrArg some (cellsB pu)
        have := Frz.bs (H := H ++ [Blk.cells 0 (pu.map encB)]) (base := H.length) (s := ⟨H.length, 0, 0, n, n, 1, false, true⟩) (Nat.le_refl _) (Nat.one_pos) rfl hg hw hst
        rw [show (⟨H.length, 0, 0, n, n, 1, false, true⟩ : BS).len = pu.length from hpl.symm, chunk_cellsOf encB_T (by decide)] at this
        simpa [hpl] using this
      exact Fin_pure (l := [.bs ⟨H.length, 0, 0, n, n, 1, false, true⟩, .int .i64 0]) (by simp [wk, aBuiltin, AV.cells, AV.leaf, Nat.reduceEqDiff, Nat.reduceLT, Nat.reduceAdd, Nat.reduceLeDiff, reduceCtorEq, Nat.reduceMul, Nat.reduceMod, cfgP, u197, hlen, aResults, aResult]) (.tup (.cons hfr (.cons (.still rfl) .nil))) (by simp)
def pairU (a b : Int) : Option Int := if a < 55296 ∨ 56320 ≤ a ∨ b < 56320 ∨ 57344 ≤ b then none else some (65536 + (a - 55296) * 1024 + (b - 56320))
def pairR : Option Int → AV
  | none => .tup [.int .i32 0, .bool false]
  | some v => .tup [.int .i32 v, .bool true]

theorem pair_ok (a b : Int) (prot : Nat) (H : Heap) (hp : prot ≤ H.length) : aLim cfg prot 191 [.int .i32 a, .int .i32 b] H = some (pairR (pairU a b), none) := by
  have hsnap : snap H [.int .i32 a, .int .i32 b] = some ([.int .i32 a, .int .i32 b], false) := rfl
  have hfz : ∀ (K : Heap) (x y : AV), still x = true → still y = true → Frz K H.length (packR [x, y]) (.tup [x, y]) := fun K x y h1 h2 => .tup (.cons (.still h1) (.cons (.still h2) .nil))
  refine pure_slim rfl (by kernel_rfl) Tryz.func191 s191 hp hsnap (by simp [Tryz.f191]) fun fr hlen h => ?_
  simp only [Has, Nat.zero_add] at h
  obtain ⟨a0, a1, -⟩ := h
  simp only [Tryz.f191] at hlen ⊢
  unfold g191
  by_cases h1 : a < 55296
  · rw [show pairU a b = none by unfold pairU; rw [if_pos (.inl h1)], pairR]
    simp only [wk, aBuiltin, AV.cells, AV.leaf, Nat.reduceEqDiff, Nat.reduceLT, Nat.reduceAdd, Nat.reduceLeDiff, reduceCtorEq, Nat.reduceMul, Nat.reduceMod, cfgP, u197, hlen, a0, a1, h1, none_beq]
    exact Fin_pure (l := [.int .i32 0, .bool false]) (by simp [wk, aBuiltin, AV.cells, AV.leaf, Nat.reduceEqDiff, Nat.reduceLT, Nat.reduceAdd, Nat.reduceLeDiff, reduceCtorEq, Nat.reduceMul, Nat.reduceMod, cfgP, u197, hlen, aResults, aResult]) (hfz _ _ _ rfl rfl) (by simp)
  · by_cases h2 : 56320 ≤ a
    · rw [show pairU a b = none by unfold pairU; rw [if_pos (.inr (.inl h2))], pairR]
      simp only [wk, aBuiltin, AV.cells, AV.leaf, Nat.reduceEqDiff, Nat.reduceLT, Nat.reduceAdd, Nat.reduceLeDiff, reduceCtorEq, Nat.reduceMul, Nat.reduceMod, cfgP, u197, hlen, a0, a1, h1, h2, none_beq]
      exact Fin_pure (l := [.int .i32 0, .bool false]) (by simp [wk, aBuiltin, AV.cells, AV.leaf, Nat.reduceEqDiff, Nat.reduceLT, Nat.reduceAdd, Nat.reduceLeDiff, reduceCtorEq, Nat.reduceMul, Nat.reduceMod, cfgP, u197, hlen, aResults, aResult]) (hfz _ _ _ rfl rfl) (by simp)
    · by_cases h3 : b < 56320
      · rw [show pairU a b = none by unfold pairU; rw [if_pos (.inr (.inr (.inl h3)))], pairR]
        simp only [wk, aBuiltin, AV.cells, AV.leaf, Nat.reduceEqDiff, Nat.reduceLT, Nat.reduceAdd, Nat.reduceLeDiff, reduceCtorEq, Nat.reduceMul, Nat.reduceMod, cfgP, u197, hlen, a0, a1, h1, h2, h3, none_beq]
        exact Fin_pure (l := [.int .i32 0, .bool false]) (by simp [wk, aBuiltin, AV.cells, AV.leaf, Nat.reduceEqDiff, Nat.reduceLT, Nat.reduceAdd, Nat.reduceLeDiff, reduceCtorEq, Nat.reduceMul, Nat.reduceMod, cfgP, u197, hlen, aResults, aResult]) (hfz _ _ _ rfl rfl) (by simp)
      · by_cases h4 : 57344 ≤ b
        · rw [show pairU a b = none by unfold pairU; rw [if_pos (.inr (.inr (.inr h4)))], pairR]
          simp only [wk, aBuiltin, AV.cells, AV.leaf, Nat.reduceEqDiff, Nat.reduceLT, Nat.reduceAdd, Nat.reduceLeDiff, reduceCtorEq, Nat.reduceMul, Nat.reduceMod, cfgP, u197, hlen, a0, a1, h1, h2, h3, h4, none_beq]
          exact Fin_pure (l := [.int .i32 0, .bool false]) (by simp [wk, aBuiltin, AV.cells, AV.leaf, Nat.reduceEqDiff, Nat.reduceLT, Nat.reduceAdd, Nat.reduceLeDiff, reduceCtorEq, Nat.reduceMul, Nat.reduceMod, cfgP, u197, hlen, aResults, aResult]) (hfz _ _ _ rfl rfl) (by simp)
        · rw [show pairU a b = some (65536 + (a - 55296) * 1024 + (b - 56320)) by unfold pairU; rw [if_neg (by omega)], pairR]
          have w1 : IntKind.i32.wrap (a - 55296) = a - 55296 := wrap32 (by omega) (by omega)
          have w2 : IntKind.i32.wrap ((a - 55296) * 2 ^ min (10 : Int).toNat IntKind.i32.bits) = (a - 55296) * 1024 := wrap32 (n := (a - 55296) * 1024) (by omega) (by omega)
          have w3 : IntKind.i32.wrap (65536 + (a - 55296) * 1024) = 65536 + (a - 55296) * 1024 := wrap32 (by omega) (by omega)
          have w4 : IntKind.i32.wrap (b - 56320) = b - 56320 := wrap32 (by omega) (by omega)
          have w5 : IntKind.i32.wrap (65536 + (a - 55296) * 1024 + (b - 56320)) = 65536 + (a - 55296) * 1024 + (b - 56320) := wrap32 (by omega) (by omega)
          have sh := fun (t : TypeId) (xo yo : Operand) => bin_shl (P := Tryz.prog) (t := t) (xo := xo) (yo := yo) (k := .i32) (k' := .u64) (a := a - 55296) (b := 10) (by decide)
          simp only [wk, aBuiltin, AV.cells, AV.leaf, Nat.reduceEqDiff, Nat.reduceLT, Nat.reduceAdd, Nat.reduceLeDiff, reduceCtorEq, Nat.reduceMul, Nat.reduceMod, cfgP, u197, hlen, a0, a1, h1, h2, h3, h4, none_beq, w1, sh, w2, w3, w4, w5]
          exact Fin_pure (l := [.int .i32 (65536 + (a - 55296) * 1024 + (b - 56320)), .bool true]) (by simp [wk, aBuiltin, AV.cells, AV.leaf, Nat.reduceEqDiff, Nat.reduceLT, Nat.reduceAdd, Nat.reduceLeDiff, reduceCtorEq, Nat.reduceMul, Nat.reduceMod, cfgP, u197, hlen, aResults, aResult]) (hfz _ _ _ rfl rfl) (by simp)
def hasPre (s p : List UInt8) : Bool := decide (p.length ≤ s.length) && (s.take p.length == p)

theorem hasPreL_ok (s p : List UInt8) (prot : Nat) (H : Heap) (hp : prot ≤ H.length) : aLim cfg prot 105 [.str s, .str p] H = some (.bool (hasPre s p), none) := by
  have hsnap : snap H [.str s, .str p] = some ([.str s, .str p], false) := rfl
  have hls : ∀ K s, aLen Tryz.prog K 9 (.str s) = some (.int .i64 s.length) := fun K s => str_len Tryz.underlying9 s K
  refine pure_slim rfl (by kernel_rfl) Tryz.func105 s105 hp hsnap (by simp [Tryz.f105]) fun fr hlen h => ?_
  simp only [Has, Nat.zero_add] at h
  obtain ⟨a0, a1, -⟩ := h
  simp only [Tryz.f105] at hlen ⊢
  unfold g105
  by_cases h1 : (p.length : Int) ≤ s.length
  · have e1 := str_upto (k := .i64) Tryz.underlying9 s (b := p.length) (by omega)
    rw [show hasPre s p = (s.take p.length == p) by unfold hasPre; rw [decide_eq_true (by omega)]; simp]
    simp only [wk, aBuiltin, AV.cells, AV.leaf, Nat.reduceEqDiff, Nat.reduceLT, Nat.reduceAdd, Nat.reduceLeDiff, reduceCtorEq, Nat.reduceMul, Nat.reduceMod, cfgP, u197, hlen, a0, a1, hls, h1, e1, none_beq, str_eql]
    exact Fin_pure (l := [.bool (s.take p.length == p)]) (by simp [wk, aBuiltin, AV.cells, AV.leaf, Nat.reduceEqDiff, Nat.reduceLT, Nat.reduceAdd, Nat.reduceLeDiff, reduceCtorEq, Nat.reduceMul, Nat.reduceMod, cfgP, u197, aResults, aResult, hlen]) (.still rfl) (by simp)
  · rw [show hasPre s p = false by unfold hasPre; rw [decide_eq_false (by omega)]; simp]
    simp only [wk, aBuiltin, AV.cells, AV.leaf, Nat.reduceEqDiff, Nat.reduceLT, Nat.reduceAdd, Nat.reduceLeDiff, reduceCtorEq, Nat.reduceMul, Nat.reduceMod, cfgP, u197, hlen, a0, a1, hls, h1, none_beq]
    exact Fin_pure (l := [.bool false]) (by simp [wk, aBuiltin, AV.cells, AV.leaf, Nat.reduceEqDiff, Nat.reduceLT, Nat.reduceAdd, Nat.reduceLeDiff, reduceCtorEq, Nat.reduceMul, Nat.reduceMod, cfgP, u197, aResults, aResult, hlen]) (.still rfl) (by simp)

theorem hasPre_ok (s p : List UInt8) (prot : Nat) (H : Heap) (hp : prot ≤ H.length) : aLim cfg prot 78 [.str s, .str p] H = some (.bool (hasPre s p), none) := by
  have hsnap : snap H [.str s, .str p] = some ([.str s, .str p], false) := rfl
  have n1 := hasPreL_ok s p H.length H (Nat.le_refl _)
  refine pure_slim rfl (by kernel_rfl) Tryz.func78 s78 hp hsnap (by simp [Tryz.f78]) fun fr hlen h => ?_
  simp only [Has, Nat.zero_add] at h
  obtain ⟨a0, a1, -⟩ := h
  simp only [Tryz.f78] at hlen ⊢
  unfold g78
  simp only [wk, aBuiltin, AV.cells, AV.leaf, Nat.reduceEqDiff, Nat.reduceLT, Nat.reduceAdd, Nat.reduceLeDiff, reduceCtorEq, Nat.reduceMul, Nat.reduceMod, cfgP, u197, hlen, a0, a1, n1]
  exact Fin_pure (l := [.bool (hasPre s p)]) (by simp [wk, aBuiltin, AV.cells, AV.leaf, Nat.reduceEqDiff, Nat.reduceLT, Nat.reduceAdd, Nat.reduceLeDiff, reduceCtorEq, Nat.reduceMul, Nat.reduceMod, cfgP, u197, aResults, aResult, hlen]) (.still rfl) (by simp)
end Go.Proofs.YtnipaiklandliaaGreatDoor
/- jtok.coded, jtok.escaped, walked. -/
namespace Go.Proofs.YtnipaiklandliaaGreatDoor
open Go Go.Abs AbsSeat Ty

theorem u181 : type_of% (And.intro ag1 (And.intro sz1 (And.intro by1 (And.intro ze1 (And.intro Tryz.underlying1 (And.intro ag3 (And.intro sz3 (And.intro by3 (And.intro ze3 (And.intro Tryz.underlying3 (And.intro ag5 (And.intro sz5 (And.intro by5 (And.intro ze5 (And.intro Tryz.underlying5 (And.intro ag9 (And.intro sz9 (And.intro by9 (And.intro ze9 (And.intro Tryz.underlying9 (And.intro ag21 (And.intro sz21 (And.intro by21 (And.intro ze21 (And.intro Tryz.underlying21 (And.intro ag28 (And.intro sz28 (And.intro by28 (And.intro ze28 (And.intro Tryz.underlying28 (And.intro ag72 (And.intro sz72 (And.intro by72 (And.intro se72 (And.intro ze72 Tryz.underlying72))))))))))))))))))))))))))))))))))) := And.intro ag1 (And.intro sz1 (And.intro by1 (And.intro ze1 (And.intro Tryz.underlying1 (And.intro ag3 (And.intro sz3 (And.intro by3 (And.intro ze3 (And.intro Tryz.underlying3 (And.intro ag5 (And.intro sz5 (And.intro by5 (And.intro ze5 (And.intro Tryz.underlying5 (And.intro ag9 (And.intro sz9 (And.intro by9 (And.intro ze9 (And.intro Tryz.underlying9 (And.intro ag21 (And.intro sz21 (And.intro by21 (And.intro ze21 (And.intro Tryz.underlying21 (And.intro ag28 (And.intro sz28 (And.intro by28 (And.intro ze28 (And.intro Tryz.underlying28 (And.intro ag72 (And.intro sz72 (And.intro by72 (And.intro se72 (And.intro ze72 Tryz.underlying72))))))))))))))))))))))))))))))))))
def g181 : Code :=
  .seq (.region 0 #[q 4 (.assign (.const (.slice none 0 0))) 72, q 5 (.assign (ik 0)) 3, q 6 (.assign (.const .nilIface)) 76] false) (.seq (.region 1 #[q 16 (.move (.tmp 0)) 9, q 17 (.move (.tmp 1)) 3, q 18 (cl 190 #[.tmp 16, .tmp 17] #[9, 3]) 278, q 15 (.move (.tmp 18)) 278, q 19 (.extract (.tmp 15) 0) 21, q 20 (.extract (.tmp 15) 1) 4, q 7 (.assign (.tmp 19)) 21, q 8 (.assign (.tmp 20)) 4] false) (.seq (.seq (.region 2 #[q 21 (.move (.tmp 8)) 4, q 22 (.unOp .not 4 (.tmp 21)) 4] false) (.cond (.tmp 22) (.seq (.region 3 #[q 23 (.move (.tmp 1)) 3, q 24 (.move (.tmp 1)) 3, q 25 (cl 144 #[.tmp 24, ik 3] #[3, 28]) 76, q 4 (.assign (.const (.slice none 0 0))) 72, q 5 (.assign (.tmp 23)) 3, q 6 (.assign (.tmp 25)) 76] false) .ret) .skip)) (.seq (.region 4 #[q 26 (.move (.tmp 1)) 3, q 27 (.binOp .add 3 (.tmp 26) (ik 4) 3) 3, q 1 (.assign (.tmp 27)) 3] false) (.seq (.seq (.region 5 #[q 28 (.move (.tmp 0)) 9, q 29 (.move (.tmp 1)) 3, q 30 (.slice 9 (.tmp 28) (some (.tmp 29)) none none) 9, q 31 (cl 78 #[.tmp 30, .const (.string { data := #[92, 117] })] #[9, 9]) 4] false) (.cond (.tmp 31) (.seq (.region 6 #[q 33 (.move (.tmp 0)) 9, q 34 (.move (.tmp 1)) 3, q 35 (.binOp .add 3 (.tmp 34) (ik 2) 3) 3, q 36 (cl 190 #[.tmp 33, .tmp 35] #[9, 3]) 278, q 32 (.move (.tmp 36)) 278, q 37 (.extract (.tmp 32) 0) 21, q 38 (.extract (.tmp 32) 1) 4, q 9 (.assign (.tmp 37)) 21, q 10 (.assign (.tmp 38)) 4] false) (.seq (.region 7 #[q 40 (.move (.tmp 7)) 21, q 41 (.move (.tmp 9)) 21, q 42 (cl 191 #[.tmp 40, .tmp 41] #[21, 21]) 278, q 39 (.move (.tmp 42)) 278, q 43 (.extract (.tmp 39) 0) 21, q 44 (.extract (.tmp 39) 1) 4, q 11 (.assign (.tmp 43)) 21, q 12 (.assign (.tmp 44)) 4] false) (.seq (.region 8 #[q 45 (.move (.tmp 10)) 4, q 46 (.move (.tmp 45)) 4, qg 47 (.move (.tmp 12)) 4 1 true, q 48 (.pick (.tmp 46) (.tmp 47) (.const (.bool false))) 4] false) (.cond (.tmp 48) (.seq (.region 9 #[q 49 (.move (.tmp 11)) 21, q 7 (.assign (.tmp 49)) 21] false) (.region 10 #[q 50 (.move (.tmp 1)) 3, q 51 (.binOp .add 3 (.tmp 50) (ik 6) 3) 3, q 1 (.assign (.tmp 51)) 3] false)) .skip)))) .skip)) (.seq (.region 11 #[q 53 (.move (.tmp 7)) 21, q 54 (cl 192 #[.tmp 53] #[21]) 281, q 52 (.move (.tmp 54)) 281, q 55 (.extract (.tmp 52) 0) 72, q 56 (.extract (.tmp 52) 1) 28, q 13 (.assign (.tmp 55)) 72, q 14 (.assign (.tmp 56)) 28] false) (.seq (.seq (.region 12 #[q 57 (.move (.tmp 14)) 28, q 58 (.binOp .neq 28 (.tmp 57) (ik 0) 28) 4] false) (.cond (.tmp 58) (.seq (.region 13 #[q 59 (.move (.tmp 1)) 3, q 60 (.move (.tmp 1)) 3, q 61 (cl 144 #[.tmp 60, ik 3] #[3, 28]) 76, q 4 (.assign (.const (.slice none 0 0))) 72, q 5 (.assign (.tmp 59)) 3, q 6 (.assign (.tmp 61)) 76] false) .ret) .skip)) (.seq (.region 14 #[q 62 (.move (.tmp 13)) 72, q 63 (.move (.tmp 1)) 3, q 4 (.assign (.tmp 62)) 72, q 5 (.assign (.tmp 63)) 3, q 6 (.assign (.const .nilIface)) 76] false) .ret)))))))
theorem s181 : Tryz.f181.body.map (slim cfg) = some g181 := by kernel_rfl
def g167 : Code :=
  .seq (.region 0 #[q 4 (.assign (.const (.slice none 0 0))) 72, q 5 (.assign (ik 0)) 3, q 6 (.assign (.const .nilIface)) 76] false) (.seq (.seq (.region 1 #[q 8 (.move (.tmp 1)) 3, q 9 (.move (.tmp 0)) 9, q 10 (bi .len #[.tmp 9] #[9]) 3, q 11 (.binOp .geq 3 (.tmp 8) (.tmp 10) 3) 4] false) (.cond (.tmp 11) (.seq (.region 2 #[q 12 (.move (.tmp 1)) 3, q 13 (.move (.tmp 1)) 3, q 14 (cl 144 #[.tmp 13, ik 3] #[3, 28]) 76, q 4 (.assign (.const (.slice none 0 0))) 72, q 5 (.assign (.tmp 12)) 3, q 6 (.assign (.tmp 14)) 76] false) .ret) .skip)) (.seq (.region 3 #[q 15 (.move (.tmp 0)) 9, q 16 (.move (.tmp 1)) 3, q 17 (.index 9 (.tmp 15) (.tmp 16)) 5, q 7 (.assign (.tmp 17)) 5] false) (.seq (.seq (.region 4 #[q 18 (.move (.tmp 7)) 5] false) (.block 0 (.seq (.region 6 #[q 23 (.binOp .eql 5 (.tmp 18) (.const (.int .u8 98)) 5) 4, q 22 (.assign (.tmp 23)) 4] false) (.cond (.tmp 22) (.region 7 #[q 7 (.assign (.const (.int .u8 8))) 5] false) (.seq (.region 8 #[q 25 (.binOp .eql 5 (.tmp 18) (.const (.int .u8 102)) 5) 4, q 24 (.assign (.tmp 25)) 4] false) (.cond (.tmp 24) (.region 9 #[q 7 (.assign (.const (.int .u8 12))) 5] false) (.seq (.region 10 #[q 27 (.binOp .eql 5 (.tmp 18) (.const (.int .u8 110)) 5) 4, q 26 (.assign (.tmp 27)) 4] false) (.cond (.tmp 26) (.region 11 #[q 7 (.assign (.const (.int .u8 10))) 5] false) (.seq (.region 12 #[q 29 (.binOp .eql 5 (.tmp 18) (.const (.int .u8 114)) 5) 4, q 28 (.assign (.tmp 29)) 4] false) (.cond (.tmp 28) (.region 13 #[q 7 (.assign (.const (.int .u8 13))) 5] false) (.seq (.region 14 #[q 31 (.binOp .eql 5 (.tmp 18) (.const (.int .u8 116)) 5) 4, q 30 (.assign (.tmp 31)) 4] false) (.cond (.tmp 30) (.region 15 #[q 7 (.assign (.const (.int .u8 9))) 5] false) (.seq (.seq (.region 16 #[q 33 (.binOp .eql 5 (.tmp 18) (.const (.int .u8 34)) 5) 4, q 32 (.assign (.tmp 33)) 4] false) (.cond (.tmp 32) .skip (.seq (.region 17 #[q 34 (.binOp .eql 5 (.tmp 18) (.const (.int .u8 92)) 5) 4, q 32 (.assign (.tmp 34)) 4] false) (.cond (.tmp 32) .skip (.region 18 #[q 35 (.binOp .eql 5 (.tmp 18) (.const (.int .u8 47)) 5) 4, q 32 (.assign (.tmp 35)) 4] false))))) (.cond (.tmp 32) .skip (.seq (.region 19 #[q 37 (.binOp .eql 5 (.tmp 18) (.const (.int .u8 117)) 5) 4, q 36 (.assign (.tmp 37)) 4] false) (.cond (.tmp 36) (.seq (.region 20 #[q 38 (.move (.tmp 0)) 9, q 39 (.move (.tmp 1)) 3, q 40 (.binOp .add 3 (.tmp 39) (ik 1) 3) 3, q 41 (cl 181 #[.tmp 38, .tmp 40] #[9, 3]) 235, q 42 (.extract (.tmp 41) 0) 72, q 43 (.extract (.tmp 41) 1) 3, q 44 (.extract (.tmp 41) 2) 76, q 4 (.assign (.tmp 42)) 72, q 5 (.assign (.tmp 43)) 3, q 6 (.assign (.tmp 44)) 76] false) .ret) (.seq (.region 5 #[q 19 (.move (.tmp 1)) 3, q 20 (.move (.tmp 1)) 3, q 21 (cl 144 #[.tmp 20, ik 3] #[3, 28]) 76, q 4 (.assign (.const (.slice none 0 0))) 72, q 5 (.assign (.tmp 19)) 3, q 6 (.assign (.tmp 21)) 76] false) .ret))))))))))))))))) (.seq (.region 21 #[q 45 (.move (.tmp 7)) 5, q 46 (.buildSlice 72 1 #[(0, .tmp 45)]) 72, q 47 (.move (.tmp 1)) 3, q 48 (.binOp .add 3 (.tmp 47) (ik 1) 3) 3, q 4 (.assign (.tmp 46)) 72, q 5 (.assign (.tmp 48)) 3, q 6 (.assign (.const .nilIface)) 76] false) .ret))))
theorem s167 : Tryz.f167.body.map (slim cfg) = some g167 := by kernel_rfl
def g146 : Code :=
  .seq (.region 0 #[q 2 (.assign (ik 0)) 3] false) (.seq (.seq (.region 1 #[q 3 (.move (.tmp 0)) 9] false) (.block 0 (.seq (.region 2 #[q 5 (.binOp .eql 9 (.tmp 3) (.const (.string { data := #[116, 114, 117, 101] })) 9) 4, q 4 (.assign (.tmp 5)) 4] false) (.cond (.tmp 4) (.seq (.region 3 #[q 2 (.assign (ik 9)) 3] false) .ret) (.seq (.region 4 #[q 7 (.binOp .eql 9 (.tmp 3) (.const (.string { data := #[102, 97, 108, 115, 101] })) 9) 4, q 6 (.assign (.tmp 7)) 4] false) (.cond (.tmp 6) (.seq (.region 5 #[q 2 (.assign (ik 10)) 3] false) .ret) (.seq (.region 6 #[q 9 (.binOp .eql 9 (.tmp 3) (.const (.string { data := #[110, 117, 108, 108] })) 9) 4, q 8 (.assign (.tmp 9)) 4] false) (.cond (.tmp 8) (.seq (.region 7 #[q 2 (.assign (ik 11)) 3] false) .ret) .skip)))))))) (.seq (.region 8 #[q 2 (.assign (ik 0)) 3] false) .ret))
theorem s146 : Tryz.f146.body.map (slim cfg) = some g146 := by kernel_rfl
/-- the second half behind a first one. -/
def secondS (v : Nat) (r : List UInt8) : Option Int := if hasPre (r.drop 4) [92, 117] then (match fourS (r.drop 6) with | some w => pairU v w | none => none) else none
/-- the bytes of a rune by its digits, and how many bytes these take. -/
def codedS (r : List UInt8) : Option (List UInt8 × Nat) :=
  match fourS r with
  | none => none
  | some v => match secondS v r with
    | some p => if isU p then some (putU p, 10) else none
    | none => if isU v then some (putU v, 4) else none
def Lex (k : Nat) (x : Option (AV × Option Heap)) : Option (List UInt8 × Nat) → Prop
  | none => ∃ i, x = some (.tup [.nilS, .int .i64 i, troub i 3], none)
  | some (b, n) => x = some (.tup [.vs (b.map encB) true, .int .i64 (k + n : Nat), .nilI], none)
theorem fourS_len {r : List UInt8} {v : Nat} (h : fourS r = some v) : 4 ≤ r.length ∧ v < 65536 := by
  unfold fourS at h
  split at h
  · cases h
  · have := hexV_lt _ _ _ h
    rw [show (r.take 4).length = 4 by simp; omega] at this
    exact ⟨by omega, by omega⟩
theorem pairU_0 (v : Int) : pairU v 0 = none := by unfold pairU; rw [if_pos (.inr (.inr (.inl (by omega))))]
theorem dn10 : decide (¬ ((1 : Int) = 0)) = true := by decide

theorem coded_bad (s : List UInt8) (hl : s.length < 1000000000000000000) (k : Nat) (hk : k ≤ s.length) (prot : Nat) (H : Heap) (hp : prot ≤ H.length) (h : fourS (s.drop k) = none) :
    aLim cfg prot 181 [.str s, .int .i64 k] H = some (.tup [.nilS, .int .i64 k, troub k 3], none) := by
  have hsnap : snap H [.str s, .int .i64 k] = some ([.str s, .int .i64 k], false) := rfl
  have n1 := four_ok s hl k hk H.length H (Nat.le_refl _)
  have n2 := wrong_ok k 3 H.length H (Nat.le_refl _)
  rw [h, fourR] at n1
  refine pure_slim rfl (by kernel_rfl) Tryz.func181 s181 hp hsnap (by simp [Tryz.f181]) fun fr hlen h => ?_
  simp only [Has, Nat.zero_add] at h
  obtain ⟨a0, a1, -⟩ := h
  simp only [Tryz.f181] at hlen ⊢
  unfold g181
  simp only [wk, aBuiltin, AV.cells, AV.leaf, Nat.reduceEqDiff, Nat.reduceLT, Nat.reduceAdd, Nat.reduceLeDiff, reduceCtorEq, Nat.reduceMul, Nat.reduceMod, cfgP, u181, hlen, a0, a1, n1, n2]
  exact Fin_pure (l := [.nilS, .int .i64 k, troub k 3]) (by simp [wk, aBuiltin, AV.cells, AV.leaf, Nat.reduceEqDiff, Nat.reduceLT, Nat.reduceAdd, Nat.reduceLeDiff, reduceCtorEq, Nat.reduceMul, Nat.reduceMod, cfgP, u181, hlen, aResults, aResult]) (.tup (.cons (.still rfl) (.cons (.still rfl) (.cons (.iface (.still rfl)) .nil)))) (by simp)
theorem coded_ok (s : List UInt8) (hl : s.length < 1000000000000000000) (k : Nat) (hk : k ≤ s.length) (prot : Nat) (H : Heap) (hp : prot ≤ H.length) :
    Lex k (aLim cfg prot 181 [.str s, .int .i64 k] H) (codedS (s.drop k)) := by
  have hsnap : snap H [.str s, .int .i64 k] = some ([.str s, .int .i64 k], false) := rfl
  have n1 := four_ok s hl k hk H.length H (Nat.le_refl _)
  cases h4 : fourS (s.drop k) with
  | none =>
    rw [show codedS (s.drop k) = none by simp [codedS, h4]]
    exact ⟨k, coded_bad s hl k hk prot H hp h4⟩
  | some v =>
    obtain ⟨hlen4, hv⟩ := fourS_len h4
    simp only [List.length_drop] at hlen4
    rw [h4, fourR] at n1
    have w1 : IntKind.i64.wrap ((k : Int) + 4) = ((k + 4 : Nat) : Int) := by rw [wrap64 (by omega) (by omega)]; simp
    have e1 := str_from (k := .i64) Tryz.underlying9 s (a := k + 4) (by omega)
    have n2 := hasPre_ok (s.drop (k + 4)) [92, 117] H.length H (Nat.le_refl _)
    have n5 := wrong_ok (k + 4 : Nat) 3 H.length H (Nat.le_refl _)
    have n6 := wrong_ok (k + 10 : Nat) 3 H.length H (Nat.le_refl _)
    have hd4 : (s.drop k).drop 4 = s.drop (k + 4) := by rw [List.drop_drop]
    have hd6 : (s.drop k).drop 6 = s.drop (k + 6) := by rw [List.drop_drop]
    have hfz : ∀ (K : Heap) (b : List UInt8) (i : Int), Frz K H.length (packR [.vs (b.map encB) true, .int .i64 i, .nilI]) (.tup [.vs (b.map encB) true, .int .i64 i, .nilI]) := fun K b i => .tup (.cons (.still rfl) (.cons (.still rfl) (.cons (.still rfl) .nil)))
    have hfe : ∀ (K : Heap) (i : Int), Frz K H.length (packR [.nilS, .int .i64 i, troub i 3]) (.tup [.nilS, .int .i64 i, troub i 3]) := fun K i => .tup (.cons (.still rfl) (.cons (.still rfl) (.cons (.iface (.still rfl)) .nil)))
    cases hpre : hasPre (s.drop (k + 4)) [92, 117] with
    | false =>
      have hs2 : secondS v (s.drop k) = none := by unfold secondS; rw [hd4, hpre]; rfl
      have n3 := put_ok v H.length H (Nat.le_refl _)
      rw [hpre] at n2
      cases hu : isU v with
      | false =>
        rw [show codedS (s.drop k) = none by simp [codedS, h4, hs2, hu]]
        simp only [hu, Bool.false_eq_true, if_false] at n3
        refine ⟨(k + 4 : Nat), ?_⟩
        refine pure_slim rfl (by kernel_rfl) Tryz.func181 s181 hp hsnap (by simp [Tryz.f181]) fun fr hlen h => ?_
        simp only [Has, Nat.zero_add] at h
        obtain ⟨a0, a1, -⟩ := h
        simp only [Tryz.f181] at hlen ⊢
        unfold g181
        simp only [wk, aBuiltin, AV.cells, AV.leaf, Nat.reduceEqDiff, Nat.reduceLT, Nat.reduceAdd, Nat.reduceLeDiff, reduceCtorEq, Nat.reduceMul, Nat.reduceMod, cfgP, u181, hlen, a0, a1, n1, w1, e1, n2, n3, n5, dn10]
        exact Fin_pure (l := [.nilS, .int .i64 (k + 4 : Nat), troub (k + 4 : Nat) 3]) (by simp [wk, aBuiltin, AV.cells, AV.leaf, Nat.reduceEqDiff, Nat.reduceLT, Nat.reduceAdd, Nat.reduceLeDiff, reduceCtorEq, Nat.reduceMul, Nat.reduceMod, cfgP, u181, hlen, aResults, aResult]) (hfe _ _) (by simp)
      | true =>
        rw [show codedS (s.drop k) = some (putU v, 4) by simp [codedS, h4, hs2, hu]]
        simp only [hu, if_true] at n3
        show _ = _
        refine pure_slim rfl (by kernel_rfl) Tryz.func181 s181 hp hsnap (by simp [Tryz.f181]) fun fr hlen h => ?_
        simp only [Has, Nat.zero_add] at h
        obtain ⟨a0, a1, -⟩ := h
        simp only [Tryz.f181] at hlen ⊢
        unfold g181
        simp only [wk, aBuiltin, AV.cells, AV.leaf, Nat.reduceEqDiff, Nat.reduceLT, Nat.reduceAdd, Nat.reduceLeDiff, reduceCtorEq, Nat.reduceMul, Nat.reduceMod, cfgP, u181, hlen, a0, a1, n1, w1, e1, n2, n3]
        exact Fin_pure (l := [.vs ((putU v).map encB) true, .int .i64 (k + 4 : Nat), .nilI]) (by simp [wk, aBuiltin, AV.cells, AV.leaf, Nat.reduceEqDiff, Nat.reduceLT, Nat.reduceAdd, Nat.reduceLeDiff, reduceCtorEq, Nat.reduceMul, Nat.reduceMod, cfgP, u181, hlen, aResults, aResult]) (hfz _ _ _) (by simp)
    | true =>
      have hlen6 : k + 6 ≤ s.length := by
        simp only [hasPre, Bool.and_eq_true, decide_eq_true_eq, List.length_cons, List.length_nil, List.length_drop] at hpre
        omega
      rw [hpre] at n2
      have w2 : IntKind.i64.wrap (((k + 4 : Nat) : Int) + 2) = ((k + 6 : Nat) : Int) := by rw [wrap64 (by omega) (by omega)]; omega
      have w3 : IntKind.i64.wrap (((k + 4 : Nat) : Int) + 6) = ((k + 10 : Nat) : Int) := by rw [wrap64 (by omega) (by omega)]; omega
      have n4 := four_ok s hl (k + 6) hlen6 H.length H (Nat.le_refl _)
      have hs2 : secondS v (s.drop k) = (match fourS (s.drop (k + 6)) with | some w => pairU v w | none => none) := by unfold secondS; rw [hd4, hpre, hd6, if_pos rfl]
      cases h6 : fourS (s.drop (k + 6)) with
      | none =>
        rw [h6, fourR] at n4
        rw [h6] at hs2
        simp only at hs2
        have n7 := pair_ok v 0 H.length H (Nat.le_refl _)
        rw [pairU_0, pairR] at n7
        have n3 := put_ok v H.length H (Nat.le_refl _)
        cases hu : isU v with
        | false =>
          rw [show codedS (s.drop k) = none by simp [codedS, h4, hs2, hu]]
          simp only [hu, Bool.false_eq_true, if_false] at n3
          refine ⟨(k + 4 : Nat), ?_⟩
          refine pure_slim rfl (by kernel_rfl) Tryz.func181 s181 hp hsnap (by simp [Tryz.f181]) fun fr hlen h => ?_
          simp only [Has, Nat.zero_add] at h
          obtain ⟨a0, a1, -⟩ := h
          simp only [Tryz.f181] at hlen ⊢
          unfold g181
          simp only [wk, aBuiltin, AV.cells, AV.leaf, Nat.reduceEqDiff, Nat.reduceLT, Nat.reduceAdd, Nat.reduceLeDiff, reduceCtorEq, Nat.reduceMul, Nat.reduceMod, cfgP, u181, hlen, a0, a1, n1, w1, e1, n2, w2, n4, n7, n3, n5, none_beq, dn10]
          exact Fin_pure (l := [.nilS, .int .i64 (k + 4 : Nat), troub (k + 4 : Nat) 3]) (by simp [wk, aBuiltin, AV.cells, AV.leaf, Nat.reduceEqDiff, Nat.reduceLT, Nat.reduceAdd, Nat.reduceLeDiff, reduceCtorEq, Nat.reduceMul, Nat.reduceMod, cfgP, u181, hlen, aResults, aResult]) (hfe _ _) (by simp)
        | true =>
          rw [show codedS (s.drop k) = some (putU v, 4) by simp [codedS, h4, hs2, hu]]
          simp only [hu, if_true] at n3
          show _ = _
          refine pure_slim rfl (by kernel_rfl) Tryz.func181 s181 hp hsnap (by simp [Tryz.f181]) fun fr hlen h => ?_
          simp only [Has, Nat.zero_add] at h
          obtain ⟨a0, a1, -⟩ := h
          simp only [Tryz.f181] at hlen ⊢
          unfold g181
          simp only [wk, aBuiltin, AV.cells, AV.leaf, Nat.reduceEqDiff, Nat.reduceLT, Nat.reduceAdd, Nat.reduceLeDiff, reduceCtorEq, Nat.reduceMul, Nat.reduceMod, cfgP, u181, hlen, a0, a1, n1, w1, e1, n2, w2, n4, n7, n3, none_beq]
          exact Fin_pure (l := [.vs ((putU v).map encB) true, .int .i64 (k + 4 : Nat), .nilI]) (by simp [wk, aBuiltin, AV.cells, AV.leaf, Nat.reduceEqDiff, Nat.reduceLT, Nat.reduceAdd, Nat.reduceLeDiff, reduceCtorEq, Nat.reduceMul, Nat.reduceMod, cfgP, u181, hlen, aResults, aResult]) (hfz _ _ _) (by simp)
      | some w =>
        rw [h6, fourR] at n4
        rw [h6] at hs2
        simp only at hs2
        have n7 := pair_ok v w H.length H (Nat.le_refl _)
        cases hpr : pairU v w with
        | none =>
          rw [hpr] at hs2
          rw [hpr, pairR] at n7
          have n3 := put_ok v H.length H (Nat.le_refl _)
          cases hu : isU v with
          | false =>
            rw [show codedS (s.drop k) = none by simp [codedS, h4, hs2, hu]]
            simp only [hu, Bool.false_eq_true, if_false] at n3
            refine ⟨(k + 4 : Nat), ?_⟩
            refine pure_slim rfl (by kernel_rfl) Tryz.func181 s181 hp hsnap (by simp [Tryz.f181]) fun fr hlen h => ?_
            simp only [Has, Nat.zero_add] at h
            obtain ⟨a0, a1, -⟩ := h
            simp only [Tryz.f181] at hlen ⊢
            unfold g181
            simp only [wk, aBuiltin, AV.cells, AV.leaf, Nat.reduceEqDiff, Nat.reduceLT, Nat.reduceAdd, Nat.reduceLeDiff, reduceCtorEq, Nat.reduceMul, Nat.reduceMod, cfgP, u181, hlen, a0, a1, n1, w1, e1, n2, w2, n4, n7, n3, n5, none_beq, dn10]
            exact Fin_pure (l := [.nilS, .int .i64 (k + 4 : Nat), troub (k + 4 : Nat) 3]) (by simp [wk, aBuiltin, AV.cells, AV.leaf, Nat.reduceEqDiff, Nat.reduceLT, Nat.reduceAdd, Nat.reduceLeDiff, reduceCtorEq, Nat.reduceMul, Nat.reduceMod, cfgP, u181, hlen, aResults, aResult]) (hfe _ _) (by simp)
          | true =>
            rw [show codedS (s.drop k) = some (putU v, 4) by simp [codedS, h4, hs2, hu]]
            simp only [hu, if_true] at n3
            show _ = _
            refine pure_slim rfl (by kernel_rfl) Tryz.func181 s181 hp hsnap (by simp [Tryz.f181]) fun fr hlen h => ?_
            simp only [Has, Nat.zero_add] at h
            obtain ⟨a0, a1, -⟩ := h
            simp only [Tryz.f181] at hlen ⊢
            unfold g181
            simp only [wk, aBuiltin, AV.cells, AV.leaf, Nat.reduceEqDiff, Nat.reduceLT, Nat.reduceAdd, Nat.reduceLeDiff, reduceCtorEq, Nat.reduceMul, Nat.reduceMod, cfgP, u181, hlen, a0, a1, n1, w1, e1, n2, w2, n4, n7, n3, none_beq]
            exact Fin_pure (l := [.vs ((putU v).map encB) true, .int .i64 (k + 4 : Nat), .nilI]) (by simp [wk, aBuiltin, AV.cells, AV.leaf, Nat.reduceEqDiff, Nat.reduceLT, Nat.reduceAdd, Nat.reduceLeDiff, reduceCtorEq, Nat.reduceMul, Nat.reduceMod, cfgP, u181, hlen, aResults, aResult]) (hfz _ _ _) (by simp)
        | some p =>
          rw [hpr] at hs2
          rw [hpr, pairR] at n7
          have n3 := put_ok p H.length H (Nat.le_refl _)
          cases hu : isU p with
          | false =>
            rw [show codedS (s.drop k) = none by simp [codedS, h4, hs2, hu]]
            simp only [hu, Bool.false_eq_true, if_false] at n3
            refine ⟨(k + 10 : Nat), ?_⟩
            refine pure_slim rfl (by kernel_rfl) Tryz.func181 s181 hp hsnap (by simp [Tryz.f181]) fun fr hlen h => ?_
            simp only [Has, Nat.zero_add] at h
            obtain ⟨a0, a1, -⟩ := h
            simp only [Tryz.f181] at hlen ⊢
            unfold g181
            simp only [wk, aBuiltin, AV.cells, AV.leaf, Nat.reduceEqDiff, Nat.reduceLT, Nat.reduceAdd, Nat.reduceLeDiff, reduceCtorEq, Nat.reduceMul, Nat.reduceMod, cfgP, u181, hlen, a0, a1, n1, w1, e1, n2, w2, n4, n7, n3, n6, none_beq, w3, dn10]
            exact Fin_pure (l := [.nilS, .int .i64 (k + 10 : Nat), troub (k + 10 : Nat) 3]) (by simp [wk, aBuiltin, AV.cells, AV.leaf, Nat.reduceEqDiff, Nat.reduceLT, Nat.reduceAdd, Nat.reduceLeDiff, reduceCtorEq, Nat.reduceMul, Nat.reduceMod, cfgP, u181, hlen, aResults, aResult]) (hfe _ _) (by simp)
          | true =>
            rw [show codedS (s.drop k) = some (putU p, 10) by simp [codedS, h4, hs2, hu]]
            simp only [hu, if_true] at n3
            show _ = _
            refine pure_slim rfl (by kernel_rfl) Tryz.func181 s181 hp hsnap (by simp [Tryz.f181]) fun fr hlen h => ?_
            simp only [Has, Nat.zero_add] at h
            obtain ⟨a0, a1, -⟩ := h
            simp only [Tryz.f181] at hlen ⊢
            unfold g181
            simp only [wk, aBuiltin, AV.cells, AV.leaf, Nat.reduceEqDiff, Nat.reduceLT, Nat.reduceAdd, Nat.reduceLeDiff, reduceCtorEq, Nat.reduceMul, Nat.reduceMod, cfgP, u181, hlen, a0, a1, n1, w1, e1, n2, w2, n4, n7, n3, none_beq, w3]
            exact Fin_pure (l := [.vs ((putU p).map encB) true, .int .i64 (k + 10 : Nat), .nilI]) (by simp [wk, aBuiltin, AV.cells, AV.leaf, Nat.reduceEqDiff, Nat.reduceLT, Nat.reduceAdd, Nat.reduceLeDiff, reduceCtorEq, Nat.reduceMul, Nat.reduceMod, cfgP, u181, hlen, aResults, aResult]) (hfz _ _ _) (by simp)
theorem codedS_pos {r : List UInt8} {b : List UInt8} {n : Nat} (h : codedS r = some (b, n)) : 4 ≤ n ∧ n ≤ r.length ∧ b ≠ [] := by
  unfold codedS at h
  cases h4 : fourS r with
  | none => simp [h4] at h
  | some v =>
    obtain ⟨hl4, _⟩ := fourS_len h4
    simp only [h4] at h
    cases h2 : secondS v r with
    | none =>
      simp only [h2] at h
      split at h
      · cases h; exact ⟨by omega, by omega, by simp [putU]⟩
      · cases h
    | some p =>
      simp only [h2] at h
      split at h
      · cases h
        refine ⟨by omega, ?_, by simp [putU]⟩
        unfold secondS at h2
        split at h2
        · cases h6 : fourS (r.drop 6) with
          | none => simp [h6] at h2
          | some w =>
            obtain ⟨hl6, _⟩ := fourS_len h6
            simp only [List.length_drop] at hl6
            omega
        · cases h2
      · cases h
/-- what a sign behind a \ means. -/
def escC (c : UInt8) : Option UInt8 := if c = 98 then some 8 else if c = 102 then some 12 else if c = 110 then some 10 else if c = 114 then some 13 else if c = 116 then some 9 else if c = 34 then some 34 else if c = 92 then some 92 else if c = 47 then some 47 else none
def escS : List UInt8 → Option (List UInt8 × Nat)
  | [] => none
  | c :: t => if c = 117 then (codedS t).map (fun x => (x.1, x.2 + 1)) else (escC c).map fun d => ([d], 1)
theorem litN (c : Int) (H : Heap) : aBuildSlice Tryz.prog H 72 1 [(0, .int .u8 c)] = some (.vs [.int .u8 c] true, none) := by
  simp [aBuildSlice, se72, sz5, by5, ag5, ze5, AV.cells, fillA, zrep, splice, litOk, AV.scal, AV.plL, AV.pl, chunk, AV.leaf]

theorem esc_plain (s : List UInt8) (hl : s.length < 1000000000000000000) (k : Nat) (hk : k < s.length) (c d : UInt8) (hc : s[k] = c) (h : (c = 98 ∧ d = 8) ∨ (c = 102 ∧ d = 12) ∨ (c = 110 ∧ d = 10) ∨ (c = 114 ∧ d = 13) ∨ (c = 116 ∧ d = 9) ∨ (c = 34 ∧ d = 34) ∨ (c = 92 ∧ d = 92) ∨ (c = 47 ∧ d = 47))
    (prot : Nat) (H : Heap) (hp : prot ≤ H.length) : aLim cfg prot 167 [.str s, .int .i64 k] H = some (.tup [.vs ([d].map encB) true, .int .i64 (k + 1 : Nat), .nilI], none) := by
  have hsnap : snap H [.str s, .int .i64 k] = some ([.str s, .int .i64 k], false) := rfl
  have hls : ∀ K, aLen Tryz.prog K 9 (.str s) = some (.int .i64 s.length) := fun K => str_len Tryz.underlying9 s K
  have e1 := str_at (k := .i64) Tryz.underlying9 s hk
  have hnl : ¬ ((s.length : Int) ≤ k) := by omega
  have w1 : IntKind.i64.wrap ((k : Int) + 1) = ((k + 1 : Nat) : Int) := by rw [wrap64 (by omega) (by omega)]; simp
  have hfz : ∀ (K : Heap) (b : List UInt8) (i : Int), Frz K H.length (packR [.vs (b.map encB) true, .int .i64 i, .nilI]) (.tup [.vs (b.map encB) true, .int .i64 i, .nilI]) := fun K b i => .tup (.cons (.still rfl) (.cons (.still rfl) (.cons (.still rfl) .nil)))
  have lt := litN
  rw [hc] at e1
  rcases h with ⟨rfl, rfl⟩ | ⟨rfl, rfl⟩ | ⟨rfl, rfl⟩ | ⟨rfl, rfl⟩ | ⟨rfl, rfl⟩ | ⟨rfl, rfl⟩ | ⟨rfl, rfl⟩ | ⟨rfl, rfl⟩
  · rw [show (((98 : UInt8).toNat : Nat) : Int) = 98 from rfl] at e1
    refine pure_slim rfl (by kernel_rfl) Tryz.func167 s167 hp hsnap (by simp [Tryz.f167]) fun fr hlen h => ?_
    simp only [Has, Nat.zero_add] at h
    obtain ⟨a0, a1, -⟩ := h
    simp only [Tryz.f167] at hlen ⊢
    unfold g167
    simp only [wk, aBuiltin, AV.cells, AV.leaf, Nat.reduceEqDiff, Nat.reduceLT, Nat.reduceAdd, Nat.reduceLeDiff, reduceCtorEq, Nat.reduceMul, Nat.reduceMod, cfgP, u181, hlen, a0, a1, hls, hnl, e1, Int.reduceEq, lt, w1]
    exact Fin_pure (l := [.vs ([8].map encB) true, .int .i64 (k + 1 : Nat), .nilI]) (by simp [wk, aBuiltin, AV.cells, AV.leaf, Nat.reduceEqDiff, Nat.reduceLT, Nat.reduceAdd, Nat.reduceLeDiff, reduceCtorEq, Nat.reduceMul, Nat.reduceMod, cfgP, u181, hlen, aResults, aResult]; rfl) (hfz _ _ _) (by simp)
  · rw [show (((102 : UInt8).toNat : Nat) : Int) = 102 from rfl] at e1
    refine pure_slim rfl (by kernel_rfl) Tryz.func167 s167 hp hsnap (by simp [Tryz.f167]) fun fr hlen h => ?_
    simp only [Has, Nat.zero_add] at h
    obtain ⟨a0, a1, -⟩ := h
    simp only [Tryz.f167] at hlen ⊢
    unfold g167
    simp only [wk, aBuiltin, AV.cells, AV.leaf, Nat.reduceEqDiff, Nat.reduceLT, Nat.reduceAdd, Nat.reduceLeDiff, reduceCtorEq, Nat.reduceMul, Nat.reduceMod, cfgP, u181, hlen, a0, a1, hls, hnl, e1, Int.reduceEq, lt, w1]
    exact Fin_pure (l := [.vs ([12].map encB) true, .int .i64 (k + 1 : Nat), .nilI]) (by simp [wk, aBuiltin, AV.cells, AV.leaf, Nat.reduceEqDiff, Nat.reduceLT, Nat.reduceAdd, Nat.reduceLeDiff, reduceCtorEq, Nat.reduceMul, Nat.reduceMod, cfgP, u181, hlen, aResults, aResult]; rfl) (hfz _ _ _) (by simp)
  · rw [show (((110 : UInt8).toNat : Nat) : Int) = 110 from rfl] at e1
    refine pure_slim rfl (by kernel_rfl) Tryz.func167 s167 hp hsnap (by simp [Tryz.f167]) fun fr hlen h => ?_
    simp only [Has, Nat.zero_add] at h
    obtain ⟨a0, a1, -⟩ := h
    simp only [Tryz.f167] at hlen ⊢
    unfold g167
    simp only [wk, aBuiltin, AV.cells, AV.leaf, Nat.reduceEqDiff, Nat.reduceLT, Nat.reduceAdd, Nat.reduceLeDiff, reduceCtorEq, Nat.reduceMul, Nat.reduceMod, cfgP, u181, hlen, a0, a1, hls, hnl, e1, Int.reduceEq, lt, w1]
    exact Fin_pure (l := [.vs ([10].map encB) true, .int .i64 (k + 1 : Nat), .nilI]) (by simp [wk, aBuiltin, AV.cells, AV.leaf, Nat.reduceEqDiff, Nat.reduceLT, Nat.reduceAdd, Nat.reduceLeDiff, reduceCtorEq, Nat.reduceMul, Nat.reduceMod, cfgP, u181, hlen, aResults, aResult]; rfl) (hfz _ _ _) (by simp)
  · rw [show (((114 : UInt8).toNat : Nat) : Int) = 114 from rfl] at e1
    refine pure_slim rfl (by kernel_rfl) Tryz.func167 s167 hp hsnap (by simp [Tryz.f167]) fun fr hlen h => ?_
    simp only [Has, Nat.zero_add] at h
    obtain ⟨a0, a1, -⟩ := h
    simp only [Tryz.f167] at hlen ⊢
    unfold g167
    simp only [wk, aBuiltin, AV.cells, AV.leaf, Nat.reduceEqDiff, Nat.reduceLT, Nat.reduceAdd, Nat.reduceLeDiff, reduceCtorEq, Nat.reduceMul, Nat.reduceMod, cfgP, u181, hlen, a0, a1, hls, hnl, e1, Int.reduceEq, lt, w1]
    exact Fin_pure (l := [.vs ([13].map encB) true, .int .i64 (k + 1 : Nat), .nilI]) (by simp [wk, aBuiltin, AV.cells, AV.leaf, Nat.reduceEqDiff, Nat.reduceLT, Nat.reduceAdd, Nat.reduceLeDiff, reduceCtorEq, Nat.reduceMul, Nat.reduceMod, cfgP, u181, hlen, aResults, aResult]; rfl) (hfz _ _ _) (by simp)
  · rw [show (((116 : UInt8).toNat : Nat) : Int) = 116 from rfl] at e1
    refine pure_slim rfl (by kernel_rfl) Tryz.func167 s167 hp hsnap (by simp [Tryz.f167]) fun fr hlen h => ?_
    simp only [Has, Nat.zero_add] at h
    obtain ⟨a0, a1, -⟩ := h
    simp only [Tryz.f167] at hlen ⊢
    unfold g167
    simp only [wk, aBuiltin, AV.cells, AV.leaf, Nat.reduceEqDiff, Nat.reduceLT, Nat.reduceAdd, Nat.reduceLeDiff, reduceCtorEq, Nat.reduceMul, Nat.reduceMod, cfgP, u181, hlen, a0, a1, hls, hnl, e1, Int.reduceEq, lt, w1]
    exact Fin_pure (l := [.vs ([9].map encB) true, .int .i64 (k + 1 : Nat), .nilI]) (by simp [wk, aBuiltin, AV.cells, AV.leaf, Nat.reduceEqDiff, Nat.reduceLT, Nat.reduceAdd, Nat.reduceLeDiff, reduceCtorEq, Nat.reduceMul, Nat.reduceMod, cfgP, u181, hlen, aResults, aResult]; rfl) (hfz _ _ _) (by simp)
  · rw [show (((34 : UInt8).toNat : Nat) : Int) = 34 from rfl] at e1
    refine pure_slim rfl (by kernel_rfl) Tryz.func167 s167 hp hsnap (by simp [Tryz.f167]) fun fr hlen h => ?_
    simp only [Has, Nat.zero_add] at h
    obtain ⟨a0, a1, -⟩ := h
    simp only [Tryz.f167] at hlen ⊢
    unfold g167
    simp only [wk, aBuiltin, AV.cells, AV.leaf, Nat.reduceEqDiff, Nat.reduceLT, Nat.reduceAdd, Nat.reduceLeDiff, reduceCtorEq, Nat.reduceMul, Nat.reduceMod, cfgP, u181, hlen, a0, a1, hls, hnl, e1, Int.reduceEq, lt, w1]
    exact Fin_pure (l := [.vs ([34].map encB) true, .int .i64 (k + 1 : Nat), .nilI]) (by simp [wk, aBuiltin, AV.cells, AV.leaf, Nat.reduceEqDiff, Nat.reduceLT, Nat.reduceAdd, Nat.reduceLeDiff, reduceCtorEq, Nat.reduceMul, Nat.reduceMod, cfgP, u181, hlen, aResults, aResult]; rfl) (hfz _ _ _) (by simp)
  · rw [show (((92 : UInt8).toNat : Nat) : Int) = 92 from rfl] at e1
    refine pure_slim rfl (by kernel_rfl) Tryz.func167 s167 hp hsnap (by simp [Tryz.f167]) fun fr hlen h => ?_
    simp only [Has, Nat.zero_add] at h
    obtain ⟨a0, a1, -⟩ := h
    simp only [Tryz.f167] at hlen ⊢
    unfold g167
    simp only [wk, aBuiltin, AV.cells, AV.leaf, Nat.reduceEqDiff, Nat.reduceLT, Nat.reduceAdd, Nat.reduceLeDiff, reduceCtorEq, Nat.reduceMul, Nat.reduceMod, cfgP, u181, hlen, a0, a1, hls, hnl, e1, Int.reduceEq, lt, w1]
    exact Fin_pure (l := [.vs ([92].map encB) true, .int .i64 (k + 1 : Nat), .nilI]) (by simp [wk, aBuiltin, AV.cells, AV.leaf, Nat.reduceEqDiff, Nat.reduceLT, Nat.reduceAdd, Nat.reduceLeDiff, reduceCtorEq, Nat.reduceMul, Nat.reduceMod, cfgP, u181, hlen, aResults, aResult]; rfl) (hfz _ _ _) (by simp)
  · rw [show (((47 : UInt8).toNat : Nat) : Int) = 47 from rfl] at e1
    refine pure_slim rfl (by kernel_rfl) Tryz.func167 s167 hp hsnap (by simp [Tryz.f167]) fun fr hlen h => ?_
    simp only [Has, Nat.zero_add] at h
    obtain ⟨a0, a1, -⟩ := h
    simp only [Tryz.f167] at hlen ⊢
    unfold g167
    simp only [wk, aBuiltin, AV.cells, AV.leaf, Nat.reduceEqDiff, Nat.reduceLT, Nat.reduceAdd, Nat.reduceLeDiff, reduceCtorEq, Nat.reduceMul, Nat.reduceMod, cfgP, u181, hlen, a0, a1, hls, hnl, e1, Int.reduceEq, lt, w1]
    exact Fin_pure (l := [.vs ([47].map encB) true, .int .i64 (k + 1 : Nat), .nilI]) (by simp [wk, aBuiltin, AV.cells, AV.leaf, Nat.reduceEqDiff, Nat.reduceLT, Nat.reduceAdd, Nat.reduceLeDiff, reduceCtorEq, Nat.reduceMul, Nat.reduceMod, cfgP, u181, hlen, aResults, aResult]; rfl) (hfz _ _ _) (by simp)
theorem esc_end (s : List UInt8) (k : Nat) (hk : s.length ≤ k) (prot : Nat) (H : Heap) (hp : prot ≤ H.length) : aLim cfg prot 167 [.str s, .int .i64 k] H = some (.tup [.nilS, .int .i64 k, troub k 3], none) := by
  have hsnap : snap H [.str s, .int .i64 k] = some ([.str s, .int .i64 k], false) := rfl
  have hls : ∀ K, aLen Tryz.prog K 9 (.str s) = some (.int .i64 s.length) := fun K => str_len Tryz.underlying9 s K
  have hnl : ((s.length : Int) ≤ k) := by omega
  have n2 := wrong_ok k 3 H.length H (Nat.le_refl _)
  refine pure_slim rfl (by kernel_rfl) Tryz.func167 s167 hp hsnap (by simp [Tryz.f167]) fun fr hlen h => ?_
  simp only [Has, Nat.zero_add] at h
  obtain ⟨a0, a1, -⟩ := h
  simp only [Tryz.f167] at hlen ⊢
  unfold g167
  simp only [wk, aBuiltin, AV.cells, AV.leaf, Nat.reduceEqDiff, Nat.reduceLT, Nat.reduceAdd, Nat.reduceLeDiff, reduceCtorEq, Nat.reduceMul, Nat.reduceMod, cfgP, u181, hlen, a0, a1, hls, hnl, n2]
  exact Fin_pure (l := [.nilS, .int .i64 k, troub k 3]) (by simp [wk, aBuiltin, AV.cells, AV.leaf, Nat.reduceEqDiff, Nat.reduceLT, Nat.reduceAdd, Nat.reduceLeDiff, reduceCtorEq, Nat.reduceMul, Nat.reduceMod, cfgP, u181, hlen, aResults, aResult]) (.tup (.cons (.still rfl) (.cons (.still rfl) (.cons (.iface (.still rfl)) .nil)))) (by simp)
theorem esc_bad (s : List UInt8) (k : Nat) (hk : k < s.length) (c : UInt8) (hc : s[k] = c) (h1 : ¬ c = 98) (h2 : ¬ c = 102) (h3 : ¬ c = 110) (h4 : ¬ c = 114) (h5 : ¬ c = 116) (h6 : ¬ c = 34) (h7 : ¬ c = 92) (h8 : ¬ c = 47) (h9 : ¬ c = 117)
    (prot : Nat) (H : Heap) (hp : prot ≤ H.length) : aLim cfg prot 167 [.str s, .int .i64 k] H = some (.tup [.nilS, .int .i64 k, troub k 3], none) := by
  have hsnap : snap H [.str s, .int .i64 k] = some ([.str s, .int .i64 k], false) := rfl
  have hls : ∀ K, aLen Tryz.prog K 9 (.str s) = some (.int .i64 s.length) := fun K => str_len Tryz.underlying9 s K
  have e1 := str_at (k := .i64) Tryz.underlying9 s hk
  have hnl : ¬ ((s.length : Int) ≤ k) := by omega
  have n2 := wrong_ok k 3 H.length H (Nat.le_refl _)
  have ne : ∀ d : UInt8, ¬ c = d → ¬ ((c.toNat : Int) = (d.toNat : Int)) := fun d hd h => hd (UInt8.toNat_inj.1 (by omega))
  have q1 : ¬ ((c.toNat : Int) = 98) := ne 98 h1
  have q2 : ¬ ((c.toNat : Int) = 102) := ne 102 h2
  have q3 : ¬ ((c.toNat : Int) = 110) := ne 110 h3
  have q4 : ¬ ((c.toNat : Int) = 114) := ne 114 h4
  have q5 : ¬ ((c.toNat : Int) = 116) := ne 116 h5
  have q6 : ¬ ((c.toNat : Int) = 34) := ne 34 h6
  have q7 : ¬ ((c.toNat : Int) = 92) := ne 92 h7
  have q8 : ¬ ((c.toNat : Int) = 47) := ne 47 h8
  have q9 : ¬ ((c.toNat : Int) = 117) := ne 117 h9
  rw [hc] at e1
  refine pure_slim rfl (by kernel_rfl) Tryz.func167 s167 hp hsnap (by simp [Tryz.f167]) fun fr hlen h => ?_
  simp only [Has, Nat.zero_add] at h
  obtain ⟨a0, a1, -⟩ := h
  simp only [Tryz.f167] at hlen ⊢
  unfold g167
  simp only [wk, aBuiltin, AV.cells, AV.leaf, Nat.reduceEqDiff, Nat.reduceLT, Nat.reduceAdd, Nat.reduceLeDiff, reduceCtorEq, Nat.reduceMul, Nat.reduceMod, cfgP, u181, hlen, a0, a1, hls, hnl, e1, q1, q2, q3, q4, q5, q6, q7, q8, q9, n2]
  exact Fin_pure (l := [.nilS, .int .i64 k, troub k 3]) (by simp [wk, aBuiltin, AV.cells, AV.leaf, Nat.reduceEqDiff, Nat.reduceLT, Nat.reduceAdd, Nat.reduceLeDiff, reduceCtorEq, Nat.reduceMul, Nat.reduceMod, cfgP, u181, hlen, aResults, aResult]) (.tup (.cons (.still rfl) (.cons (.still rfl) (.cons (.iface (.still rfl)) .nil)))) (by simp)
theorem esc_u (s : List UInt8) (hl : s.length < 1000000000000000000) (k : Nat) (hk : k < s.length) (hc : s[k] = 117) (prot : Nat) (H : Heap) (hp : prot ≤ H.length) :
    Lex (k + 1) (aLim cfg prot 167 [.str s, .int .i64 k] H) (codedS (s.drop (k + 1))) := by
  have hsnap : snap H [.str s, .int .i64 k] = some ([.str s, .int .i64 k], false) := rfl
  have hls : ∀ K, aLen Tryz.prog K 9 (.str s) = some (.int .i64 s.length) := fun K => str_len Tryz.underlying9 s K
  have e1 := str_at (k := .i64) Tryz.underlying9 s hk
  have hnl : ¬ ((s.length : Int) ≤ k) := by omega
  have w1 : IntKind.i64.wrap ((k : Int) + 1) = ((k + 1 : Nat) : Int) := by rw [wrap64 (by omega) (by omega)]; simp
  rw [hc, show (((117 : UInt8).toNat : Nat) : Int) = 117 from rfl] at e1
  have n1 := coded_ok s hl (k + 1) (by omega) H.length H (Nat.le_refl _)
  generalize codedS (s.drop (k + 1)) = o at *
  cases o with
  | none =>
    obtain ⟨i, n1⟩ := n1
    refine ⟨i, ?_⟩
    refine pure_slim rfl (by kernel_rfl) Tryz.func167 s167 hp hsnap (by simp [Tryz.f167]) fun fr hlen h => ?_
    simp only [Has, Nat.zero_add] at h
    obtain ⟨a0, a1, -⟩ := h
    simp only [Tryz.f167] at hlen ⊢
    unfold g167
    simp only [wk, aBuiltin, AV.cells, AV.leaf, Nat.reduceEqDiff, Nat.reduceLT, Nat.reduceAdd, Nat.reduceLeDiff, reduceCtorEq, Nat.reduceMul, Nat.reduceMod, cfgP, u181, hlen, a0, a1, hls, hnl, e1, Int.reduceEq, w1, n1]
    exact Fin_pure (l := [.nilS, .int .i64 i, troub i 3]) (by simp [wk, aBuiltin, AV.cells, AV.leaf, Nat.reduceEqDiff, Nat.reduceLT, Nat.reduceAdd, Nat.reduceLeDiff, reduceCtorEq, Nat.reduceMul, Nat.reduceMod, cfgP, u181, hlen, aResults, aResult]) (.tup (.cons (.still rfl) (.cons (.still rfl) (.cons (.iface (.still rfl)) .nil)))) (by simp)
  | some x =>
    obtain ⟨b, n⟩ := x
    have n1 : aLim cfg H.length 181 [.str s, .int .i64 (k + 1 : Nat)] H = some (.tup [.vs (b.map encB) true, .int .i64 (k + 1 + n : Nat), .nilI], none) := n1
    show _ = _
    refine pure_slim rfl (by kernel_rfl) Tryz.func167 s167 hp hsnap (by simp [Tryz.f167]) fun fr hlen h => ?_
    simp only [Has, Nat.zero_add] at h
    obtain ⟨a0, a1, -⟩ := h
    simp only [Tryz.f167] at hlen ⊢
    unfold g167
    simp only [wk, aBuiltin, AV.cells, AV.leaf, Nat.reduceEqDiff, Nat.reduceLT, Nat.reduceAdd, Nat.reduceLeDiff, reduceCtorEq, Nat.reduceMul, Nat.reduceMod, cfgP, u181, hlen, a0, a1, hls, hnl, e1, Int.reduceEq, w1, n1]
    exact Fin_pure (l := [.vs (b.map encB) true, .int .i64 (k + 1 + n : Nat), .nilI]) (by simp [wk, aBuiltin, AV.cells, AV.leaf, Nat.reduceEqDiff, Nat.reduceLT, Nat.reduceAdd, Nat.reduceLeDiff, reduceCtorEq, Nat.reduceMul, Nat.reduceMod, cfgP, u181, hlen, aResults, aResult]) (.tup (.cons (.still rfl) (.cons (.still rfl) (.cons (.still rfl) .nil)))) (by simp)
theorem escaped_ok (s : List UInt8) (hl : s.length < 1000000000000000000) (k : Nat) (prot : Nat) (H : Heap) (hp : prot ≤ H.length) :
    Lex k (aLim cfg prot 167 [.str s, .int .i64 k] H) (escS (s.drop k)) := by
  by_cases hk : k < s.length
  · rw [List.drop_eq_getElem_cons hk]
    generalize hc : s[k] = c
    rw [escS]
    by_cases h9 : c = 117
    · rw [if_pos h9]
      subst h9
      have := esc_u s hl k hk hc prot H hp
      generalize codedS (s.drop (k + 1)) = o at *
      cases o with
      | none => exact this
      | some x =>
        obtain ⟨b, n⟩ := x
        have h2 : aLim cfg prot 167 [.str s, .int .i64 k] H = some (.tup [.vs (b.map encB) true, .int .i64 (k + 1 + n : Nat), .nilI], none) := this
        show _ = some (AV.tup [.vs (b.map encB) true, .int .i64 (k + (n + 1) : Nat), .nilI], none)
        rw [h2, show k + 1 + n = k + (n + 1) by omega]
    · rw [if_neg h9]
      have hd : (escC c = none ∧ ¬ c = 98 ∧ ¬ c = 102 ∧ ¬ c = 110 ∧ ¬ c = 114 ∧ ¬ c = 116 ∧ ¬ c = 34 ∧ ¬ c = 92 ∧ ¬ c = 47) ∨ ∃ d, escC c = some d ∧ ((c = 98 ∧ d = 8) ∨ (c = 102 ∧ d = 12) ∨ (c = 110 ∧ d = 10) ∨ (c = 114 ∧ d = 13) ∨ (c = 116 ∧ d = 9) ∨ (c = 34 ∧ d = 34) ∨ (c = 92 ∧ d = 92) ∨ (c = 47 ∧ d = 47)) := by
        by_cases h1 : c = 98
        · subst h1; exact .inr ⟨8, rfl, .inl ⟨rfl, rfl⟩⟩
        · by_cases h2 : c = 102
          · subst h2; exact .inr ⟨12, rfl, .inr (.inl ⟨rfl, rfl⟩)⟩
          · by_cases h3 : c = 110
            · subst h3; exact .inr ⟨10, rfl, .inr (.inr (.inl ⟨rfl, rfl⟩))⟩
            · by_cases h4 : c = 114
              · subst h4; exact .inr ⟨13, rfl, .inr (.inr (.inr (.inl ⟨rfl, rfl⟩)))⟩
              · by_cases h5 : c = 116
                · subst h5; exact .inr ⟨9, rfl, .inr (.inr (.inr (.inr (.inl ⟨rfl, rfl⟩))))⟩
                · by_cases h6 : c = 34
                  · subst h6; exact .inr ⟨34, rfl, .inr (.inr (.inr (.inr (.inr (.inl ⟨rfl, rfl⟩)))))⟩
                  · by_cases h7 : c = 92
                    · subst h7; exact .inr ⟨92, rfl, .inr (.inr (.inr (.inr (.inr (.inr (.inl ⟨rfl, rfl⟩))))))⟩
                    · by_cases h8 : c = 47
                      · subst h8; exact .inr ⟨47, rfl, .inr (.inr (.inr (.inr (.inr (.inr (.inr ⟨rfl, rfl⟩))))))⟩
                      · exact .inl ⟨by simp [escC, h1, h2, h3, h4, h5, h6, h7, h8], h1, h2, h3, h4, h5, h6, h7, h8⟩
      rcases hd with ⟨he, h1, h2, h3, h4, h5, h6, h7, h8⟩ | ⟨d, he, hcd⟩
      · rw [he]
        exact ⟨k, esc_bad s k hk c hc h1 h2 h3 h4 h5 h6 h7 h8 h9 prot H hp⟩
      · rw [he]
        exact esc_plain s hl k hk c d hc hcd prot H hp
  · have hd : s.drop k = [] := by simp; omega
    rw [hd]
    exact ⟨k, esc_end s k (by omega) prot H hp⟩
theorem escS_pos {r : List UInt8} {b : List UInt8} {n : Nat} (h : escS r = some (b, n)) : 1 ≤ n ∧ n ≤ r.length ∧ b ≠ [] := by
  cases r with
  | nil => cases h
  | cons c t =>
    rw [escS] at h
    split at h
    · cases hc : codedS t with
      | none => simp [hc] at h
      | some x =>
        obtain ⟨b', n'⟩ := x
        simp only [hc, Option.map_some, Option.some.injEq, Prod.mk.injEq] at h
        obtain ⟨rfl, rfl⟩ := h
        obtain ⟨h1, h2, h3⟩ := codedS_pos hc
        exact ⟨by omega, by simp; omega, h3⟩
    · cases hc : escC c with
      | none => simp [hc] at h
      | some d =>
        simp only [hc, Option.map_some, Option.some.injEq, Prod.mk.injEq] at h
        obtain ⟨rfl, rfl⟩ := h
        exact ⟨by omega, by simp, by simp⟩
end Go.Proofs.YtnipaiklandliaaGreatDoor
/- Pure functions of whose result only properties are known. -/
namespace Go.Abs
open Go
/-- a pure call of which what is known of what it hands back is said. -/
theorem pure_slimE {C : Cfg} {prot : Nat} {f : FuncId} {args args' : List AV} {sn : Bool} {H : Heap} {fn : Func} {c : Code} {P : AV → Prop} (hok : C.ok f = true) (hp : C.pure f = true) (hfn : C.P.funcs[f]? = some fn) (hb : fn.body.map (slim C) = some c)
    (hpr : prot ≤ H.length) (hs : snap H args = some (args', sn)) (hl : args'.length ≤ fn.ntmps)
    (h : ∀ fr, fr.length = fn.ntmps → Has fr 0 args' → ∃ r, P r ∧ R ⟨C, H.length, fn.results.toList, .pure sn⟩ c [] fr H (r, none)) : ∃ r, P r ∧ aLim C prot f args H = some (r, none) := by
  rw [Option.map_eq_some_iff] at hb
  obtain ⟨c0, hb, rfl⟩ := hb
  have h := entered (Q := fun fr => ∃ r, P r ∧ R ⟨C, H.length, fn.results.toList, .pure sn⟩ (slim C c0) [] fr H (r, none)) hl h
  obtain ⟨r0, hP, h⟩ := h
  have h := R_slim (X := ⟨C, H.length, fn.results.toList, .pure sn⟩) h
  refine ⟨r0, hP, ?_⟩
  obtain ⟨e, fr', H', h1, h2⟩ := h
  have h1' := aCode_conv (aLim_conv C) _ h1
  have hfin : Fin ⟨C, H.length, fn.results.toList, .pure sn⟩ fr' H' (r0, none) ∧ ∀ id, e ≠ .exit id := by
    cases e with
    | normal => exact ⟨h2, fun _ h => by cases h⟩
    | ret => exact ⟨h2, fun _ h => by cases h⟩
    | exit id => exact h2.elim
  obtain ⟨⟨l, hr, r', hfz, hfl, he⟩, hex⟩ := hfin
  cases he
  refine aLim_of ?_
  obtain ⟨n0, h0⟩ := h1'.and hfz.ev
  refine ⟨n0 + 1, fun n hn => ?_⟩
  obtain ⟨n, rfl⟩ : ∃ j, n = j + 1 := ⟨n - 1, by omega⟩
  obtain ⟨h3, h4⟩ := h0 n (by omega)
  have e2 : sn = true → flat r0 = true := hfl
  cases e with
  | exit id => exact absurd rfl (hex id)
  | normal =>
    simp only [aCall, hok, Bool.true_eq_false, if_false, hfn, hb, hp, if_true, hpr, hs, Option.bind_some, aBody, h3, hr, Option.map_some, h4]
    cases sn with
    | true => simp only [if_true, e2 rfl]
    | false => rfl
  | ret =>
    simp only [aCall, hok, Bool.true_eq_false, if_false, hfn, hb, hp, if_true, hpr, hs, Option.bind_some, aBody, h3, hr, Option.map_some, h4]
    cases sn with
    | true => simp only [if_true, e2 rfl]
    | false => rfl
theorem loop_ruleP {X : Ctx} {c : Code} {κ : List K} {P : AV → Prop} (Inv : Nat → List AV → Heap → Prop)
    (step : ∀ m fr H, Inv m fr H → (∀ fr' H' m', m' < m → Inv m' fr' H' → ∃ r, P r ∧ U X (.loop c :: κ) .normal fr' H' (r, none)) → ∃ r, P r ∧ R X c (.loop c :: κ) fr H (r, none)) :
    ∀ (m : Nat) (fr : List AV) (H : Heap), Inv m fr H → ∃ r, P r ∧ R X (.loop c) κ fr H (r, none) := by
  intro m
  induction m using Nat.strongRecOn with
  | _ m ih =>
    intro fr H h
    simp only [R_loop]
    refine step m fr H h fun fr' H' m' hm h' => ?_
    have := ih m' hm fr' H' h'
    simp only [U_loop, ← R_loop]
    exact this
end Go.Abs
/- jtok.text, walked. -/
namespace Go.Proofs.YtnipaiklandliaaGreatDoor
open Go Go.Abs AbsSeat Ty

theorem u142 : type_of% (And.intro ag3 (And.intro sz3 (And.intro by3 (And.intro ze3 (And.intro Tryz.underlying3 (And.intro ag5 (And.intro sz5 (And.intro by5 (And.intro ze5 (And.intro Tryz.underlying5 (And.intro ag9 (And.intro sz9 (And.intro by9 (And.intro ze9 (And.intro Tryz.underlying9 (And.intro ag28 (And.intro sz28 (And.intro by28 (And.intro ze28 (And.intro Tryz.underlying28 (And.intro ag72 (And.intro sz72 (And.intro by72 (And.intro se72 (And.intro ze72 (And.intro Tryz.underlying72 (And.intro ag76 (And.intro sz76 (And.intro by76 (And.intro ze76 Tryz.underlying76)))))))))))))))))))))))))))))) := And.intro ag3 (And.intro sz3 (And.intro by3 (And.intro ze3 (And.intro Tryz.underlying3 (And.intro ag5 (And.intro sz5 (And.intro by5 (And.intro ze5 (And.intro Tryz.underlying5 (And.intro ag9 (And.intro sz9 (And.intro by9 (And.intro ze9 (And.intro Tryz.underlying9 (And.intro ag28 (And.intro sz28 (And.intro by28 (And.intro ze28 (And.intro Tryz.underlying28 (And.intro ag72 (And.intro sz72 (And.intro by72 (And.intro se72 (And.intro ze72 (And.intro Tryz.underlying72 (And.intro ag76 (And.intro sz76 (And.intro by76 (And.intro ze76 Tryz.underlying76)))))))))))))))))))))))))))))
def g142 : Code :=
  .seq (.region 0 #[q 4 (.assign (.const (.string { data := #[] }))) 9, q 5 (.assign (ik 0)) 3, q 6 (.assign (.const .nilIface)) 76] false) (.seq (.region 1 #[q 7 (.assign (.const (.slice none 0 0))) 72] false) (.seq (.block 0 (.loop (.seq (.seq (.region 2 #[q 14 (.move (.tmp 1)) 3, q 15 (.move (.tmp 0)) 9, q 16 (bi .len #[.tmp 15] #[9]) 3, q 17 (.binOp .lss 3 (.tmp 14) (.tmp 16) 3) 4, q 18 (.move (.tmp 17)) 4, qg 19 (.move (.tmp 0)) 9 4 true, qg 20 (.move (.tmp 1)) 3 4 true, qg 21 (.index 9 (.tmp 19) (.tmp 20)) 5 4 true, qg 22 (.binOp .neq 5 (.tmp 21) (.const (.int .u8 34)) 5) 4 4 true, q 23 (.pick (.tmp 18) (.tmp 22) (.const (.bool false))) 4] false) (.cond (.tmp 23) .skip (.exit 0))) (.block 1 (.block 2 (.seq (.region 8 #[q 55 (.move (.tmp 0)) 9, q 56 (.move (.tmp 1)) 3, q 57 (.index 9 (.tmp 55) (.tmp 56)) 5, q 58 (.binOp .lss 5 (.tmp 57) (.const (.int .u8 32)) 5) 4, q 54 (.assign (.tmp 58)) 4] false) (.cond (.tmp 54) (.seq (.region 9 #[q 59 (.move (.tmp 1)) 3, q 60 (.move (.tmp 1)) 3, q 61 (cl 144 #[.tmp 60, ik 3] #[3, 28]) 76, q 4 (.assign (.const (.string { data := #[] }))) 9, q 5 (.assign (.tmp 59)) 3, q 6 (.assign (.tmp 61)) 76] false) .ret) (.seq (.region 10 #[q 63 (.move (.tmp 0)) 9, q 64 (.move (.tmp 1)) 3, q 65 (.index 9 (.tmp 63) (.tmp 64)) 5, q 66 (.binOp .eql 5 (.tmp 65) (.const (.int .u8 92)) 5) 4, q 62 (.assign (.tmp 66)) 4] false) (.cond (.tmp 62) (.seq (.region 11 #[q 68 (.move (.tmp 0)) 9, q 69 (.move (.tmp 1)) 3, q 70 (.binOp .add 3 (.tmp 69) (ik 1) 3) 3, q 71 (cl 167 #[.tmp 68, .tmp 70] #[9, 3]) 235, q 67 (.move (.tmp 71)) 235, q 72 (.extract (.tmp 67) 0) 72, q 73 (.extract (.tmp 67) 1) 3, q 74 (.extract (.tmp 67) 2) 76, q 8 (.assign (.tmp 72)) 72, q 9 (.assign (.tmp 73)) 3, q 10 (.assign (.tmp 74)) 76] false) (.seq (.seq (.region 12 #[q 75 (.move (.tmp 10)) 76, q 76 (.binOp .neq 76 (.tmp 75) (.const .nilIface) 76) 4] false) (.cond (.tmp 76) (.seq (.region 13 #[q 77 (.move (.tmp 1)) 3, q 78 (.move (.tmp 10)) 76, q 4 (.assign (.const (.string { data := #[] }))) 9, q 5 (.assign (.tmp 77)) 3, q 6 (.assign (.tmp 78)) 76] false) .ret) .skip)) (.seq (.region 14 #[q 79 (.move (.tmp 7)) 72, q 80 (.move (.tmp 8)) 72, q 81 (bi .append #[.tmp 79, .tmp 80] #[72, 72]) 72, q 7 (.assign (.tmp 81)) 72] false) (.region 15 #[q 82 (.move (.tmp 9)) 3, q 1 (.assign (.tmp 82)) 3] false)))) (.seq (.region 3 #[q 25 (.move (.tmp 0)) 9, q 26 (.move (.tmp 1)) 3, q 27 (.move (.tmp 1)) 3, q 28 (.binOp .add 3 (.tmp 27) (ik 4) 3) 3, q 29 (.move (.tmp 0)) 9, q 30 (bi .len #[.tmp 29] #[9]) 3, q 31 (bi .min #[.tmp 28, .tmp 30] #[3, 3]) 3, q 32 (.slice 9 (.tmp 25) (some (.tmp 26)) (some (.tmp 31)) none) 9, q 33 (.convert 9 72 (.tmp 32)) 72, q 34 (cl 94 #[.tmp 33] #[72]) 147, q 24 (.move (.tmp 34)) 147, q 35 (.extract (.tmp 24) 0) 21, q 36 (.extract (.tmp 24) 1) 3, q 37 (.extract (.tmp 24) 2) 28, q 11 (.assign (.tmp 35)) 21, q 12 (.assign (.tmp 36)) 3, q 13 (.assign (.tmp 37)) 28] false) (.seq (.seq (.region 4 #[q 38 (.move (.tmp 13)) 28, q 39 (.binOp .neq 28 (.tmp 38) (ik 0) 28) 4] false) (.cond (.tmp 39) (.seq (.region 5 #[q 40 (.move (.tmp 1)) 3, q 41 (.move (.tmp 1)) 3, q 42 (cl 144 #[.tmp 41, ik 3] #[3, 28]) 76, q 4 (.assign (.const (.string { data := #[] }))) 9, q 5 (.assign (.tmp 40)) 3, q 6 (.assign (.tmp 42)) 76] false) .ret) .skip)) (.seq (.region 6 #[q 43 (.move (.tmp 7)) 72, q 44 (.move (.tmp 0)) 9, q 45 (.move (.tmp 1)) 3, q 46 (.move (.tmp 1)) 3, q 47 (.move (.tmp 12)) 3, q 48 (.binOp .add 3 (.tmp 46) (.tmp 47) 3) 3, q 49 (.slice 9 (.tmp 44) (some (.tmp 45)) (some (.tmp 48)) none) 9, q 50 (bi .append #[.tmp 43, .tmp 49] #[72, 9]) 72, q 7 (.assign (.tmp 50)) 72] false) (.region 7 #[q 51 (.move (.tmp 1)) 3, q 52 (.move (.tmp 12)) 3, q 53 (.binOp .add 3 (.tmp 51) (.tmp 52) 3) 3, q 1 (.assign (.tmp 53)) 3] false))))))))))))) (.seq (.seq (.region 16 #[q 83 (.move (.tmp 1)) 3, q 84 (.move (.tmp 0)) 9, q 85 (bi .len #[.tmp 84] #[9]) 3, q 86 (.binOp .geq 3 (.tmp 83) (.tmp 85) 3) 4] false) (.cond (.tmp 86) (.seq (.region 17 #[q 87 (.move (.tmp 1)) 3, q 88 (.move (.tmp 1)) 3, q 89 (cl 144 #[.tmp 88, ik 3] #[3, 28]) 76, q 4 (.assign (.const (.string { data := #[] }))) 9, q 5 (.assign (.tmp 87)) 3, q 6 (.assign (.tmp 89)) 76] false) .ret) .skip)) (.seq (.region 18 #[q 90 (.move (.tmp 7)) 72, q 91 (.convert 72 9 (.tmp 90)) 9, q 92 (.move (.tmp 1)) 3, q 93 (.binOp .add 3 (.tmp 92) (ik 1) 3) 3, q 4 (.assign (.tmp 91)) 9, q 5 (.assign (.tmp 93)) 3, q 6 (.assign (.const .nilIface)) 76] false) .ret))))
theorem s142 : Tryz.f142.body.map (slim cfg) = some g142 := by kernel_rfl
theorem putT_len : ∀ (k : Nat) (r : Int) (t : List UInt8), (putT k r t).2.length = k + t.length
  | 0, r, t => by simp [putT]
  | k + 1, r, t => by rw [putT, putT_len k]; simp; omega
theorem putU_len (r : Int) : (putU r).length ≤ 4 := by
  have := widthU_b r
  simp only [putU, List.length_cons, putT_len, List.length_nil]
  omega
theorem codedS_out {r : List UInt8} {b : List UInt8} {n : Nat} (h : codedS r = some (b, n)) : b.length ≤ n := by
  have hn := (codedS_pos h).1
  have : b.length ≤ 4 := by
    unfold codedS at h
    cases h4 : fourS r with
    | none => simp [h4] at h
    | some v =>
      simp only [h4] at h
      cases h2 : secondS v r with
      | none => simp only [h2] at h; split at h <;> cases h; exact putU_len _
      | some p => simp only [h2] at h; split at h <;> cases h; exact putU_len _
  omega
theorem escS_out {r : List UInt8} {b : List UInt8} {n : Nat} (h : escS r = some (b, n)) : b.length ≤ n := by
  cases r with
  | nil => cases h
  | cons c t =>
    rw [escS] at h
    split at h
    · cases hc : codedS t with
      | none => simp [hc] at h
      | some x =>
        obtain ⟨b', n'⟩ := x
        simp only [hc, Option.map_some, Option.some.injEq, Prod.mk.injEq] at h
        obtain ⟨rfl, rfl⟩ := h
        have := codedS_out hc
        omega
    · cases hc : escC c with
      | none => simp [hc] at h
      | some d =>
        simp only [hc, Option.map_some, Option.some.injEq, Prod.mk.injEq] at h
        obtain ⟨rfl, rfl⟩ := h
        simp
/-- what stands in quotes, and how many bytes that are. -/
def textS (r : List UInt8) : Option (List UInt8 × Nat) :=
  match _hr : r with
  | [] => none
  | c :: t =>
    if c = 34 then some ([], 1)
    else if c.toNat < 32 then none
    else if c = 92 then
      match _h : escS t with
      | none => none
      | some (b, n) => (textS (t.drop n)).map fun x => (b ++ x.1, n + 1 + x.2)
    else if _h : (nextU ((c :: t).take 4)).2.2 = 0 then (textS ((c :: t).drop (nextU ((c :: t).take 4)).2.1)).map fun x => ((c :: t).take (nextU ((c :: t).take 4)).2.1 ++ x.1, (nextU ((c :: t).take 4)).2.1 + x.2)
    else none
termination_by r.length
decreasing_by
  · simp; omega
  · have := nextU_pos _h; simp only [List.length_drop, List.length_cons]; omega
theorem textS_nil : textS [] = none := by rw [textS]
theorem textS_end (t : List UInt8) : textS (34 :: t) = some ([], 1) := by rw [textS]; simp
theorem textS_low {c : UInt8} (t : List UInt8) (h1 : ¬ c = 34) (h2 : c.toNat < 32) : textS (c :: t) = none := by rw [textS]; simp only [if_neg h1, if_pos h2]
theorem textS_escE {t : List UInt8} (h : escS t = none) : textS (92 :: t) = none := by
  rw [textS, if_neg (by decide), if_neg (by decide), if_pos rfl]
  split
  · rfl
  · rename_i h2; rw [h] at h2; cases h2
theorem textS_esc {t b : List UInt8} {n : Nat} (h : escS t = some (b, n)) : textS (92 :: t) = (textS (t.drop n)).map fun x => (b ++ x.1, n + 1 + x.2) := by
  rw [textS, if_neg (by decide), if_neg (by decide), if_pos rfl]
  split
  · rename_i h2; rw [h] at h2; cases h2
  · rename_i h2; rw [h] at h2; cases h2; rfl
theorem textS_bad {c : UInt8} {t : List UInt8} (h1 : ¬ c = 34) (h2 : ¬ c.toNat < 32) (h3 : ¬ c = 92) (h4 : ¬ (nextU ((c :: t).take 4)).2.2 = 0) : textS (c :: t) = none := by
  rw [textS, if_neg h1, if_neg h2, if_neg h3, dif_neg h4]
theorem textS_rune {c : UInt8} {t : List UInt8} (h1 : ¬ c = 34) (h2 : ¬ c.toNat < 32) (h3 : ¬ c = 92) (h4 : (nextU ((c :: t).take 4)).2.2 = 0) :
    textS (c :: t) = (textS ((c :: t).drop (nextU ((c :: t).take 4)).2.1)).map fun x => ((c :: t).take (nextU ((c :: t).take 4)).2.1 ++ x.1, (nextU ((c :: t).take 4)).2.1 + x.2) := by
  rw [textS, if_neg h1, if_neg h2, if_neg h3, dif_pos h4]

theorem bytesB2 : ∀ s : List UInt8, bytesOk (cellsOf encB s) = true ∧ bytesOf (cellsOf encB s) = some s
  | [] => ⟨rfl, rfl⟩
  | c :: r => by
    obtain ⟨h1, h2⟩ := bytesB2 r
    have e : cellsOf encB (c :: r) = .int .u8 c.toNat :: cellsOf encB r := by simp [cellsOf, encB, AV.cells]
    rw [e]
    have := c.toNat_lt
    constructor
    · simp [bytesOk, h1]; omega
    · simp [bytesOf, h2]
theorem conv_tree {K : Heap} {o : AV} {b : List UInt8} (h : Sl encB o b) : aConvert Tryz.prog K 72 9 o = some (.str b, none) := by
  have h1 := h.elems encB_T K
  have h2 := (bytesB2 b).2
  cases h <;> simp [aConvert, Tryz.underlying72, Tryz.underlying9, Tryz.underlying5, h1, h2]
theorem elem_bs {K : Heap} {b ver : Nat} {s : List UInt8} (hg : hget K b ver = some (cellsOf encB s)) : elemCells K 1 (.bs ⟨b, ver, 0, s.length, 0, 1, false, false⟩) = some (s.length, cellsOf encB s) := by
  have hw : win (cellsOf encB s) 0 s.length = some (cellsOf encB s) := by
    have := cellsOf_drop encB_T s 0 (by simp)
    simpa using this
  simp [elemCells, hg, hw]
theorem conv_bs {K : Heap} {b ver : Nat} {s : List UInt8} (hg : hget K b ver = some (cellsOf encB s)) : aConvert Tryz.prog K 72 9 (.bs ⟨b, ver, 0, s.length, 0, 1, false, false⟩) = some (.str s, none) := by
  have h1 := elem_bs hg
  have h2 := (bytesB2 s).2
  simp [aConvert, Tryz.underlying72, Tryz.underlying9, Tryz.underlying5, h1, h2]
theorem snap_bs {K : Heap} {b ver : Nat} {s : List UInt8} (hg : hget K b ver = some (cellsOf encB s)) {r r' : List AV} (hr : snap K r = some (r', false)) : snap K (.bs ⟨b, ver, 0, s.length, 0, 1, false, false⟩ :: r) = some (.vs (s.map encB) false :: r', true) := by
  have hw : win (cellsOf encB s) 0 s.length = some (cellsOf encB s) := by
    have := cellsOf_drop encB_T s 0 (by simp)
    simpa using this
  have hc := chunk_cellsOf encB_T (by decide) s
  simp [snap, hg, hw, plB, hr, hc]
/-- bytes that grow from nil on. -/
def Bt (p : Nat) (K : Heap) (v : AV) (o : List UInt8) : Prop := (v = .nilS ∧ o = []) ∨ ∃ c ver, v = .bs ⟨c, ver, 0, o.length, 0, 1, false, false⟩ ∧ 0 < o.length ∧ p ≤ c ∧ ver % 4 = 2 ∧ hget K c ver = some (cellsOf encB o)
theorem Bt.more {p : Nat} {K : Heap} {v : AV} {o : List UInt8} (h : Bt p K v o) (l : List Blk) : Bt p (K ++ l) v o := by
  rcases h with h | ⟨c, ver, h1, h2, h3, h4, h5⟩
  · exact .inl h
  · exact .inr ⟨c, ver, h1, h2, h3, h4, hget_mono h5 _⟩
theorem Bt.conv {p : Nat} {K : Heap} {v : AV} {o : List UInt8} (h : Bt p K v o) : aConvert Tryz.prog K 72 9 v = some (.str o, none) := by
  rcases h with ⟨rfl, rfl⟩ | ⟨c, ver, rfl, h2, h3, h4, h5⟩
  · exact conv_tree .nil
  · exact conv_bs h5
theorem Bt.app {prot : Nat} {H : Heap} {buf : AV} {s : List UInt8} (h : Bt prot H buf s)
    {x : AV} {m : List UInt8} {xt : TypeId} (hxt : xt = 72 ∨ xt = 9) (hx : elemCells H 1 x = some (m.length, cellsOf encB m)) (hm : 0 < m.length) (hr : s.length + m.length ≤ 140737488355328) (hp : prot ≤ H.length) :
    ∃ v' H', aAppend Tryz.prog prot H #[72, xt] buf x = some (v', some H') ∧ Bt prot H' v' (s ++ m) ∧ H.length ≤ H'.length ∧ ∀ b' v cs, hget H b' v = some cs → v % 4 ≠ 2 → hget H' b' v = some cs := by
  have hl : (cellsOf encB m).all AV.leaf = true := cellsOf_leaf encB_T m
  have hm0 : ¬ m.length = 0 := by omega
  have hl' : ∀ y ∈ cellsOf encB m, y.leaf = true := List.all_eq_true.1 hl
  rcases h with ⟨rfl, rfl⟩ | ⟨c, ver, rfl, k1, k2, k3, k4⟩
  · refine ⟨_, H ++ [Blk.cells 2 (cellsOf encB m)], ?_, .inr ⟨H.length, 2, rfl, by simpa using hm, hp, rfl, by rw [hget_new rfl]; rfl⟩, by simp, fun b' v cs h _ => hget_mono h _⟩
    have hro : roomy m.length 1 = true := by simp [roomy] at hr ⊢; omega
    rcases hxt with rfl | rfl <;> simp [aAppend, Tryz.underlying72, Tryz.underlying9, se72, sz5, by5, ag5, ze5, AV.cells, hx, hm0, hro, rowV] <;> exact hl'
  · have hlt := hget_lt k4
    have hw : win (cellsOf encB s) 0 s.length = some (cellsOf encB s) := by
      have := cellsOf_drop encB_T s 0 (by simp)
      simpa using this
    have hro : roomy (s.length + m.length) 1 = true := by simp [roomy]; omega
    have hok : rowOk ver 0 5 = true := by
      have h1 : ver % 2 = 0 := by omega
      simp [rowOk, h1]
    refine ⟨.bs ⟨c, ver + 4, 0, (s ++ m).length, 0, 1, false, false⟩, H.set c (.cells (ver + 4) (cellsOf encB s ++ cellsOf encB m)), ?_, .inr ⟨c, ver + 4, rfl, by simp; omega, k2, by omega, ?_⟩, by simp, ?_⟩
    · rcases hxt with rfl | rfl <;> simp [aAppend, Tryz.underlying72, Tryz.underlying9, se72, sz5, by5, ag5, ze5, AV.cells, hx, hm0, hro, k4, hw, k2, hok] <;> exact hl'
    · rw [hget_set_same hlt, if_pos rfl, cellsOf_append]
    · intro b' v cs h hv
      have : b' ≠ c := fun e => by
        subst e
        have e1 := alive_of_hget h
        have e2 := alive_of_hget k4
        rw [e1] at e2
        injection (Option.some.inj e2) with e3 _
        omega
      rw [hget_set_ne this]; exact h
def TextR (k : Nat) (r : AV) : Option (List UInt8 × Nat) → Prop
  | none => ∃ i j, r = .tup [.str [], .int .i64 i, troub j 3]
  | some (b, n) => r = .tup [.str b, .int .i64 (k + n : Nat), .nilI]
theorem errNe (t : Nat) (v : AV) (xo yo : Operand) : aBin Tryz.prog .neq 76 xo yo (.iface t v) .nilI = some (.bool true) := iface_nil_ne Tryz.underlying76 _ _

theorem text_ok (s : List UInt8) (hl : s.length < 100000000000000) (k : Nat) (hk : k ≤ s.length) (prot : Nat) (H : Heap) (hp : prot ≤ H.length) :
    ∃ r, TextR k r (textS (s.drop k)) ∧ aLim cfg prot 142 [.str s, .int .i64 k] H = some (r, none) := by
  have hsnap : snap H [.str s, .int .i64 k] = some ([.str s, .int .i64 k], false) := rfl
  have hls : ∀ K, aLen Tryz.prog K 9 (.str s) = some (.int .i64 s.length) := fun K => str_len Tryz.underlying9 s K
  have hfe : ∀ (K : Heap) (i j : Int), Frz K H.length (packR [.str [], .int .i64 i, troub j 3]) (.tup [.str [], .int .i64 i, troub j 3]) := fun K i j => .tup (.cons (.still rfl) (.cons (.still rfl) (.cons (.iface (.still rfl)) .nil)))
  generalize hT : textS (s.drop k) = T
  refine pure_slimE rfl (by kernel_rfl) Tryz.func142 s142 hp hsnap (by simp [Tryz.f142]) fun fr hlen h => ?_
  simp only [Has, Nat.zero_add] at h
  obtain ⟨a0, a1, -⟩ := h
  simp only [Tryz.f142] at hlen ⊢
  unfold g142
  simp only [wk, aBuiltin, AV.cells, AV.leaf, Nat.reduceEqDiff, Nat.reduceLT, Nat.reduceAdd, Nat.reduceLeDiff, reduceCtorEq, Nat.reduceMul, Nat.reduceMod, cfgP, u142, hlen, a0, a1]
  refine loop_ruleP (fun m fr K => ∃ (i : Nat) (o : List UInt8) (v : AV), m = s.length - i ∧ k ≤ i ∧ i ≤ s.length ∧ o.length ≤ i - k ∧ fr.length = 94 ∧ fget fr 0 = .str s ∧ fget fr 1 = .int .i64 i ∧ fget fr 7 = v ∧ H.length ≤ K.length ∧ Bt H.length K v o ∧
    T = (textS (s.drop i)).map fun x => (o ++ x.1, i - k + x.2)) ?_ (s.length - k) _ _ ⟨k, [], .nilS, by simp [wk, aBuiltin, AV.cells, AV.leaf, Nat.reduceEqDiff, Nat.reduceLT, Nat.reduceAdd, Nat.reduceLeDiff, reduceCtorEq, Nat.reduceMul, Nat.reduceMod, cfgP, u142, hlen, a0, a1]; exact ⟨hk, .inl ⟨rfl, rfl⟩, hT.symm⟩⟩
  rintro m fr K ⟨i, o, v, rfl, hki, hi, hol, hlen, a0, a1, a7, hK, hB, hc⟩ ih
  by_cases hlt : i < s.length
  · have e1 := str_at (k := .i64) Tryz.underlying9 s hlt
    have hd : s.drop i = s[i] :: s.drop (i + 1) := List.drop_eq_getElem_cons hlt
    have hli : (i : Int) < (s.length : Nat) := by omega
    have hnl : ¬ (((s.length : Nat) : Int) ≤ i) := by omega
    have w1 : IntKind.i64.wrap ((i : Int) + 1) = ((i + 1 : Nat) : Int) := by rw [wrap64 (by omega) (by omega)]; simp
    have nw := wrong_ok i 3 H.length K hK
    rw [hd] at hc
    generalize s[i] = c at *
    by_cases c34 : c = 34
    · subst c34
      rw [show (((34 : UInt8).toNat : Nat) : Int) = 34 from rfl] at e1
      rw [textS_end] at hc
      simp only [Option.map_some, List.append_nil] at hc
      rw [hc]
      have dd : decide (¬ (34 : Int) = 34) = false := by decide
      simp only [wk, aBuiltin, AV.cells, AV.leaf, Nat.reduceEqDiff, Nat.reduceLT, Nat.reduceAdd, Nat.reduceLeDiff, reduceCtorEq, Nat.reduceMul, Nat.reduceMod, cfgP, u142, hlen, a0, a1, a7, hls, hli, hnl, e1, dd, none_beq, hB.conv, w1]
      refine ⟨_, show _ = _ from rfl, ?_⟩
      rw [show k + (i - k + 1) = i + 1 by omega]
      exact Fin_pure (l := [.str o, .int .i64 (i + 1 : Nat), .nilI]) (by simp [wk, aBuiltin, AV.cells, AV.leaf, Nat.reduceEqDiff, Nat.reduceLT, Nat.reduceAdd, Nat.reduceLeDiff, reduceCtorEq, Nat.reduceMul, Nat.reduceMod, cfgP, u142, hlen, aResults, aResult]) (.tup (.cons (.still rfl) (.cons (.still rfl) (.cons (.still rfl) .nil)))) (by simp)
    · have ne : ∀ d : UInt8, ¬ c = d → ¬ ((c.toNat : Int) = (d.toNat : Int)) := fun d hd h => hd (UInt8.toNat_inj.1 (by omega))
      have n34 : ¬ ((c.toNat : Int) = 34) := ne 34 c34
      have d34 : decide (¬ ((c.toNat : Int) = 34)) = true := decide_eq_true n34
      by_cases c32 : c.toNat < 32
      · rw [textS_low _ c34 c32] at hc
        simp only [Option.map_none] at hc
        rw [hc]
        have hlow : (c.toNat : Int) < 32 := by omega
        simp only [wk, aBuiltin, AV.cells, AV.leaf, Nat.reduceEqDiff, Nat.reduceLT, Nat.reduceAdd, Nat.reduceLeDiff, reduceCtorEq, Nat.reduceMul, Nat.reduceMod, cfgP, u142, hlen, a0, a1, a7, hls, hli, e1, d34, none_beq, hlow, nw]
        exact ⟨_, ⟨i, i, rfl⟩, Fin_pure (l := [.str [], .int .i64 i, troub i 3]) (by simp [wk, aBuiltin, AV.cells, AV.leaf, Nat.reduceEqDiff, Nat.reduceLT, Nat.reduceAdd, Nat.reduceLeDiff, reduceCtorEq, Nat.reduceMul, Nat.reduceMod, cfgP, u142, hlen, aResults, aResult]) (hfe _ _ _) (by simp)⟩
      · have hnlow : ¬ ((c.toNat : Int) < 32) := by omega
        by_cases c92 : c = 92
        · subst c92
          rw [show (((92 : UInt8).toNat : Nat) : Int) = 92 from rfl] at e1
          have dd : decide (¬ (92 : Int) = 34) = true := by decide
          have d2 : decide ((92 : Int) < 32) = false := by decide
          have ne1 := escaped_ok s (by omega) (i + 1) H.length K hK
          cases hes : escS (s.drop (i + 1)) with
          | none =>
            rw [hes] at ne1
            obtain ⟨j, ne1⟩ := ne1
            rw [textS_escE hes] at hc
            simp only [Option.map_none] at hc
            rw [hc]
            simp only [wk, aBuiltin, AV.cells, AV.leaf, Nat.reduceEqDiff, Nat.reduceLT, Nat.reduceAdd, Nat.reduceLeDiff, reduceCtorEq, Nat.reduceMul, Nat.reduceMod, cfgP, u142, hlen, a0, a1, a7, hls, hli, e1, dd, d2, none_beq, w1, ne1, troub, errNe]
            exact ⟨_, ⟨i, j, rfl⟩, Fin_pure (l := [.str [], .int .i64 i, troub j 3]) (by simp [wk, aBuiltin, AV.cells, AV.leaf, Nat.reduceEqDiff, Nat.reduceLT, Nat.reduceAdd, Nat.reduceLeDiff, reduceCtorEq, Nat.reduceMul, Nat.reduceMod, cfgP, u142, hlen, aResults, aResult, troub]) (hfe _ _ _) (by simp)⟩
          | some x =>
            obtain ⟨b, n⟩ := x
            rw [hes] at ne1
            have ne1 : aLim cfg H.length 167 [.str s, .int .i64 (i + 1 : Nat)] K = some (.tup [.vs (b.map encB) true, .int .i64 (i + 1 + n : Nat), .nilI], none) := ne1
            obtain ⟨hn1, hnl2, hbne⟩ := escS_pos hes
            simp only [List.length_drop] at hnl2
            have hbo := escS_out hes
            have hb0 : 0 < b.length := List.length_pos_iff.2 hbne
            rw [textS_esc hes, Option.map_map, List.drop_drop] at hc
            obtain ⟨v', K', ha, hB', hK', _⟩ := hB.app (x := .vs (b.map encB) true) (xt := 72) (.inl rfl) (elem_vs encB_T b true) hb0 (by omega) hK
            simp only [wk, aBuiltin, AV.cells, AV.leaf, Nat.reduceEqDiff, Nat.reduceLT, Nat.reduceAdd, Nat.reduceLeDiff, reduceCtorEq, Nat.reduceMul, Nat.reduceMod, cfgP, u142, hlen, a0, a1, a7, hls, hli, e1, dd, d2, none_beq, w1, ne1, nilNe, ha]
            refine ih _ _ (s.length - (i + 1 + n)) (by omega) ⟨i + 1 + n, o ++ b, v', rfl, by omega, by omega, ?_⟩
            simp [wk, aBuiltin, AV.cells, AV.leaf, Nat.reduceEqDiff, Nat.reduceLT, Nat.reduceAdd, Nat.reduceLeDiff, reduceCtorEq, Nat.reduceMul, Nat.reduceMod, cfgP, u142, hlen, a0]
            refine ⟨by omega, by omega, hB', ?_⟩
            rw [hc]
            have hf : ((fun x : List UInt8 × Nat => (o ++ x.1, i - k + x.2)) ∘ fun x : List UInt8 × Nat => (b ++ x.1, n + 1 + x.2)) = fun x => (o ++ b ++ x.1, i + 1 + n - k + x.2) := by
              funext x
              simp only [Function.comp, List.append_assoc, Prod.mk.injEq, true_and]
              omega
            rw [hf]
            simp only [List.append_assoc]
        · have n92 : ¬ ((c.toNat : Int) = 92) := ne 92 c92
          have w4 : IntKind.i64.wrap ((i : Int) + 4) = ((i + 4 : Nat) : Int) := by rw [wrap64 (by omega) (by omega)]; simp
          have hmin : ((min ((i + 4 : Nat) : Int) ((s.length : Nat) : Int)) : Int) = ((min (i + 4) s.length : Nat) : Int) := by omega
          have e2 := str_mid (k := .i64) (k' := .i64) Tryz.underlying9 s (a := i) (b := min (i + 4) s.length) (by omega) (by omega)
          have hq : (s.drop i).take (min (i + 4) s.length - i) = (s.drop i).take 4 := by
            by_cases h4 : i + 4 ≤ s.length
            · rw [show min (i + 4) s.length - i = 4 by omega]
            · rw [List.take_of_length_le (by simp; omega), List.take_of_length_le (by simp; omega)]
          rw [hq] at e2
          rw [← hd] at hc
          have hrune := fun h => textS_rune (c := c) (t := s.drop (i + 1)) c34 c32 c92 h
          have hbad := fun h => textS_bad (c := c) (t := s.drop (i + 1)) c34 c32 c92 h
          rw [← hd] at hrune hbad
          have cv := conv_sb Tryz.underlying9 Tryz.underlying72 Tryz.underlying5 K ((s.drop i).take 4)
          have hg : hget (K ++ [Blk.cells 0 (cellsOf encB ((s.drop i).take 4))]) K.length 0 = some (cellsOf encB ((s.drop i).take 4)) := by rw [hget_new rfl, if_pos rfl]
          have n3 := next_ok ((s.drop i).take 4) _ _ true (.vs _ _) (by simp; omega) H.length (K ++ [Blk.cells 0 (cellsOf encB ((s.drop i).take 4))]) (by simp; omega) (snap_bs hg (r := []) (r' := []) rfl)
          have hpos := nextU_pos (b := (s.drop i).take 4)
          have hl4 : ((s.drop i).take 4).length ≤ s.length - i := by simp; omega
          have hB2 := hB.more [Blk.cells 0 (cellsOf encB ((s.drop i).take 4))]
          have hlK : (K ++ [Blk.cells 0 (cellsOf encB ((s.drop i).take 4))]).length = K.length + 1 := by simp
          generalize K ++ [Blk.cells 0 (cellsOf encB ((s.drop i).take 4))] = K2 at *
          generalize nextU ((s.drop i).take 4) = q at *
          obtain ⟨ru, w, e⟩ := q
          simp only at hpos n3 hrune hbad
          have nw2 := wrong_ok i 3 H.length K2 (by omega)
          by_cases he : e = 0
          · subst he
            obtain ⟨hw0, hwl⟩ := hpos rfl
            have ww : IntKind.i64.wrap ((i : Int) + (w : Int)) = ((i + w : Nat) : Int) := by rw [wrap64 (by omega) (by omega)]; simp
            have e3 := str_mid (k := .i64) (k' := .i64) Tryz.underlying9 s (a := i) (b := i + w) (by omega) (by omega)
            rw [show i + w - i = w by omega] at e3
            have hml : ((s.drop i).take w).length = w := by simp; omega
            rw [hrune rfl, Option.map_map, List.drop_drop] at hc
            obtain ⟨v', K', ha, hB', hK', _⟩ := hB2.app (x := .str ((s.drop i).take w)) (m := (s.drop i).take w) (xt := 9) (.inr rfl) (by simp only [elemCells, cellsB, if_true]) (by omega) (by omega) (by omega : H.length ≤ K2.length)
            have dz : decide (¬ (0 : Int) = 0) = false := by decide
            simp only [wk, aBuiltin, AV.cells, AV.leaf, Nat.reduceEqDiff, Nat.reduceLT, Nat.reduceAdd, Nat.reduceLeDiff, reduceCtorEq, Nat.reduceMul, Nat.reduceMod, cfgP, u142, hlen, a0, a1, a7, hls, hli, e1, d34, n92, hnlow, none_beq, w4, hmin, e2, cv, n3, dz, ww, e3, ha]
            refine ih _ _ (s.length - (i + w)) (by omega) ⟨i + w, o ++ (s.drop i).take w, v', rfl, by omega, by omega, ?_⟩
            simp [wk, aBuiltin, AV.cells, AV.leaf, Nat.reduceEqDiff, Nat.reduceLT, Nat.reduceAdd, Nat.reduceLeDiff, reduceCtorEq, Nat.reduceMul, Nat.reduceMod, cfgP, u142, hlen, a0]
            refine ⟨by omega, by omega, hB', ?_⟩
            rw [hc]
            have hf : ((fun x : List UInt8 × Nat => (o ++ x.1, i - k + x.2)) ∘ fun x : List UInt8 × Nat => ((s.drop i).take w ++ x.1, w + x.2)) = fun x => (o ++ (s.drop i).take w ++ x.1, i + w - k + x.2) := by
              funext x
              simp only [Function.comp, List.append_assoc, Prod.mk.injEq, true_and]
              omega
            rw [hf]
            simp only [List.append_assoc]
          · have hne0 : decide (¬ e = 0) = true := decide_eq_true he
            rw [hbad he, Option.map_none] at hc
            rw [hc]
            simp only [wk, aBuiltin, AV.cells, AV.leaf, Nat.reduceEqDiff, Nat.reduceLT, Nat.reduceAdd, Nat.reduceLeDiff, reduceCtorEq, Nat.reduceMul, Nat.reduceMod, cfgP, u142, hlen, a0, a1, a7, hls, hli, e1, d34, n92, hnlow, none_beq, w4, hmin, e2, cv, n3, hne0, nw2]
            exact ⟨_, ⟨i, i, rfl⟩, Fin_pure (l := [.str [], .int .i64 i, troub i 3]) (by simp [wk, aBuiltin, AV.cells, AV.leaf, Nat.reduceEqDiff, Nat.reduceLT, Nat.reduceAdd, Nat.reduceLeDiff, reduceCtorEq, Nat.reduceMul, Nat.reduceMod, cfgP, u142, hlen, aResults, aResult]) (hfe _ _ _) (by simp)⟩
  · have hd : s.drop i = [] := by simp; omega
    have hnli : ¬ ((i : Int) < (s.length : Nat)) := by omega
    have hge : (((s.length : Nat) : Int) ≤ i) := by omega
    have nw := wrong_ok i 3 H.length K hK
    rw [hd, textS_nil, Option.map_none] at hc
    rw [hc]
    simp only [wk, aBuiltin, AV.cells, AV.leaf, Nat.reduceEqDiff, Nat.reduceLT, Nat.reduceAdd, Nat.reduceLeDiff, reduceCtorEq, Nat.reduceMul, Nat.reduceMod, cfgP, u142, hlen, a0, a1, a7, hls, hnli, hge, none_beq, nw]
    exact ⟨_, ⟨i, i, rfl⟩, Fin_pure (l := [.str [], .int .i64 i, troub i 3]) (by simp [wk, aBuiltin, AV.cells, AV.leaf, Nat.reduceEqDiff, Nat.reduceLT, Nat.reduceAdd, Nat.reduceLeDiff, reduceCtorEq, Nat.reduceMul, Nat.reduceMod, cfgP, u142, hlen, aResults, aResult]) (hfe _ _ _) (by simp)⟩
end Go.Proofs.YtnipaiklandliaaGreatDoor
/- jtok.token, walked. -/
namespace Go.Proofs.YtnipaiklandliaaGreatDoor
open Go Go.Abs AbsSeat Ty

theorem u110 : type_of% (And.intro (show tagT Tryz.prog 120 = 0 from by kernel_rfl) (And.intro ag2 (And.intro sz2 (And.intro by2 (And.intro ze2 (And.intro Tryz.underlying2 (And.intro ag3 (And.intro sz3 (And.intro by3 (And.intro ze3 (And.intro Tryz.underlying3 (And.intro ag5 (And.intro sz5 (And.intro by5 (And.intro ze5 (And.intro Tryz.underlying5 (And.intro ag9 (And.intro sz9 (And.intro by9 (And.intro ze9 (And.intro Tryz.underlying9 (And.intro ag28 (And.intro sz28 (And.intro by28 (And.intro ze28 (And.intro Tryz.underlying28 (And.intro ag76 (And.intro sz76 (And.intro by76 (And.intro ze76 (And.intro Tryz.underlying76 (And.intro ag110 (And.intro sz110 (And.intro by110 (And.intro ze110 (And.intro Tryz.underlying110 (And.intro ag120 (And.intro sz120 (And.intro by120 (And.intro ze120 (And.intro bu120 (And.intro Tryz.underlying120 (And.intro fa120_0 (And.intro fd120_0 (And.intro fa120_2 (And.intro fd120_2 (And.intro fa120_3 (And.intro fd120_3 (And.intro fa120_4 fd120_4))))))))))))))))))))))))))))))))))))))))))))))))) := And.intro (show tagT Tryz.prog 120 = 0 from by kernel_rfl) (And.intro ag2 (And.intro sz2 (And.intro by2 (And.intro ze2 (And.intro Tryz.underlying2 (And.intro ag3 (And.intro sz3 (And.intro by3 (And.intro ze3 (And.intro Tryz.underlying3 (And.intro ag5 (And.intro sz5 (And.intro by5 (And.intro ze5 (And.intro Tryz.underlying5 (And.intro ag9 (And.intro sz9 (And.intro by9 (And.intro ze9 (And.intro Tryz.underlying9 (And.intro ag28 (And.intro sz28 (And.intro by28 (And.intro ze28 (And.intro Tryz.underlying28 (And.intro ag76 (And.intro sz76 (And.intro by76 (And.intro ze76 (And.intro Tryz.underlying76 (And.intro ag110 (And.intro sz110 (And.intro by110 (And.intro ze110 (And.intro Tryz.underlying110 (And.intro ag120 (And.intro sz120 (And.intro by120 (And.intro ze120 (And.intro bu120 (And.intro Tryz.underlying120 (And.intro fa120_0 (And.intro fd120_0 (And.intro fa120_2 (And.intro fd120_2 (And.intro fa120_3 (And.intro fd120_3 (And.intro fa120_4 fd120_4))))))))))))))))))))))))))))))))))))))))))))))))
def g110 : Code :=
  .seq (.region 0 #[q 4 (.alloc 120) 0, q 5 (.assign (.const .nilIface)) 76] false) (.seq (.region 1 #[q 13 (.move (.tmp 1)) 3, q 14 (.move (.tmp 1)) 3, q 15 (.binOp .add 3 (.tmp 14) (ik 1) 3) 3, q 16 (.build 120 #[(1, .tmp 13), (2, .tmp 15)]) 120, q 6 (.alloc 120) 0, qn (.store 120 (.tmp 6) (.tmp 16)) 0] false) (.seq (.seq (.region 2 #[q 17 (.move (.tmp 0)) 9, q 18 (.move (.tmp 1)) 3, q 19 (.index 9 (.tmp 17) (.tmp 18)) 5, q 20 (cl 74 #[.const (.string { data := #[123, 125, 91, 93, 58, 44] }), .tmp 19] #[9, 5]) 3, q 7 (.assign (.tmp 20)) 3] false) (.seq (.region 3 #[q 21 (.move (.tmp 7)) 3, q 22 (.binOp .geq 3 (.tmp 21) (ik 0) 3) 4] false) (.cond (.tmp 22) (.seq (.region 4 #[q 23 (.move (.tmp 7)) 3, q 24 (.binOp .add 3 (ik 1) (.tmp 23) 3) 3, q 25 (.fieldAddr 120 (.tmp 6) 0) 0, qn (.store 3 (.tmp 25) (.tmp 24)) 0] false) (.seq (.region 5 #[q 26 (.load 120 (.tmp 6)) 120, qn (.store 120 (.tmp 4) (.tmp 26)) 0, q 5 (.assign (.const .nilIface)) 76] false) .ret)) .skip))) (.seq (.seq (.region 6 #[q 27 (.move (.tmp 0)) 9, q 28 (.move (.tmp 1)) 3, q 29 (.index 9 (.tmp 27) (.tmp 28)) 5, q 30 (.binOp .eql 5 (.tmp 29) (.const (.int .u8 34)) 5) 4] false) (.cond (.tmp 30) (.seq (.region 7 #[q 32 (.move (.tmp 0)) 9, q 33 (.move (.tmp 1)) 3, q 34 (.binOp .add 3 (.tmp 33) (ik 1) 3) 3, q 35 (cl 142 #[.tmp 32, .tmp 34] #[9, 3]) 198, q 31 (.move (.tmp 35)) 198, q 36 (.extract (.tmp 31) 0) 9, q 37 (.extract (.tmp 31) 1) 3, q 38 (.extract (.tmp 31) 2) 76, q 8 (.assign (.tmp 36)) 9, q 9 (.assign (.tmp 37)) 3, q 10 (.assign (.tmp 38)) 76] false) (.seq (.seq (.region 8 #[q 39 (.move (.tmp 10)) 76, q 40 (.binOp .neq 76 (.tmp 39) (.const .nilIface) 76) 4] false) (.cond (.tmp 40) (.seq (.region 9 #[q 41 (.build 120 #[]) 120, q 42 (.move (.tmp 10)) 76, qn (.store 120 (.tmp 4) (.tmp 41)) 0, q 5 (.assign (.tmp 42)) 76] false) .ret) .skip)) (.seq (.region 10 #[q 43 (.move (.tmp 8)) 9, q 44 (.move (.tmp 9)) 3, q 45 (.fieldAddr 120 (.tmp 6) 0) 0, qn (.store 3 (.tmp 45) (ik 7)) 0, q 46 (.fieldAddr 120 (.tmp 6) 3) 0, qn (.store 9 (.tmp 46) (.tmp 43)) 0, q 47 (.fieldAddr 120 (.tmp 6) 2) 0, qn (.store 3 (.tmp 47) (.tmp 44)) 0] false) (.seq (.region 11 #[q 48 (.load 120 (.tmp 6)) 120, qn (.store 120 (.tmp 4) (.tmp 48)) 0, q 5 (.assign (.const .nilIface)) 76] false) .ret)))) .skip)) (.seq (.seq (.region 12 #[q 49 (.move (.tmp 0)) 9, q 50 (.move (.tmp 1)) 3, q 51 (.index 9 (.tmp 49) (.tmp 50)) 5, q 52 (cl 62 #[.tmp 51] #[5]) 4, q 53 (.move (.tmp 52)) 4, qg 54 (.move (.tmp 0)) 9 4 false, qg 55 (.move (.tmp 1)) 3 4 false, qg 56 (.index 9 (.tmp 54) (.tmp 55)) 5 4 false, qg 57 (.binOp .eql 5 (.tmp 56) (.const (.int .u8 45)) 5) 4 4 false, q 58 (.pick (.tmp 53) (.const (.bool true)) (.tmp 57)) 4] false) (.cond (.tmp 58) (.seq (.region 13 #[q 59 (.move (.tmp 0)) 9, q 60 (.move (.tmp 1)) 3, q 61 (cl 108 #[.tmp 59, .tmp 60, .func 143] #[9, 3, 110]) 3, q 62 (.fieldAddr 120 (.tmp 6) 2) 0, qn (.store 3 (.tmp 62) (.tmp 61)) 0] false) (.seq (.region 14 #[q 64 (.move (.tmp 0)) 9, q 65 (.move (.tmp 1)) 3, q 66 (.fieldAddr 120 (.tmp 6) 2) 0, q 67 (.load 3 (.tmp 66)) 3, q 68 (.slice 9 (.tmp 64) (some (.tmp 65)) (some (.tmp 67)) none) 9, q 69 (cl 49 #[.tmp 68] #[9]) 86, q 63 (.move (.tmp 69)) 86, q 70 (.extract (.tmp 63) 0) 2, q 71 (.extract (.tmp 63) 1) 28, q 11 (.assign (.tmp 70)) 2, q 12 (.assign (.tmp 71)) 28] false) (.seq (.seq (.region 15 #[q 72 (.move (.tmp 12)) 28, q 73 (.binOp .neq 28 (.tmp 72) (ik 0) 28) 4] false) (.cond (.tmp 73) (.seq (.region 16 #[q 74 (.build 120 #[]) 120, q 75 (.move (.tmp 1)) 3, q 76 (.move (.tmp 12)) 28, q 77 (cl 144 #[.tmp 75, .tmp 76] #[3, 28]) 76, qn (.store 120 (.tmp 4) (.tmp 74)) 0, q 5 (.assign (.tmp 77)) 76] false) .ret) .skip)) (.seq (.region 17 #[q 78 (.move (.tmp 11)) 2, q 79 (.fieldAddr 120 (.tmp 6) 0) 0, qn (.store 3 (.tmp 79) (ik 8)) 0, q 80 (.fieldAddr 120 (.tmp 6) 4) 0, qn (.store 2 (.tmp 80) (.tmp 78)) 0] false) (.seq (.region 18 #[q 81 (.load 120 (.tmp 6)) 120, qn (.store 120 (.tmp 4) (.tmp 81)) 0, q 5 (.assign (.const .nilIface)) 76] false) .ret))))) .skip)) (.seq (.region 19 #[q 82 (.move (.tmp 0)) 9, q 83 (.move (.tmp 1)) 3, q 84 (cl 108 #[.tmp 82, .tmp 83, .func 145] #[9, 3, 110]) 3, q 85 (.fieldAddr 120 (.tmp 6) 2) 0, qn (.store 3 (.tmp 85) (.tmp 84)) 0] false) (.seq (.region 20 #[q 86 (.move (.tmp 0)) 9, q 87 (.move (.tmp 1)) 3, q 88 (.fieldAddr 120 (.tmp 6) 2) 0, q 89 (.load 3 (.tmp 88)) 3, q 90 (.slice 9 (.tmp 86) (some (.tmp 87)) (some (.tmp 89)) none) 9, q 91 (cl 146 #[.tmp 90] #[9]) 3, q 92 (.fieldAddr 120 (.tmp 6) 0) 0, qn (.store 3 (.tmp 92) (.tmp 91)) 0] false) (.seq (.seq (.region 21 #[q 93 (.fieldAddr 120 (.tmp 6) 0) 0, q 94 (.load 3 (.tmp 93)) 3, q 95 (.binOp .eql 3 (.tmp 94) (ik 0) 3) 4] false) (.cond (.tmp 95) (.seq (.region 22 #[q 96 (.build 120 #[]) 120, q 97 (.move (.tmp 1)) 3, q 98 (cl 144 #[.tmp 97, ik 3] #[3, 28]) 76, qn (.store 120 (.tmp 4) (.tmp 96)) 0, q 5 (.assign (.tmp 98)) 76] false) .ret) .skip)) (.seq (.region 23 #[q 99 (.load 120 (.tmp 6)) 120, qn (.store 120 (.tmp 4) (.tmp 99)) 0, q 5 (.assign (.const .nilIface)) 76] false) .ret))))))))
theorem s110 : Tryz.f110.body.map (slim cfg) = some g110 := by kernel_rfl
theorem beqD (s w : List UInt8) : (s == w) = decide (s = w) := by by_cases h : s = w <;> simp [h]
def wTrue : List UInt8 := [116, 114, 117, 101]
def wFalse : List UInt8 := [102, 97, 108, 115, 101]
def wNull : List UInt8 := [110, 117, 108, 108]
def wordS (s : List UInt8) : Int := if s = wTrue then 9 else if s = wFalse then 10 else if s = wNull then 11 else 0

theorem word_ok (s : List UInt8) (prot : Nat) (H : Heap) (hp : prot ≤ H.length) : aLim cfg prot 146 [.str s] H = some (.int .i64 (wordS s), none) := by
  have hsnap : snap H [.str s] = some ([.str s], false) := rfl
  unfold wordS
  have b1 : (s == [116, 114, 117, 101]) = decide (s = wTrue) := beqD _ _
  have b2 : (s == [102, 97, 108, 115, 101]) = decide (s = wFalse) := beqD _ _
  have b3 : (s == [110, 117, 108, 108]) = decide (s = wNull) := beqD _ _
  refine pure_slim rfl (by kernel_rfl) Tryz.func146 s146 hp hsnap (by simp [Tryz.f146]) fun fr hlen h => ?_
  simp only [Has, Nat.zero_add] at h
  obtain ⟨a0, -⟩ := h
  simp only [Tryz.f146] at hlen ⊢
  unfold g146
  by_cases h1 : s = wTrue
  · rw [if_pos h1]
    have d1 : decide (s = wTrue) = true := decide_eq_true h1
    simp only [wk, aBuiltin, AV.cells, AV.leaf, Nat.reduceEqDiff, Nat.reduceLT, Nat.reduceAdd, Nat.reduceLeDiff, reduceCtorEq, Nat.reduceMul, Nat.reduceMod, cfgP, u181, hlen, a0, str_eql, b1, d1]
    exact Fin_pure (l := [.int .i64 9]) (by simp [wk, aBuiltin, AV.cells, AV.leaf, Nat.reduceEqDiff, Nat.reduceLT, Nat.reduceAdd, Nat.reduceLeDiff, reduceCtorEq, Nat.reduceMul, Nat.reduceMod, cfgP, u181, aResults, aResult, hlen]) (.still rfl) (by simp)
  · rw [if_neg h1]
    have d1 : decide (s = wTrue) = false := decide_eq_false h1
    by_cases h2 : s = wFalse
    · rw [if_pos h2]
      have d2 : decide (s = wFalse) = true := decide_eq_true h2
      simp only [wk, aBuiltin, AV.cells, AV.leaf, Nat.reduceEqDiff, Nat.reduceLT, Nat.reduceAdd, Nat.reduceLeDiff, reduceCtorEq, Nat.reduceMul, Nat.reduceMod, cfgP, u181, hlen, a0, str_eql, b1, d1, b2, d2]
      exact Fin_pure (l := [.int .i64 10]) (by simp [wk, aBuiltin, AV.cells, AV.leaf, Nat.reduceEqDiff, Nat.reduceLT, Nat.reduceAdd, Nat.reduceLeDiff, reduceCtorEq, Nat.reduceMul, Nat.reduceMod, cfgP, u181, aResults, aResult, hlen]) (.still rfl) (by simp)
    · rw [if_neg h2]
      have d2 : decide (s = wFalse) = false := decide_eq_false h2
      by_cases h3 : s = wNull
      · rw [if_pos h3]
        have d3 : decide (s = wNull) = true := decide_eq_true h3
        simp only [wk, aBuiltin, AV.cells, AV.leaf, Nat.reduceEqDiff, Nat.reduceLT, Nat.reduceAdd, Nat.reduceLeDiff, reduceCtorEq, Nat.reduceMul, Nat.reduceMod, cfgP, u181, hlen, a0, str_eql, b1, d1, b2, d2, b3, d3]
        exact Fin_pure (l := [.int .i64 11]) (by simp [wk, aBuiltin, AV.cells, AV.leaf, Nat.reduceEqDiff, Nat.reduceLT, Nat.reduceAdd, Nat.reduceLeDiff, reduceCtorEq, Nat.reduceMul, Nat.reduceMod, cfgP, u181, aResults, aResult, hlen]) (.still rfl) (by simp)
      · rw [if_neg h3]
        have d3 : decide (s = wNull) = false := decide_eq_false h3
        simp only [wk, aBuiltin, AV.cells, AV.leaf, Nat.reduceEqDiff, Nat.reduceLT, Nat.reduceAdd, Nat.reduceLeDiff, reduceCtorEq, Nat.reduceMul, Nat.reduceMod, cfgP, u181, hlen, a0, str_eql, b1, d1, b2, d2, b3, d3]
        exact Fin_pure (l := [.int .i64 0]) (by simp [wk, aBuiltin, AV.cells, AV.leaf, Nat.reduceEqDiff, Nat.reduceLT, Nat.reduceAdd, Nat.reduceLeDiff, reduceCtorEq, Nat.reduceMul, Nat.reduceMod, cfgP, u181, aResults, aResult, hlen]) (.still rfl) (by simp)
structure Tk where
  kind : Int
  len : Nat
  text : List UInt8
  n : Int
inductive TkR where
  | bad (e : Int)
  | tok (t : Tk)
def signs : List UInt8 := [123, 125, 91, 93, 58, 44]
/-- the token at the beginning of bytes. -/
def tokS : List UInt8 → TkR
  | [] => .bad 6
  | c :: t =>
    if 0 ≤ idxByte signs c then .tok ⟨1 + idxByte signs c, 1, [], 0⟩
    else if c = 34 then (match textS t with | none => .bad 3 | some (b, n) => .tok ⟨7, n + 1, b, 0⟩)
    else if digitC c.toNat || decide (c = 45) then
      (if (numS ((c :: t).take (runS numericC (c :: t)))).2 = 0 then .tok ⟨8, runS numericC (c :: t), [], (numS ((c :: t).take (runS numericC (c :: t)))).1⟩ else .bad (numS ((c :: t).take (runS numericC (c :: t)))).2)
    else if wordS ((c :: t).take (runS wordyC (c :: t))) = 0 then .bad 3
    else .tok ⟨wordS ((c :: t).take (runS wordyC (c :: t))), runS wordyC (c :: t), [], 0⟩
def tkC (kind from_ to : Int) (text : List UInt8) (n : Int) : List AV := [.int .i64 kind, .int .i64 from_, .int .i64 to, .str text, .int .i64 n]
def tkAt (k : Nat) (t : Tk) : List AV := tkC t.kind k (k + t.len : Nat) t.text t.n
def tk0 : List AV := tkC 0 0 0 [] 0
def TokR (k : Nat) (r : AV) : TkR → Prop
  | .bad e => ∃ j, r = .tup [.agg tk0, troub j e]
  | .tok t => r = .tup [.agg (tkAt k t), .nilI]
section
variable {H : Heap} {a b : List AV}
theorem two_get0 : hget (H ++ [.cells 0 a, .cells 0 b]) H.length 0 = some a := by rw [hget_new rfl, if_pos rfl]
theorem two_get1 : hget (H ++ [.cells 0 a, .cells 0 b]) (H.length + 1) 0 = some b := by
  have := hget_new (H := H ++ [.cells 0 a]) (b := H.length + 1) (v := 0) (v' := 0) (cs := b) (l := []) (by simp)
  simpa using this
theorem two_put0 {off : Nat} {xs : List AV} (hl : off + xs.length ≤ a.length) (hx : xs.all AV.leaf = true) : hput H.length (H ++ [.cells 0 a, .cells 0 b]) H.length 0 off xs = some (H ++ [.cells 0 (splice a off xs), .cells 0 b]) := by
  rw [hput_new rfl (Nat.le_refl _) hl hx]
theorem two_put1 {off : Nat} {xs : List AV} (hl : off + xs.length ≤ b.length) (hx : xs.all AV.leaf = true) : hput H.length (H ++ [.cells 0 a, .cells 0 b]) (H.length + 1) 0 off xs = some (H ++ [.cells 0 a, .cells 0 (splice b off xs)]) := by
  have := hput_new (H := H ++ [.cells 0 a]) (prot := H.length) (b := H.length + 1) (v := 0) (off := off) (xs := xs) (cs := b) (l := []) (by simp) (by simp) hl hx
  simpa using this
end
theorem idxByte_le (c : UInt8) : idxByte [123, 125, 91, 93, 58, 44] c ≤ 5 := by
  unfold idxByte
  split
  · rename_i i h
    have := List.mem_range.1 (List.mem_of_find?_eq_some h)
    simp at this
    omega
  · omega

theorem token_ok (s : List UInt8) (hl : s.length < 100000000000000) (k : Nat) (hk : k < s.length) (prot : Nat) (H : Heap) (hp : prot ≤ H.length) :
    ∃ r, TokR k r (tokS (s.drop k)) ∧ aLim cfg prot 110 [.str s, .int .i64 k] H = some (r, none) := by
  have hsnap : snap H [.str s, .int .i64 k] = some ([.str s, .int .i64 k], false) := rfl
  have hls : ∀ K, aLen Tryz.prog K 9 (.str s) = some (.int .i64 s.length) := fun K => str_len Tryz.underlying9 s K
  have hd : s.drop k = s[k] :: s.drop (k + 1) := List.drop_eq_getElem_cons hk
  have e1 := str_at (k := .i64) Tryz.underlying9 s hk
  have hT : tokS (s.drop k) = tokS (s[k] :: s.drop (k + 1)) := by rw [hd]
  have w1 : IntKind.i64.wrap ((k : Int) + 1) = ((k + 1 : Nat) : Int) := by rw [wrap64 (by omega) (by omega)]; simp
  rw [hT, tokS]
  generalize hc : s[k] = c at *
  have hlK : ∀ a b : Blk, H.length ≤ (H ++ [a, b]).length := fun a b => by simp
  have ni := fun a b => idxS_ok signs c H.length (H ++ [a, b]) (hlK a b)
  have hs : signs = [123, 125, 91, 93, 58, 44] := rfl
  rw [hs] at ni ⊢
  refine pure_slimE rfl (by kernel_rfl) Tryz.func110 s110 hp hsnap (by simp [Tryz.f110]) fun fr hlen h => ?_
  simp only [Has, Nat.zero_add] at h
  obtain ⟨a0, a1, -⟩ := h
  simp only [Tryz.f110] at hlen ⊢
  unfold g110
  have hl1 : ∀ a : Blk, (H ++ [a]).length = H.length + 1 := fun a => by simp
  have ha2 : ∀ a b : Blk, H ++ [a] ++ [b] = H ++ [a, b] := fun a b => by simp
  by_cases hz : 0 ≤ idxByte [123, 125, 91, 93, 58, 44] c
  · have hz5 := idxByte_le c
    rw [if_pos hz]
    generalize idxByte [123, 125, 91, 93, 58, 44] c = z at *
    have wz : IntKind.i64.wrap (1 + z) = 1 + z := by rw [wrap64 (by omega) (by omega)]
    simp only [wk, aBuiltin, AV.cells, AV.leaf, Nat.reduceEqDiff, Nat.reduceLT, Nat.reduceAdd, Nat.reduceLeDiff, reduceCtorEq, Nat.reduceMul, Nat.reduceMod, cfgP, u110, hlen, a0, a1, e1, w1, ni, hl1, ha2, two_get0, two_get1, two_put0, two_put1, hz, wz]
    refine ⟨_, show _ = _ from rfl, ?_⟩
    exact Fin_pure (l := [.agg (tkAt k ⟨1 + z, 1, [], 0⟩), .nilI]) (by simp [wk, aBuiltin, AV.cells, AV.leaf, Nat.reduceEqDiff, Nat.reduceLT, Nat.reduceAdd, Nat.reduceLeDiff, reduceCtorEq, Nat.reduceMul, Nat.reduceMod, cfgP, u110, hlen, aResults, aResult, two_get0, tkAt, tkC]) (.tup (.cons (.agg (.still (by simp [tkAt, tkC, still]))) (.cons (.still rfl) .nil))) (by simp)
  · rw [if_neg hz]
    generalize idxByte [123, 125, 91, 93, 58, 44] c = z at *
    by_cases c34 : c = 34
    · rw [if_pos c34]
      rw [c34, show (((34 : UInt8).toNat : Nat) : Int) = 34 from rfl] at e1
      have ni : ∀ a b, aLim cfg H.length 74 [.str [123, 125, 91, 93, 58, 44], .int .u8 34] (H ++ [a, b]) = some (.int .i64 z, none) := fun a b => by rw [← ni a b, c34]; rfl
      have wd : decide ((34 : Int) = 34) = true := by decide
      have nt := text_ok s hl (k + 1) (by omega) H.length (H ++ [Blk.cells 0 tk0, Blk.cells 0 (tkC 0 k (k + 1 : Nat) [] 0)]) (hlK _ _)
      simp only [tk0, tkC] at nt
      cases hte : textS (s.drop (k + 1)) with
      | none =>
        rw [hte] at nt
        obtain ⟨r, ⟨i, j, rfl⟩, nt⟩ := nt
        simp only
        simp only [wk, aBuiltin, AV.cells, AV.leaf, Nat.reduceEqDiff, Nat.reduceLT, Nat.reduceAdd, Nat.reduceLeDiff, reduceCtorEq, Nat.reduceMul, Nat.reduceMod, cfgP, u110, hlen, a0, a1, e1, w1, ni, hl1, ha2, two_get0, two_get1, two_put0, two_put1, hz, wd, nt, troub, errNe]
        refine ⟨_, ⟨j, rfl⟩, ?_⟩
        exact Fin_pure (l := [.agg tk0, troub j 3]) (by simp [wk, aBuiltin, AV.cells, AV.leaf, Nat.reduceEqDiff, Nat.reduceLT, Nat.reduceAdd, Nat.reduceLeDiff, reduceCtorEq, Nat.reduceMul, Nat.reduceMod, cfgP, u110, hlen, aResults, aResult, two_get0, tk0, tkC, troub]) (.tup (.cons (.agg (.still (by simp [tk0, tkC, still]))) (.cons (.iface (.still rfl)) .nil))) (by simp)
      | some x =>
        obtain ⟨b, n⟩ := x
        rw [hte] at nt
        obtain ⟨r, hr, nt⟩ := nt
        have hr : r = .tup [.str b, .int .i64 (k + 1 + n : Nat), .nilI] := hr
        subst hr
        simp only
        rw [show k + 1 + n = k + (n + 1) by omega] at nt
        simp only [wk, aBuiltin, AV.cells, AV.leaf, Nat.reduceEqDiff, Nat.reduceLT, Nat.reduceAdd, Nat.reduceLeDiff, reduceCtorEq, Nat.reduceMul, Nat.reduceMod, cfgP, u110, hlen, a0, a1, e1, w1, ni, hl1, ha2, two_get0, two_get1, two_put0, two_put1, hz, wd, nt, nilNe]
        refine ⟨_, show _ = _ from rfl, ?_⟩
        exact Fin_pure (l := [.agg (tkAt k ⟨7, n + 1, b, 0⟩), .nilI]) (by simp [wk, aBuiltin, AV.cells, AV.leaf, Nat.reduceEqDiff, Nat.reduceLT, Nat.reduceAdd, Nat.reduceLeDiff, reduceCtorEq, Nat.reduceMul, Nat.reduceMod, cfgP, u110, hlen, aResults, aResult, two_get0, tkAt, tkC]) (.tup (.cons (.agg (.still (by simp [tkAt, tkC, still]))) (.cons (.still rfl) .nil))) (by simp)
    · rw [if_neg c34]
      have n34 : ¬ ((c.toNat : Int) = 34) := fun h => c34 (UInt8.toNat_inj.1 (by rw [show (34 : UInt8).toNat = 34 from rfl]; omega))
      have nd := fun a b => digit_ok (c.toNat : Int) H.length (H ++ [a, b]) (hlK a b)
      cases hnum : (digitC c.toNat || decide (c = 45)) with
      | true =>
        rw [if_pos rfl]
        have dn00 : decide (¬ (0 : Int) = 0) = false := by decide
        have nr := fun a b => run_ok 143 numericC numeric_ok s (by omega) k (by omega) H.length (H ++ [a, b]) (hlK a b)
        rw [hd] at nr
        have hrl := runS_le numericC (c :: s.drop (k + 1))
        have hcl : (c :: s.drop (k + 1)).length = s.length - k := by simp; omega
        have e4 := str_mid (k := .i64) (k' := .i64) Tryz.underlying9 s (a := k) (b := k + runS numericC (c :: s.drop (k + 1))) (by omega) (by omega)
        rw [hd, show k + runS numericC (c :: s.drop (k + 1)) - k = runS numericC (c :: s.drop (k + 1)) by omega] at e4
        generalize runS numericC (c :: s.drop (k + 1)) = m at *
        have np := fun a b => parse_ok ((c :: s.drop (k + 1)).take m) (by simp only [List.length_take]; omega) H.length (H ++ [a, b]) (hlK a b)
        generalize numS ((c :: s.drop (k + 1)).take m) = q at *
        obtain ⟨v, e⟩ := q
        simp only at np ⊢
        have nt := fun a b => wrong_ok k e H.length (H ++ [a, b]) (hlK a b)
        cases hdg : digitC c.toNat with
        | true =>
          rw [hdg] at nd
          by_cases he : e = 0
          · subst he
            rw [if_pos rfl]
            simp only [wk, aBuiltin, AV.cells, AV.leaf, Nat.reduceEqDiff, Nat.reduceLT, Nat.reduceAdd, Nat.reduceLeDiff, reduceCtorEq, Nat.reduceMul, Nat.reduceMod, cfgP, u110, hlen, a0, a1, e1, w1, ni, hl1, ha2, two_get0, two_get1, two_put0, two_put1, hz, n34, a0, nd, nr, e4, np, none_beq, dn00]
            refine ⟨_, show _ = _ from rfl, ?_⟩
            exact Fin_pure (l := [.agg (tkAt k ⟨8, m, [], v⟩), .nilI]) (by simp [wk, aBuiltin, AV.cells, AV.leaf, Nat.reduceEqDiff, Nat.reduceLT, Nat.reduceAdd, Nat.reduceLeDiff, reduceCtorEq, Nat.reduceMul, Nat.reduceMod, cfgP, u110, hlen, aResults, aResult, two_get0, tkAt, tkC]) (.tup (.cons (.agg (.still (by simp [tkAt, tkC, still]))) (.cons (.still rfl) .nil))) (by simp)
          · rw [if_neg he]
            have hne : decide (¬ e = 0) = true := decide_eq_true he
            simp only [wk, aBuiltin, AV.cells, AV.leaf, Nat.reduceEqDiff, Nat.reduceLT, Nat.reduceAdd, Nat.reduceLeDiff, reduceCtorEq, Nat.reduceMul, Nat.reduceMod, cfgP, u110, hlen, a0, a1, e1, w1, ni, hl1, ha2, two_get0, two_get1, two_put0, two_put1, hz, n34, a0, nd, nr, e4, np, none_beq, hne, nt]
            refine ⟨_, ⟨k, rfl⟩, ?_⟩
            exact Fin_pure (l := [.agg tk0, troub k e]) (by simp [wk, aBuiltin, AV.cells, AV.leaf, Nat.reduceEqDiff, Nat.reduceLT, Nat.reduceAdd, Nat.reduceLeDiff, reduceCtorEq, Nat.reduceMul, Nat.reduceMod, cfgP, u110, hlen, aResults, aResult, two_get0, tk0, tkC, troub]) (.tup (.cons (.agg (.still (by simp [tk0, tkC, still]))) (.cons (.iface (.still rfl)) .nil))) (by simp)
        | false =>
          rw [hdg] at nd hnum
          have c45 : c = 45 := by simpa using hnum
          have n45 : decide ((c.toNat : Int) = 45) = true := by rw [c45]; rfl
          by_cases he : e = 0
          · subst he
            rw [if_pos rfl]
            simp only [wk, aBuiltin, AV.cells, AV.leaf, Nat.reduceEqDiff, Nat.reduceLT, Nat.reduceAdd, Nat.reduceLeDiff, reduceCtorEq, Nat.reduceMul, Nat.reduceMod, cfgP, u110, hlen, a0, a1, e1, w1, ni, hl1, ha2, two_get0, two_get1, two_put0, two_put1, hz, n34, n45, nd, nr, e4, np, none_beq, dn00]
            refine ⟨_, show _ = _ from rfl, ?_⟩
            exact Fin_pure (l := [.agg (tkAt k ⟨8, m, [], v⟩), .nilI]) (by simp [wk, aBuiltin, AV.cells, AV.leaf, Nat.reduceEqDiff, Nat.reduceLT, Nat.reduceAdd, Nat.reduceLeDiff, reduceCtorEq, Nat.reduceMul, Nat.reduceMod, cfgP, u110, hlen, aResults, aResult, two_get0, tkAt, tkC]) (.tup (.cons (.agg (.still (by simp [tkAt, tkC, still]))) (.cons (.still rfl) .nil))) (by simp)
          · rw [if_neg he]
            have hne : decide (¬ e = 0) = true := decide_eq_true he
            simp only [wk, aBuiltin, AV.cells, AV.leaf, Nat.reduceEqDiff, Nat.reduceLT, Nat.reduceAdd, Nat.reduceLeDiff, reduceCtorEq, Nat.reduceMul, Nat.reduceMod, cfgP, u110, hlen, a0, a1, e1, w1, ni, hl1, ha2, two_get0, two_get1, two_put0, two_put1, hz, n34, n45, nd, nr, e4, np, none_beq, hne, nt]
            refine ⟨_, ⟨k, rfl⟩, ?_⟩
            exact Fin_pure (l := [.agg tk0, troub k e]) (by simp [wk, aBuiltin, AV.cells, AV.leaf, Nat.reduceEqDiff, Nat.reduceLT, Nat.reduceAdd, Nat.reduceLeDiff, reduceCtorEq, Nat.reduceMul, Nat.reduceMod, cfgP, u110, hlen, aResults, aResult, two_get0, tk0, tkC, troub]) (.tup (.cons (.agg (.still (by simp [tk0, tkC, still]))) (.cons (.iface (.still rfl)) .nil))) (by simp)
      | false =>
        rw [if_neg (by simp)]
        simp only [Bool.or_eq_false_iff, decide_eq_false_iff_not] at hnum
        obtain ⟨hdg, c45⟩ := hnum
        have n45 : ¬ ((c.toNat : Int) = 45) := fun h => c45 (UInt8.toNat_inj.1 (by rw [show (45 : UInt8).toNat = 45 from rfl]; omega))
        rw [hdg] at nd
        have nr := fun a b => run_ok 145 wordyC wordy_ok s (by omega) k (by omega) H.length (H ++ [a, b]) (hlK a b)
        rw [hd] at nr
        have hrl := runS_le wordyC (c :: s.drop (k + 1))
        have hcl : (c :: s.drop (k + 1)).length = s.length - k := by simp; omega
        have e4 := str_mid (k := .i64) (k' := .i64) Tryz.underlying9 s (a := k) (b := k + runS wordyC (c :: s.drop (k + 1))) (by omega) (by omega)
        rw [hd, show k + runS wordyC (c :: s.drop (k + 1)) - k = runS wordyC (c :: s.drop (k + 1)) by omega] at e4
        generalize runS wordyC (c :: s.drop (k + 1)) = m at *
        have nw := fun a b => word_ok ((c :: s.drop (k + 1)).take m) H.length (H ++ [a, b]) (hlK a b)
        have nt := fun a b => wrong_ok k 3 H.length (H ++ [a, b]) (hlK a b)
        generalize wordS ((c :: s.drop (k + 1)).take m) = x at *
        by_cases hx : x = 0
        · rw [if_pos hx]
          simp only [wk, aBuiltin, AV.cells, AV.leaf, Nat.reduceEqDiff, Nat.reduceLT, Nat.reduceAdd, Nat.reduceLeDiff, reduceCtorEq, Nat.reduceMul, Nat.reduceMod, cfgP, u110, hlen, a0, a1, e1, w1, ni, hl1, ha2, two_get0, two_get1, two_put0, two_put1, hz, n34, n45, nd, nr, e4, nw, hx, nt, none_beq]
          refine ⟨_, ⟨k, rfl⟩, ?_⟩
          exact Fin_pure (l := [.agg tk0, troub k 3]) (by simp [wk, aBuiltin, AV.cells, AV.leaf, Nat.reduceEqDiff, Nat.reduceLT, Nat.reduceAdd, Nat.reduceLeDiff, reduceCtorEq, Nat.reduceMul, Nat.reduceMod, cfgP, u110, hlen, aResults, aResult, two_get0, tk0, tkC, troub]) (.tup (.cons (.agg (.still (by simp [tk0, tkC, still]))) (.cons (.iface (.still rfl)) .nil))) (by simp)
        · rw [if_neg hx]
          simp only [wk, aBuiltin, AV.cells, AV.leaf, Nat.reduceEqDiff, Nat.reduceLT, Nat.reduceAdd, Nat.reduceLeDiff, reduceCtorEq, Nat.reduceMul, Nat.reduceMod, cfgP, u110, hlen, a0, a1, e1, w1, ni, hl1, ha2, two_get0, two_get1, two_put0, two_put1, hz, n34, n45, nd, nr, e4, nw, hx, none_beq]
          refine ⟨_, show _ = _ from rfl, ?_⟩
          exact Fin_pure (l := [.agg (tkAt k ⟨x, m, [], 0⟩), .nilI]) (by simp [wk, aBuiltin, AV.cells, AV.leaf, Nat.reduceEqDiff, Nat.reduceLT, Nat.reduceAdd, Nat.reduceLeDiff, reduceCtorEq, Nat.reduceMul, Nat.reduceMod, cfgP, u110, hlen, aResults, aResult, two_get0, tkAt, tkC]) (.tup (.cons (.agg (.still (by simp [tkAt, tkC, still]))) (.cons (.still rfl) .nil))) (by simp)
end Go.Proofs.YtnipaiklandliaaGreatDoor
/- A text in quotes is read as the text: plain laws. -/
set_option maxRecDepth 100000
namespace Go.Proofs.YtnipaiklandliaaGreatDoor
open Go Go.Abs AbsSeat Ty

theorem fitsGo_ge : ∀ (l : List UInt8) (lo hi : Int), 128 ≤ lo → fitsGo lo hi l = true → ∀ b ∈ l, 128 ≤ b.toNat
  | [], _, _, _, _ => by simp
  | c :: l, lo, hi, h, hf => by
    simp only [fitsGo] at hf
    split at hf
    · cases hf
    · rename_i h1
      intro b hb
      rcases List.mem_cons.1 hb with rfl | hb
      · omega
      · exact fitsGo_ge l 128 191 (by omega) hf b hb
theorem lowU_ge (c : Int) : 128 ≤ lowU c := by unfold lowU; split <;> (try split) <;> decide
theorem qb_high {b : UInt8} (h : 128 ≤ b.toNat) : qb b = [b] := by
  unfold qb
  have e : ∀ n : UInt8, n.toNat < 128 → ¬ b = n := fun n hn => by rintro rfl; omega
  rw [if_neg (e 8 (by decide)), if_neg (e 12 (by decide)), if_neg (e 10 (by decide)), if_neg (e 13 (by decide)), if_neg (e 9 (by decide)), if_neg (by rw [UInt8.lt_iff_toNat_lt]; simp; omega), if_neg (fun h => h.elim (e 34 (by decide)) (e 92 (by decide)))]
theorem qbs_high : ∀ (l : List UInt8), (∀ b ∈ l, 128 ≤ b.toNat) → l.flatMap qb = l
  | [], _ => rfl
  | c :: l, h => by rw [List.flatMap_cons, qb_high (h c (by simp)), qbs_high l fun b hb => h b (by simp [hb])]; rfl
/-- a valid text: its first rune's bytes, and a valid text behind them. -/
theorem valid_cons {c : UInt8} {t : List UInt8} (h : validU (c :: t) = true) : (nextU (c :: t)).2.2 = 0 ∧ (nextU (c :: t)).2.1 = wantedU c.toNat ∧ 1 ≤ wantedU c.toNat ∧ wantedU c.toNat ≤ (c :: t).length ∧ validU ((c :: t).drop (wantedU c.toNat)) = true := by
  unfold validU at h ⊢
  rw [walkU] at h
  split at h
  · rename_i h0
    obtain ⟨h1, h2, h3⟩ := nextU_zero.1 h0
    have hn : (nextU (c :: t)).2.1 = wantedU c.toNat := by
      rw [nextU_eq rfl, if_neg (by rw [h2]; simp [h1]), if_neg (by omega)]
    refine ⟨h0, hn, by omega, h3, ?_⟩
    rw [hn] at h
    simp only [decide_eq_true_eq] at h ⊢
    rw [List.length_drop]; omega
  · simp at h
theorem fourS_hex {n : Nat} (hn : n < 32) (r : List UInt8) : fourS ([48, 48] ++ hexd (n / 16) ++ hexd (n % 16) ++ r) = some n := by
  have key : ∀ m : Fin 32, ∃ a b, hexd (m.val / 16) = [a] ∧ hexd (m.val % 16) = [b] ∧ hexV [48, 48, a, b] 0 = some m.val := by
    intro m
    have : ∀ m : Fin 32, (hexd (m.val / 16)).length = 1 ∧ (hexd (m.val % 16)).length = 1 ∧ hexV ([48, 48] ++ hexd (m.val / 16) ++ hexd (m.val % 16)) 0 = some m.val := by decide +kernel
    obtain ⟨h1, h2, h3⟩ := this m
    obtain ⟨a, ha⟩ := List.length_eq_one_iff.1 h1
    obtain ⟨b, hb⟩ := List.length_eq_one_iff.1 h2
    exact ⟨a, b, ha, hb, by rw [ha, hb] at h3; exact h3⟩
  obtain ⟨a, b, ha, hb, h⟩ := key ⟨n, hn⟩
  dsimp only at ha hb h
  rw [ha, hb]
  unfold fourS
  rw [if_neg (by simp)]
  exact h
theorem secondS_low {v : Nat} (hv : v < 55296) (r : List UInt8) : secondS v r = none := by
  unfold secondS
  split
  · cases fourS (r.drop 6) with
    | none => rfl
    | some w =>
      show pairU v w = none
      unfold pairU
      rw [if_pos (.inl (by omega))]
  · rfl
theorem putU_low : ∀ n : Fin 32, putU n.val = [UInt8.ofNat n.val] := by decide +kernel
theorem escS_low {n : Nat} (hn : n < 32) (r : List UInt8) : escS (117 :: ([48, 48] ++ hexd (n / 16) ++ hexd (n % 16) ++ r)) = some ([UInt8.ofNat n], 5) := by
  simp only [escS, if_true, codedS, fourS_hex hn, secondS_low (show n < 55296 by omega)]
  have hi : isU n = true := by unfold isU; simp; omega
  rw [if_pos hi, putU_low ⟨n, hn⟩]; rfl
theorem textS_esc1 {c d : UInt8} {r : List UInt8} (h : escS (d :: r) = some ([c], 1)) : textS (92 :: d :: r) = (textS r).map fun x => (c :: x.1, 1 + 1 + x.2) := by
  rw [textS_esc h]; rfl
theorem hexd_one (n : Nat) (hn : n < 16) : (hexd n).length = 1 := by
  have : ∀ m : Fin 16, (hexd m.val).length = 1 := by decide
  exact this ⟨n, hn⟩
theorem textS_quote : ∀ (m : Nat) (v : List UInt8), v.length ≤ m → validU v = true → ∀ rest, textS (v.flatMap qb ++ 34 :: rest) = some (v, (v.flatMap qb).length + 1)
  | _, [], _, _, rest => textS_end rest
  | 0, c :: t, hm, _, _ => by simp at hm
  | m + 1, c :: t, hm, hv, rest => by
    simp only [List.length_cons] at hm
    obtain ⟨h0, hn, h1, hle, hv'⟩ := valid_cons hv
    have hcm : c.toNat < 256 := c.toNat_lt
    have hcc : UInt8.ofNat c.toNat = c := by simp
    by_cases hlow : c.toNat < 128
    · have hw : wantedU c.toNat = 1 := by unfold wantedU; rw [if_pos (by omega)]
      rw [hw] at hv'
      have ih := textS_quote m t (by omega) hv' rest
      rw [List.flatMap_cons, List.append_assoc]
      generalize ht : t.flatMap qb = Q at *
      have two : ∀ d : UInt8, qb c = [92, d] → escC d = some c → d ≠ 117 → textS (qb c ++ (Q ++ 34 :: rest)) = some (c :: t, (qb c ++ Q).length + 1) := by
        intro d hq he hd
        rw [hq]
        show textS (92 :: d :: (Q ++ 34 :: rest)) = _
        rw [textS_esc1 (c := c) (by simp only [escS, if_neg hd, he, Option.map_some]), ih]
        simp; omega
      have eqn : ∀ n : Nat, n < 256 → (c = UInt8.ofNat n ↔ c.toNat = n) := fun n hn => by
        constructor
        · rintro rfl; simp; omega
        · intro h; rw [← hcc, h]
      by_cases c8 : c = 8
      · subst c8; exact two 98 rfl rfl (by decide)
      by_cases c12 : c = 12
      · subst c12; exact two 102 rfl rfl (by decide)
      by_cases c10 : c = 10
      · subst c10; exact two 110 rfl rfl (by decide)
      by_cases c13 : c = 13
      · subst c13; exact two 114 rfl rfl (by decide)
      by_cases c9 : c = 9
      · subst c9; exact two 116 rfl rfl (by decide)
      by_cases c34 : c = 34
      · subst c34; exact two 34 rfl rfl (by decide)
      by_cases c92 : c = 92
      · subst c92; exact two 92 rfl rfl (by decide)
      have hq : qb c = if c < 32 then [92, 117, 48, 48] ++ hexd (c.toNat / 16) ++ hexd (c.toNat % 16) else [c] := by
        unfold qb
        rw [if_neg c8, if_neg c12, if_neg c10, if_neg c13, if_neg c9]
        split
        · rfl
        · rw [if_neg (fun h => h.elim c34 c92)]
      by_cases c32 : c.toNat < 32
      · have c32' : c < 32 := by rw [UInt8.lt_iff_toNat_lt]; simpa using c32
        rw [if_pos c32'] at hq
        have hl1 := hexd_one (c.toNat / 16) (by omega)
        have hl2 := hexd_one (c.toNat % 16) (by omega)
        have e := escS_low c32 (Q ++ 34 :: rest)
        rw [hcc] at e
        have e2 : qb c ++ (Q ++ 34 :: rest) = 92 :: (117 :: ([48, 48] ++ hexd (c.toNat / 16) ++ hexd (c.toNat % 16) ++ (Q ++ 34 :: rest))) := by rw [hq]; simp
        rw [e2, textS_esc e]
        have e3 : (117 :: ([48, 48] ++ hexd (c.toNat / 16) ++ hexd (c.toNat % 16) ++ (Q ++ 34 :: rest))).drop 5 = Q ++ 34 :: rest := by
          show ([48, 48] ++ hexd (c.toNat / 16) ++ hexd (c.toNat % 16) ++ (Q ++ 34 :: rest)).drop 4 = _
          exact List.drop_left' (by simp [hl1, hl2])
        rw [e3, ih, hq]
        simp [hl1, hl2]; omega
      · have c32' : ¬ c < 32 := by rw [UInt8.lt_iff_toNat_lt]; simpa using c32
        rw [if_neg c32'] at hq
        rw [hq]
        show textS (c :: (Q ++ 34 :: rest)) = _
        have hz : (nextU ((c :: (Q ++ 34 :: rest)).take 4)).2.2 = 0 := by
          rw [List.take_succ_cons]
          refine nextU_zero.2 ⟨by omega, ?_, by rw [hw]; simp⟩
          unfold fitsU; rw [hw]; rfl
        have hz1 : (nextU ((c :: (Q ++ 34 :: rest)).take 4)).2.1 = 1 := by
          simp only [List.take_succ_cons] at hz ⊢
          obtain ⟨z1, z2, z3⟩ := nextU_zero.1 hz
          rw [nextU_eq rfl, if_neg (by rw [z2]; simp [z1]), if_neg (by omega), hw]
        rw [textS_rune c34 (by omega) c92 hz, hz1]
        show (textS (Q ++ 34 :: rest)).map _ = _
        rw [ih]
        simp; omega
    · have hw2 : 2 ≤ wantedU c.toNat := by
        have h2 : (wantedU c.toNat) ≠ 1 := by
          intro h
          unfold wantedU at h
          rw [if_neg (by omega)] at h
          split at h
          · cases h
          · split at h
            · cases h
            · split at h <;> cases h
        omega
      have hw4 := wantedU_le c.toNat
      obtain ⟨z1, z2, z3⟩ := nextU_zero.1 h0
      generalize hN : wantedU c.toNat = N at *
      have hge : ∀ b ∈ (c :: t).take N, 128 ≤ b.toNat := by
        obtain ⟨k, rfl⟩ : ∃ k, N = k + 1 := ⟨N - 1, by omega⟩
        unfold fitsU at z2
        rw [List.take_succ_cons, List.drop_succ_cons, List.drop_zero] at z2
        rw [List.take_succ_cons]
        intro b hb
        rcases List.mem_cons.1 hb with rfl | hb
        · omega
        · exact fitsGo_ge _ _ _ (lowU_ge _) z2 b hb
      have hsplit : (c :: t) = (c :: t).take N ++ (c :: t).drop N := (List.take_append_drop _ _).symm
      have hfm : (c :: t).flatMap qb = (c :: t).take N ++ ((c :: t).drop N).flatMap qb := by
        rw [hsplit, List.flatMap_append, qbs_high _ hge, ← hsplit]
      have ih := textS_quote m ((c :: t).drop N) (by simp only [List.length_drop, List.length_cons]; omega) hv' rest
      rw [hfm, List.append_assoc]
      generalize hQ : ((c :: t).drop N).flatMap qb = Q at *
      obtain ⟨k, rfl⟩ : ∃ k, N = k + 1 := ⟨N - 1, by omega⟩
      have hlt : ((c :: t).take (k + 1)).length = k + 1 := by rw [List.length_take]; omega
      have hck : (c :: t).take (k + 1) = c :: t.take k := rfl
      have hz0 : (nextU ((c :: t.take k).take 4)).2.2 = 0 := by
        rw [← hck, List.take_of_length_le (by omega), hck]
        refine nextU_zero.2 ⟨by omega, ?_, by rw [hN, ← hck, hlt]; exact Nat.le_refl _⟩
        unfold fitsU at z2 ⊢
        rw [hN, ← hck, List.take_of_length_le (by omega)]; exact z2
      have happ := nextU_app hz0 (Q ++ 34 :: rest)
      have hz1 : (nextU ((c :: t.take k).take 4)).2.1 = k + 1 := by
        rw [← hck, List.take_of_length_le (by omega), hck] at hz0 ⊢
        obtain ⟨y1, y2, y3⟩ := nextU_zero.1 hz0
        rw [nextU_eq rfl, if_neg (by rw [y2]; simp [y1]), if_neg (by omega), hN]
      rw [← happ] at hz0 hz1
      rw [hck, List.cons_append] at *
      have c34 : ¬ c = 34 := by rintro rfl; exact hlow (by decide)
      have c92 : ¬ c = 92 := by rintro rfl; exact hlow (by decide)
      rw [textS_rune c34 (by omega) c92 hz0, hz1]
      have e1 : (c :: (t.take k ++ (Q ++ 34 :: rest))).drop (k + 1) = Q ++ 34 :: rest := by
        rw [List.drop_succ_cons]; exact List.drop_left' (by simpa using hlt)
      have e2 : (c :: (t.take k ++ (Q ++ 34 :: rest))).take (k + 1) = (c :: t).take (k + 1) := by
        rw [List.take_succ_cons, List.take_left' (by simpa using hlt)]; rfl
      rw [e1, e2, ih]
      simp only [Option.map_some, Option.some.injEq, Prod.mk.injEq]
      refine ⟨List.take_append_drop _ _, ?_⟩
      have := hlt
      simp only [List.length_append, List.length_cons, List.length_take] at this ⊢; omega
/-- a text in quotes, and anything behind it. -/
theorem tokS_quote {v : List UInt8} (hv : validU v = true) (rest : List UInt8) : tokS (quoteU v ++ rest) = .tok ⟨7, (quoteU v).length, v, 0⟩ := by
  have h := textS_quote _ v (Nat.le_refl _) hv rest
  have e : quoteU v ++ rest = 34 :: (v.flatMap qb ++ 34 :: rest) := by simp [quoteU]
  rw [e]
  simp only [tokS, h, if_true, show ¬ (0 : Int) ≤ idxByte signs 34 from by decide, if_false]
  simp [quoteU]
end Go.Proofs.YtnipaiklandliaaGreatDoor
/- A set's text: plain laws. -/
namespace Go.Proofs.YtnipaiklandliaaGreatDoor
open Go Go.Abs AbsSeat Ty

def tailP : List Pr → List UInt8
  | [] => []
  | x :: r => 44 :: bodyP (x :: r)
theorem bodyP_cons (x : Pr) (r : List Pr) : bodyP (x :: r) = x.name ++ 61 :: (qv x ++ tailP r) := by
  cases r with
  | nil => simp [bodyP, piece, tailP]
  | cons y r => simp [bodyP, piece, tailP]
theorem inName_ne {c : UInt8} (h : inNameC c.toNat = true) : c ≠ 61 := by
  rintro rfl
  revert h; decide
theorem name_no61 {s : List UInt8} (h : nameL s = true) : (61 : UInt8) ∉ s ∧ s ≠ [] := by
  cases s with
  | nil => cases h
  | cons c t =>
    refine ⟨fun hm => ?_, by simp⟩
    simp only [nameL, Bool.and_eq_true, List.all_eq_true] at h
    exact inName_ne (h.2 61 hm) rfl
theorem idxByte_app {a : List UInt8} (c : UInt8) (b : List UInt8) (h : c ∉ a) : idxByte (a ++ c :: b) c = (a.length : Nat) := by
  have : (List.range (a ++ c :: b).length).find? (fun i => (a ++ c :: b).getD i 0 == c) = some a.length := by
    rw [List.find?_range_eq_some]
    refine ⟨by simp, by simp, fun j hj => ?_⟩
    have e : (a ++ c :: b).getD j 0 = a[j] := by simp [List.getElem?_append_left hj, hj]
    rw [e]
    simp only [Bool.not_eq_eq_eq_not, Bool.not_true, beq_eq_false_iff_ne]
    exact fun e => h (e ▸ List.getElem_mem hj)
  unfold idxByte
  rw [this]
theorem qv_of {x : Pr} (h : validU x.val = true) : qv x = quoteU x.val := by unfold qv; rw [if_pos h]
end Go.Proofs.YtnipaiklandliaaGreatDoor
/- Whether two rows of pairs are the same, walked: the program's, the document's. -/
namespace Go.Proofs.YtnipaiklandliaaGreatDoor
open Go Go.Abs AbsSeat Ty

theorem u44 : type_of% (And.intro (show tagT Tryz.prog 27 = 0 from by kernel_rfl) (And.intro ag3 (And.intro sz3 (And.intro by3 (And.intro ze3 (And.intro Tryz.underlying3 (And.intro ag23 (And.intro sz23 (And.intro by23 (And.intro se23 (And.intro ze23 (And.intro Tryz.underlying23 (And.intro ag27 (And.intro sz27 (And.intro by27 (And.intro ze27 (And.intro bu27 (And.intro Tryz.underlying27 (And.intro ag59 (And.intro sz59 (And.intro by59 (And.intro ze59 (And.intro bu59 (And.intro Tryz.underlying59 (And.intro fa27_0 fd27_0))))))))))))))))))))))))) := And.intro (show tagT Tryz.prog 27 = 0 from by kernel_rfl) (And.intro ag3 (And.intro sz3 (And.intro by3 (And.intro ze3 (And.intro Tryz.underlying3 (And.intro ag23 (And.intro sz23 (And.intro by23 (And.intro se23 (And.intro ze23 (And.intro Tryz.underlying23 (And.intro ag27 (And.intro sz27 (And.intro by27 (And.intro ze27 (And.intro bu27 (And.intro Tryz.underlying27 (And.intro ag59 (And.intro sz59 (And.intro by59 (And.intro ze59 (And.intro bu59 (And.intro Tryz.underlying59 (And.intro fa27_0 fd27_0))))))))))))))))))))))))
def g44 : Code :=
  .seq (.region 0 #[q 4 (.assign (.const (.bool false))) 4] false) (.seq (.seq (.region 1 #[q 6 (.move (.tmp 0)) 23, q 7 (bi .len #[.tmp 6] #[23]) 3, q 8 (.move (.tmp 1)) 23, q 9 (bi .len #[.tmp 8] #[23]) 3, q 10 (.binOp .neq 3 (.tmp 7) (.tmp 9) 3) 4] false) (.cond (.tmp 10) (.seq (.region 2 #[q 4 (.assign (.const (.bool false))) 4] false) .ret) .skip)) (.seq (.seq (.region 3 #[q 11 (.move (.tmp 0)) 23, q 12 (bi .len #[.tmp 11] #[23]) 3, q 13 (.move (ik 0)) 3] false) (.block 0 (.loop (.seq (.region 4 #[q 14 (.binOp .lss 3 (.tmp 13) (.tmp 12) 3) 0] false) (.seq (.cond (.tmp 14) .skip (.exit 0)) (.seq (.block 1 (.seq (.region 5 #[q 15 (.move (.tmp 13)) 3, q 5 (.assign (.tmp 15)) 3] false) (.seq (.region 6 #[q 16 (.move (.tmp 0)) 23, q 17 (.move (.tmp 5)) 3, q 18 (.indexAddr 23 (.tmp 16) (.tmp 17)) 0, q 19 (.load 59 (.tmp 18)) 59, q 20 (.move (.tmp 1)) 23, q 21 (.move (.tmp 5)) 3, q 22 (.indexAddr 23 (.tmp 20) (.tmp 21)) 0, q 23 (.load 59 (.tmp 22)) 59, q 24 (.binOp .neq 59 (.tmp 19) (.tmp 23) 59) 4] false) (.cond (.tmp 24) (.seq (.region 7 #[q 4 (.assign (.const (.bool false))) 4] false) .ret) .skip)))) (.region 8 #[q 25 (.binOp .add 3 (.tmp 13) (ik 1) 3) 3, q 13 (.move (.tmp 25)) 3] false))))))) (.seq (.region 9 #[q 4 (.assign (.const (.bool true))) 4] false) .ret)))
theorem s44 : Tryz.f44.body.map (slim cfg) = some g44 := by kernel_rfl
def g12 : Code :=
  .seq (.region 0 #[q 2 (.box 27 (.tmp 0)) 0, q 3 (.box 27 (.tmp 1)) 0, q 4 (.assign (.const (.bool false))) 4] false) (.seq (.region 1 #[q 5 (.fieldAddr 27 (.tmp 2) 0) 0, q 6 (.load 23 (.tmp 5)) 23, q 7 (.fieldAddr 27 (.tmp 3) 0) 0, q 8 (.load 23 (.tmp 7)) 23, q 9 (cl 44 #[.tmp 6, .tmp 8] #[23, 23]) 4, q 4 (.assign (.tmp 9)) 4] false) .ret)
theorem s12 : Tryz.f12.body.map (slim cfg) = some g12 := by kernel_rfl
def samePr (a b : Pr) : Bool := a.name == b.name && a.val == b.val
def sameL : List Pr → List Pr → Bool
  | [], [] => true
  | x :: l, y :: m => samePr x y && sameL l m
  | _, _ => false
theorem sameL_len : ∀ (l m : List Pr), l.length ≠ m.length → sameL l m = false
  | [], [], h => absurd rfl h
  | [], _ :: _, _ => rfl
  | _ :: _, [], _ => rfl
  | x :: l, y :: m, h => by simp only [sameL, sameL_len l m (by simpa using h), Bool.and_false]
theorem samePr_eq {a b : Pr} : samePr a b = true ↔ a = b := by
  obtain ⟨n, v⟩ := a
  obtain ⟨n', v'⟩ := b
  simp [samePr]
theorem sameL_eq : ∀ (l m : List Pr), sameL l m = true ↔ l = m
  | [], [] => by simp [sameL]
  | [], _ :: _ => by simp [sameL]
  | _ :: _, [] => by simp [sameL]
  | x :: l, y :: m => by simp only [sameL, Bool.and_eq_true, samePr_eq, sameL_eq l m, List.cons.injEq]
theorem ba_eq (a b : List UInt8) : ((⟨a.toArray⟩ : ByteArray) == ⟨b.toArray⟩) = (a == b) := by
  show (a.toArray == b.toArray) = (a == b)
  simp
theorem eqFsG (a b : Pr) : EqFs Tryz.prog 9999 #[.string ⟨a.name.toArray⟩, .string ⟨a.val.toArray⟩] #[.string ⟨b.name.toArray⟩, .string ⟨b.val.toArray⟩]
    [{ name := "Name", type := 9, offset := 0, embedded := false, tag := "", pkgPath := "", byteOffset := 0 }, { name := "Value", type := 9, offset := 1, embedded := false, tag := "", pkgPath := "", byteOffset := 16 }] (((⟨a.name.toArray⟩ : ByteArray) == ⟨b.name.toArray⟩) && (((⟨a.val.toArray⟩ : ByteArray) == ⟨b.val.toArray⟩) && true)) :=
  .cons (by decide) (pureOf_part (by kernel_rfl) rfl) (pureOf_part (by kernel_rfl) rfl) (equalIn_str Tryz.underlying9 _ _ _)
    (.cons (by decide) (pureOf_part (by kernel_rfl) rfl) (pureOf_part (by kernel_rfl) rfl) (equalIn_str Tryz.underlying9 _ _ _) .nil)
theorem neP (a b : Pr) (xo yo : Operand) : aBin Tryz.prog .neq 59 xo yo (.agg [.str a.name, .str a.val]) (.agg [.str b.name, .str b.val]) = some (.bool (!(samePr a b))) := by
  have h := bin_agg_ne (xo := xo) (yo := yo) Tryz.underlying59 (by kernel_rfl) (by kernel_rfl) (cs := [.str a.name, .str a.val]) (ds := [.str b.name, .str b.val]) rfl rfl (eqFsG a b)
  rw [h, ba_eq, ba_eq]; simp [samePr]
theorem neR (a b : Pr) (xo yo : Operand) : aBin Tryz.prog .neq 58 xo yo (.agg [.str a.name, .str a.val]) (.agg [.str b.name, .str b.val]) = some (.bool (!(samePr a b))) := by
  have h := bin_agg_ne (xo := xo) (yo := yo) Tryz.underlying58 (by kernel_rfl) (by kernel_rfl) (cs := [.str a.name, .str a.val]) (ds := [.str b.name, .str b.val]) rfl rfl (eqFsG a b)
  rw [h, ba_eq, ba_eq]; simp [samePr]

theorem lequalG_ok (l m : List Pr) (v w : AV) (hv : Sl encP v l) (hw : Sl encP w m) (hl : l.length < 1000000) (prot : Nat) (H : Heap) (hp : prot ≤ H.length) :
    aLim cfg prot 44 [v, w] H = some (.bool (sameL l m), none) := by
  have hsnap : snap H [v, w] = some ([v, w], false) := by cases hv <;> cases hw <;> rfl
  have hvl := fun (K : Heap) => hv.len (H := K) Tryz.underlying23
  have hwl := fun (K : Heap) => hw.len (H := K) Tryz.underlying23
  refine pure_slim rfl (by kernel_rfl) Tryz.func44 s44 hp hsnap (by simp [Tryz.f44]) fun fr hlen h => ?_
  simp only [Has, Nat.zero_add] at h
  obtain ⟨a0, a1, -⟩ := h
  simp only [Tryz.f44] at hlen ⊢
  unfold g44
  by_cases hlen' : l.length = m.length
  · have hne : decide (¬ ((l.length : Nat) : Int) = (m.length : Nat)) = false := by simp [hlen']
    simp only [wk, aBuiltin, AV.cells, AV.leaf, Nat.reduceEqDiff, Nat.reduceLT, Nat.reduceAdd, Nat.reduceLeDiff, reduceCtorEq, Nat.reduceMul, Nat.reduceMod, cfgP, u44, hlen, a0, a1, hvl, hwl, hne]
    refine loop_rule (fun k fr K => ∃ (i : Nat), k = l.length - i ∧ i ≤ l.length ∧ fr.length = 26 ∧ fget fr 0 = v ∧ fget fr 1 = w ∧ fget fr 12 = .int .i64 l.length ∧ fget fr 13 = .int .i64 i ∧ H.length ≤ K.length ∧ sameL l m = sameL (l.drop i) (m.drop i)) ?_ l.length _ _ ⟨0, by simp [wk, aBuiltin, AV.cells, AV.leaf, Nat.reduceEqDiff, Nat.reduceLT, Nat.reduceAdd, Nat.reduceLeDiff, reduceCtorEq, Nat.reduceMul, Nat.reduceMod, cfgP, u44, hlen, a0, a1]⟩
    rintro k fr K ⟨i, rfl, hi, hlen, a0, a1, a12, a13, hH, hc⟩ ih
    simp only [wk, aBuiltin, AV.cells, AV.leaf, Nat.reduceEqDiff, Nat.reduceLT, Nat.reduceAdd, Nat.reduceLeDiff, reduceCtorEq, Nat.reduceMul, Nat.reduceMod, cfgP, u44, hlen, a0, a1, a12, a13]
    refine RC_split (fun h => ?_) (fun h => ?_)
    · have hlt : i < l.length := by simpa using h
      have hlt2 : i < m.length := by omega
      have e1 := hv.at (k := .i64) Tryz.underlying23 sz59 encP_len hlt
      have e2 := hw.at (k := .i64) Tryz.underlying23 sz59 encP_len hlt2
      have hww : IntKind.i64.wrap ((i : Int) + 1) = ((i + 1 : Nat) : Int) := by rw [wrap64 (by omega) (by omega)]; simp
      rw [List.drop_eq_getElem_cons hlt, List.drop_eq_getElem_cons hlt2] at hc
      generalize l[i] = a at *
      generalize m[i] = b at *
      have hn := neP a b
      simp only [sameL] at hc
      cases hab : samePr a b with
      | true =>
        rw [hab] at hn hc
        simp only [Bool.not_true] at hn
        rw [Bool.true_and] at hc
        simp only [wk, aBuiltin, AV.cells, AV.leaf, Nat.reduceEqDiff, Nat.reduceLT, Nat.reduceAdd, Nat.reduceLeDiff, reduceCtorEq, Nat.reduceMul, Nat.reduceMod, cfgP, u44, hlen, a0, a1, a12, a13, e1, e2, encP, hH, hn, hww]
        refine ih _ _ (l.length - (i + 1)) (by omega) ⟨i + 1, rfl, hlt, ?_⟩
        rw [hc]
        simp [wk, aBuiltin, AV.cells, AV.leaf, Nat.reduceEqDiff, Nat.reduceLT, Nat.reduceAdd, Nat.reduceLeDiff, reduceCtorEq, Nat.reduceMul, Nat.reduceMod, cfgP, u44, hlen, a0, a1, a12, hH]
      | false =>
        rw [hab] at hn hc
        simp only [Bool.not_false] at hn
        rw [Bool.false_and] at hc
        rw [hc]
        simp only [wk, aBuiltin, AV.cells, AV.leaf, Nat.reduceEqDiff, Nat.reduceLT, Nat.reduceAdd, Nat.reduceLeDiff, reduceCtorEq, Nat.reduceMul, Nat.reduceMod, cfgP, u44, hlen, a0, a1, a12, a13, e1, e2, encP, hH, hn]
        exact Fin_pure (l := [.bool false]) (by simp [wk, aBuiltin, AV.cells, AV.leaf, Nat.reduceEqDiff, Nat.reduceLT, Nat.reduceAdd, Nat.reduceLeDiff, reduceCtorEq, Nat.reduceMul, Nat.reduceMod, cfgP, u44, aResults, aResult, hlen]) (.still rfl) (by simp)
    · have hnl : ¬ i < l.length := by simpa using h
      rw [List.drop_eq_nil_of_le (by omega), List.drop_eq_nil_of_le (by omega)] at hc
      rw [hc]
      simp only [wk, aBuiltin, AV.cells, AV.leaf, Nat.reduceEqDiff, Nat.reduceLT, Nat.reduceAdd, Nat.reduceLeDiff, reduceCtorEq, Nat.reduceMul, Nat.reduceMod, cfgP, u44, hlen, a0, a1]
      exact Fin_pure (l := [.bool true]) (by simp [wk, aBuiltin, AV.cells, AV.leaf, Nat.reduceEqDiff, Nat.reduceLT, Nat.reduceAdd, Nat.reduceLeDiff, reduceCtorEq, Nat.reduceMul, Nat.reduceMod, cfgP, u44, aResults, aResult, hlen]) (.still rfl) (by simp)
  · have hne : decide (¬ ((l.length : Nat) : Int) = (m.length : Nat)) = true := decide_eq_true (by omega)
    simp only [wk, aBuiltin, AV.cells, AV.leaf, Nat.reduceEqDiff, Nat.reduceLT, Nat.reduceAdd, Nat.reduceLeDiff, reduceCtorEq, Nat.reduceMul, Nat.reduceMod, cfgP, u44, hlen, a0, a1, hvl, hwl, hne]
    rw [sameL_len l m hlen']
    exact Fin_pure (l := [.bool false]) (by simp [wk, aBuiltin, AV.cells, AV.leaf, Nat.reduceEqDiff, Nat.reduceLT, Nat.reduceAdd, Nat.reduceLeDiff, reduceCtorEq, Nat.reduceMul, Nat.reduceMod, cfgP, u44, aResults, aResult, hlen]) (.still rfl) (by simp)

theorem setSameG_ok (l m : List Pr) (v w : AV) (hv : Sl encP v l) (hw : Sl encP w m) (hl : l.length < 1000000) (prot : Nat) (H : Heap) (hp : prot ≤ H.length) :
    aLim cfg prot 12 [.agg [v], .agg [w]] H = some (.bool (sameL l m), none) := by
  have hsnap : snap H [.agg [v], .agg [w]] = some ([.agg [v], .agg [w]], false) := rfl
  have k1 := Sl.leaf hv
  have k2 := Sl.leaf hw
  unfold AV.leaf at k1 k2
  have lt1 : ∀ (K : Heap) (A : Blk), K.length < (K ++ [A]).length := fun K A => by simp
  have le2 : ∀ (A B : Blk), H.length ≤ (H ++ [A] ++ [B]).length := fun A B => by simp
  have n1 := fun (K : Heap) (hK : H.length ≤ K.length) => lequalG_ok l m v w hv hw hl H.length K hK
  refine pure_slim rfl (by kernel_rfl) Tryz.func12 s12 hp hsnap (by simp [Tryz.f12]) fun fr hlen h => ?_
  simp only [Has, Nat.zero_add] at h
  obtain ⟨a0, a1, -⟩ := h
  simp only [Tryz.f12] at hlen ⊢
  unfold g12
  simp only [wk, aBuiltin, AV.cells, AV.leaf, Nat.reduceEqDiff, Nat.reduceLT, Nat.reduceAdd, Nat.reduceLeDiff, reduceCtorEq, Nat.reduceMul, Nat.reduceMod, cfgP, u44, hlen, a0, a1, k1, k2, lt1, le2, n1]
  exact Fin_pure (l := [.bool (sameL l m)]) (by simp [wk, aBuiltin, AV.cells, AV.leaf, Nat.reduceEqDiff, Nat.reduceLT, Nat.reduceAdd, Nat.reduceLeDiff, reduceCtorEq, Nat.reduceMul, Nat.reduceMod, cfgP, u44, aResults, aResult, hlen]) (.still rfl) (by simp)

theorem lsameG_live (l m : List Pr) (v w v' w' : AV) (b : Bool) (prot : Nat) (H : Heap) (hsnap : snap H [v, w] = some ([v', w'], b)) (hv : Sl encP v' l) (hw : Sl encP w' m) (hl : l.length < 1000000) (hp : prot ≤ H.length) :
    aLim cfg prot 13 [v, w] H = some (.bool (sameL l m), none) := by
  have hvl := fun (K : Heap) => hv.len (H := K) Tryz.underlying22
  have hwl := fun (K : Heap) => hw.len (H := K) Tryz.underlying22
  refine pure_slim rfl (by kernel_rfl) Tryz.func13 s13 hp hsnap (by simp [Tryz.f13]) fun fr hlen h => ?_
  simp only [Has, Nat.zero_add] at h
  obtain ⟨a0, a1, -⟩ := h
  simp only [Tryz.f13] at hlen ⊢
  unfold g13
  by_cases hlen' : l.length = m.length
  · have hne : decide (¬ ((l.length : Nat) : Int) = (m.length : Nat)) = false := by simp [hlen']
    simp only [wk, aBuiltin, AV.cells, AV.leaf, Nat.reduceEqDiff, Nat.reduceLT, Nat.reduceAdd, Nat.reduceLeDiff, reduceCtorEq, Nat.reduceMul, Nat.reduceMod, cfgP, u13, hlen, a0, a1, hvl, hwl, hne]
    refine loop_rule (fun k fr K => ∃ (i : Nat), k = l.length - i ∧ i ≤ l.length ∧ fr.length = 26 ∧ fget fr 0 = v' ∧ fget fr 1 = w' ∧ fget fr 12 = .int .i64 l.length ∧ fget fr 13 = .int .i64 i ∧ H.length ≤ K.length ∧ sameL l m = sameL (l.drop i) (m.drop i)) ?_ l.length _ _ ⟨0, by simp [wk, aBuiltin, AV.cells, AV.leaf, Nat.reduceEqDiff, Nat.reduceLT, Nat.reduceAdd, Nat.reduceLeDiff, reduceCtorEq, Nat.reduceMul, Nat.reduceMod, cfgP, u13, hlen, a0, a1]⟩
    rintro k fr K ⟨i, rfl, hi, hlen, a0, a1, a12, a13, hH, hc⟩ ih
    simp only [wk, aBuiltin, AV.cells, AV.leaf, Nat.reduceEqDiff, Nat.reduceLT, Nat.reduceAdd, Nat.reduceLeDiff, reduceCtorEq, Nat.reduceMul, Nat.reduceMod, cfgP, u13, hlen, a0, a1, a12, a13]
    refine RC_split (fun h => ?_) (fun h => ?_)
    · have hlt : i < l.length := by simpa using h
      have hlt2 : i < m.length := by omega
      have e1 := hv.at (k := .i64) Tryz.underlying22 sz58 encP_len hlt
      have e2 := hw.at (k := .i64) Tryz.underlying22 sz58 encP_len hlt2
      have hww : IntKind.i64.wrap ((i : Int) + 1) = ((i + 1 : Nat) : Int) := by rw [wrap64 (by omega) (by omega)]; simp
      rw [List.drop_eq_getElem_cons hlt, List.drop_eq_getElem_cons hlt2] at hc
      generalize l[i] = a at *
      generalize m[i] = b at *
      have hn := neR a b
      simp only [sameL] at hc
      cases hab : samePr a b with
      | true =>
        rw [hab] at hn hc
        simp only [Bool.not_true] at hn
        rw [Bool.true_and] at hc
        simp only [wk, aBuiltin, AV.cells, AV.leaf, Nat.reduceEqDiff, Nat.reduceLT, Nat.reduceAdd, Nat.reduceLeDiff, reduceCtorEq, Nat.reduceMul, Nat.reduceMod, cfgP, u13, hlen, a0, a1, a12, a13, e1, e2, encP, hH, hn, hww]
        refine ih _ _ (l.length - (i + 1)) (by omega) ⟨i + 1, rfl, hlt, ?_⟩
        rw [hc]
        simp [wk, aBuiltin, AV.cells, AV.leaf, Nat.reduceEqDiff, Nat.reduceLT, Nat.reduceAdd, Nat.reduceLeDiff, reduceCtorEq, Nat.reduceMul, Nat.reduceMod, cfgP, u13, hlen, a0, a1, a12, hH]
      | false =>
        rw [hab] at hn hc
        simp only [Bool.not_false] at hn
        rw [Bool.false_and] at hc
        rw [hc]
        simp only [wk, aBuiltin, AV.cells, AV.leaf, Nat.reduceEqDiff, Nat.reduceLT, Nat.reduceAdd, Nat.reduceLeDiff, reduceCtorEq, Nat.reduceMul, Nat.reduceMod, cfgP, u13, hlen, a0, a1, a12, a13, e1, e2, encP, hH, hn]
        exact Fin_pure (l := [.bool false]) (by simp [wk, aBuiltin, AV.cells, AV.leaf, Nat.reduceEqDiff, Nat.reduceLT, Nat.reduceAdd, Nat.reduceLeDiff, reduceCtorEq, Nat.reduceMul, Nat.reduceMod, cfgP, u13, hlen, aResults, aResult]) (.still rfl) (fun _ => rfl)
    · have hnl : ¬ i < l.length := by simpa using h
      rw [List.drop_eq_nil_of_le (by omega), List.drop_eq_nil_of_le (by omega)] at hc
      rw [hc]
      simp only [wk, aBuiltin, AV.cells, AV.leaf, Nat.reduceEqDiff, Nat.reduceLT, Nat.reduceAdd, Nat.reduceLeDiff, reduceCtorEq, Nat.reduceMul, Nat.reduceMod, cfgP, u13, hlen, a0, a1]
      exact Fin_pure (l := [.bool true]) (by simp [wk, aBuiltin, AV.cells, AV.leaf, Nat.reduceEqDiff, Nat.reduceLT, Nat.reduceAdd, Nat.reduceLeDiff, reduceCtorEq, Nat.reduceMul, Nat.reduceMod, cfgP, u13, hlen, aResults, aResult]) (.still rfl) (fun _ => rfl)
  · have hne : decide (¬ ((l.length : Nat) : Int) = (m.length : Nat)) = true := decide_eq_true (by omega)
    simp only [wk, aBuiltin, AV.cells, AV.leaf, Nat.reduceEqDiff, Nat.reduceLT, Nat.reduceAdd, Nat.reduceLeDiff, reduceCtorEq, Nat.reduceMul, Nat.reduceMod, cfgP, u13, hlen, a0, a1, hvl, hwl, hne]
    rw [sameL_len l m hlen']
    exact Fin_pure (l := [.bool false]) (by simp [wk, aBuiltin, AV.cells, AV.leaf, Nat.reduceEqDiff, Nat.reduceLT, Nat.reduceAdd, Nat.reduceLeDiff, reduceCtorEq, Nat.reduceMul, Nat.reduceMod, cfgP, u13, hlen, aResults, aResult]) (.still rfl) (fun _ => rfl)
end Go.Proofs.YtnipaiklandliaaGreatDoor
/- jtok.Next, jtok.All, walked. -/
namespace Go.Proofs.YtnipaiklandliaaGreatDoor
open Go Go.Abs AbsSeat Ty

theorem u72 : type_of% (And.intro (show tagT Tryz.prog 120 = 0 from by kernel_rfl) (And.intro ag3 (And.intro sz3 (And.intro by3 (And.intro ze3 (And.intro Tryz.underlying3 (And.intro ag9 (And.intro sz9 (And.intro by9 (And.intro ze9 (And.intro Tryz.underlying9 (And.intro ag76 (And.intro sz76 (And.intro by76 (And.intro ze76 (And.intro Tryz.underlying76 (And.intro ag110 (And.intro sz110 (And.intro by110 (And.intro ze110 (And.intro Tryz.underlying110 (And.intro ag120 (And.intro sz120 (And.intro by120 (And.intro ze120 (And.intro bu120 Tryz.underlying120)))))))))))))))))))))))))) := And.intro (show tagT Tryz.prog 120 = 0 from by kernel_rfl) (And.intro ag3 (And.intro sz3 (And.intro by3 (And.intro ze3 (And.intro Tryz.underlying3 (And.intro ag9 (And.intro sz9 (And.intro by9 (And.intro ze9 (And.intro Tryz.underlying9 (And.intro ag76 (And.intro sz76 (And.intro by76 (And.intro ze76 (And.intro Tryz.underlying76 (And.intro ag110 (And.intro sz110 (And.intro by110 (And.intro ze110 (And.intro Tryz.underlying110 (And.intro ag120 (And.intro sz120 (And.intro by120 (And.intro ze120 (And.intro bu120 Tryz.underlying120)))))))))))))))))))))))))
def g72 : Code :=
  .seq (.region 0 #[q 4 (.alloc 120) 0, q 5 (.assign (ik 0)) 28] false) (.seq (.seq (.region 1 #[q 8 (.move (.tmp 1)) 3, q 9 (.binOp .lss 3 (.tmp 8) (ik 0) 3) 4, q 10 (.move (.tmp 9)) 4, qg 11 (.move (.tmp 1)) 3 2 false, qg 12 (.move (.tmp 0)) 9 2 false, qg 13 (bi .len #[.tmp 12] #[9]) 3 2 false, qg 14 (.binOp .gtr 3 (.tmp 11) (.tmp 13) 3) 4 2 false, q 15 (.pick (.tmp 10) (.const (.bool true)) (.tmp 14)) 4] false) (.cond (.tmp 15) (.seq (.region 2 #[q 16 (.build 120 #[]) 120, qn (.store 120 (.tmp 4) (.tmp 16)) 0, q 5 (.assign (ik 1)) 28] false) .ret) .skip)) (.seq (.region 3 #[q 17 (.move (.tmp 0)) 9, q 18 (.move (.tmp 1)) 3, q 19 (cl 108 #[.tmp 17, .tmp 18, .func 109] #[9, 3, 110]) 3, q 1 (.assign (.tmp 19)) 3] false) (.seq (.seq (.region 4 #[q 20 (.move (.tmp 1)) 3, q 21 (.move (.tmp 0)) 9, q 22 (bi .len #[.tmp 21] #[9]) 3, q 23 (.binOp .eql 3 (.tmp 20) (.tmp 22) 3) 4] false) (.cond (.tmp 23) (.seq (.region 5 #[q 24 (.build 120 #[]) 120, qn (.store 120 (.tmp 4) (.tmp 24)) 0, q 5 (.assign (ik 6)) 28] false) .ret) .skip)) (.seq (.region 6 #[q 26 (.move (.tmp 0)) 9, q 27 (.move (.tmp 1)) 3, q 28 (cl 110 #[.tmp 26, .tmp 27] #[9, 3]) 161, q 25 (.move (.tmp 28)) 161, q 29 (.extract (.tmp 25) 0) 120, q 30 (.extract (.tmp 25) 1) 76, q 6 (.alloc 120) 0, qn (.store 120 (.tmp 6) (.tmp 29)) 0, q 7 (.assign (.tmp 30)) 76] false) (.seq (.seq (.region 7 #[q 31 (.move (.tmp 7)) 76, q 32 (.binOp .neq 76 (.tmp 31) (.const .nilIface) 76) 4] false) (.cond (.tmp 32) (.seq (.region 8 #[q 33 (.build 120 #[]) 120, q 34 (.move (.tmp 7)) 76, q 35 (cl 111 #[.tmp 34] #[76]) 28, qn (.store 120 (.tmp 4) (.tmp 33)) 0, q 5 (.assign (.tmp 35)) 28] false) .ret) .skip)) (.seq (.region 9 #[q 36 (.load 120 (.tmp 6)) 120, qn (.store 120 (.tmp 4) (.tmp 36)) 0, q 5 (.assign (ik 0)) 28] false) .ret))))))
theorem s72 : Tryz.f72.body.map (slim cfg) = some g72 := by kernel_rfl
def nextV (k : Nat) (r : List UInt8) : AV := match tokS (r.drop (runS blankC r)) with
  | .bad e => .tup [.agg tk0, .int .i64 e]
  | .tok t => .tup [.agg (tkAt (k + runS blankC r) t), .int .i64 0]

theorem next_tok (s : List UInt8) (hl : s.length < 100000000000000) (k : Nat) (hk : k ≤ s.length) (prot : Nat) (H : Heap) (hg0 : hget H 0 (gver 1) = some [ET]) (hp : prot ≤ H.length) :
    aLim cfg prot 72 [.str s, .int .i64 k] H = some (nextV k (s.drop k), none) := by
  have hsnap : snap H [.str s, .int .i64 k] = some ([.str s, .int .i64 k], false) := rfl
  have hls : ∀ K, aLen Tryz.prog K 9 (.str s) = some (.int .i64 s.length) := fun K => str_len Tryz.underlying9 s K
  have hk0 : ¬ ((k : Int) < 0) := by omega
  have hk1 : ¬ (((s.length : Nat) : Int) < k) := by omega
  have nr := fun a => run_ok 109 blankC blank_ok s (by omega) k (by omega) H.length (H ++ [a]) (by simp)
  have hrl := runS_le blankC (s.drop k)
  simp only [List.length_drop] at hrl
  unfold nextV
  rw [List.drop_drop]
  generalize hb : runS blankC (s.drop k) = b at *
  refine pure_slim rfl (by kernel_rfl) Tryz.func72 s72 hp hsnap (by simp [Tryz.f72]) fun fr hlen h => ?_
  simp only [Has, Nat.zero_add] at h
  obtain ⟨a0, a1, -⟩ := h
  simp only [Tryz.f72] at hlen ⊢
  unfold g72
  have hl1 : ∀ a : Blk, (H ++ [a]).length = H.length + 1 := fun a => by simp
  have ha2 : ∀ a b : Blk, H ++ [a] ++ [b] = H ++ [a, b] := fun a b => by simp
  by_cases he : k + b = s.length
  · have hd : s.drop (k + b) = [] := by simp; omega
    have heq : decide (((k + b : Nat) : Int) = (s.length : Nat)) = true := decide_eq_true (by omega)
    rw [hd, tokS]
    simp only [wk, aBuiltin, AV.cells, AV.leaf, Nat.reduceEqDiff, Nat.reduceLT, Nat.reduceAdd, Nat.reduceLeDiff, reduceCtorEq, Nat.reduceMul, Nat.reduceMod, cfgP, u72, hlen, a0, a1, hk0, hk1, hls, nr, none_beq, heq]
    exact Fin_pure (l := [.agg tk0, .int .i64 6]) (by simp [wk, aBuiltin, AV.cells, AV.leaf, Nat.reduceEqDiff, Nat.reduceLT, Nat.reduceAdd, Nat.reduceLeDiff, reduceCtorEq, Nat.reduceMul, Nat.reduceMod, cfgP, u72, hlen, aResults, aResult, tk0, tkC]) (.tup (.cons (.agg (.still (by simp [tk0, tkC, still]))) (.cons (.still rfl) .nil))) (by simp)
  · have heq : decide (((k + b : Nat) : Int) = (s.length : Nat)) = false := decide_eq_false (by omega)
    obtain ⟨r, hr, nt⟩ := token_ok s hl (k + b) (by omega) H.length (H ++ [Blk.cells 0 tk0]) (by simp)
    simp only [tk0, tkC] at nt
    cases htk : tokS (s.drop (k + b)) with
    | bad e =>
      rw [htk] at hr
      obtain ⟨j, rfl⟩ := hr
      have nn := fun a b => number_ok j e H.length (H ++ [a, b]) (hget_mono hg0 _) (by simp)
      simp only [troub, tk0, tkC] at nt nn
      simp only [wk, aBuiltin, AV.cells, AV.leaf, Nat.reduceEqDiff, Nat.reduceLT, Nat.reduceAdd, Nat.reduceLeDiff, reduceCtorEq, Nat.reduceMul, Nat.reduceMod, cfgP, u72, hlen, a0, a1, hk0, hk1, hls, nr, none_beq, heq, nt, hl1, ha2, two_get0, two_get1, two_put0, two_put1, errNe, nn]
      exact Fin_pure (l := [.agg tk0, .int .i64 e]) (by simp [wk, aBuiltin, AV.cells, AV.leaf, Nat.reduceEqDiff, Nat.reduceLT, Nat.reduceAdd, Nat.reduceLeDiff, reduceCtorEq, Nat.reduceMul, Nat.reduceMod, cfgP, u72, hlen, aResults, aResult, tk0, tkC, two_get0]) (.tup (.cons (.agg (.still (by simp [tk0, tkC, still]))) (.cons (.still rfl) .nil))) (by simp)
    | tok t =>
      rw [htk] at hr
      have hr : r = .tup [.agg (tkAt (k + b) t), .nilI] := hr
      subst hr
      simp only [tkAt, tkC] at nt ⊢
      simp only [wk, aBuiltin, AV.cells, AV.leaf, Nat.reduceEqDiff, Nat.reduceLT, Nat.reduceAdd, Nat.reduceLeDiff, reduceCtorEq, Nat.reduceMul, Nat.reduceMod, cfgP, u72, hlen, a0, a1, hk0, hk1, hls, nr, none_beq, heq, nt, hl1, ha2, two_get0, two_get1, two_put0, two_put1, nilNe]
      exact Fin_pure (l := [.agg (tkAt (k + b) t), .int .i64 0]) (by simp [wk, aBuiltin, AV.cells, AV.leaf, Nat.reduceEqDiff, Nat.reduceLT, Nat.reduceAdd, Nat.reduceLeDiff, reduceCtorEq, Nat.reduceMul, Nat.reduceMod, cfgP, u72, hlen, aResults, aResult, tkAt, tkC, two_get0]) (.tup (.cons (.agg (.still (by simp [tkAt, tkC, still]))) (.cons (.still rfl) .nil))) (by simp)
end Go.Proofs.YtnipaiklandliaaGreatDoor
/- Chapter 14's example. -/
namespace Go.Proofs.YtnipaiklandliaaGreatDoor
open Go Go.Abs AbsSeat Ty
theorem lawake_ok (prot : Nat) (H : Heap) : aLim cfg prot 9 [] H = some (.bool true, none) :=
  lim_shut (k := 1000) (by kernel_rfl) (by kernel_rfl) (by kernel_rfl) prot H
end Go.Proofs.YtnipaiklandliaaGreatDoor
