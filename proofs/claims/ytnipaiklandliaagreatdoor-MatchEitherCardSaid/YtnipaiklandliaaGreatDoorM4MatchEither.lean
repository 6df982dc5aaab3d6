import Derived.Test.YtnipaiklandliaaGreatDoorM3MatchEither
import Derived.Test.YtnipaiklandliaaGreatDoorAbsMore
/-! Part 4 of the proof of MatchEither. -/
set_option linter.unusedSimpArgs false
/- Chapter 15: how many states a node makes, walked. -/
namespace Go.Proofs.YtnipaiklandliaaGreatDoor
open Go Go.Abs AbsSeat Ty
open Nat (reduceEqDiff reduceLT reduceAdd reduceLeDiff reduceMul reduceMod)
def cutN (n : Nat) : Nat := min n 2147483647
mutual
def sizeN : Nd → Nat
 | .mk kind _ _ _ least most _ kids =>
   if kind = 1 then 1
   else if kind = 2 ∨ kind = 3 then sizeL (decide (kind = 3)) true 0 kids
   else if kind = 4 then
     match kids with
     | [x] => if most = -1 then cutN (cutN ((max least 1).toNat * sizeN x) + 1) else cutN (cutN (least.toNat * sizeN x) + cutN ((most - least).toNat * (sizeN x + 1)))
     | _ => 0
   else 0
def sizeL (e : Bool) : Bool → Nat → List Nd → Nat
 | _, a, [] => a
 | first, a, x :: r => sizeL e false (if e && !first then cutN (cutN (a + sizeN x) + 1) else cutN (a + sizeN x)) r
end
inductive Good : Nd → Prop where
 | mk {kind : Int} {no sf : Bool} {sp : List Sg} {least most : Int} {kf : Bool} {kids : List Nd} (h : ∀ x ∈ kids, Good x) (hk : kind = 0 ∨ kind = 1 ∨ kind = 2 ∨ kind = 3 ∨ (kind = 4 ∧ kids.length = 1 ∧ 0 ≤ least ∧ least ≤ 16 ∧ (most = -1 ∨ (least ≤ most ∧ most ≤ 16)))) (hl : kids.length ≤ 1000000) : Good (.mk kind no sf sp least most kf kids)
theorem cutN_le (n : Nat) : cutN n ≤ 2147483647 := Nat.min_le_right _ _
theorem sizeL_le (e : Bool) : ∀ (l : List Nd) (f : Bool) (a : Nat), a ≤ 2147483647 → sizeL e f a l ≤ 2147483647
 | [], f, a, h => by rw [sizeL]; exact h
 | x :: r, f, a, h => by
   rw [sizeL]
   refine sizeL_le e r _ _ ?_
   split <;> exact cutN_le _
theorem sizeN_le (x : Nd) : sizeN x ≤ 2147483647 := by
 cases x with
 | mk kind no sf sp least most kf kids =>
   rw [sizeN.eq_def]
   dsimp only
   split
   · omega
   · split
     · exact sizeL_le _ _ _ _ (by omega)
     · split
       · split
         · split <;> exact cutN_le _
         · omega
       · omega
theorem cut_mul (m s : Nat) : cutN (m * cutN (s + 1)) = cutN (m * (s + 1)) := by
 unfold cutN
 by_cases h : s + 1 ≤ 2147483647
 · rw [Nat.min_eq_left h]
 · rw [Nat.min_eq_right (show 2147483647 ≤ s + 1 by omega)]
   cases m with
   | zero => simp
   | succ m =>
     have : 2147483647 ≤ (m + 1) * 2147483647 := by rw [Nat.succ_mul]; omega
     have : (m + 1) * 2147483647 ≤ (m + 1) * (s + 1) := Nat.mul_le_mul_left _ (by omega)
     omega
theorem u153 : type_of% (And.intro (show tagT Tryz.prog 176 = 0 from by kernel_rfl) (And.intro (show tagT Tryz.prog 209 = 0 from by kernel_rfl) (And.intro ag3 (And.intro sz3 (And.intro by3 (And.intro ze3 (And.intro Tryz.underlying3 (And.intro ag9 (And.intro sz9 (And.intro by9 (And.intro ze9 (And.intro Tryz.underlying9 (And.intro ag21 (And.intro sz21 (And.intro by21 (And.intro ze21 (And.intro Tryz.underlying21 (And.intro ag174 (And.intro sz174 (And.intro by174 (And.intro se174 (And.intro ze174 (And.intro Tryz.underlying174 (And.intro ag176 (And.intro sz176 (And.intro by176 (And.intro ze176 (And.intro bu176 (And.intro Tryz.underlying176 (And.intro ag205 (And.intro sz205 (And.intro by205 (And.intro ze205 (And.intro Tryz.underlying205 (And.intro ag206 (And.intro sz206 (And.intro by206 (And.intro se206 (And.intro ze206 (And.intro Tryz.underlying206 (And.intro ag209 (And.intro sz209 (And.intro by209 (And.intro ze209 (And.intro bu209 (And.intro Tryz.underlying209 (And.intro fa176_0 (And.intro fd176_0 (And.intro fa176_3 (And.intro fd176_3 (And.intro fa176_4 (And.intro fd176_4 (And.intro fa176_5 (And.intro fd176_5 (And.intro fa209_0 (And.intro fd209_0 (And.intro fa209_1 fd209_1))))))))))))))))))))))))))))))))))))))))))))))))))))))))) := And.intro (show tagT Tryz.prog 176 = 0 from by kernel_rfl) (And.intro (show tagT Tryz.prog 209 = 0 from by kernel_rfl) (And.intro ag3 (And.intro sz3 (And.intro by3 (And.intro ze3 (And.intro Tryz.underlying3 (And.intro ag9 (And.intro sz9 (And.intro by9 (And.intro ze9 (And.intro Tryz.underlying9 (And.intro ag21 (And.intro sz21 (And.intro by21 (And.intro ze21 (And.intro Tryz.underlying21 (And.intro ag174 (And.intro sz174 (And.intro by174 (And.intro se174 (And.intro ze174 (And.intro Tryz.underlying174 (And.intro ag176 (And.intro sz176 (And.intro by176 (And.intro ze176 (And.intro bu176 (And.intro Tryz.underlying176 (And.intro ag205 (And.intro sz205 (And.intro by205 (And.intro ze205 (And.intro Tryz.underlying205 (And.intro ag206 (And.intro sz206 (And.intro by206 (And.intro se206 (And.intro ze206 (And.intro Tryz.underlying206 (And.intro ag209 (And.intro sz209 (And.intro by209 (And.intro ze209 (And.intro bu209 (And.intro Tryz.underlying209 (And.intro fa176_0 (And.intro fd176_0 (And.intro fa176_3 (And.intro fd176_3 (And.intro fa176_4 (And.intro fd176_4 (And.intro fa176_5 (And.intro fd176_5 (And.intro fa209_0 (And.intro fd209_0 (And.intro fa209_1 fd209_1))))))))))))))))))))))))))))))))))))))))))))))))))))))))
def g153 : Code :=
 .seq (.region 0 #[q 1 (.box 176 (.tmp 0)) 0, q 2 (.assign (ik 0)) 3] false) (.seq (.seq (.region 1 #[q 6 (.fieldAddr 176 (.tmp 1) 0) 0, q 7 (.load 3 (.tmp 6)) 3] false) (.block 0 (.seq (.region 2 #[q 9 (.binOp .eql 3 (.tmp 7) (ik 1) 3) 4, q 8 (.assign (.tmp 9)) 4] false) (.cond (.tmp 8) (.seq (.region 3 #[q 2 (.assign (ik 1)) 3] false) .ret) (.seq (.seq (.region 4 #[q 11 (.binOp .eql 3 (.tmp 7) (ik 2) 3) 4, q 10 (.assign (.tmp 11)) 4] false) (.cond (.tmp 10) .skip (.region 5 #[q 12 (.binOp .eql 3 (.tmp 7) (ik 3) 3) 4, q 10 (.assign (.tmp 12)) 4] false))) (.cond (.tmp 10) (.seq (.region 6 #[q 3 (.assign (ik 0)) 3] false) (.seq (.seq (.region 7 #[q 13 (.fieldAddr 176 (.tmp 1) 5) 0, q 14 (.load 174 (.tmp 13)) 174, q 15 (bi .len #[.tmp 14] #[174]) 3, q 16 (.move (ik 0)) 3] false) (.block 1 (.loop (.seq (.region 8 #[q 17 (.binOp .lss 3 (.tmp 16) (.tmp 15) 3) 0] false) (.seq (.cond (.tmp 17) .skip (.exit 1)) (.seq (.block 2 (.seq (.region 9 #[q 18 (.move (.tmp 16)) 3, q 19 (.indexAddr 174 (.tmp 14) (.tmp 16)) 0, q 20 (.load 176 (.tmp 19)) 176, q 5 (.alloc 176) 0, q 4 (.assign (.tmp 18)) 3, qn (.store 176 (.tmp 5) (.tmp 20)) 0] false) (.seq (.region 10 #[q 21 (.move (.tmp 3)) 3, q 22 (.load 176 (.tmp 5)) 176, q 23 (cl 153 #[.tmp 22] #[176]) 3, q 24 (cl 174 #[.tmp 21, .tmp 23] #[3, 3]) 3, q 3 (.assign (.tmp 24)) 3] false) (.seq (.region 11 #[q 25 (.fieldAddr 176 (.tmp 1) 0) 0, q 26 (.load 3 (.tmp 25)) 3, q 27 (.binOp .eql 3 (.tmp 26) (ik 3) 3) 4, q 28 (.move (.tmp 27)) 4, qg 29 (.move (.tmp 4)) 3 3 true, qg 30 (.binOp .gtr 3 (.tmp 29) (ik 0) 3) 4 3 true, q 31 (.pick (.tmp 28) (.tmp 30) (.const (.bool false))) 4] false) (.cond (.tmp 31) (.region 12 #[q 32 (.move (.tmp 3)) 3, q 33 (cl 174 #[.tmp 32, ik 1] #[3, 3]) 3, q 3 (.assign (.tmp 33)) 3] false) .skip))))) (.region 13 #[q 34 (.binOp .add 3 (.tmp 16) (ik 1) 3) 3, q 16 (.move (.tmp 34)) 3] false))))))) (.seq (.region 14 #[q 35 (.move (.tmp 3)) 3, q 2 (.assign (.tmp 35)) 3] false) .ret))) (.seq (.region 15 #[q 37 (.binOp .eql 3 (.tmp 7) (ik 4) 3) 4, q 36 (.assign (.tmp 37)) 4] false) (.cond (.tmp 36) (.seq (.region 16 #[q 38 (.load 176 (.tmp 1)) 176, q 39 (cl 175 #[.tmp 38] #[176]) 3, q 2 (.assign (.tmp 39)) 3] false) .ret) .skip)))))))) (.seq (.region 17 #[q 2 (.assign (ik 0)) 3] false) .ret))
theorem s153 : Tryz.f153.body.map (slim cfg) = some g153 := by kernel_rfl
def g175 : Code :=
 .seq (.region 0 #[q 1 (.box 176 (.tmp 0)) 0, q 2 (.assign (ik 0)) 3] false) (.seq (.seq (.region 1 #[q 5 (.fieldAddr 176 (.tmp 1) 5) 0, q 6 (.load 174 (.tmp 5)) 174, q 7 (bi .len #[.tmp 6] #[174]) 3, q 8 (.binOp .neq 3 (.tmp 7) (ik 1) 3) 4] false) (.cond (.tmp 8) (.seq (.region 2 #[q 2 (.assign (ik 0)) 3] false) .ret) .skip)) (.seq (.region 3 #[q 9 (.fieldAddr 176 (.tmp 1) 5) 0, q 10 (.load 174 (.tmp 9)) 174, q 11 (.indexAddr 174 (.tmp 10) (ik 0)) 0, q 12 (.load 176 (.tmp 11)) 176, q 13 (cl 153 #[.tmp 12] #[176]) 3, q 14 (.fieldAddr 176 (.tmp 1) 3) 0, q 15 (.load 3 (.tmp 14)) 3, q 16 (bi .max #[.tmp 15, ik 0] #[3, 3]) 3, q 17 (bi .min #[.tmp 16, ik 2147483647] #[3, 3]) 3, q 3 (.assign (.tmp 13)) 3, q 4 (.assign (.tmp 17)) 3] false) (.seq (.seq (.region 4 #[q 18 (.fieldAddr 176 (.tmp 1) 4) 0, q 19 (.load 3 (.tmp 18)) 3, q 20 (.binOp .eql 3 (.tmp 19) (ik (-1)) 3) 4] false) (.cond (.tmp 20) (.seq (.region 5 #[q 21 (.move (.tmp 4)) 3, q 22 (bi .max #[.tmp 21, ik 1] #[3, 3]) 3, q 23 (.move (.tmp 3)) 3, q 24 (cl 187 #[.tmp 22, .tmp 23] #[3, 3]) 3, q 25 (cl 174 #[.tmp 24, ik 1] #[3, 3]) 3, q 2 (.assign (.tmp 25)) 3] false) .ret) .skip)) (.seq (.region 6 #[q 26 (.move (.tmp 4)) 3, q 27 (.move (.tmp 3)) 3, q 28 (cl 187 #[.tmp 26, .tmp 27] #[3, 3]) 3, q 29 (.fieldAddr 176 (.tmp 1) 4) 0, q 30 (.load 3 (.tmp 29)) 3, q 31 (.move (.tmp 4)) 3, q 32 (.binOp .sub 3 (.tmp 30) (.tmp 31) 3) 3, q 33 (bi .max #[.tmp 32, ik 0] #[3, 3]) 3, q 34 (bi .min #[.tmp 33, ik 2147483647] #[3, 3]) 3, q 35 (.move (.tmp 3)) 3, q 36 (cl 174 #[.tmp 35, ik 1] #[3, 3]) 3, q 37 (cl 187 #[.tmp 34, .tmp 36] #[3, 3]) 3, q 38 (cl 174 #[.tmp 28, .tmp 37] #[3, 3]) 3, q 2 (.assign (.tmp 38)) 3] false) .ret))))
theorem s175 : Tryz.f175.body.map (slim cfg) = some g175 := by kernel_rfl
def g174 : Code :=
 .seq (.region 0 #[q 4 (.assign (ik 0)) 3] false) (.seq (.region 1 #[q 5 (.move (.tmp 0)) 3, q 6 (.move (.tmp 1)) 3, q 7 (.binOp .add 3 (.tmp 5) (.tmp 6) 3) 3, q 8 (bi .min #[.tmp 7, ik 2147483647] #[3, 3]) 3, q 4 (.assign (.tmp 8)) 3] false) .ret)
theorem s174 : Tryz.f174.body.map (slim cfg) = some g174 := by kernel_rfl
def g187 : Code :=
 .seq (.region 0 #[q 4 (.assign (ik 0)) 3] false) (.seq (.seq (.region 1 #[q 5 (.move (.tmp 0)) 3, q 6 (.binOp .gtr 3 (.tmp 5) (ik 0) 3) 4, q 7 (.move (.tmp 6)) 4, qg 8 (.move (.tmp 1)) 3 2 true, qg 9 (.move (.tmp 0)) 3 2 true, qg 10 (.binOp .quo 3 (ik 2147483647) (.tmp 9) 3) 3 2 true, qg 11 (.binOp .gtr 3 (.tmp 8) (.tmp 10) 3) 4 2 true, q 12 (.pick (.tmp 7) (.tmp 11) (.const (.bool false))) 4] false) (.cond (.tmp 12) (.seq (.region 2 #[q 4 (.assign (ik 2147483647)) 3] false) .ret) .skip)) (.seq (.region 3 #[q 13 (.move (.tmp 0)) 3, q 14 (.move (.tmp 1)) 3, q 15 (.binOp .mul 3 (.tmp 13) (.tmp 14) 3) 3, q 4 (.assign (.tmp 15)) 3] false) .ret))
theorem s187 : Tryz.f187.body.map (slim cfg) = some g187 := by kernel_rfl
def g120 : Code :=
 .seq (.region 0 #[q 2 (.alloc 176) 0, q 3 (.assign (ik 0)) 28] false) (.seq (.seq (.region 1 #[q 7 (.move (.tmp 0)) 9, q 8 (cl 31 #[.tmp 7] #[9]) 4, q 9 (.unOp .not 4 (.tmp 8)) 4] false) (.cond (.tmp 9) (.seq (.region 2 #[q 10 (.build 176 #[]) 176, qn (.store 176 (.tmp 2) (.tmp 10)) 0, q 3 (.assign (ik 3)) 28] false) .ret) .skip)) (.seq (.region 3 #[q 11 (.move (.tmp 0)) 9, q 12 (cl 151 #[.tmp 11] #[9]) 206, q 13 (.build 209 #[(0, .tmp 12)]) 209, q 14 (.box 209 (.tmp 13)) 205, q 4 (.assign (.tmp 14)) 205] false) (.seq (.region 4 #[q 16 (.move (.tmp 4)) 205, q 17 (cl 152 #[.tmp 16, ik 0] #[205, 3]) 210, q 15 (.move (.tmp 17)) 210, q 18 (.extract (.tmp 15) 0) 176, q 19 (.extract (.tmp 15) 1) 4, q 5 (.alloc 176) 0, qn (.store 176 (.tmp 5) (.tmp 18)) 0, q 6 (.assign (.tmp 19)) 4] false) (.seq (.block 0 (.seq (.region 5 #[q 21 (.move (.tmp 6)) 4, q 22 (.unOp .not 4 (.tmp 21)) 4, q 23 (.move (.tmp 22)) 4, qg 24 (.move (.tmp 4)) 205 2 false, qg 25 (.nilCheck (.tmp 24)) 0 2 false, qg 26 (.fieldAddr 209 (.tmp 25) 1) 0 2 false, qg 27 (.load 3 (.tmp 26)) 3 2 false, qg 28 (.move (.tmp 4)) 205 2 false, qg 29 (.nilCheck (.tmp 28)) 0 2 false, qg 30 (.fieldAddr 209 (.tmp 29) 0) 0 2 false, qg 31 (.load 206 (.tmp 30)) 206 2 false, qg 32 (bi .len #[.tmp 31] #[206]) 3 2 false, qg 33 (.binOp .neq 3 (.tmp 27) (.tmp 32) 3) 4 2 false, q 34 (.pick (.tmp 23) (.const (.bool true)) (.tmp 33)) 4, q 20 (.assign (.tmp 34)) 4] false) (.cond (.tmp 20) (.seq (.region 6 #[q 35 (.build 176 #[]) 176, qn (.store 176 (.tmp 2) (.tmp 35)) 0, q 3 (.assign (ik 3)) 28] false) .ret) (.seq (.region 7 #[q 37 (.load 176 (.tmp 5)) 176, q 38 (cl 153 #[.tmp 37] #[176]) 3, q 39 (.binOp .gtr 3 (.tmp 38) (ik 400) 3) 4, q 36 (.assign (.tmp 39)) 4] false) (.cond (.tmp 36) (.seq (.region 8 #[q 40 (.build 176 #[]) 176, qn (.store 176 (.tmp 2) (.tmp 40)) 0, q 3 (.assign (ik 5)) 28] false) .ret) .skip))))) (.seq (.region 9 #[q 41 (.load 176 (.tmp 5)) 176, qn (.store 176 (.tmp 2) (.tmp 41)) 0, q 3 (.assign (ik 0)) 28] false) .ret)))))
theorem s120 : Tryz.f120.body.map (slim cfg) = some g120 := by kernel_rfl
theorem add_ok (a b : Nat) (ha : a ≤ 2147483647) (hb : b ≤ 2147483647) (prot : Nat) (H : Heap) (hp : prot ≤ H.length) : aLim cfg prot 174 [.int .i64 a, .int .i64 b] H = some (.int .i64 (cutN (a + b)), none) := by
 have hsnap : snap H [.int .i64 a, .int .i64 b] = some ([.int .i64 a, .int .i64 b], false) := rfl
 have w1 : IntKind.i64.wrap ((a : Int) + (b : Int)) = ((a + b : Nat) : Int) := by rw [wrap64 (by omega) (by omega)]; simp
 have e : min (((a + b : Nat)) : Int) 2147483647 = (cutN (a + b) : Nat) := by unfold cutN; omega
 refine pure_slim rfl (by kernel_rfl) Tryz.func174 s174 hp hsnap (by simp [Tryz.f174]) fun fr hlen h => ?_
 simp only [Has, Nat.zero_add] at h
 obtain ⟨a0, a1, -⟩ := h
 simp only [Tryz.f174] at hlen ⊢
 unfold g174
 simp only [w9, AV.cells, AV.leaf, reduceEqDiff, reduceLT, reduceAdd, reduceLeDiff, reduceCtorEq, reduceMul, reduceMod, u153, hlen, a0, a1, w1, min_int, e]
 exact Fin_pure (l := [.int .i64 (cutN (a + b))]) (by simp [w9, AV.cells, AV.leaf, reduceEqDiff, reduceLT, reduceAdd, reduceLeDiff, reduceCtorEq, reduceMul, reduceMod, u153, aResults, aResult, hlen]) (.still rfl) (by simp)
theorem add1_ok (a : Nat) (ha : a ≤ 2147483647) (prot : Nat) (H : Heap) (hp : prot ≤ H.length) : aLim cfg prot 174 [.int .i64 a, .int .i64 1] H = some (.int .i64 (cutN (a + 1)), none) := add_ok a 1 ha (by omega) prot H hp
theorem mul_ok (a b : Nat) (ha : a ≤ 16) (hb : b ≤ 2147483648) (prot : Nat) (H : Heap) (hp : prot ≤ H.length) : aLim cfg prot 187 [.int .i64 a, .int .i64 b] H = some (.int .i64 (cutN (a * b)), none) := by
 have hsnap : snap H [.int .i64 a, .int .i64 b] = some ([.int .i64 a, .int .i64 b], false) := rfl
 have hab : a * b ≤ 16 * 2147483648 := Nat.mul_le_mul ha hb
 have w1 : IntKind.i64.wrap ((a : Int) * (b : Int)) = ((a * b : Nat) : Int) := by
   rw [← Int.natCast_mul]
   exact wrap64 (by omega) (by omega)
 refine pure_slim rfl (by kernel_rfl) Tryz.func187 s187 hp hsnap (by simp [Tryz.f187]) fun fr hlen h => ?_
 simp only [Has, Nat.zero_add] at h
 obtain ⟨a0, a1, -⟩ := h
 simp only [Tryz.f187] at hlen ⊢
 unfold g187
 by_cases h0 : 0 < a
 · have d0 : decide (0 < (a : Int)) = true := decide_eq_true (by omega)
   have q1 : aBin Tryz.prog .quo 3 (.const (.int .i64 2147483647)) (.tmp 9) (.int .i64 2147483647) (.int .i64 a) = some (.int .i64 (IntKind.i64.wrap ((2147483647 / a : Nat)))) := bin_quo_nat (a := 2147483647) h0
   have hq1 : a * (2147483647 / a) ≤ 2147483647 := by rw [Nat.mul_comm]; exact Nat.div_mul_le_self _ _
   have hq2 : 2147483647 < a * (2147483647 / a + 1) := by
     have := Nat.div_add_mod 2147483647 a
     have := Nat.mod_lt 2147483647 h0
     rw [Nat.mul_add]; omega
   have hq3 := Nat.div_le_self 2147483647 a
   generalize 2147483647 / a = q at *
   have w2 : IntKind.i64.wrap ((q : Nat) : Int) = ((q : Nat) : Int) := wrap64 (by omega) (by omega)
   by_cases h1 : q < b
   · have d1 : decide (((q : Nat) : Int) < (b : Int)) = true := decide_eq_true (by omega)
     have e : cutN (a * b) = 2147483647 := by
       have h2 : a * (q + 1) ≤ a * b := Nat.mul_le_mul_left _ h1
       unfold cutN; omega
     rw [e]
     simp only [w9, AV.cells, AV.leaf, reduceEqDiff, reduceLT, reduceAdd, reduceLeDiff, reduceCtorEq, reduceMul, reduceMod, u153, hlen, a0, a1, d0, q1, w2, d1, none_beq]
     exact Fin_pure (l := [.int .i64 2147483647]) (by simp [w9, AV.cells, AV.leaf, reduceEqDiff, reduceLT, reduceAdd, reduceLeDiff, reduceCtorEq, reduceMul, reduceMod, u153, aResults, aResult, hlen]) (.still rfl) (by simp)
   · have d1 : decide (((q : Nat) : Int) < (b : Int)) = false := decide_eq_false (by omega)
     have e : cutN (a * b) = a * b := by
       have h2 : a * b ≤ a * q := Nat.mul_le_mul_left _ (by omega)
       unfold cutN; omega
     rw [e]
     simp only [w9, AV.cells, AV.leaf, reduceEqDiff, reduceLT, reduceAdd, reduceLeDiff, reduceCtorEq, reduceMul, reduceMod, u153, hlen, a0, a1, d0, q1, w2, d1, w1, none_beq]
     exact Fin_pure (l := [.int .i64 ((a * b : Nat))]) (by simp [w9, AV.cells, AV.leaf, reduceEqDiff, reduceLT, reduceAdd, reduceLeDiff, reduceCtorEq, reduceMul, reduceMod, u153, aResults, aResult, hlen]) (.still rfl) (by simp)
 · have : a = 0 := by omega
   subst this
   have e : cutN (0 * b) = 0 * b := by unfold cutN; omega
   have d0 : decide ((0 : Int) < ((0 : Nat) : Int)) = false := rfl
   rw [e]
   simp only [w9, AV.cells, AV.leaf, reduceEqDiff, reduceLT, reduceAdd, reduceLeDiff, reduceCtorEq, reduceMul, reduceMod, u153, hlen, a0, a1, d0, w1, none_beq]
   exact Fin_pure (l := [.int .i64 ((0 * b : Nat))]) (by simp [w9, AV.cells, AV.leaf, reduceEqDiff, reduceLT, reduceAdd, reduceLeDiff, reduceCtorEq, reduceMul, reduceMod, u153, aResults, aResult, hlen]) (.still rfl) (by simp)
theorem sizeN_cat {kind : Int} {no sf : Bool} {sp : List Sg} {least most : Int} {kf : Bool} {kids : List Nd} (h : kind = 2 ∨ kind = 3) : sizeN (.mk kind no sf sp least most kf kids) = sizeL (decide (kind = 3)) true 0 kids := by
 rw [sizeN.eq_def]
 dsimp only
 rw [if_neg (by omega), if_pos h]
theorem repeats_ok (x : Nd) (hS : ∀ (prot : Nat) (H : Heap), prot ≤ H.length → aLim cfg prot 153 [encN x] H = some (.int .i64 (sizeN x), none)) (no sf : Bool) (sp : List Sg) (least most : Int) (kf : Bool) (h1 : 0 ≤ least) (h2 : least ≤ 16) (h3 : most = -1 ∨ (least ≤ most ∧ most ≤ 16))
   (prot : Nat) (H : Heap) (hp : prot ≤ H.length) : aLim cfg prot 175 [encN (.mk 4 no sf sp least most kf [x])] H = some (.int .i64 (sizeN (.mk 4 no sf sp least most kf [x])), none) := by
 have hsnap : snap H [encN (.mk 4 no sf sp least most kf [x])] = some ([encN (.mk 4 no sf sp least most kf [x])], false) := by rw [encN_eq]; rfl
 have hs1 := slF_leaf sf encG sp
 have ht1 := slF_leaf kf encN [x]
 have hkl := fun K : Heap => (slF_sl kf encN [x]).len (P := Tryz.prog) (H := K) Tryz.underlying174
 have hk0 := (slF_sl kf encN [x]).at (P := Tryz.prog) (k := .i64) (i := 0) Tryz.underlying174 sz176 encN_len (by simp)
 have hle := sizeN_le x
 refine pure_slim rfl (by kernel_rfl) Tryz.func175 s175 hp hsnap (by simp [Tryz.f175]) fun fr hlen h => ?_
 simp only [Has, Nat.zero_add] at h
 obtain ⟨a0, -⟩ := h
 simp only [Tryz.f175] at hlen ⊢
 unfold g175
 rw [encN_eq] at a0
 unfold AV.leaf at hs1 ht1
 obtain ⟨a, rfl⟩ : ∃ a : Nat, least = a := ⟨least.toNat, by omega⟩
 have d1 : decide (¬ ((1 : Nat) : Int) = 1) = false := rfl
 have hS' := fun (K : Heap) (hK : H.length ≤ K.length) => hS H.length K hK
 simp only [List.getElem_cons_zero] at hk0
 have m1 : min (max (a : Int) 0) 2147483647 = (a : Int) := by omega
 have e1 : aIndexAddr Tryz.prog 174 (slF kf encN [x]) (.int .i64 0) = some (.vptr (encN x).cells 0) := hk0
 obtain ⟨k', no', s, x1, x2, t, hx, hs, ht, hs2, ht2⟩ := encN_sh x
 rw [hx] at e1 hS'
 simp only [AV.cells] at e1
 have hle' : ∀ Z, H.length ≤ (H ++ [Blk.cells 0 Z]).length := fun Z => by simp
 by_cases hm : most = -1
 · subst hm
   have d2 : decide ((-1 : Int) = -1) = true := rfl
   have m2 : max (a : Int) 1 = ((max a 1 : Nat) : Int) := by omega
   have hmx : max a 1 ≤ 16 := by omega
   have n1 := fun (K : Heap) (hK : H.length ≤ K.length) => mul_ok (max a 1) (sizeN x) hmx (by omega) H.length K hK
   have n2 := fun (K : Heap) (hK : H.length ≤ K.length) => add1_ok (cutN (max a 1 * sizeN x)) (cutN_le _) H.length K hK
   have hsz : sizeN (.mk 4 no sf sp a (-1) kf [x]) = cutN (cutN (max a 1 * sizeN x) + 1) := by
     rw [sizeN.eq_def]
     have : (max (a : Int) 1).toNat = max a 1 := by omega
     simp [this]
   rw [hsz]
   simp only [w9, AV.cells, AV.leaf, reduceEqDiff, reduceLT, reduceAdd, reduceLeDiff, reduceCtorEq, reduceMul, reduceMod, u153, hlen, a0, hs1, ht1, hkl, d1, e1, hS', hle', max_int, min_int, m1, d2, m2, n1, n2]
   exact Fin_pure (l := [.int .i64 (cutN (cutN (max a 1 * sizeN x) + 1))]) (by simp [w9, AV.cells, AV.leaf, reduceEqDiff, reduceLT, reduceAdd, reduceLeDiff, reduceCtorEq, reduceMul, reduceMod, u153, aResults, aResult, hlen]) (.still rfl) (by simp)
 · have h3 := h3.resolve_left hm
   obtain ⟨c, rfl⟩ : ∃ c : Nat, most = c := ⟨most.toNat, by omega⟩
   have d2 : decide ((c : Int) = -1) = false := decide_eq_false (by omega)
   have w1 : IntKind.i64.wrap ((c : Int) - (a : Int)) = ((c - a : Nat) : Int) := by rw [wrap64 (by omega) (by omega)]; omega
   have m2 : min (max ((c - a : Nat) : Int) 0) 2147483647 = ((c - a : Nat) : Int) := by omega
   have n1 := fun (K : Heap) (hK : H.length ≤ K.length) => mul_ok a (sizeN x) (by omega) (by omega) H.length K hK
   have n2 := fun (K : Heap) (hK : H.length ≤ K.length) => add1_ok (sizeN x) hle H.length K hK
   have n3 := fun (K : Heap) (hK : H.length ≤ K.length) => mul_ok (c - a) (cutN (sizeN x + 1)) (by omega) (by have := cutN_le (sizeN x + 1); omega) H.length K hK
   have n4 := fun (K : Heap) (hK : H.length ≤ K.length) => add_ok (cutN (a * sizeN x)) (cutN ((c - a) * cutN (sizeN x + 1))) (cutN_le _) (cutN_le _) H.length K hK
   have hsz : sizeN (.mk 4 no sf sp a c kf [x]) = cutN (cutN (a * sizeN x) + cutN ((c - a) * cutN (sizeN x + 1))) := by
     rw [sizeN.eq_def, cut_mul]
     have : ((c : Int) - (a : Int)).toNat = c - a := by omega
     simp [this, hm]
   rw [hsz]
   simp only [w9, AV.cells, AV.leaf, reduceEqDiff, reduceLT, reduceAdd, reduceLeDiff, reduceCtorEq, reduceMul, reduceMod, u153, hlen, a0, hs1, ht1, hkl, d1, e1, hS', hle', max_int, min_int, m1, d2, w1, m2, n1, n2, n3, n4]
   exact Fin_pure (l := [.int .i64 (cutN (cutN (a * sizeN x) + cutN ((c - a) * cutN (sizeN x + 1))))]) (by simp [w9, AV.cells, AV.leaf, reduceEqDiff, reduceLT, reduceAdd, reduceLeDiff, reduceCtorEq, reduceMul, reduceMod, u153, aResults, aResult, hlen]) (.still rfl) (by simp)
theorem sizeL_cons (e f : Bool) (a : Nat) (x : Nd) (r : List Nd) : sizeL e f a (x :: r) = sizeL e false (if e && !f then cutN (cutN (a + sizeN x) + 1) else cutN (a + sizeN x)) r := by rw [sizeL]
theorem size_step (kind : Int) (no sf : Bool) (sp : List Sg) (least most : Int) (kf : Bool) (kids : List Nd) (hg : Good (.mk kind no sf sp least most kf kids)) (ih : ∀ x ∈ kids, ∀ (prot : Nat) (H : Heap), prot ≤ H.length → aLim cfg prot 153 [encN x] H = some (.int .i64 (sizeN x), none))
   (prot : Nat) (H : Heap) (hp : prot ≤ H.length) : aLim cfg prot 153 [encN (.mk kind no sf sp least most kf kids)] H = some (.int .i64 (sizeN (.mk kind no sf sp least most kf kids)), none) := by
 have hsnap : snap H [encN (.mk kind no sf sp least most kf kids)] = some ([encN (.mk kind no sf sp least most kf kids)], false) := by rw [encN_eq]; rfl
 cases hg with
 | mk hgk hk hl =>
 have hs1 := slF_leaf sf encG sp
 have ht1 := slF_leaf kf encN kids
 have hsl := slF_sl kf encN kids
 have hkl := fun K : Heap => hsl.len (P := Tryz.prog) (H := K) Tryz.underlying174
 have n4 : kind = 4 → ∀ (K : Heap), H.length ≤ K.length → aLim cfg H.length 175 [encN (.mk kind no sf sp least most kf kids)] K = some (.int .i64 (sizeN (.mk kind no sf sp least most kf kids)), none) := by
   rintro rfl K hK
   rcases hk with h | h | h | h | ⟨_, h1, h2, h3, h4⟩
   · omega
   · omega
   · omega
   · omega
   obtain ⟨x, rfl⟩ := List.length_eq_one_iff.1 h1
   exact repeats_ok x (ih x (by simp)) no sf sp least most kf h2 h3 h4 H.length K hK
 refine pure_slim rfl (by kernel_rfl) Tryz.func153 s153 hp hsnap (by simp [Tryz.f153]) fun fr hlen h => ?_
 simp only [Has, Nat.zero_add] at h
 obtain ⟨a0, -⟩ := h
 simp only [Tryz.f153] at hlen ⊢
 unfold g153
 rw [encN_eq] at a0
 unfold AV.leaf at hs1 ht1
 have hle' : ∀ Z, H.length ≤ (H ++ [Blk.cells 0 Z]).length := fun Z => by simp
 have hk' : kind = 0 ∨ kind = 1 ∨ (kind = 2 ∨ kind = 3) ∨ kind = 4 := by omega
 rcases hk' with rfl | rfl | h23 | rfl
 · have d1 : decide ((0 : Int) = 1) = false := rfl
   have d2 : decide ((0 : Int) = 2) = false := rfl
   have d3 : decide ((0 : Int) = 3) = false := rfl
   have d4 : decide ((0 : Int) = 4) = false := rfl
   have hsz : sizeN (.mk 0 no sf sp least most kf kids) = 0 := by rw [sizeN.eq_def]; simp
   rw [hsz]
   simp only [w9, AV.cells, AV.leaf, reduceEqDiff, reduceLT, reduceAdd, reduceLeDiff, reduceCtorEq, reduceMul, reduceMod, u153, hlen, a0, hs1, ht1, d1, d2, d3, d4]
   exact Fin_pure (l := [.int .i64 0]) (by simp [w9, AV.cells, AV.leaf, reduceEqDiff, reduceLT, reduceAdd, reduceLeDiff, reduceCtorEq, reduceMul, reduceMod, u153, aResults, aResult, hlen]) (.still rfl) (by simp)
 · have hsz : sizeN (.mk 1 no sf sp least most kf kids) = 1 := by rw [sizeN.eq_def]; simp
   rw [hsz]
   simp only [w9, AV.cells, AV.leaf, reduceEqDiff, reduceLT, reduceAdd, reduceLeDiff, reduceCtorEq, reduceMul, reduceMod, u153, hlen, a0, hs1, ht1]
   exact Fin_pure (l := [.int .i64 1]) (by simp [w9, AV.cells, AV.leaf, reduceEqDiff, reduceLT, reduceAdd, reduceLeDiff, reduceCtorEq, reduceMul, reduceMod, u153, aResults, aResult, hlen]) (.still rfl) (by simp)
 · have d1 : decide (kind = 1) = false := decide_eq_false (by omega)
   have hsz := sizeN_cat (no := no) (sf := sf) (sp := sp) (least := least) (most := most) (kf := kf) (kids := kids) h23
   rw [hsz]
   have hg0 : hget (H ++ [Blk.cells 0 [.int .i64 kind, .bool no, slF sf encG sp, .int .i64 least, .int .i64 most, slF kf encN kids]]) H.length 0 = some [.int .i64 kind, .bool no, slF sf encG sp, .int .i64 least, .int .i64 most, slF kf encN kids] := by rw [hget_new rfl, if_pos rfl]
   have hstep : ∀ (e : Bool) (i a : Nat) (hi : i < kids.length), sizeL e (decide (i = 0)) a (kids.drop i) = sizeL e (decide (i + 1 = 0)) (if e && !decide (i = 0) then cutN (cutN (a + sizeN kids[i]) + 1) else cutN (a + sizeN kids[i])) (kids.drop (i + 1)) := fun e i a hi => by
     have hd : kids.drop i = kids[i] :: kids.drop (i + 1) := by simp
     rw [hd, sizeL_cons]
     have : decide (i + 1 = 0) = false := decide_eq_false (by omega)
     rw [this]
   rcases h23 with rfl | rfl
   · have d2 : decide ((2 : Int) = 2) = true := rfl
     have d3 : decide ((2 : Int) = 3) = false := rfl
     simp only [w9, AV.cells, AV.leaf, reduceEqDiff, reduceLT, reduceAdd, reduceLeDiff, reduceCtorEq, reduceMul, reduceMod, u153, hlen, a0, hs1, ht1, d1, d2, hkl]
     try rw [d3]
     refine loop_rule (fun m fr H' => ∃ (i a : Nat), m = kids.length - i ∧ i ≤ kids.length ∧ a ≤ 2147483647 ∧ fr.length = 40 ∧ fget fr 1 = .ptr H.length 0 0 ∧ fget fr 14 = slF kf encN kids ∧ fget fr 15 = .int .i64 kids.length ∧ fget fr 16 = .int .i64 i ∧ fget fr 3 = .int .i64 a
       ∧ H.length + 1 ≤ H'.length ∧ hget H' H.length 0 = some [.int .i64 2, .bool no, slF sf encG sp, .int .i64 least, .int .i64 most, slF kf encN kids] ∧ sizeL false true 0 kids = sizeL false (decide (i = 0)) a (kids.drop i)) ?_ kids.length _ _ ⟨0, 0, by simp [w9, AV.cells, AV.leaf, reduceEqDiff, reduceLT, reduceAdd, reduceLeDiff, reduceCtorEq, reduceMul, reduceMod, u153, hlen, a0, hg0]⟩
     rintro m fr H' ⟨i, a, rfl, hi, ha, hlen, a1, a14, a15, a16, a3, hH, hg, hc⟩ ihl
     simp only [w9, AV.cells, AV.leaf, reduceEqDiff, reduceLT, reduceAdd, reduceLeDiff, reduceCtorEq, reduceMul, reduceMod, u153, hlen, a1, a14, a15, a16, a3]
     refine RC_split (fun h => ?_) (fun h => ?_)
     · have hlt : i < kids.length := by simpa using h
       have hww : IntKind.i64.wrap ((i : Int) + 1) = ((i + 1 : Nat) : Int) := by rw [wrap64 (by omega) (by omega)]; simp
       have e1 := hsl.at (P := Tryz.prog) (k := .i64) (i := i) Tryz.underlying174 sz176 encN_len hlt
       rw [hstep false i a hlt] at hc
       have n1 := fun (K : Heap) (hK : H.length ≤ K.length) => ih kids[i] (List.getElem_mem hlt) H.length K hK
       have n2 := fun (K : Heap) (hK : H.length ≤ K.length) => add_ok a (sizeN kids[i]) ha (sizeN_le _) H.length K hK
       have hcl := cutN_le (a + sizeN kids[i])
       generalize kids[i] = x at *
       obtain ⟨k', no', s, x1, x2, t, hx, hs, ht, hs2, ht2⟩ := encN_sh x
       rw [hx] at e1 n1
       simp only [AV.cells] at e1
       unfold AV.leaf at hs ht
       have hH0 : H.length ≤ H'.length := by omega
       have hle2 : ∀ Z, H.length ≤ (H' ++ [Blk.cells 0 Z]).length := fun Z => by simp; omega
       have hg2 := hget_mono hg [Blk.cells 0 [.int .i64 k', .bool no', s, .int .i64 x1, .int .i64 x2, t]]
       simp only [w9, AV.cells, AV.leaf, reduceEqDiff, reduceLT, reduceAdd, reduceLeDiff, reduceCtorEq, reduceMul, reduceMod, u153, hlen, a1, a14, a15, a16, a3, e1, hH0, hs, ht, hle2, n1, n2, hg2, d3, hww, none_beq]
       refine ihl _ _ (kids.length - (i + 1)) (by omega) ⟨i + 1, cutN (a + sizeN x), rfl, hlt, hcl, ?_⟩
       refine ⟨by simp [w9, AV.cells, AV.leaf, reduceEqDiff, reduceLT, reduceAdd, reduceLeDiff, reduceCtorEq, reduceMul, reduceMod, u153, hlen], by simp [w9, AV.cells, AV.leaf, reduceEqDiff, reduceLT, reduceAdd, reduceLeDiff, reduceCtorEq, reduceMul, reduceMod, u153, hlen, a1], by simp [w9, AV.cells, AV.leaf, reduceEqDiff, reduceLT, reduceAdd, reduceLeDiff, reduceCtorEq, reduceMul, reduceMod, u153, hlen, a14], by simp [w9, AV.cells, AV.leaf, reduceEqDiff, reduceLT, reduceAdd, reduceLeDiff, reduceCtorEq, reduceMul, reduceMod, u153, hlen, a15], by simp [w9, AV.cells, AV.leaf, reduceEqDiff, reduceLT, reduceAdd, reduceLeDiff, reduceCtorEq, reduceMul, reduceMod, u153, hlen], by simp [w9, AV.cells, AV.leaf, reduceEqDiff, reduceLT, reduceAdd, reduceLeDiff, reduceCtorEq, reduceMul, reduceMod, u153, hlen], by simp; omega, hg2, hc⟩
     · have hnl : ¬ i < kids.length := by simpa using h
       rw [List.drop_eq_nil_of_le (by omega), sizeL] at hc
       rw [hc]
       simp only [w9, AV.cells, AV.leaf, reduceEqDiff, reduceLT, reduceAdd, reduceLeDiff, reduceCtorEq, reduceMul, reduceMod, u153, hlen, a1, a14, a15, a16, a3]
       exact Fin_pure (l := [.int .i64 a]) (by simp [w9, AV.cells, AV.leaf, reduceEqDiff, reduceLT, reduceAdd, reduceLeDiff, reduceCtorEq, reduceMul, reduceMod, u153, aResults, aResult, hlen]) (.still rfl) (by simp)
   · have d2 : decide ((3 : Int) = 2) = false := rfl
     have d3 : decide ((3 : Int) = 3) = true := rfl
     simp only [w9, AV.cells, AV.leaf, reduceEqDiff, reduceLT, reduceAdd, reduceLeDiff, reduceCtorEq, reduceMul, reduceMod, u153, hlen, a0, hs1, ht1, d1, d2, hkl]
     try rw [d3]
     refine loop_rule (fun m fr H' => ∃ (i a : Nat), m = kids.length - i ∧ i ≤ kids.length ∧ a ≤ 2147483647 ∧ fr.length = 40 ∧ fget fr 1 = .ptr H.length 0 0 ∧ fget fr 14 = slF kf encN kids ∧ fget fr 15 = .int .i64 kids.length ∧ fget fr 16 = .int .i64 i ∧ fget fr 3 = .int .i64 a
       ∧ H.length + 1 ≤ H'.length ∧ hget H' H.length 0 = some [.int .i64 3, .bool no, slF sf encG sp, .int .i64 least, .int .i64 most, slF kf encN kids] ∧ sizeL true true 0 kids = sizeL true (decide (i = 0)) a (kids.drop i)) ?_ kids.length _ _ ⟨0, 0, by simp [w9, AV.cells, AV.leaf, reduceEqDiff, reduceLT, reduceAdd, reduceLeDiff, reduceCtorEq, reduceMul, reduceMod, u153, hlen, a0, hg0]⟩
     rintro m fr H' ⟨i, a, rfl, hi, ha, hlen, a1, a14, a15, a16, a3, hH, hg, hc⟩ ihl
     simp only [w9, AV.cells, AV.leaf, reduceEqDiff, reduceLT, reduceAdd, reduceLeDiff, reduceCtorEq, reduceMul, reduceMod, u153, hlen, a1, a14, a15, a16, a3]
     refine RC_split (fun h => ?_) (fun h => ?_)
     · have hlt : i < kids.length := by simpa using h
       have hww : IntKind.i64.wrap ((i : Int) + 1) = ((i + 1 : Nat) : Int) := by rw [wrap64 (by omega) (by omega)]; simp
       have e1 := hsl.at (P := Tryz.prog) (k := .i64) (i := i) Tryz.underlying174 sz176 encN_len hlt
       rw [hstep true i a hlt] at hc
       have n1 := fun (K : Heap) (hK : H.length ≤ K.length) => ih kids[i] (List.getElem_mem hlt) H.length K hK
       have n2 := fun (K : Heap) (hK : H.length ≤ K.length) => add_ok a (sizeN kids[i]) ha (sizeN_le _) H.length K hK
       have n3 := fun (K : Heap) (hK : H.length ≤ K.length) => add1_ok (cutN (a + sizeN kids[i])) (cutN_le _) H.length K hK
       have hcl := cutN_le (a + sizeN kids[i])
       have hcl2 := cutN_le (cutN (a + sizeN kids[i]) + 1)
       generalize kids[i] = x at *
       obtain ⟨k', no', s, x1, x2, t, hx, hs, ht, hs2, ht2⟩ := encN_sh x
       rw [hx] at e1 n1
       simp only [AV.cells] at e1
       unfold AV.leaf at hs ht
       have hH0 : H.length ≤ H'.length := by omega
       have hle2 : ∀ Z, H.length ≤ (H' ++ [Blk.cells 0 Z]).length := fun Z => by simp; omega
       have hg2 := hget_mono hg [Blk.cells 0 [.int .i64 k', .bool no', s, .int .i64 x1, .int .i64 x2, t]]
       by_cases h0 : i = 0
       · have d5 : decide ((0 : Int) < (i : Int)) = false := decide_eq_false (by omega)
         have d6 : decide (i = 0) = true := decide_eq_true h0
         simp only [d6, Bool.not_true, Bool.and_false, Bool.false_eq_true, if_false] at hc
         simp only [w9, AV.cells, AV.leaf, reduceEqDiff, reduceLT, reduceAdd, reduceLeDiff, reduceCtorEq, reduceMul, reduceMod, u153, hlen, a1, a14, a15, a16, a3, e1, hH0, hs, ht, hle2, n1, n2, hg2, d3, d5, hww, none_beq]
         refine ihl _ _ (kids.length - (i + 1)) (by omega) ⟨i + 1, cutN (a + sizeN x), rfl, hlt, hcl, ?_⟩
         refine ⟨by simp [w9, AV.cells, AV.leaf, reduceEqDiff, reduceLT, reduceAdd, reduceLeDiff, reduceCtorEq, reduceMul, reduceMod, u153, hlen], by simp [w9, AV.cells, AV.leaf, reduceEqDiff, reduceLT, reduceAdd, reduceLeDiff, reduceCtorEq, reduceMul, reduceMod, u153, hlen, a1], by simp [w9, AV.cells, AV.leaf, reduceEqDiff, reduceLT, reduceAdd, reduceLeDiff, reduceCtorEq, reduceMul, reduceMod, u153, hlen, a14], by simp [w9, AV.cells, AV.leaf, reduceEqDiff, reduceLT, reduceAdd, reduceLeDiff, reduceCtorEq, reduceMul, reduceMod, u153, hlen, a15], by simp [w9, AV.cells, AV.leaf, reduceEqDiff, reduceLT, reduceAdd, reduceLeDiff, reduceCtorEq, reduceMul, reduceMod, u153, hlen], by simp [w9, AV.cells, AV.leaf, reduceEqDiff, reduceLT, reduceAdd, reduceLeDiff, reduceCtorEq, reduceMul, reduceMod, u153, hlen], by simp; omega, hg2, hc⟩
       · have d5 : decide ((0 : Int) < (i : Int)) = true := decide_eq_true (by omega)
         have d6 : decide (i = 0) = false := decide_eq_false h0
         simp only [d6, Bool.not_false, Bool.and_true, if_true] at hc
         simp only [w9, AV.cells, AV.leaf, reduceEqDiff, reduceLT, reduceAdd, reduceLeDiff, reduceCtorEq, reduceMul, reduceMod, u153, hlen, a1, a14, a15, a16, a3, e1, hH0, hs, ht, hle2, n1, n2, n3, hg2, d3, d5, hww, none_beq]
         refine ihl _ _ (kids.length - (i + 1)) (by omega) ⟨i + 1, cutN (cutN (a + sizeN x) + 1), rfl, hlt, hcl2, ?_⟩
         refine ⟨by simp [w9, AV.cells, AV.leaf, reduceEqDiff, reduceLT, reduceAdd, reduceLeDiff, reduceCtorEq, reduceMul, reduceMod, u153, hlen], by simp [w9, AV.cells, AV.leaf, reduceEqDiff, reduceLT, reduceAdd, reduceLeDiff, reduceCtorEq, reduceMul, reduceMod, u153, hlen, a1], by simp [w9, AV.cells, AV.leaf, reduceEqDiff, reduceLT, reduceAdd, reduceLeDiff, reduceCtorEq, reduceMul, reduceMod, u153, hlen, a14], by simp [w9, AV.cells, AV.leaf, reduceEqDiff, reduceLT, reduceAdd, reduceLeDiff, reduceCtorEq, reduceMul, reduceMod, u153, hlen, a15], by simp [w9, AV.cells, AV.leaf, reduceEqDiff, reduceLT, reduceAdd, reduceLeDiff, reduceCtorEq, reduceMul, reduceMod, u153, hlen], by simp [w9, AV.cells, AV.leaf, reduceEqDiff, reduceLT, reduceAdd, reduceLeDiff, reduceCtorEq, reduceMul, reduceMod, u153, hlen], by simp; omega, hg2, hc⟩
     · have hnl : ¬ i < kids.length := by simpa using h
       rw [List.drop_eq_nil_of_le (by omega), sizeL] at hc
       rw [hc]
       simp only [w9, AV.cells, AV.leaf, reduceEqDiff, reduceLT, reduceAdd, reduceLeDiff, reduceCtorEq, reduceMul, reduceMod, u153, hlen, a1, a14, a15, a16, a3]
       exact Fin_pure (l := [.int .i64 a]) (by simp [w9, AV.cells, AV.leaf, reduceEqDiff, reduceLT, reduceAdd, reduceLeDiff, reduceCtorEq, reduceMul, reduceMod, u153, aResults, aResult, hlen]) (.still rfl) (by simp)
 · have d1 : decide ((4 : Int) = 1) = false := rfl
   have d2 : decide ((4 : Int) = 2) = false := rfl
   have d3 : decide ((4 : Int) = 3) = false := rfl
   have n4' := n4 rfl
   rw [encN_eq] at n4'
   simp only [w9, AV.cells, AV.leaf, reduceEqDiff, reduceLT, reduceAdd, reduceLeDiff, reduceCtorEq, reduceMul, reduceMod, u153, hlen, a0, hs1, ht1, d1, d2, d3, hle', n4']
   exact Fin_pure (l := [.int .i64 (sizeN (.mk 4 no sf sp least most kf kids))]) (by simp [w9, AV.cells, AV.leaf, reduceEqDiff, reduceLT, reduceAdd, reduceLeDiff, reduceCtorEq, reduceMul, reduceMod, u153, aResults, aResult, hlen]) (.still rfl) (by simp)
theorem nsize_ok : ∀ (x : Nd), Good x → ∀ (prot : Nat) (H : Heap), prot ≤ H.length → aLim cfg prot 153 [encN x] H = some (.int .i64 (sizeN x), none)
 | .mk kind no sf sp least most kf kids, hg => size_step kind no sf sp least most kf kids hg fun x hx => nsize_ok x (by cases hg with | mk h _ _ => exact h x hx)
termination_by x => SizeOf.sizeOf x
decreasing_by have := List.sizeOf_lt_of_mem hx; simp; omega
end Go.Proofs.YtnipaiklandliaaGreatDoor
namespace Go.Proofs.YtnipaiklandliaaGreatDoor
open Go Go.Abs AbsSeat Ty
open Nat (reduceEqDiff reduceLT reduceAdd reduceLeDiff reduceMul reduceMod)
theorem good_zero : Good ndZ := .mk (fun x h => by cases h) (.inl rfl) (by simp)
theorem good_rune (no sf : Bool) (sp : List Sg) : Good (.mk 1 no sf sp 0 0 false []) := .mk (fun x h => by cases h) (.inr (.inl rfl)) (by simp)
theorem good_rep {x : Nd} (h : Good x) {a b : Int} (h1 : 0 ≤ a) (h2 : a ≤ 16) (h3 : b = -1 ∨ (a ≤ b ∧ b ≤ 16)) : Good (ndR x a b) :=
 .mk (fun y hy => by simp at hy; subst hy; exact h) (.inr (.inr (.inr (.inr ⟨rfl, rfl, h1, h2, h3⟩)))) (by simp)
theorem numV_in {l : List Int} {i : Nat} (h : numB l i = true) : 0 ≤ numV l i ∧ numV l i ≤ 16 := by
 unfold numB at h
 simp only [Bool.and_eq_true, decide_eq_true_eq] at h
 refine ⟨?_, h.2⟩
 unfold numV
 split
 · rename_i h1
   have h1 := dgC_iff.1 h1
   split
   · rename_i h2
     have h2 := dgC_iff.1 h2
     omega
   · omega
 · omega
theorem times_good {l : List Int} {i : Nat} (h : (timesS l i).ok = true) : 0 ≤ (timesS l i).lo ∧ (timesS l i).lo ≤ 16 ∧ ((timesS l i).hi = -1 ∨ ((timesS l i).lo ≤ (timesS l i).hi ∧ (timesS l i).hi ≤ 16)) := by
 unfold timesS at h ⊢
 dsimp only at h ⊢
 split at h
 · rename_i h1
   rw [if_pos h1]
   have hv := numV_in h1
   split at h
   · rename_i h2
     rw [if_pos h2]
     split at h
     · rename_i h3
       rw [if_pos h3]
       exact ⟨hv.1, hv.2, .inl rfl⟩
     · rename_i h3
       rw [if_neg h3]
       split at h
       · rename_i h4
         rw [if_pos h4]
         simp only [Bool.and_eq_true, decide_eq_true_eq] at h4
         have hv2 := numV_in h4.1
         split at h
         · rename_i h5
           rw [if_pos h5]
           exact ⟨hv.1, hv.2, .inr ⟨h4.2, hv2.2⟩⟩
         · cases h
       · cases h
   · rename_i h2
     rw [if_neg h2]
     split at h
     · rename_i h3
       rw [if_pos h3]
       exact ⟨hv.1, hv.2, .inr ⟨Int.le_refl _, hv.2⟩⟩
     · cases h
 · cases h
theorem conN_good {l : List Nd} (h : ∀ x ∈ l, Good x) (hl : l.length ≤ 1000000) : Good (conN l) := by
 match l, h, hl with
 | [], _, _ => exact good_zero
 | [x], h, _ => exact h x (by simp)
 | x :: y :: r, h, hl => exact .mk h (.inr (.inr (.inl rfl))) hl
theorem eitN_good {l : List Nd} (h : ∀ x ∈ l, Good x) (hl : l.length ≤ 1000000) : Good (eitN l) := by
 match l, h, hl with
 | [], h, hl => exact .mk h (.inr (.inr (.inr (.inl rfl)))) hl
 | [x], h, _ => exact h x (by simp)
 | x :: y :: r, h, hl => exact .mk h (.inr (.inr (.inr (.inl rfl)))) hl
theorem readS_good (l : List Int) (hll : l.length < 1000000) : ∀ k : Nat, (∀ j d, (atomS l k j d).ok = true → Good (atomS l k j d).n) ∧ (∀ j d, (pieceS l k j d).ok = true → Good (pieceS l k j d).n) ∧
   (∀ j d acc, j ≤ l.length → acc.length ≤ j → (∀ x ∈ acc, Good x) → (concatS l k j d acc).ok = true → Good (concatS l k j d acc).n) ∧ ∀ j d acc, j ≤ l.length → acc.length ≤ j → (∀ x ∈ acc, Good x) → (eitherS l k j d acc).ok = true → Good (eitherS l k j d acc).n
 | 0 => ⟨fun j d h => by simp [atomS] at h, fun j d h => by simp [pieceS] at h, fun j d acc _ _ _ h => by simp [concatS] at h, fun j d acc _ _ _ h => by simp [eitherS] at h⟩
 | k + 1 => by
   obtain ⟨ha, hp, hc, he⟩ := readS_good l hll k
   obtain ⟨ia, ip, ic, ie⟩ := readS_in l k
   refine ⟨fun j d h => ?_, fun j d h => ?_, fun j d acc hj hal hga h => ?_, fun j d acc hj hal hga h => ?_⟩
   · rw [atomS] at h ⊢
     dsimp only at h ⊢
     split at h
     · rename_i h1
       rw [if_pos h1]
       have hj := pk_in (l := l) (i := j) (by rw [h1]; decide)
       split at h
       · cases h
       · rename_i h2
         rw [if_neg h2]
         split at h
         · rename_i h3
           rw [if_pos h3]
           have := he (j + 1) (d + 1) [] (by omega) (by simp) (fun x h => by cases h) h3
           split at h
           · rename_i h4
             rw [if_pos h4]
             exact this
           · cases h
         · cases h
     · rename_i h1
       rw [if_neg h1]
       split at h
       · rename_i h2
         rw [if_pos h2]
         exact good_rune _ _ _
       · rename_i h2
         rw [if_neg h2]
         split at h
         · rename_i h3
           rw [if_pos h3]
           exact good_rune _ _ _
         · rename_i h3
           rw [if_neg h3]
           split at h
           · rename_i h4
             rw [if_pos h4]
             exact good_rune _ _ _
           · rename_i h4
             rw [if_neg h4]
             exact good_rune _ _ _
   · rw [pieceS] at h ⊢
     try dsimp only at h ⊢
     split at h
     · rename_i h1
       rw [if_pos h1]
       have h0 := ha j d h1
       split at h
       · rename_i h2
         rw [if_pos h2]
         exact good_rep h0 (by omega) (by omega) (.inl rfl)
       · rename_i h2
         rw [if_neg h2]
         split at h
         · rename_i h3
           rw [if_pos h3]
           exact good_rep h0 (by omega) (by omega) (.inl rfl)
         · rename_i h3
           rw [if_neg h3]
           split at h
           · rename_i h4
             rw [if_pos h4]
             exact good_rep h0 (by omega) (by omega) (.inr (by omega))
           · rename_i h4
             rw [if_neg h4]
             split at h
             · rename_i h5
               rw [if_pos h5]
               have := times_good h
               exact good_rep h0 this.1 this.2.1 this.2.2
             · rename_i h5
               rw [if_neg h5]
               exact h0
     · rename_i h1
       exact absurd h h1
   · rw [concatS] at h ⊢
     try dsimp only at h ⊢
     split at h
     · rename_i h1
       rw [if_pos h1]
       exact conN_good hga (by omega)
     · rename_i h1
       rw [if_neg h1]
       split at h
       · rename_i h2
         rw [if_pos h2]
         have h0 := ip j d h2
         refine hc _ d _ h0.2 (by simp; omega) (fun x hx => ?_) h
         rcases List.mem_append.1 hx with hx | hx
         · exact hga x hx
         · simp at hx; subst hx; exact hp j d h2
       · rename_i h2
         exact absurd h h2
   · rw [eitherS] at h ⊢
     try dsimp only at h ⊢
     split at h
     · rename_i h1
       rw [if_pos h1]
       have h0 := ic j d [] hj h1
       have hg0 := hc j d [] hj (by simp) (fun x h => by cases h) h1
       have hga2 : ∀ x ∈ acc ++ [(concatS l k j d []).n], Good x := fun x hx => by
         rcases List.mem_append.1 hx with hx | hx
         · exact hga x hx
         · simp at hx; subst hx; exact hg0
       split at h
       · rename_i h2
         rw [if_pos h2]
         have := pk_in (l := l) (i := (concatS l k j d []).at_) (by rw [h2]; decide)
         exact he _ d _ (by omega) (by simp; omega) hga2 h
       · rename_i h2
         rw [if_neg h2]
         exact eitN_good hga2 (by simp; omega)
     · rename_i h1
       exact absurd h h1
def parseL (l : List Int) : Nd × Int :=
 let r := eitherS l (5 * l.length + 4) 0 0 []
 if r.ok = true ∧ r.at_ = l.length then (if 400 < sizeN r.n then (ndZ, 5) else (r.n, 0)) else (ndZ, 3)
def parseU (s : List UInt8) : Nd × Int := match runesU s with
 | none => (ndZ, 3)
 | some l => parseL l
theorem encN_zero : encN ndZ = .agg [.int .i64 0, .bool false, .nilS, .int .i64 0, .int .i64 0, .nilS] := by rw [ndZ, encN_eq]; rfl
theorem parse_okX (s : List UInt8) (hl : s.length ≤ 1000) (prot : Nat) (H : Heap) (hp : prot ≤ H.length) :
   aLim cfg prot 120 [.str s] H = some (.tup [encN (parseU s).1, .int .i64 (parseU s).2], none) := by
 have hsnap : snap H [.str s] = some ([.str s], false) := rfl
 have hfz : ∀ (K : Heap) k n a x y b e, still a = true → still b = true → Frz K H.length (packR [.agg [.int .i64 k, .bool n, a, .int .i64 x, .int .i64 y, b], .int .i64 e]) (.tup [.agg [.int .i64 k, .bool n, a, .int .i64 x, .int .i64 y, b], .int .i64 e]) := fun K k n a x y b e h1 h2 =>
   .tup (.cons (.agg (.cons (.still rfl) (.cons (.still rfl) (.cons (.still h1) (.cons (.still rfl) (.cons (.still rfl) (.cons (.still h2) .nil))))))) (.cons (.still rfl) .nil))
 have hlZ : ∀ Z, (H ++ [Blk.cells 0 Z]).length = H.length + 1 := fun Z => by simp
 have hpl1 : H.length ≤ H.length + 1 := by omega
 have hv := validU_runes s
 have n1 := fun (K : Heap) (hK : H.length ≤ K.length) => valid_ok s (by omega) H.length K hK
 have hz0 : hget (H ++ [Blk.cells 0 [.int .i64 0, .bool false, .nilS, .int .i64 0, .int .i64 0, .nilS]]) H.length 0 = some [.int .i64 0, .bool false, .nilS, .int .i64 0, .int .i64 0, .nilS] := by simp [hget]
 have hp1 := hput6 (prot := H.length) hz0 rfl (Nat.le_refl _) 0 false .nilS 0 0 .nilS rfl rfl
 have hgZ : ∀ d, hget ((H ++ [Blk.cells 0 [.int .i64 0, .bool false, .nilS, .int .i64 0, .int .i64 0, .nilS]]).set H.length (.cells 0 d)) H.length 0 = some d := fun d => hget_set_at (by simp)
 unfold parseU
 refine pure_slim rfl (by kernel_rfl) Tryz.func120 s120 hp hsnap (by simp [Tryz.f120]) fun fr hlen h => ?_
 simp only [Has, Nat.zero_add] at h
 obtain ⟨a0, -⟩ := h
 simp only [Tryz.f120] at hlen ⊢
 unfold g120
 cases hr : runesU s with
 | none =>
   rw [hr] at hv
   rw [hv] at n1
   simp only [encN_zero]
   simp only [w9, AV.cells, AV.leaf, reduceEqDiff, reduceLT, reduceAdd, reduceLeDiff, reduceCtorEq, reduceMul, reduceMod, u153, hlen, a0, hlZ, hpl1, n1, Option.isSome, hp1]
   exact Fin_pure (l := [.agg [.int .i64 0, .bool false, .nilS, .int .i64 0, .int .i64 0, .nilS], .int .i64 3]) (by simp [w9, AV.cells, AV.leaf, reduceEqDiff, reduceLT, reduceAdd, reduceLeDiff, reduceCtorEq, reduceMul, reduceMod, u153, hlen, aResults, aResult, hgZ]) (hfz _ _ _ _ _ _ _ _ rfl rfl) (by simp)
 | some l =>
   rw [hr] at hv
   rw [hv] at n1
   have hro := runesU_ok s.length s l (Nat.le_refl _) hr
   have hl' : Runes l := ⟨by omega, hro.2⟩
   have n2 := fun (K : Heap) (hK : H.length ≤ K.length) => runes_ok s (by omega) l hr H.length K hK
   have hLl := (slv_sl encI l)
   have hlf : (slv encI l).leaf = true := by cases l <;> rfl
   have hlc : (slv encI l).cells = [slv encI l] := by cases l <;> rfl
   have hls1 : ∀ Z, (H ++ [Blk.cells 0 Z]).length = H.length + 1 := fun Z => by simp
   have hb : hget (H ++ [Blk.cells 0 [.int .i64 0, .bool false, .nilS, .int .i64 0, .int .i64 0, .nilS]] ++ [Blk.cells 0 [slv encI l, .int .i64 0]]) (H.length + 1) 0 = some [slv encI l, .int .i64 ((0 : Nat) : Int)] := by rw [hget_new (hls1 _).symm, if_pos rfl]; rfl
   have hz1 := hget_mono hz0 [Blk.cells 0 [slv encI l, .int .i64 0]]
   have hl1 : (H ++ [Blk.cells 0 [.int .i64 0, .bool false, .nilS, .int .i64 0, .int .i64 0, .nilS]] ++ [Blk.cells 0 [slv encI l, .int .i64 0]]).length = H.length + 2 := by simp
   have n3 : aLim cfg H.length 152 [.ptr (H.length + 1) 0 0, .int .i64 0] _ = _ := (read_ok l hl' (5 * l.length + 4)).1 (slv encI l) hLl 0 0 (H.length + 1) H.length _ (by omega) hb (by omega) (by omega) (by omega)
   dsimp only at n3
   have hin := (readS_in l (5 * l.length + 4)).2.2.2 0 0 [] (by omega)
   have hgd := (readS_good l hl'.1 (5 * l.length + 4)).2.2.2 0 0 [] (by omega) (by simp) (fun x h => by cases h)
   unfold parseL
   dsimp only
   generalize eitherS l (5 * l.length + 4) 0 0 [] = r at *
   obtain ⟨x, j, ok⟩ := r
   obtain ⟨k', no, s', x1, x2, t, hx, hs, ht, hs2, ht2⟩ := encN_sh x
   dsimp only at n3 hin hgd ⊢
   have n4 := fun (hg : Good x) (K : Heap) (hK : H.length ≤ K.length) => nsize_ok x hg H.length K hK
   rw [hx] at n3 n4
   have hs0 := hs
   have ht0 := ht
   unfold AV.leaf at hs ht hlf; unfold AV.cells at hlc
   generalize hK1 : H ++ [Blk.cells 0 [.int .i64 0, .bool false, .nilS, .int .i64 0, .int .i64 0, .nilS]] ++ [Blk.cells 0 [slv encI l, .int .i64 0]] = K1 at *
   have hl2 : ∀ c, (K1.set (H.length + 1) (.cells 0 c)).length = H.length + 2 := fun c => by simp [hl1]
   have hpl2 : H.length ≤ H.length + 2 := by omega
   simp only [w9, AV.cells, AV.leaf, reduceEqDiff, reduceLT, reduceAdd, reduceLeDiff, reduceCtorEq, reduceMul, reduceMod, u153, hlen, a0, hlZ, hpl1, n1, Option.isSome, n2, hlf, hlc, hK1, n3, hl2, hpl2, hs, ht]
   have hz2 : ∀ c, hget (K1.set (H.length + 1) (.cells 0 c) ++ [Blk.cells 0 [.int .i64 k', .bool no, s', .int .i64 x1, .int .i64 x2, t]]) H.length 0 = some [.int .i64 0, .bool false, .nilS, .int .i64 0, .int .i64 0, .nilS] := fun c => hget_mono (by rw [hget_set_ne (by omega)]; exact hz1) _
   have hb2 : ∀ c, hget (K1.set (H.length + 1) (.cells 0 c) ++ [Blk.cells 0 [.int .i64 k', .bool no, s', .int .i64 x1, .int .i64 x2, t]]) (H.length + 1) 0 = some c := fun c => hget_mono (hget_set_at (by omega)) _
   have hn2 : ∀ c, hget (K1.set (H.length + 1) (.cells 0 c) ++ [Blk.cells 0 [.int .i64 k', .bool no, s', .int .i64 x1, .int .i64 x2, t]]) (H.length + 2) 0 = some [.int .i64 k', .bool no, s', .int .i64 x1, .int .i64 x2, t] := fun c => by rw [hget_new (hl2 _).symm, if_pos rfl]
   have hl3 : H.length ≤ (K1.set (H.length + 1) (.cells 0 [slv encI l, .int .i64 (j : Nat)]) ++ [Blk.cells 0 [.int .i64 k', .bool no, s', .int .i64 x1, .int .i64 x2, t]]).length := by simp; omega
   have hz3 := hz2 [slv encI l, .int .i64 (j : Nat)]
   have hb3 := hb2 [slv encI l, .int .i64 (j : Nat)]
   have hn3 := hn2 [slv encI l, .int .i64 (j : Nat)]
   generalize K1.set (H.length + 1) (.cells 0 [slv encI l, .int .i64 (j : Nat)]) ++ [Blk.cells 0 [.int .i64 k', .bool no, s', .int .i64 x1, .int .i64 x2, t]] = K2 at *
   have hgZ2 : ∀ d, hget (K2.set H.length (.cells 0 d)) H.length 0 = some d := fun d => hget_set_at (hget_lt hz3)
   have hp0 := hput6 (prot := H.length) hz3 rfl (Nat.le_refl _) 0 false .nilS 0 0 .nilS rfl rfl
   have hlnL := hLl.len (P := Tryz.prog) (H := K2) Tryz.underlying206
   cases ok with
   | false =>
     simp only [Bool.false_eq_true, false_and, if_false, encN_zero]
     simp only [w9, AV.cells, AV.leaf, reduceEqDiff, reduceLT, reduceAdd, reduceLeDiff, reduceCtorEq, reduceMul, reduceMod, u153, hlen, hn3, hp0, none_beq]
     exact Fin_pure (l := [.agg [.int .i64 0, .bool false, .nilS, .int .i64 0, .int .i64 0, .nilS], .int .i64 3]) (by simp [w9, AV.cells, AV.leaf, reduceEqDiff, reduceLT, reduceAdd, reduceLeDiff, reduceCtorEq, reduceMul, reduceMod, u153, hlen, aResults, aResult, hgZ2]) (hfz _ _ _ _ _ _ _ _ rfl rfl) (by simp)
   | true =>
     by_cases hj : j = l.length
     · subst hj
       have d1 : decide (¬ ((l.length : Nat) : Int) = (l.length : Nat)) = false := by simp
       have hg := hgd rfl
       have n5 := n4 hg K2 hl3
       simp only [true_and, if_true]
       by_cases h4 : 400 < sizeN x
       · have d2 : decide ((400 : Int) < (sizeN x : Int)) = true := decide_eq_true (by omega)
         simp only [h4, if_true, encN_zero]
         simp only [w9, AV.cells, AV.leaf, reduceEqDiff, reduceLT, reduceAdd, reduceLeDiff, reduceCtorEq, reduceMul, reduceMod, u153, hlen, hb3, hlnL, d1, hn3, n5, d2, hp0, none_beq]
         exact Fin_pure (l := [.agg [.int .i64 0, .bool false, .nilS, .int .i64 0, .int .i64 0, .nilS], .int .i64 5]) (by simp [w9, AV.cells, AV.leaf, reduceEqDiff, reduceLT, reduceAdd, reduceLeDiff, reduceCtorEq, reduceMul, reduceMod, u153, hlen, aResults, aResult, hgZ2]) (hfz _ _ _ _ _ _ _ _ rfl rfl) (by simp)
       · have d2 : decide ((400 : Int) < (sizeN x : Int)) = false := decide_eq_false (by omega)
         have hp2 := hput6 (prot := H.length) hz3 rfl (Nat.le_refl _) k' no s' x1 x2 t hs0 ht0
         simp only [h4, if_false, hx]
         simp only [w9, AV.cells, AV.leaf, reduceEqDiff, reduceLT, reduceAdd, reduceLeDiff, reduceCtorEq, reduceMul, reduceMod, u153, hlen, hb3, hlnL, d1, hn3, n5, d2, hs, ht, hp2, none_beq]
         exact Fin_pure (l := [.agg [.int .i64 k', .bool no, s', .int .i64 x1, .int .i64 x2, t], .int .i64 0]) (by simp [w9, AV.cells, AV.leaf, reduceEqDiff, reduceLT, reduceAdd, reduceLeDiff, reduceCtorEq, reduceMul, reduceMod, u153, hlen, aResults, aResult, hgZ2]) (hfz _ _ _ _ _ _ _ _ hs2 ht2) (by simp)
     · have d1 : decide (¬ ((j : Nat) : Int) = (l.length : Nat)) = true := decide_eq_true (by omega)
       simp only [hj, and_false, if_false, encN_zero]
       simp only [w9, AV.cells, AV.leaf, reduceEqDiff, reduceLT, reduceAdd, reduceLeDiff, reduceCtorEq, reduceMul, reduceMod, u153, hlen, hb3, hlnL, d1, hn3, hp0, none_beq]
       exact Fin_pure (l := [.agg [.int .i64 0, .bool false, .nilS, .int .i64 0, .int .i64 0, .nilS], .int .i64 3]) (by simp [w9, AV.cells, AV.leaf, reduceEqDiff, reduceLT, reduceAdd, reduceLeDiff, reduceCtorEq, reduceMul, reduceMod, u153, hlen, aResults, aResult, hgZ2]) (hfz _ _ _ _ _ _ _ _ rfl rfl) (by simp)
end Go.Proofs.YtnipaiklandliaaGreatDoor
namespace Go.Proofs.YtnipaiklandliaaGreatDoor
open Go Go.Abs AbsSeat Ty
open Nat (reduceEqDiff reduceLT reduceAdd reduceLeDiff reduceMul reduceMod)
inductive Fine : Nd → Prop where
 | mk {kind : Int} {no sf : Bool} {sp : List Sg} {least most : Int} {kf : Bool} {kids : List Nd} (h : ∀ x ∈ kids, Fine x) (hs : sp.length ≤ 10000000) (hl : kids.length ≤ 1000000) : Fine (.mk kind no sf sp least most kf kids)
theorem fine_zero : Fine ndZ := .mk (fun x h => by cases h) (by simp) (by simp)
theorem fine_rune (no sf : Bool) (sp : List Sg) (h : sp.length ≤ 10000000) : Fine (.mk 1 no sf sp 0 0 false []) := .mk (fun x h => by cases h) h (by simp)
theorem fine_rep {x : Nd} (h : Fine x) (a b : Int) : Fine (ndR x a b) := .mk (fun y hy => by simp at hy; subst hy; exact h) (by simp) (by simp)
theorem conN_fine {l : List Nd} (h : ∀ x ∈ l, Fine x) (hl : l.length ≤ 1000000) : Fine (conN l) := by
 match l, h, hl with
 | [], _, _ => exact fine_zero
 | [x], h, _ => exact h x (by simp)
 | x :: y :: r, h, hl => exact .mk h (by simp) hl
theorem eitN_fine {l : List Nd} (h : ∀ x ∈ l, Fine x) (hl : l.length ≤ 1000000) : Fine (eitN l) := by
 match l, h, hl with
 | [], h, hl => exact .mk h (by simp) hl
 | [x], h, _ => exact h x (by simp)
 | x :: y :: r, h, hl => exact .mk h (by simp) hl
theorem classGo_len (l : List Int) : ∀ (k j : Nat) (acc : List Sg), (classGo l k j acc).1.length ≤ acc.length + 4 * k
 | 0, j, acc => by rw [classGo]; simp
 | k + 1, j, acc => by
   rw [classGo]
   split
   · exact Nat.le_add_right _ _
   · split
     · split
       · have := classGo_len l k (j + 2) (acc ++ (escSX (pk l (j + 1))).1)
         have h2 := escS_len (pk l (j + 1))
         rw [List.length_append] at this
         omega
       · exact Nat.le_add_right _ _
     · split
       · exact Nat.le_add_right _ _
       · split
         · split
           · exact Nat.le_add_right _ _
           · have := classGo_len l k (j + 3) (acc ++ [⟨pk l j, pk l (j + 2)⟩])
             rw [List.length_append, List.length_singleton] at this
             omega
         · have := classGo_len l k (j + 1) (acc ++ [⟨pk l j, pk l j⟩])
           rw [List.length_append, List.length_singleton] at this
           omega
theorem class_fine (l : List Int) (hll : l.length < 1000000) (j : Nat) : Fine (classS l j).n := by
 unfold classS
 dsimp only
 refine fine_rune _ _ _ ?_
 have := classGo_len l (l.length + 2) (if pk l j = 94 then j + 1 else j) []
 simp only [List.length_nil] at this
 omega
theorem readS_fine (l : List Int) (hll : l.length < 1000000) : ∀ k : Nat, (∀ j d, (atomS l k j d).ok = true → Fine (atomS l k j d).n) ∧ (∀ j d, (pieceS l k j d).ok = true → Fine (pieceS l k j d).n) ∧
   (∀ j d acc, j ≤ l.length → acc.length ≤ j → (∀ x ∈ acc, Fine x) → (concatS l k j d acc).ok = true → Fine (concatS l k j d acc).n) ∧ ∀ j d acc, j ≤ l.length → acc.length ≤ j → (∀ x ∈ acc, Fine x) → (eitherS l k j d acc).ok = true → Fine (eitherS l k j d acc).n
 | 0 => ⟨fun j d h => by simp [atomS] at h, fun j d h => by simp [pieceS] at h, fun j d acc _ _ _ h => by simp [concatS] at h, fun j d acc _ _ _ h => by simp [eitherS] at h⟩
 | k + 1 => by
   obtain ⟨ha, hp, hc, he⟩ := readS_fine l hll k
   obtain ⟨ia, ip, ic, ie⟩ := readS_in l k
   refine ⟨fun j d h => ?_, fun j d h => ?_, fun j d acc hj hal hga h => ?_, fun j d acc hj hal hga h => ?_⟩
   · rw [atomS] at h ⊢
     dsimp only at h ⊢
     split at h
     · rename_i h1
       rw [if_pos h1]
       have hj := pk_in (l := l) (i := j) (by rw [h1]; decide)
       split at h
       · cases h
       · rename_i h2
         rw [if_neg h2]
         split at h
         · rename_i h3
           rw [if_pos h3]
           have := he (j + 1) (d + 1) [] (by omega) (by simp) (fun x h => by cases h) h3
           split at h
           · rename_i h4
             rw [if_pos h4]
             exact this
           · cases h
         · cases h
     · rename_i h1
       rw [if_neg h1]
       split at h
       · rename_i h2
         rw [if_pos h2]
         exact class_fine l hll _
       · rename_i h2
         rw [if_neg h2]
         split at h
         · rename_i h3
           rw [if_pos h3]
           exact fine_rune _ _ _ (by simp)
         · rename_i h3
           rw [if_neg h3]
           split at h
           · rename_i h4
             rw [if_pos h4]
             exact fine_rune _ _ _ (by have := escS_len (pk l (j + 1)); omega)
           · rename_i h4
             rw [if_neg h4]
             exact fine_rune _ _ _ (by simp)
   · rw [pieceS] at h ⊢
     try dsimp only at h ⊢
     split at h
     · rename_i h1
       rw [if_pos h1]
       have h0 := ha j d h1
       split at h
       · rename_i h2
         rw [if_pos h2]
         exact fine_rep h0 _ _
       · rename_i h2
         rw [if_neg h2]
         split at h
         · rename_i h3
           rw [if_pos h3]
           exact fine_rep h0 _ _
         · rename_i h3
           rw [if_neg h3]
           split at h
           · rename_i h4
             rw [if_pos h4]
             exact fine_rep h0 _ _
           · rename_i h4
             rw [if_neg h4]
             split at h
             · rename_i h5
               rw [if_pos h5]
               exact fine_rep h0 _ _
             · rename_i h5
               rw [if_neg h5]
               exact h0
     · rename_i h1
       exact absurd h h1
   · rw [concatS] at h ⊢
     try dsimp only at h ⊢
     split at h
     · rename_i h1
       rw [if_pos h1]
       exact conN_fine hga (by omega)
     · rename_i h1
       rw [if_neg h1]
       split at h
       · rename_i h2
         rw [if_pos h2]
         have h0 := ip j d h2
         refine hc _ d _ h0.2 (by simp; omega) (fun x hx => ?_) h
         rcases List.mem_append.1 hx with hx | hx
         · exact hga x hx
         · simp at hx; subst hx; exact hp j d h2
       · rename_i h2
         exact absurd h h2
   · rw [eitherS] at h ⊢
     try dsimp only at h ⊢
     split at h
     · rename_i h1
       rw [if_pos h1]
       have h0 := ic j d [] hj h1
       have hg0 := hc j d [] hj (by simp) (fun x h => by cases h) h1
       have hga2 : ∀ x ∈ acc ++ [(concatS l k j d []).n], Fine x := fun x hx => by
         rcases List.mem_append.1 hx with hx | hx
         · exact hga x hx
         · simp at hx; subst hx; exact hg0
       split at h
       · rename_i h2
         rw [if_pos h2]
         have := pk_in (l := l) (i := (concatS l k j d []).at_) (by rw [h2]; decide)
         exact he _ d _ (by omega) (by simp; omega) hga2 h
       · rename_i h2
         rw [if_neg h2]
         exact eitN_fine hga2 (by simp; omega)
     · rename_i h1
       exact absurd h h1
theorem parse_fine (s : List UInt8) (hl : s.length ≤ 1000) : Fine (parseU s).1 := by
 unfold parseU
 cases hr : runesU s with
 | none => exact fine_zero
 | some l =>
   have hro := runesU_ok s.length s l (Nat.le_refl _) hr
   show Fine (parseL l).1
   unfold parseL
   dsimp only
   have h := (readS_fine l (by omega) (5 * l.length + 4)).2.2.2 0 0 [] (by omega) (by simp) (fun x h => by cases h)
   split
   · rename_i h1
     split
     · exact fine_zero
     · exact h h1.1
   · exact fine_zero
end Go.Proofs.YtnipaiklandliaaGreatDoor
/- Chapter 15: may a node be a machine, walked. -/
namespace Go.Proofs.YtnipaiklandliaaGreatDoor
open Go Go.Abs AbsSeat Ty
open Nat (reduceEqDiff reduceLT reduceAdd reduceLeDiff reduceMul reduceMod)
inductive Dep : Nat → Nd → Prop where
 | leaf {n : Nat} {kind : Int} {no sf : Bool} {sp : List Sg} {least most : Int} {kf : Bool} : Dep n (.mk kind no sf sp least most kf [])
 | mk {n : Nat} {kind : Int} {no sf : Bool} {sp : List Sg} {least most : Int} {kf : Bool} {kids : List Nd} (h : ∀ x ∈ kids, Dep n x) : Dep (n + 1) (.mk kind no sf sp least most kf kids)
theorem Dep.up {n : Nat} : ∀ {x : Nd}, Dep n x → Dep (n + 1) x := by
 induction n with
 | zero => intro x h; cases h; exact .leaf
 | succ n ih => intro x h; cases h with
   | leaf => exact .leaf
   | mk h => exact .mk fun y hy => ih (h y hy)
theorem Dep.le {n m : Nat} (hm : n ≤ m) {x : Nd} (h : Dep n x) : Dep m x := by
 induction hm with
 | refl => exact h
 | step _ ih => exact ih.up
theorem conN_dep {n : Nat} {l : List Nd} (h : ∀ x ∈ l, Dep n x) : Dep (n + 1) (conN l) := by
 match l, h with
 | [], _ => exact .leaf
 | [x], h => exact (h x (by simp)).up
 | x :: y :: r, h => exact .mk h
theorem eitN_dep {n : Nat} {l : List Nd} (h : ∀ x ∈ l, Dep n x) : Dep (n + 1) (eitN l) := by
 match l, h with
 | [], _ => exact .leaf
 | [x], h => exact (h x (by simp)).up
 | x :: y :: r, h => exact .mk h
theorem rep_dep {n : Nat} {x : Nd} (h : Dep n x) (a b : Int) : Dep (n + 1) (ndR x a b) := .mk fun y hy => by simp at hy; subst hy; exact h
theorem readS_dep (l : List Int) : ∀ k : Nat, (∀ j d, (atomS l k j d).ok = true → Dep (3 * (16 - d)) (atomS l k j d).n) ∧ (∀ j d, (pieceS l k j d).ok = true → Dep (3 * (16 - d) + 1) (pieceS l k j d).n) ∧
   (∀ j d acc, (∀ x ∈ acc, Dep (3 * (16 - d) + 1) x) → (concatS l k j d acc).ok = true → Dep (3 * (16 - d) + 2) (concatS l k j d acc).n) ∧ ∀ j d acc, (∀ x ∈ acc, Dep (3 * (16 - d) + 2) x) → (eitherS l k j d acc).ok = true → Dep (3 * (16 - d) + 3) (eitherS l k j d acc).n
 | 0 => ⟨fun j d h => by simp [atomS] at h, fun j d h => by simp [pieceS] at h, fun j d acc _ h => by simp [concatS] at h, fun j d acc _ h => by simp [eitherS] at h⟩
 | k + 1 => by
   obtain ⟨ha, hp, hc, he⟩ := readS_dep l k
   refine ⟨fun j d h => ?_, fun j d h => ?_, fun j d acc hga h => ?_, fun j d acc hga h => ?_⟩
   · rw [atomS] at h ⊢
     dsimp only at h ⊢
     split at h
     · rename_i h1
       rw [if_pos h1]
       split at h
       · cases h
       · rename_i h2
         rw [if_neg h2]
         split at h
         · rename_i h3
           rw [if_pos h3]
           have := he (j + 1) (d + 1) [] (fun x h => by cases h) h3
           split at h
           · rename_i h4
             rw [if_pos h4]
             exact this.le (by omega)
           · cases h
         · cases h
     · rename_i h1
       rw [if_neg h1]
       split at h
       · rename_i h2
         rw [if_pos h2]
         exact .leaf
       · rename_i h2
         rw [if_neg h2]
         split at h
         · rename_i h3
           rw [if_pos h3]
           exact .leaf
         · rename_i h3
           rw [if_neg h3]
           split at h
           · rename_i h4
             rw [if_pos h4]
             exact .leaf
           · rename_i h4
             rw [if_neg h4]
             exact .leaf
   · rw [pieceS] at h ⊢
     try dsimp only at h ⊢
     split at h
     · rename_i h1
       rw [if_pos h1]
       have h0 := ha j d h1
       split at h
       · rename_i h2
         rw [if_pos h2]
         exact rep_dep h0 _ _
       · rename_i h2
         rw [if_neg h2]
         split at h
         · rename_i h3
           rw [if_pos h3]
           exact rep_dep h0 _ _
         · rename_i h3
           rw [if_neg h3]
           split at h
           · rename_i h4
             rw [if_pos h4]
             exact rep_dep h0 _ _
           · rename_i h4
             rw [if_neg h4]
             split at h
             · rename_i h5
               rw [if_pos h5]
               exact rep_dep h0 _ _
             · rename_i h5
               rw [if_neg h5]
               exact h0.up
     · rename_i h1
       exact absurd h h1
   · rw [concatS] at h ⊢
     try dsimp only at h ⊢
     split at h
     · rename_i h1
       rw [if_pos h1]
       exact conN_dep hga
     · rename_i h1
       rw [if_neg h1]
       split at h
       · rename_i h2
         rw [if_pos h2]
         refine hc _ d _ (fun x hx => ?_) h
         rcases List.mem_append.1 hx with hx | hx
         · exact hga x hx
         · simp at hx; subst hx; exact hp j d h2
       · rename_i h2
         exact absurd h h2
   · rw [eitherS] at h ⊢
     try dsimp only at h ⊢
     split at h
     · rename_i h1
       rw [if_pos h1]
       have hg0 := hc j d [] (fun x h => by cases h) h1
       have hga2 : ∀ x ∈ acc ++ [(concatS l k j d []).n], Dep (3 * (16 - d) + 2) x := fun x hx => by
         rcases List.mem_append.1 hx with hx | hx
         · exact hga x hx
         · simp at hx; subst hx; exact hg0
       split at h
       · rename_i h2
         rw [if_pos h2]
         exact he _ d _ hga2 h
       · rename_i h2
         rw [if_neg h2]
         exact eitN_dep hga2
     · rename_i h1
       exact absurd h h1
theorem parse_known (s : List UInt8) (hl : s.length ≤ 1000) : (parseU s).2 = 0 → Good (parseU s).1 ∧ Fine (parseU s).1 ∧ Dep 51 (parseU s).1 ∧ sizeN (parseU s).1 ≤ 400 := by
 intro h0
 refine ⟨?_, parse_fine s hl, ?_⟩
 all_goals
   unfold parseU at h0 ⊢
   cases hr : runesU s with
   | none => rw [hr] at h0; cases h0
   | some l =>
     have hro := runesU_ok s.length s l (Nat.le_refl _) hr
     rw [hr] at h0
     try show Good (parseL l).1
     try show Dep 51 (parseL l).1 ∧ sizeN (parseL l).1 ≤ 400
     have h0 : (parseL l).2 = 0 := h0
     unfold parseL at h0 ⊢
     dsimp only at h0 ⊢
     have hg := (readS_good l (by omega) (5 * l.length + 4)).2.2.2 0 0 [] (by omega) (by simp) (fun x h => by cases h)
     have hd := (readS_dep l (5 * l.length + 4)).2.2.2 0 0 [] (fun x h => by cases h)
     split at h0
     · rename_i h1
       rw [if_pos h1]
       split at h0
       · cases h0
       · rename_i h2
         rw [if_neg h2]
         first | exact hg h1.1 | exact ⟨hd h1.1, Nat.not_lt.1 h2⟩
     · cases h0
theorem u154 : type_of% (And.intro (show tagT Tryz.prog 176 = 0 from by kernel_rfl) (And.intro (show tagT Tryz.prog 216 = 0 from by kernel_rfl) (And.intro (show tagT Tryz.prog 219 = 0 from by kernel_rfl) (And.intro ag1 (And.intro sz1 (And.intro by1 (And.intro ze1 (And.intro Tryz.underlying1 (And.intro ag3 (And.intro sz3 (And.intro by3 (And.intro ze3 (And.intro Tryz.underlying3 (And.intro ag4 (And.intro sz4 (And.intro by4 (And.intro ze4 (And.intro Tryz.underlying4 (And.intro ag28 (And.intro sz28 (And.intro by28 (And.intro ze28 (And.intro Tryz.underlying28 (And.intro ag173 (And.intro sz173 (And.intro by173 (And.intro se173 (And.intro ze173 (And.intro Tryz.underlying173 (And.intro ag174 (And.intro sz174 (And.intro by174 (And.intro se174 (And.intro ze174 (And.intro Tryz.underlying174 (And.intro ag176 (And.intro sz176 (And.intro by176 (And.intro ze176 (And.intro bu176 (And.intro Tryz.underlying176 (And.intro ag179 (And.intro sz179 (And.intro by179 (And.intro se179 (And.intro ze179 (And.intro Tryz.underlying179 (And.intro ag214 (And.intro sz214 (And.intro by214 (And.intro ze214 (And.intro Tryz.underlying214 (And.intro ag216 (And.intro sz216 (And.intro by216 (And.intro ze216 (And.intro bu216 (And.intro Tryz.underlying216 (And.intro ag219 (And.intro sz219 (And.intro by219 (And.intro ze219 (And.intro bu219 (And.intro Tryz.underlying219 (And.intro ag276 (And.intro sz276 (And.intro by276 (And.intro ze276 (And.intro bu276 (And.intro Tryz.underlying276 (And.intro fa176_0 (And.intro fd176_0 (And.intro fa176_1 (And.intro fd176_1 (And.intro fa176_2 (And.intro fd176_2 (And.intro fa176_3 (And.intro fd176_3 (And.intro fa176_4 (And.intro fd176_4 (And.intro fa176_5 (And.intro fd176_5 (And.intro fa216_0 (And.intro fd216_0 (And.intro fa219_3 fd219_3))))))))))))))))))))))))))))))))))))))))))))))))))))))))))))))))))))))))))))))))))))) := And.intro (show tagT Tryz.prog 176 = 0 from by kernel_rfl) (And.intro (show tagT Tryz.prog 216 = 0 from by kernel_rfl) (And.intro (show tagT Tryz.prog 219 = 0 from by kernel_rfl) (And.intro ag1 (And.intro sz1 (And.intro by1 (And.intro ze1 (And.intro Tryz.underlying1 (And.intro ag3 (And.intro sz3 (And.intro by3 (And.intro ze3 (And.intro Tryz.underlying3 (And.intro ag4 (And.intro sz4 (And.intro by4 (And.intro ze4 (And.intro Tryz.underlying4 (And.intro ag28 (And.intro sz28 (And.intro by28 (And.intro ze28 (And.intro Tryz.underlying28 (And.intro ag173 (And.intro sz173 (And.intro by173 (And.intro se173 (And.intro ze173 (And.intro Tryz.underlying173 (And.intro ag174 (And.intro sz174 (And.intro by174 (And.intro se174 (And.intro ze174 (And.intro Tryz.underlying174 (And.intro ag176 (And.intro sz176 (And.intro by176 (And.intro ze176 (And.intro bu176 (And.intro Tryz.underlying176 (And.intro ag179 (And.intro sz179 (And.intro by179 (And.intro se179 (And.intro ze179 (And.intro Tryz.underlying179 (And.intro ag214 (And.intro sz214 (And.intro by214 (And.intro ze214 (And.intro Tryz.underlying214 (And.intro ag216 (And.intro sz216 (And.intro by216 (And.intro ze216 (And.intro bu216 (And.intro Tryz.underlying216 (And.intro ag219 (And.intro sz219 (And.intro by219 (And.intro ze219 (And.intro bu219 (And.intro Tryz.underlying219 (And.intro ag276 (And.intro sz276 (And.intro by276 (And.intro ze276 (And.intro bu276 (And.intro Tryz.underlying276 (And.intro fa176_0 (And.intro fd176_0 (And.intro fa176_1 (And.intro fd176_1 (And.intro fa176_2 (And.intro fd176_2 (And.intro fa176_3 (And.intro fd176_3 (And.intro fa176_4 (And.intro fd176_4 (And.intro fa176_5 (And.intro fd176_5 (And.intro fa216_0 (And.intro fd216_0 (And.intro fa219_3 fd219_3))))))))))))))))))))))))))))))))))))))))))))))))))))))))))))))))))))))))))))))))))))
def g154 : Code :=
 .seq (.region 0 #[q 2 (.box 176 (.tmp 0)) 0, q 4 (.assign (ik 0)) 28] false) (.seq (.seq (.region 1 #[q 8 (.move (.tmp 1)) 3, q 9 (.binOp .gtr 3 (.tmp 8) (ik 64) 3) 4] false) (.cond (.tmp 9) (.seq (.region 2 #[q 4 (.assign (ik 5)) 28] false) .ret) .skip)) (.seq (.seq (.region 3 #[q 10 (.fieldAddr 176 (.tmp 2) 0) 0, q 11 (.load 3 (.tmp 10)) 3] false) (.block 0 (.seq (.block 3 (.seq (.block 2 (.seq (.block 1 (.seq (.seq (.seq (.seq (.region 4 #[q 13 (.binOp .eql 3 (.tmp 11) (ik 0) 3) 4, q 12 (.assign (.tmp 13)) 4] false) (.cond (.tmp 12) .skip (.region 5 #[q 14 (.binOp .eql 3 (.tmp 11) (ik 1) 3) 4, q 12 (.assign (.tmp 14)) 4] false))) (.cond (.tmp 12) (.exit 1) .skip)) (.seq (.seq (.region 6 #[q 16 (.binOp .eql 3 (.tmp 11) (ik 4) 3) 4, q 15 (.assign (.tmp 16)) 4] false) (.cond (.tmp 15) (.exit 2) .skip)) (.seq (.seq (.region 7 #[q 18 (.binOp .eql 3 (.tmp 11) (ik 2) 3) 4, q 17 (.assign (.tmp 18)) 4] false) (.cond (.tmp 17) .skip (.region 8 #[q 19 (.binOp .eql 3 (.tmp 11) (ik 3) 3) 4, q 17 (.assign (.tmp 19)) 4] false))) (.cond (.tmp 17) (.exit 3) .skip)))) (.exit 0))) (.seq (.seq (.region 9 #[q 4 (.assign (ik 0)) 28] false) .ret) (.exit 0)))) (.seq (.region 10 #[q 20 (.fieldAddr 176 (.tmp 2) 5) 0, q 21 (.load 174 (.tmp 20)) 174, q 22 (bi .len #[.tmp 21] #[174]) 3, q 23 (.binOp .neq 3 (.tmp 22) (ik 1) 3) 4, q 24 (.move (.tmp 23)) 4, qg 25 (.fieldAddr 176 (.tmp 2) 3) 0 4 false, qg 26 (.load 3 (.tmp 25)) 3 4 false, qg 27 (.binOp .lss 3 (.tmp 26) (ik 0) 3) 4 4 false, q 28 (.pick (.tmp 24) (.const (.bool true)) (.tmp 27)) 4, q 29 (.move (.tmp 28)) 4, qg 30 (.fieldAddr 176 (.tmp 2) 3) 0 9 false, qg 31 (.load 3 (.tmp 30)) 3 9 false, qg 32 (.binOp .gtr 3 (.tmp 31) (ik 16) 3) 4 9 false, q 33 (.pick (.tmp 29) (.const (.bool true)) (.tmp 32)) 4, q 34 (.move (.tmp 33)) 4, qg 35 (.fieldAddr 176 (.tmp 2) 4) 0 14 false, qg 36 (.load 3 (.tmp 35)) 3 14 false, qg 37 (.binOp .neq 3 (.tmp 36) (ik (-1)) 3) 4 14 false, qg 38 (.move (.tmp 37)) 4 14 false, qg 39 (.fieldAddr 176 (.tmp 2) 4) 0 18 true, qg 40 (.load 3 (.tmp 39)) 3 18 true, qg 41 (.fieldAddr 176 (.tmp 2) 3) 0 18 true, qg 42 (.load 3 (.tmp 41)) 3 18 true, qg 43 (.binOp .lss 3 (.tmp 40) (.tmp 42) 3) 4 18 true, qg 44 (.move (.tmp 43)) 4 18 true, qg 45 (.fieldAddr 176 (.tmp 2) 4) 0 24 false, qg 46 (.load 3 (.tmp 45)) 3 24 false, qg 47 (.binOp .gtr 3 (.tmp 46) (ik 16) 3) 4 24 false, qg 48 (.pick (.tmp 44) (.const (.bool true)) (.tmp 47)) 4 18 true, qg 49 (.pick (.tmp 38) (.tmp 48) (.const (.bool false))) 4 14 false, q 50 (.pick (.tmp 34) (.const (.bool true)) (.tmp 49)) 4] false) (.cond (.tmp 50) (.seq (.region 11 #[q 4 (.assign (ik 1)) 28] false) .ret) .skip)))) (.seq (.seq (.seq (.region 12 #[q 51 (.fieldAddr 176 (.tmp 2) 5) 0, q 52 (.load 174 (.tmp 51)) 174, q 53 (bi .len #[.tmp 52] #[174]) 3, q 54 (.move (ik 0)) 3] false) (.block 4 (.loop (.seq (.region 13 #[q 55 (.binOp .lss 3 (.tmp 54) (.tmp 53) 3) 0] false) (.seq (.cond (.tmp 55) .skip (.exit 4)) (.seq (.block 5 (.seq (.region 14 #[q 56 (.indexAddr 174 (.tmp 52) (.tmp 54)) 0, q 57 (.load 176 (.tmp 56)) 176, q 6 (.alloc 176) 0, qn (.store 176 (.tmp 6) (.tmp 57)) 0] false) (.seq (.region 15 #[q 58 (.load 176 (.tmp 6)) 176, q 59 (.move (.tmp 1)) 3, q 60 (.binOp .add 3 (.tmp 59) (ik 1) 3) 3, q 61 (cl 154 #[.tmp 58, .tmp 60] #[176, 3]) 28, q 7 (.assign (.tmp 61)) 28] false) (.seq (.region 16 #[q 62 (.move (.tmp 7)) 28, q 63 (.binOp .neq 28 (.tmp 62) (ik 0) 28) 4] false) (.cond (.tmp 63) (.seq (.region 17 #[q 64 (.move (.tmp 7)) 28, q 4 (.assign (.tmp 64)) 28] false) .ret) .skip))))) (.region 18 #[q 65 (.binOp .add 3 (.tmp 54) (ik 1) 3) 3, q 54 (.move (.tmp 65)) 3] false))))))) (.seq (.region 19 #[q 4 (.assign (ik 0)) 28] false) .ret)) (.exit 0))))) (.seq (.region 20 #[q 4 (.assign (ik 1)) 28] false) .ret)))
theorem s154 : Tryz.f154.body.map (slim cfg) = some g154 := by kernel_rfl
def g121 : Code :=
 .seq (.region 0 #[q 1 (.box 176 (.tmp 0)) 0, q 2 (.assign (.const (.slice none 0 0))) 179, q 3 (.assign (ik 0)) 3, q 4 (.assign (ik 0)) 28] false) (.seq (.seq (.region 1 #[q 9 (.load 176 (.tmp 1)) 176, q 10 (cl 154 #[.tmp 9, ik 0] #[176, 3]) 28, q 5 (.assign (.tmp 10)) 28] false) (.seq (.region 2 #[q 11 (.move (.tmp 5)) 28, q 12 (.binOp .neq 28 (.tmp 11) (ik 0) 28) 4] false) (.cond (.tmp 12) (.seq (.region 3 #[q 13 (.move (.tmp 5)) 28, q 2 (.assign (.const (.slice none 0 0))) 179, q 3 (.assign (ik 0)) 3, q 4 (.assign (.tmp 13)) 28] false) .ret) .skip))) (.seq (.seq (.region 4 #[q 14 (.load 176 (.tmp 1)) 176, q 15 (cl 153 #[.tmp 14] #[176]) 3, q 16 (.binOp .gtr 3 (.tmp 15) (ik 400) 3) 4] false) (.cond (.tmp 16) (.seq (.region 5 #[q 2 (.assign (.const (.slice none 0 0))) 179, q 3 (.assign (ik 0)) 3, q 4 (.assign (ik 5)) 28] false) .ret) .skip)) (.seq (.region 6 #[q 17 (.build 216 #[]) 216, q 18 (.box 216 (.tmp 17)) 214, q 6 (.assign (.tmp 18)) 214] false) (.seq (.region 7 #[q 19 (.move (.tmp 6)) 214, q 20 (.build 219 #[(0, ik 3)]) 219, q 21 (cl 155 #[.tmp 19, .tmp 20] #[214, 219]) 3, q 7 (.assign (.tmp 21)) 3] false) (.seq (.region 8 #[q 22 (.move (.tmp 6)) 214, q 23 (.load 176 (.tmp 1)) 176, q 24 (.move (.tmp 7)) 3, q 25 (cl 156 #[.tmp 22, .tmp 23, .tmp 24] #[214, 176, 3]) 3, q 8 (.assign (.tmp 25)) 3] false) (.seq (.region 9 #[q 26 (.move (.tmp 6)) 214, q 27 (.nilCheck (.tmp 26)) 0, q 28 (.fieldAddr 216 (.tmp 27) 0) 0, q 29 (.load 179 (.tmp 28)) 179, q 30 (.move (.tmp 8)) 3, q 2 (.assign (.tmp 29)) 179, q 3 (.assign (.tmp 30)) 3, q 4 (.assign (ik 0)) 28] false) .ret))))))
theorem s121 : Tryz.f121.body.map (slim cfg) = some g121 := by kernel_rfl
def g155 : Code :=
 .seq (.region 0 #[q 3 (.box 219 (.tmp 1)) 0, q 4 (.assign (ik 0)) 3] false) (.seq (.region 1 #[{ dst := some 5, op := .move (.tmp 0), type := 214, pos := "compile.go:92", after := #[], guard := none }, { dst := some 6, op := .move (.tmp 0), type := 214, pos := "compile.go:92", after := #[], guard := none }, { dst := some 7, op := .nilCheck (.tmp 6), type := 0, pos := "compile.go:92", after := #[{ on := 1, ground := .data }], guard := none }, { dst := some 8, op := .fieldAddr 216 (.tmp 7) 0, type := 0, pos := "compile.go:92", after := #[{ on := 2, ground := .data }], guard := none }, { dst := some 9, op := .load 179 (.tmp 8), type := 179, pos := "compile.go:92", after := #[{ on := 3, ground := .data }], guard := none }, { dst := some 10, op := .load 219 (.tmp 3), type := 219, pos := "compile.go:92", after := #[], guard := none }, { dst := some 11, op := .buildSlice 179 1 #[(0, .tmp 10)], type := 179, pos := "compile.go:92", after := #[{ on := 5, ground := .data }], guard := none }, { dst := some 12, op := bi .append #[.tmp 9, .tmp 11] #[179, 179], type := 179, pos := "compile.go:92", after := #[{ on := 4, ground := .data }, { on := 6, ground := .data }], guard := none }, { dst := some 13, op := .nilCheck (.tmp 5), type := 0, pos := "compile.go:92", after := #[{ on := 0, ground := .data }, { on := 0, ground := .phase }, { on := 1, ground := .phase }, { on := 2, ground := .phase }, { on := 3, ground := .phase }, { on := 4, ground := .phase }, { on := 5, ground := .phase }, { on := 6, ground := .phase }, { on := 7, ground := .phase }], guard := none }, { dst := some 14, op := .fieldAddr 216 (.tmp 13) 0, type := 0, pos := "compile.go:92", after := #[{ on := 8, ground := .data }, { on := 0, ground := .phase }, { on := 1, ground := .phase }, { on := 2, ground := .phase }, { on := 3, ground := .phase }, { on := 4, ground := .phase }, { on := 5, ground := .phase }, { on := 6, ground := .phase }, { on := 7, ground := .phase }], guard := none }, { dst := none, op := .store 179 (.tmp 14) (.tmp 12), type := 0, pos := "compile.go:92", after := #[{ on := 9, ground := .data }, { on := 7, ground := .data }, { on := 7, ground := .chain }, { on := 0, ground := .phase }, { on := 1, ground := .phase }, { on := 2, ground := .phase }, { on := 3, ground := .phase }, { on := 4, ground := .phase }, { on := 5, ground := .phase }, { on := 6, ground := .phase }, { on := 7, ground := .phase }], guard := none }] true) (.seq (.region 2 #[q 15 (.move (.tmp 0)) 214, q 16 (.nilCheck (.tmp 15)) 0, q 17 (.fieldAddr 216 (.tmp 16) 0) 0, q 18 (.load 179 (.tmp 17)) 179, q 19 (bi .len #[.tmp 18] #[179]) 3, q 20 (.binOp .sub 3 (.tmp 19) (ik 1) 3) 3, q 4 (.assign (.tmp 20)) 3] false) .ret))
theorem s155 : Tryz.f155.body.map (slim cfg) = some g155 := by kernel_rfl
def g156 : Code :=
 .seq (.region 0 #[q 4 (.box 176 (.tmp 1)) 0, q 6 (.assign (ik 0)) 3] false) (.seq (.seq (.region 1 #[q 8 (.fieldAddr 176 (.tmp 4) 0) 0, q 9 (.load 3 (.tmp 8)) 3] false) (.block 0 (.seq (.region 2 #[q 11 (.binOp .eql 3 (.tmp 9) (ik 1) 3) 4, q 10 (.assign (.tmp 11)) 4] false) (.cond (.tmp 10) (.seq (.region 3 #[{ dst := some 12, op := .move (.tmp 0), type := 214, pos := "compile.go:100", after := #[], guard := none }, { dst := some 13, op := .fieldAddr 176 (.tmp 4) 1, type := 0, pos := "compile.go:100", after := #[], guard := none }, { dst := some 14, op := .load 4 (.tmp 13), type := 4, pos := "compile.go:100", after := #[{ on := 1, ground := .data }], guard := none }, { dst := some 15, op := .fieldAddr 176 (.tmp 4) 2, type := 0, pos := "compile.go:100", after := #[], guard := none }, { dst := some 16, op := .load 173 (.tmp 15), type := 173, pos := "compile.go:100", after := #[{ on := 3, ground := .data }], guard := none }, { dst := some 17, op := bi .append #[.const (.slice none 0 0), .tmp 16] #[173, 173], type := 173, pos := "compile.go:100", after := #[{ on := 4, ground := .data }], guard := none }, { dst := some 18, op := .move (.tmp 2), type := 3, pos := "compile.go:100", after := #[], guard := none }, { dst := some 19, op := .build 219 #[(0, ik 1), (1, .tmp 14), (2, .tmp 17), (3, .tmp 18)], type := 219, pos := "compile.go:100", after := #[{ on := 2, ground := .data }, { on := 5, ground := .data }, { on := 6, ground := .data }], guard := none }, { dst := some 20, op := cl 155 #[.tmp 12, .tmp 19] #[214, 219], type := 3, pos := "compile.go:100", after := #[{ on := 0, ground := .data }, { on := 7, ground := .data }, { on := 5, ground := .chain }], guard := none }, { dst := some 6, op := .assign (.tmp 20), type := 3, pos := "compile.go:100", after := #[{ on := 8, ground := .data }, { on := 8, ground := .chain }, { on := 0, ground := .phase }, { on := 1, ground := .phase }, { on := 2, ground := .phase }, { on := 3, ground := .phase }, { on := 4, ground := .phase }, { on := 5, ground := .phase }, { on := 6, ground := .phase }, { on := 7, ground := .phase }, { on := 8, ground := .phase }], guard := none }] true) .ret) (.seq (.region 4 #[q 22 (.binOp .eql 3 (.tmp 9) (ik 2) 3) 4, q 21 (.assign (.tmp 22)) 4] false) (.cond (.tmp 21) (.seq (.region 5 #[q 23 (.fieldAddr 176 (.tmp 4) 5) 0, q 24 (.load 174 (.tmp 23)) 174, q 25 (bi .len #[.tmp 24] #[174]) 3, q 26 (.binOp .sub 3 (.tmp 25) (ik 1) 3) 3, q 7 (.assign (.tmp 26)) 3] false) (.block 1 (.loop (.seq (.seq (.region 6 #[q 27 (.move (.tmp 7)) 3, q 28 (.binOp .geq 3 (.tmp 27) (ik 0) 3) 4] false) (.cond (.tmp 28) .skip (.exit 1))) (.seq (.block 2 (.region 8 #[q 31 (.move (.tmp 0)) 214, q 32 (.fieldAddr 176 (.tmp 4) 5) 0, q 33 (.load 174 (.tmp 32)) 174, q 34 (.move (.tmp 7)) 3, q 35 (.indexAddr 174 (.tmp 33) (.tmp 34)) 0, q 36 (.load 176 (.tmp 35)) 176, q 37 (.move (.tmp 2)) 3, q 38 (cl 156 #[.tmp 31, .tmp 36, .tmp 37] #[214, 176, 3]) 3, q 2 (.assign (.tmp 38)) 3] false)) (.region 7 #[q 29 (.move (.tmp 7)) 3, q 30 (.binOp .sub 3 (.tmp 29) (ik 1) 3) 3, q 7 (.assign (.tmp 30)) 3] false)))))) (.seq (.region 9 #[q 40 (.binOp .eql 3 (.tmp 9) (ik 3) 3) 4, q 39 (.assign (.tmp 40)) 4] false) (.cond (.tmp 39) (.seq (.region 10 #[q 41 (.move (.tmp 0)) 214, q 42 (.fieldAddr 176 (.tmp 4) 5) 0, q 43 (.load 174 (.tmp 42)) 174, q 44 (.move (.tmp 2)) 3, q 45 (cl 176 #[.tmp 41, .tmp 43, .tmp 44] #[214, 174, 3]) 3, q 6 (.assign (.tmp 45)) 3] false) .ret) (.seq (.region 11 #[q 47 (.binOp .eql 3 (.tmp 9) (ik 4) 3) 4, q 46 (.assign (.tmp 47)) 4] false) (.cond (.tmp 46) (.seq (.region 12 #[q 48 (.move (.tmp 0)) 214, q 49 (.load 176 (.tmp 4)) 176, q 50 (.move (.tmp 2)) 3, q 51 (cl 177 #[.tmp 48, .tmp 49, .tmp 50] #[214, 176, 3]) 3, q 6 (.assign (.tmp 51)) 3] false) .ret) .skip)))))))))) (.seq (.region 13 #[q 52 (.move (.tmp 2)) 3, q 6 (.assign (.tmp 52)) 3] false) .ret))
theorem s156 : Tryz.f156.body.map (slim cfg) = some g156 := by kernel_rfl
def g176 : Code :=
 .seq (.region 0 #[q 6 (.assign (ik 0)) 3] false) (.seq (.region 1 #[q 10 (.move (.tmp 2)) 3, q 7 (.assign (.tmp 10)) 3] false) (.seq (.seq (.region 2 #[q 11 (.move (.tmp 1)) 174, q 12 (bi .len #[.tmp 11] #[174]) 3, q 13 (.binOp .sub 3 (.tmp 12) (ik 1) 3) 3, q 8 (.assign (.tmp 13)) 3] false) (.block 0 (.loop (.seq (.seq (.region 3 #[q 14 (.move (.tmp 8)) 3, q 15 (.binOp .geq 3 (.tmp 14) (ik 0) 3) 4] false) (.cond (.tmp 15) .skip (.exit 0))) (.seq (.block 1 (.seq (.region 5 #[q 18 (.move (.tmp 0)) 214, q 19 (.move (.tmp 1)) 174, q 20 (.move (.tmp 8)) 3, q 21 (.indexAddr 174 (.tmp 19) (.tmp 20)) 0, q 22 (.load 176 (.tmp 21)) 176, q 23 (.move (.tmp 2)) 3, q 24 (cl 156 #[.tmp 18, .tmp 22, .tmp 23] #[214, 176, 3]) 3, q 9 (.assign (.tmp 24)) 3] false) (.seq (.seq (.region 6 #[q 25 (.move (.tmp 8)) 3, q 26 (.move (.tmp 1)) 174, q 27 (bi .len #[.tmp 26] #[174]) 3, q 28 (.binOp .sub 3 (.tmp 27) (ik 1) 3) 3, q 29 (.binOp .lss 3 (.tmp 25) (.tmp 28) 3) 4] false) (.cond (.tmp 29) (.region 7 #[q 30 (.move (.tmp 0)) 214, q 31 (.move (.tmp 9)) 3, q 32 (.move (.tmp 7)) 3, q 33 (.build 219 #[(0, ik 2), (3, .tmp 31), (4, .tmp 32)]) 219, q 34 (cl 155 #[.tmp 30, .tmp 33] #[214, 219]) 3, q 9 (.assign (.tmp 34)) 3] false) .skip)) (.region 8 #[q 35 (.move (.tmp 9)) 3, q 7 (.assign (.tmp 35)) 3] false)))) (.region 4 #[q 16 (.move (.tmp 8)) 3, q 17 (.binOp .sub 3 (.tmp 16) (ik 1) 3) 3, q 8 (.assign (.tmp 17)) 3] false)))))) (.seq (.region 9 #[q 36 (.move (.tmp 7)) 3, q 6 (.assign (.tmp 36)) 3] false) .ret)))
theorem s176 : Tryz.f176.body.map (slim cfg) = some g176 := by kernel_rfl
def g177 : Code :=
 .seq (.region 0 #[q 4 (.box 176 (.tmp 1)) 0, q 6 (.assign (ik 0)) 3] false) (.seq (.region 1 #[q 13 (.fieldAddr 176 (.tmp 4) 5) 0, q 14 (.load 174 (.tmp 13)) 174, q 15 (.indexAddr 174 (.tmp 14) (ik 0)) 0, q 16 (.load 176 (.tmp 15)) 176, q 7 (.alloc 176) 0, qn (.store 176 (.tmp 7) (.tmp 16)) 0] false) (.seq (.region 2 #[q 17 (.move (.tmp 2)) 3, q 18 (.fieldAddr 176 (.tmp 4) 3) 0, q 19 (.load 3 (.tmp 18)) 3, q 8 (.assign (.tmp 17)) 3, q 9 (.assign (.tmp 19)) 3] false) (.seq (.seq (.region 3 #[q 20 (.fieldAddr 176 (.tmp 4) 4) 0, q 21 (.load 3 (.tmp 20)) 3, q 22 (.binOp .eql 3 (.tmp 21) (ik (-1)) 3) 4] false) (.cond (.tmp 22) (.seq (.region 4 #[q 23 (.move (.tmp 0)) 214, q 24 (.move (.tmp 2)) 3, q 25 (.build 219 #[(0, ik 2), (4, .tmp 24)]) 219, q 26 (cl 155 #[.tmp 23, .tmp 25] #[214, 219]) 3, q 10 (.assign (.tmp 26)) 3] false) (.seq (.region 5 #[q 27 (.move (.tmp 0)) 214, q 28 (.load 176 (.tmp 7)) 176, q 29 (.move (.tmp 10)) 3, q 30 (cl 156 #[.tmp 27, .tmp 28, .tmp 29] #[214, 176, 3]) 3, q 8 (.assign (.tmp 30)) 3] false) (.seq (.region 6 #[q 31 (.move (.tmp 0)) 214, q 32 (.nilCheck (.tmp 31)) 0, q 33 (.fieldAddr 216 (.tmp 32) 0) 0, q 34 (.load 179 (.tmp 33)) 179, q 35 (.move (.tmp 10)) 3, q 36 (.move (.tmp 8)) 3, q 37 (.indexAddr 179 (.tmp 34) (.tmp 35)) 0, q 38 (.fieldAddr 219 (.tmp 37) 3) 0, qn (.store 3 (.tmp 38) (.tmp 36)) 0] false) (.seq (.seq (.region 7 #[q 39 (.move (.tmp 9)) 3, q 40 (.binOp .eql 3 (.tmp 39) (ik 0) 3) 4] false) (.cond (.tmp 40) (.seq (.region 8 #[q 41 (.move (.tmp 10)) 3, q 6 (.assign (.tmp 41)) 3] false) .ret) .skip)) (.region 9 #[q 42 (.move (.tmp 9)) 3, q 43 (.binOp .sub 3 (.tmp 42) (ik 1) 3) 3, q 9 (.assign (.tmp 43)) 3] false))))) .skip)) (.seq (.seq (.region 10 #[q 44 (.fieldAddr 176 (.tmp 4) 3) 0, q 45 (.load 3 (.tmp 44)) 3, q 11 (.assign (.tmp 45)) 3] false) (.block 0 (.loop (.seq (.seq (.region 11 #[q 46 (.move (.tmp 11)) 3, q 47 (.fieldAddr 176 (.tmp 4) 4) 0, q 48 (.load 3 (.tmp 47)) 3, q 49 (.binOp .lss 3 (.tmp 46) (.tmp 48) 3) 4] false) (.cond (.tmp 49) .skip (.exit 0))) (.seq (.block 1 (.seq (.region 13 #[q 52 (.move (.tmp 0)) 214, q 53 (.load 176 (.tmp 7)) 176, q 54 (.move (.tmp 8)) 3, q 55 (cl 156 #[.tmp 52, .tmp 53, .tmp 54] #[214, 176, 3]) 3, q 12 (.assign (.tmp 55)) 3] false) (.region 14 #[q 56 (.move (.tmp 0)) 214, q 57 (.move (.tmp 12)) 3, q 58 (.move (.tmp 2)) 3, q 59 (.build 219 #[(0, ik 2), (3, .tmp 57), (4, .tmp 58)]) 219, q 60 (cl 155 #[.tmp 56, .tmp 59] #[214, 219]) 3, q 8 (.assign (.tmp 60)) 3] false))) (.region 12 #[q 50 (.move (.tmp 11)) 3, q 51 (.binOp .add 3 (.tmp 50) (ik 1) 3) 3, q 11 (.assign (.tmp 51)) 3] false)))))) (.seq (.seq (.region 15 #[q 61 (.move (.tmp 9)) 3, q 62 (.move (ik 0)) 3] false) (.block 2 (.loop (.seq (.region 16 #[q 63 (.binOp .lss 3 (.tmp 62) (.tmp 61) 3) 4] false) (.seq (.cond (.tmp 63) .skip (.exit 2)) (.seq (.block 3 (.region 17 #[q 64 (.move (.tmp 0)) 214, q 65 (.load 176 (.tmp 7)) 176, q 66 (.move (.tmp 8)) 3, q 67 (cl 156 #[.tmp 64, .tmp 65, .tmp 66] #[214, 176, 3]) 3, q 8 (.assign (.tmp 67)) 3] false)) (.region 18 #[q 68 (.binOp .add 3 (.tmp 62) (ik 1) 3) 3, q 62 (.move (.tmp 68)) 3] false))))))) (.seq (.region 19 #[q 69 (.move (.tmp 8)) 3, q 6 (.assign (.tmp 69)) 3] false) .ret))))))
theorem s177 : Tryz.f177.body.map (slim cfg) = some g177 := by kernel_rfl
theorem may_step (kind : Int) (no sf : Bool) (sp : List Sg) (least most : Int) (kf : Bool) (kids : List Nd) (hg : Good (.mk kind no sf sp least most kf kids)) (n : Nat) (hd : Dep n (.mk kind no sf sp least most kf kids)) (d : Nat) (hdn : d + n ≤ 64)
   (ih : ∀ x ∈ kids, ∀ n' d', Dep n' x → d' + n' ≤ 64 → ∀ (prot : Nat) (H : Heap), prot ≤ H.length → aLim cfg prot 154 [encN x, .int .i64 (d' : Nat)] H = some (.int .i64 0, none))
   (prot : Nat) (H : Heap) (hp : prot ≤ H.length) : aLim cfg prot 154 [encN (.mk kind no sf sp least most kf kids), .int .i64 (d : Nat)] H = some (.int .i64 0, none) := by
 have hsnap : snap H [encN (.mk kind no sf sp least most kf kids), .int .i64 (d : Nat)] = some ([encN (.mk kind no sf sp least most kf kids), .int .i64 (d : Nat)], false) := by rw [encN_eq]; rfl
 cases hg with
 | mk hgk hk hl =>
 have hs1 := slF_leaf sf encG sp
 have ht1 := slF_leaf kf encN kids
 have hsl := slF_sl kf encN kids
 have hkl := fun K : Heap => hsl.len (P := Tryz.prog) (H := K) Tryz.underlying174
 have d0 : decide ((64 : Int) < (d : Nat)) = false := decide_eq_false (by omega)
 have hg0 : hget (H ++ [Blk.cells 0 [.int .i64 kind, .bool no, slF sf encG sp, .int .i64 least, .int .i64 most, slF kf encN kids]]) H.length 0 = some [.int .i64 kind, .bool no, slF sf encG sp, .int .i64 least, .int .i64 most, slF kf encN kids] := by rw [hget_new rfl, if_pos rfl]
 refine pure_slim rfl (by kernel_rfl) Tryz.func154 s154 hp hsnap (by simp [Tryz.f154]) fun fr hlen h => ?_
 simp only [Has, Nat.zero_add] at h
 obtain ⟨a0, a1, -⟩ := h
 simp only [Tryz.f154] at hlen ⊢
 unfold g154
 rw [encN_eq] at a0
 unfold AV.leaf at hs1 ht1
 have e10 : decide ((1 : Int) = 0) = false := rfl
 have e20 : decide ((2 : Int) = 0) = false := rfl
 have e30 : decide ((3 : Int) = 0) = false := rfl
 have e40 : decide ((4 : Int) = 0) = false := rfl
 have e21 : decide ((2 : Int) = 1) = false := rfl
 have e31 : decide ((3 : Int) = 1) = false := rfl
 have e41 : decide ((4 : Int) = 1) = false := rfl
 have e24 : decide ((2 : Int) = 4) = false := rfl
 have e34 : decide ((3 : Int) = 4) = false := rfl
 have e32 : decide ((3 : Int) = 2) = false := rfl
 have ez : decide (¬ (0 : Int) = 0) = false := rfl
 have hww : ∀ i : Nat, i < kids.length → IntKind.i64.wrap ((i : Int) + 1) = ((i + 1 : Nat) : Int) := fun i hi => by rw [wrap64 (by omega) (by omega)]; simp
 have hwd : IntKind.i64.wrap ((d : Int) + 1) = ((d + 1 : Nat) : Int) := by rw [wrap64 (by omega) (by omega)]; simp
 have hkd : ∀ x ∈ kids, ∃ n', Dep n' x ∧ d + 1 + n' ≤ 64 := fun x hx => by
   cases hd with
   | leaf => cases hx
   | mk h => exact ⟨_, h x hx, by omega⟩
 rcases hk with rfl | rfl | hk
 · simp only [w9, AV.cells, AV.leaf, reduceEqDiff, reduceLT, reduceAdd, reduceLeDiff, reduceCtorEq, reduceMul, reduceMod, u154, hlen, a0, a1, hs1, ht1, d0, hg0, none_beq]
   exact Fin_pure (l := [.int .i64 0]) (by simp [w9, AV.cells, AV.leaf, reduceEqDiff, reduceLT, reduceAdd, reduceLeDiff, reduceCtorEq, reduceMul, reduceMod, u154, aResults, aResult, hlen]) (.still rfl) (by simp)
 · simp only [w9, AV.cells, AV.leaf, reduceEqDiff, reduceLT, reduceAdd, reduceLeDiff, reduceCtorEq, reduceMul, reduceMod, u154, hlen, a0, a1, hs1, ht1, d0, hg0, e10, none_beq]
   exact Fin_pure (l := [.int .i64 0]) (by simp [w9, AV.cells, AV.leaf, reduceEqDiff, reduceLT, reduceAdd, reduceLeDiff, reduceCtorEq, reduceMul, reduceMod, u154, aResults, aResult, hlen]) (.still rfl) (by simp)
 have hk' : kind = 2 ∨ kind = 3 ∨ (kind = 4 ∧ kids.length = 1 ∧ 0 ≤ least ∧ least ≤ 16 ∧ most = -1) ∨ (kind = 4 ∧ kids.length = 1 ∧ 0 ≤ least ∧ least ≤ 16 ∧ least ≤ most ∧ most ≤ 16) := by omega
 clear hk
 rcases hk' with rfl | rfl | ⟨rfl, hk1, hk2, hk3, rfl⟩ | ⟨rfl, hk1, hk2, hk3, hk5, hk6⟩
 simp only [w9, AV.cells, AV.leaf, reduceEqDiff, reduceLT, reduceAdd, reduceLeDiff, reduceCtorEq, reduceMul, reduceMod, u154, hlen, a0, a1, hs1, ht1, d0, hg0, hkl, e20, e21, e24, none_beq]
 rotate_left
 simp only [w9, AV.cells, AV.leaf, reduceEqDiff, reduceLT, reduceAdd, reduceLeDiff, reduceCtorEq, reduceMul, reduceMod, u154, hlen, a0, a1, hs1, ht1, d0, hg0, hkl, e30, e31, e34, e32, none_beq]
 rotate_left
 have c1 : decide (¬ ((kids.length : Nat) : Int) = 1) = false := decide_eq_false (by omega)
 have c2 : decide (least < 0) = false := decide_eq_false (by omega)
 have c3 : decide (16 < least) = false := decide_eq_false (by omega)
 have c4 : decide (¬ (-1 : Int) = -1) = false := rfl
 simp only [w9, AV.cells, AV.leaf, reduceEqDiff, reduceLT, reduceAdd, reduceLeDiff, reduceCtorEq, reduceMul, reduceMod, u154, hlen, a0, a1, hs1, ht1, d0, hg0, hkl, e40, e41, c1, c2, c3, c4, none_beq]
 rotate_left
 have c1 : decide (¬ ((kids.length : Nat) : Int) = 1) = false := decide_eq_false (by omega)
 have c2 : decide (least < 0) = false := decide_eq_false (by omega)
 have c3 : decide (16 < least) = false := decide_eq_false (by omega)
 have c4 : decide (¬ most = -1) = true := decide_eq_true (by omega)
 have c5 : decide (most < least) = false := decide_eq_false (by omega)
 have c6 : decide (16 < most) = false := decide_eq_false (by omega)
 simp only [w9, AV.cells, AV.leaf, reduceEqDiff, reduceLT, reduceAdd, reduceLeDiff, reduceCtorEq, reduceMul, reduceMod, u154, hlen, a0, a1, hs1, ht1, d0, hg0, hkl, e40, e41, c1, c2, c3, c4, c5, c6, none_beq]
 rotate_left
 all_goals
   refine loop_rule (fun m fr H' => ∃ (i : Nat), m = kids.length - i ∧ i ≤ kids.length ∧ fr.length = 66 ∧ fget fr 1 = .int .i64 (d : Nat) ∧ fget fr 52 = slF kf encN kids ∧ fget fr 53 = .int .i64 kids.length ∧ fget fr 54 = .int .i64 i ∧ H.length ≤ H'.length) ?_ kids.length _ _ ⟨0, by simp [w9, AV.cells, AV.leaf, reduceEqDiff, reduceLT, reduceAdd, reduceLeDiff, reduceCtorEq, reduceMul, reduceMod, u154, hlen, a0, a1]⟩
   clear a0 a1 hlen fr hg0
   rintro m fr H' ⟨i, rfl, hi, hlen, a1, a52, a53, a54, hH⟩ ihl
   simp only [w9, AV.cells, AV.leaf, reduceEqDiff, reduceLT, reduceAdd, reduceLeDiff, reduceCtorEq, reduceMul, reduceMod, u154, hlen, a1, a52, a53, a54]
   refine RC_split (fun h => ?_) (fun h => ?_)
   · have hlt : i < kids.length := by simpa using h
     have e1 := hsl.at (P := Tryz.prog) (k := .i64) (i := i) Tryz.underlying174 sz176 encN_len hlt
     obtain ⟨n', hn', hdn'⟩ := hkd kids[i] (List.getElem_mem hlt)
     have n1 := fun (K : Heap) (hK : H.length ≤ K.length) => ih kids[i] (List.getElem_mem hlt) n' (d + 1) hn' hdn' H.length K hK
     have hww := hww i hlt
     generalize kids[i] = x at *
     obtain ⟨k', no', s, x1, x2, t, hx, hs, ht, -, -⟩ := encN_sh x
     rw [hx] at e1 n1
     simp only [AV.cells] at e1
     unfold AV.leaf at hs ht
     have hle2 : ∀ Z, H.length ≤ (H' ++ [Blk.cells 0 Z]).length := fun Z => by simp; omega
     simp only [w9, AV.cells, AV.leaf, reduceEqDiff, reduceLT, reduceAdd, reduceLeDiff, reduceCtorEq, reduceMul, reduceMod, u154, hlen, a1, a52, a53, a54, e1, hH, hs, ht, hle2, hwd, n1, ez, hww]
     refine ihl _ _ (kids.length - (i + 1)) (by omega) ⟨i + 1, rfl, hlt, ?_⟩
     simp [w9, AV.cells, AV.leaf, reduceEqDiff, reduceLT, reduceAdd, reduceLeDiff, reduceCtorEq, reduceMul, reduceMod, u154, hlen, a1, a52, a53, a54]
     omega
   · simp only [w9, AV.cells, AV.leaf, reduceEqDiff, reduceLT, reduceAdd, reduceLeDiff, reduceCtorEq, reduceMul, reduceMod, u154, hlen, a1, a52, a53, a54]
     exact Fin_pure (l := [.int .i64 0]) (by simp [w9, AV.cells, AV.leaf, reduceEqDiff, reduceLT, reduceAdd, reduceLeDiff, reduceCtorEq, reduceMul, reduceMod, u154, aResults, aResult, hlen]) (.still rfl) (by simp)
theorem may_ok : ∀ (x : Nd), Good x → ∀ (n : Nat), Dep n x → ∀ (d : Nat), d + n ≤ 64 → ∀ (prot : Nat) (H : Heap), prot ≤ H.length → aLim cfg prot 154 [encN x, .int .i64 (d : Nat)] H = some (.int .i64 0, none)
 | .mk kind no sf sp least most kf kids, hg, n, hd, d, hdn => may_step kind no sf sp least most kf kids hg n hd d hdn fun x hx n' d' h1 h2 => may_ok x (by cases hg with | mk h _ _ => exact h x hx) n' h1 d' h2
termination_by x => SizeOf.sizeOf x
decreasing_by have := List.sizeOf_lt_of_mem hx; simp; omega
end Go.Proofs.YtnipaiklandliaaGreatDoor
namespace Go.Proofs.YtnipaiklandliaaGreatDoor
open Go Go.Abs AbsSeat Ty
open Nat (reduceEqDiff reduceLT reduceAdd reduceLeDiff reduceMul reduceMod)
def LikeS (base : Nat) (H : Heap) (h : HS) (s : St) : Prop := h.kind = s.kind ∧ h.no = s.no ∧ h.one = s.one ∧ h.two = s.two ∧ Row encG 2 true base H h.sv s.sp ∧ (h.sv = .nilS ∨ s.sp ≠ [])
inductive Lks (base : Nat) (H : Heap) : List HS → List St → Prop where
 | nil : Lks base H [] []
 | cons {h : HS} {s : St} {hl : List HS} {l : List St} (a : LikeS base H h s) (b : Lks base H hl l) : Lks base H (h :: hl) (s :: l)
theorem Lks.length {base : Nat} {H : Heap} {hl : List HS} {l : List St} (h : Lks base H hl l) : hl.length = l.length := by
 induction h with
 | nil => rfl
 | cons _ _ ih => simp [ih]
theorem LikeS.keep {base b rb : Nat} {H K : Heap} {h : HS} {s : St} (f : Frm H K b rb) (hb : b < base) (hr : rb < base) (a : LikeS base H h s) : LikeS base K h s := by
 obtain ⟨a1, a2, a3, a4, a5, a6⟩ := a
 exact ⟨a1, a2, a3, a4, f.row hb hr a5, a6⟩
theorem Lks.keep {base b rb : Nat} {H K : Heap} (f : Frm H K b rb) (hb : b < base) (hr : rb < base) {hl : List HS} {l : List St} (h : Lks base H hl l) : Lks base K hl l := by
 induction h with
 | nil => exact .nil
 | cons a _ ih => exact .cons (a.keep f hb hr) ih
theorem Lks.snoc {base : Nat} {H : Heap} {hl : List HS} {l : List St} (h : Lks base H hl l) {x : HS} {s : St} (a : LikeS base H x s) : Lks base H (hl ++ [x]) (l ++ [s]) := by
 induction h with
 | nil => exact .cons a .nil
 | cons a' _ ih => exact .cons a' ih
def MkAt (H : Heap) (b rb : Nat) (l : List St) : Prop := ∃ ver hl, hget H b 0 = some [.bs ⟨rb, ver, 0, l.length, 0, 5, true, false⟩] ∧ hget H rb ver = some (cellsOf encH hl) ∧ Lks (rb + 1) H hl l ∧ ver % 4 = 0
theorem state_ok (l : List St) (x : HS) (s : St) (hl : l.length < 1000000) (b rb prot : Nat) (H : Heap) (hp : prot ≤ b) (hp2 : prot ≤ rb) (hb : b ≠ rb) (hb1 : b ≤ rb) (hm : MkAt H b rb l) (hx : LikeS (rb + 1) H x s) :
   ∃ H', (MkAt H' b rb (l ++ [s]) ∧ Frm H H' b rb) ∧ aLim cfg prot 155 [.ptr b 0 0, encH x] H = some (.int .i64 (l.length : Nat), some H') := by
 obtain ⟨ver, hls, g1, g2, hlk, hv4⟩ := hm
 have hll := hlk.length
 have hxl := x.lf
 have hlb := hget_lt g1
 have hlr := hget_lt g2
 have hbox : hget (H ++ [Blk.cells 0 (encH x).cells]) H.length 0 = some (encH x).cells := by rw [hget_new rfl, if_pos rfl]
 have g1' := hget_mono g1 [Blk.cells 0 (encH x).cells]
 have g2' := hget_mono g2 [Blk.cells 0 (encH x).cells]
 have f0 := Frm.more H b rb [Blk.cells 0 (encH x).cells]
 have hlk' := hlk.keep f0 (by omega) (by omega)
 have hx' := hx.keep f0 (by omega) (by omega)
 have hl1 : (H ++ [Blk.cells 0 (encH x).cells]).length = H.length + 1 := by simp
 have hw1 : IntKind.i64.wrap (((l.length + 1 : Nat) : Int) - 1) = (l.length : Nat) := by rw [wrap64 (by omega) (by omega)]; simp
 have f0 : Frm H (H ++ [Blk.cells 0 (encH x).cells] ++ [Blk.cells 0 (encH x).cells]) b rb := (Frm.more H b rb _).trans (Frm.more _ b rb _)
 have g1' := hget_mono (hget_mono g1 [Blk.cells 0 (encH x).cells]) [Blk.cells 0 (encH x).cells]
 have g2' := hget_mono (hget_mono g2 [Blk.cells 0 (encH x).cells]) [Blk.cells 0 (encH x).cells]
 have hlit := litH x (H ++ [Blk.cells 0 (encH x).cells])
 have hel := elemH x (H ++ [Blk.cells 0 (encH x).cells])
 have happ := encH_L.app (prot := prot) (l := hls) (m := [x]) rowSt hxtSt g2' hv4 hel (by simp) (by simp [roomy]; omega) hp2
 rw [hll, hl1] at happ
 rw [hl1] at hlit
 have hll1 : hget (H ++ [Blk.cells 0 (encH x).cells]) b 0 = some [.bs ⟨rb, ver, 0, l.length, 0, 5, true, false⟩] := hget_mono g1 _
 generalize hK : H ++ [Blk.cells 0 (encH x).cells] ++ [Blk.cells 0 (encH x).cells] = K at *
 have hlk' := (hlk.keep (f0.trans (Frm.set2 K b rb (.cells (ver + 4) (cellsOf encH (hls ++ [x]))))) (by omega) (by omega))
 have hx' := (hx.keep (f0.trans (Frm.set2 K b rb (.cells (ver + 4) (cellsOf encH (hls ++ [x]))))) (by omega) (by omega))
 have g3 : hget (K.set rb (.cells (ver + 4) (cellsOf encH (hls ++ [x])))) b 0 = some [.bs ⟨rb, ver, 0, l.length, 0, 5, true, false⟩] := by rw [hget_set_ne hb]; exact g1'
 have g4 : hget (K.set rb (.cells (ver + 4) (cellsOf encH (hls ++ [x])))) rb (ver + 4) = some (cellsOf encH (hls ++ [x])) := by rw [hget_set_same (hget_lt g2'), if_pos rfl]
 have hput1 : hput prot (K.set rb (.cells (ver + 4) (cellsOf encH (hls ++ [x])))) b 0 0 [.bs ⟨rb, ver + 4, 0, l.length + 1, 0, 5, true, false⟩] = some ((K.set rb (.cells (ver + 4) (cellsOf encH (hls ++ [x])))).set b (.cells 0 [.bs ⟨rb, ver + 4, 0, l.length + 1, 0, 5, true, false⟩])) := by
   rw [hput_eq g3 hp (by simp) (by simp [AV.leaf])]; rfl
 have g5 : hget ((K.set rb (.cells (ver + 4) (cellsOf encH (hls ++ [x])))).set b (.cells 0 [.bs ⟨rb, ver + 4, 0, l.length + 1, 0, 5, true, false⟩])) b 0 = some [.bs ⟨rb, ver + 4, 0, l.length + 1, 0, 5, true, false⟩] := hget_set_at (hget_lt g3)
 have hbb : hget (H ++ [Blk.cells 0 (encH x).cells]) H.length 0 = some (encH x).cells := by rw [hget_new rfl, if_pos rfl]
 simp only [encH, AV.cells] at hlit happ hK hbb hll1 hl1
 unfold AV.leaf at hxl
 refine raw_slimE rfl (by kernel_rfl) (by kernel_rfl) (by kernel_rfl) Tryz.func155 s155 (by simp [Tryz.f155]) fun fr hlen h => ?_
 simp only [Has, Nat.zero_add] at h
 obtain ⟨a0, a1, -⟩ := h
 simp only [Tryz.f155] at hlen ⊢
 unfold g155
 simp only [w9, AV.cells, AV.leaf, reduceEqDiff, reduceLT, reduceAdd, reduceLeDiff, reduceCtorEq, reduceMul, reduceMod, u154, hlen, a0, a1, encH, hxl, hll1, hl1, hbb, hlit, hK, happ, hput1]
 refine ex_draw ?_ ?_
 · rw [show befs [] _ = [0, 0, 2, 6, 14, 0, 32, 126, 255, 511, 1023] from by kernel_rfl]
   simp [w9, AV.cells, AV.leaf, reduceEqDiff, reduceLT, reduceAdd, reduceLeDiff, reduceCtorEq, reduceMul, reduceMod, u154, hlen, drawOk, chained, mayAt, sameAt, bound, List.range_succ, Nat.testBit, a0, a1, encH, hxl, hll1, hl1, hbb, hlit, hK, happ, hput1, g1', avbeq_refl]
 simp only [w9, AV.cells, AV.leaf, reduceEqDiff, reduceLT, reduceAdd, reduceLeDiff, reduceCtorEq, reduceMul, reduceMod, u154, hlen, a0, g5, lenSt, hw1]
 refine ⟨_, ⟨⟨ver + 4, hls ++ [x], ?_, ?_, ?_, by omega⟩, ?_⟩, Fin_raw (l := [.int .i64 (l.length : Nat)]) (by simp [w9, AV.cells, AV.leaf, reduceEqDiff, reduceLT, reduceAdd, reduceLeDiff, reduceCtorEq, reduceMul, reduceMod, u154, hlen, aResults, aResult])⟩
 · rw [List.length_append]; exact g5
 · rw [hget_set_ne (Ne.symm hb)]; exact g4
 · exact (hlk'.snoc hx').keep (Frm.set1 _ b rb _) (by omega) (by omega)
 · exact (f0.trans (Frm.set2 _ _ _ _)).trans (Frm.set1 _ _ _ _)
end Go.Proofs.YtnipaiklandliaaGreatDoor
namespace Go.Proofs.YtnipaiklandliaaGreatDoor
open Go Go.Abs AbsSeat Ty
open Nat (reduceEqDiff reduceLT reduceAdd reduceLeDiff reduceMul reduceMod)
def repK (f : List St → Int → List St × Int) : Nat → List St → Int → List St × Int
 | 0, l, a => (l, a)
 | n + 1, l, a => repK f n (f l a).1 (f l a).2
def optK (f : List St → Int → List St × Int) (to : Int) : Nat → List St → Int → List St × Int
 | 0, l, a => (l, a)
 | n + 1, l, a => optK f to n ((f l a).1 ++ [⟨2, false, [], (f l a).2, to⟩]) ((f l a).1.length : Nat)
def setOne : List St → Nat → Int → List St
 | [], _, _ => []
 | s :: r, 0, v => ⟨s.kind, s.no, s.sp, v, s.two⟩ :: r
 | s :: r, i + 1, v => s :: setOne r i v
theorem setOne_len : ∀ (l : List St) (i : Nat) (v : Int), (setOne l i v).length = l.length
 | [], _, _ => rfl
 | _ :: _, 0, _ => rfl
 | s :: r, i + 1, v => by rw [setOne, List.length_cons, setOne_len r i v, List.length_cons]
def repS (f : List St → Int → List St × Int) (least most : Int) (l : List St) (to : Int) : List St × Int :=
 if most = -1 then
   if least = 0 then (setOne (f (l ++ [⟨2, false, [], 0, to⟩]) (l.length : Nat)).1 l.length (f (l ++ [⟨2, false, [], 0, to⟩]) (l.length : Nat)).2, (l.length : Nat))
   else repK f (least - 1).toNat (setOne (f (l ++ [⟨2, false, [], 0, to⟩]) (l.length : Nat)).1 l.length (f (l ++ [⟨2, false, [], 0, to⟩]) (l.length : Nat)).2) (f (l ++ [⟨2, false, [], 0, to⟩]) (l.length : Nat)).2
 else repK f least.toNat (optK f to (most - least).toNat l to).1 (optK f to (most - least).toNat l to).2
mutual
def mkN : Nd → List St → Int → List St × Int
 | .mk kind no _ sp least most _ kids, l, to =>
   if kind = 1 then (l ++ [⟨1, no, sp, to, 0⟩], (l.length : Nat))
   else if kind = 2 then mkC kids l to
   else if kind = 3 then mkE kids l to
   else if kind = 4 then
     match kids with
     | [x] => repS (mkN x) least most l to
     | _ => (l, to)
   else (l, to)
def mkC : List Nd → List St → Int → List St × Int
 | [], l, to => (l, to)
 | x :: r, l, to => mkN x (mkC r l to).1 (mkC r l to).2
def mkE : List Nd → List St → Int → List St × Int
 | [], l, to => (l, to)
 | x :: r, l, to => if r.isEmpty = true then mkN x (mkE r l to).1 to else ((mkN x (mkE r l to).1 to).1 ++ [⟨2, false, [], (mkN x (mkE r l to).1 to).2, (mkE r l to).2⟩], ((mkN x (mkE r l to).1 to).1.length : Nat))
end
mutual
def cnt : Nd → Nat
 | .mk kind _ _ _ least most _ kids =>
   if kind = 1 then 1
   else if kind = 2 then cntL kids
   else if kind = 3 then cntL kids + (kids.length - 1)
   else if kind = 4 then
     match kids with
     | [x] => if most = -1 then 1 + (max least 1).toNat * cnt x else (most - least).toNat * (cnt x + 1) + least.toNat * cnt x
     | _ => 0
   else 0
def cntL : List Nd → Nat
 | [] => 0
 | x :: r => cnt x + cntL r
end
theorem repK_len {f : List St → Int → List St × Int} {c : Nat} (hf : ∀ l a, (f l a).1.length = l.length + c) : ∀ (n : Nat) (l : List St) (a : Int), (repK f n l a).1.length = l.length + n * c
 | 0, l, a => by rw [repK]; simp
 | n + 1, l, a => by rw [repK, repK_len hf n, hf, Nat.succ_mul]; omega
theorem optK_len {f : List St → Int → List St × Int} {to : Int} {c : Nat} (hf : ∀ l a, (f l a).1.length = l.length + c) : ∀ (n : Nat) (l : List St) (a : Int), (optK f to n l a).1.length = l.length + n * (c + 1)
 | 0, l, a => by rw [optK]; simp
 | n + 1, l, a => by rw [optK, optK_len hf n, List.length_append, hf, Nat.succ_mul, List.length_singleton]; omega
theorem repS_len {f : List St → Int → List St × Int} {c : Nat} (hf : ∀ l a, (f l a).1.length = l.length + c) (least most : Int) (h0 : 0 ≤ least) (l : List St) (to : Int) :
   (repS f least most l to).1.length = l.length + (if most = -1 then 1 + (max least 1).toNat * c else (most - least).toNat * (c + 1) + least.toNat * c) := by
 unfold repS
 by_cases h1 : most = -1
 · rw [if_pos h1, if_pos h1]
   by_cases h2 : least = 0
   · subst h2
     rw [if_pos rfl, setOne_len, hf, List.length_append, List.length_singleton]
     have : (max (0 : Int) 1).toNat = 1 := rfl
     rw [this]; omega
   · rw [if_neg h2, repK_len hf, setOne_len, hf, List.length_append, List.length_singleton]
     have e : (max least 1).toNat = (least - 1).toNat + 1 := by omega
     rw [e, Nat.succ_mul]; omega
 · rw [if_neg h1, if_neg h1, repK_len hf, optK_len hf]; omega
inductive Fair : Nd → Prop where
 | mk {kind : Int} {no sf : Bool} {sp : List Sg} {least most : Int} {kf : Bool} {kids : List Nd} (h : ∀ x ∈ kids, Fair x) (h4 : kind = 4 → 0 ≤ least) : Fair (.mk kind no sf sp least most kf kids)
theorem Good.fair : ∀ {x : Nd}, Good x → Fair x
 | .mk kind no sf sp least most kf kids, hg => .mk (fun x hx => Good.fair (x := x) (by cases hg with | mk h _ _ => exact h x hx)) (fun h4 => by cases hg with | mk _ hk _ => omega)
termination_by x => SizeOf.sizeOf x
decreasing_by have := List.sizeOf_lt_of_mem hx; simp; omega
mutual
theorem mkN_len : ∀ (x : Nd), Fair x → ∀ (l : List St) (to : Int), (mkN x l to).1.length = l.length + cnt x
 | .mk kind no sf sp least most kf kids, hf, l, to => by
   cases hf with
   | mk hk h4 =>
   rw [mkN.eq_def, cnt.eq_def]
   dsimp only
   by_cases h1 : kind = 1
   · rw [if_pos h1, if_pos h1]; simp
   · rw [if_neg h1, if_neg h1]
     by_cases h2 : kind = 2
     · rw [if_pos h2, if_pos h2]; exact mkC_len kids hk l to
     · rw [if_neg h2, if_neg h2]
       by_cases h3 : kind = 3
       · rw [if_pos h3, if_pos h3]; exact mkE_len kids hk l to
       · rw [if_neg h3, if_neg h3]
         by_cases h5 : kind = 4
         · rw [if_pos h5, if_pos h5]
           match kids, hk with
           | [], _ => simp
           | [x], hk =>
             dsimp only
             exact repS_len (mkN_len x (hk x (by simp))) least most (h4 h5) l to
           | x :: y :: r, _ => simp
         · rw [if_neg h5, if_neg h5]; simp
theorem mkC_len : ∀ (kids : List Nd), (∀ x ∈ kids, Fair x) → ∀ (l : List St) (to : Int), (mkC kids l to).1.length = l.length + cntL kids
 | [], _, l, to => by rw [mkC, cntL]; rfl
 | x :: r, hk, l, to => by
   rw [mkC, cntL, mkN_len x (hk x (by simp)), mkC_len r (fun y hy => hk y (by simp [hy])) l to]; omega
theorem mkE_len : ∀ (kids : List Nd), (∀ x ∈ kids, Fair x) → ∀ (l : List St) (to : Int), (mkE kids l to).1.length = l.length + (cntL kids + (kids.length - 1))
 | [], _, l, to => by rw [mkE, cntL]; rfl
 | x :: r, hk, l, to => by
   rw [mkE, cntL]
   have h1 := mkN_len x (hk x (by simp)) (mkE r l to).1 to
   have h2 := mkE_len r (fun y hy => hk y (by simp [hy])) l to
   cases r with
   | nil => simp only [List.isEmpty_nil, if_true, h1, h2, List.length_cons, List.length_nil]; omega
   | cons y r =>
     simp only [List.isEmpty_cons, Bool.false_eq_true, if_false, List.length_append, h1, h2, List.length_cons, List.length_nil]; omega
end
theorem cut_lt {n : Nat} (h : cutN n < 2147483647) : cutN n = n := by unfold cutN at h ⊢; omega
theorem sizeL_ge (e : Bool) : ∀ (l : List Nd) (f : Bool) (a : Nat), sizeL e f a l < 2147483647 → a ≤ sizeL e f a l
 | [], f, a, h => by rw [sizeL]; exact Nat.le_refl _
 | x :: r, f, a, h => by
   rw [sizeL] at h ⊢
   have := sizeL_ge e r _ _ h
   by_cases h1 : (e && !f) = true
   · rw [if_pos h1] at this h ⊢
     have e1 := cut_lt (Nat.lt_of_le_of_lt this h)
     have e2 : cutN (a + sizeN x) < 2147483647 := by omega
     have e2 := cut_lt e2
     omega
   · rw [if_neg h1] at this h ⊢
     have e1 := cut_lt (Nat.lt_of_le_of_lt this h)
     omega
theorem sizeL_sum (e : Bool) : ∀ (l : List Nd) (f : Bool) (a : Nat), sizeL e f a l < 2147483647 → (∀ x ∈ l, sizeN x < 2147483647 → cnt x = sizeN x) → sizeL e f a l = a + cntL l + (if e = true then l.length - (if f = true then 1 else 0) else 0)
 | [], f, a, h, _ => by rw [sizeL, cntL]; simp
 | x :: r, f, a, h, hx => by
   rw [sizeL] at h ⊢
   have h0 := sizeL_ge e r _ _ h
   have ih := sizeL_sum e r false _ h (fun y hy => hx y (by simp [hy]))
   rw [cntL]
   have hc := hx x (by simp)
   rw [ih]
   cases e with
   | false =>
     simp only [Bool.false_and, Bool.false_eq_true, if_false] at h h0 ih ⊢
     have e1 := cut_lt (Nat.lt_of_le_of_lt h0 h)
     have := hc (by omega)
     omega
   | true =>
     cases f with
     | true =>
       simp only [Bool.not_true, Bool.and_false, Bool.false_eq_true, if_false, if_true, List.length_cons] at h h0 ih ⊢
       have e1 := cut_lt (Nat.lt_of_le_of_lt h0 h)
       have := hc (by omega)
       omega
     | false =>
       simp only [Bool.not_false, Bool.and_true, Bool.false_eq_true, if_false, if_true, List.length_cons] at h h0 ih ⊢
       have e1 := cut_lt (Nat.lt_of_le_of_lt h0 h)
       have e2 : cutN (a + sizeN x) < 2147483647 := by omega
       have e2 := cut_lt e2
       have := hc (by omega)
       omega
theorem cnt_size : ∀ (x : Nd), Good x → sizeN x < 2147483647 → cnt x = sizeN x
 | .mk kind no sf sp least most kf kids, hg, h => by
   have hx : ∀ x ∈ kids, sizeN x < 2147483647 → cnt x = sizeN x := fun x hx => cnt_size x (by cases hg with | mk h _ _ => exact h x hx)
   cases hg with
   | mk hk hkd hl =>
   rw [sizeN.eq_def] at h ⊢
   rw [cnt.eq_def]
   dsimp only at h ⊢
   by_cases h1 : kind = 1
   · rw [if_pos h1, if_pos h1]
   · rw [if_neg h1] at h ⊢
     rw [if_neg h1]
     by_cases h2 : kind = 2
     · subst h2
       rw [if_pos (show (2 : Int) = 2 ∨ (2 : Int) = 3 from .inl rfl)] at h ⊢
       rw [if_pos rfl]
       have := sizeL_sum _ kids true 0 h hx
       simp at this h ⊢
       omega
     · rw [if_neg h2]
       by_cases h3 : kind = 3
       · subst h3
         rw [if_pos (show (3 : Int) = 2 ∨ (3 : Int) = 3 from .inr rfl)] at h ⊢
         rw [if_pos rfl]
         have := sizeL_sum _ kids true 0 h hx
         simp at this h ⊢
         omega
       · rw [if_neg (show ¬ (kind = 2 ∨ kind = 3) by omega)] at h ⊢
         rw [if_neg h3]
         by_cases h4 : kind = 4
         · rw [if_pos h4] at h ⊢
           rw [if_pos h4]
           have hk4 : kids.length = 1 ∧ 0 ≤ least ∧ least ≤ 16 ∧ (most = -1 ∨ (least ≤ most ∧ most ≤ 16)) := by omega
           match kids, hk4 with
           | [x], ⟨_, hk2, hk3, hk5⟩ =>
             dsimp only at h ⊢
             have hx := hx x (by simp)
             by_cases h5 : most = -1
             · rw [if_pos h5] at h ⊢
               rw [if_pos h5]
               have e1 := cut_lt h
               have e2 : cutN ((max least 1).toNat * sizeN x) < 2147483647 := by omega
               have e2 := cut_lt e2
               have e3 : sizeN x ≤ (max least 1).toNat * sizeN x := Nat.le_mul_of_pos_left _ (by omega)
               rw [hx (by omega)]
               omega
             · rw [if_neg h5] at h ⊢
               rw [if_neg h5]
               have e1 := cut_lt h
               have e2 : cutN (least.toNat * sizeN x) < 2147483647 := by omega
               have e2 := cut_lt e2
               have e3 : cutN ((most - least).toNat * (sizeN x + 1)) < 2147483647 := by omega
               have e3 := cut_lt e3
               rw [e1, e2, e3]
               by_cases h6 : sizeN x < 2147483647
               · rw [hx h6]; omega
               · have h7 := sizeN_le x
                 have h8 : sizeN x = 2147483647 := by omega
                 rw [h8] at e2 e3 h e1
                 have : least.toNat = 0 := by omega
                 have h9 : (most - least).toNat = 0 := by omega
                 rw [this, h9]; simp
         · rw [if_neg h4, if_neg h4]
termination_by x => SizeOf.sizeOf x
decreasing_by have := List.sizeOf_lt_of_mem hx; simp; omega
end Go.Proofs.YtnipaiklandliaaGreatDoor
namespace Go.Proofs.YtnipaiklandliaaGreatDoor
open Go Go.Abs AbsSeat Ty
open Nat (reduceEqDiff reduceLT reduceAdd reduceLeDiff reduceMul reduceMod)
def MkOk (x : Nd) : Prop := ∀ (l : List St) (to : Int) (b rb prot : Nat) (H : Heap), l.length + cnt x ≤ 100000 → prot ≤ b → b < rb → MkAt H b rb l →
 ∃ H', (MkAt H' b rb (mkN x l to).1 ∧ Frm H H' b rb) ∧ aLim cfg prot 156 [.ptr b 0 0, encN x, .int .i64 to] H = some (.int .i64 (mkN x l to).2, some H')
theorem cntL_drop : ∀ (l : List Nd) (k : Nat), cntL (l.drop k) ≤ cntL l
 | [], k => by simp [cntL]
 | x :: r, 0 => Nat.le_refl _
 | x :: r, k + 1 => by rw [List.drop_succ_cons, cntL]; have := cntL_drop r k; omega
theorem split_ok (l : List St) (one two : Int) (hl : l.length < 1000000) (b rb prot : Nat) (H : Heap) (hp : prot ≤ b) (hb : b < rb) (hm : MkAt H b rb l) :
   ∃ H', (MkAt H' b rb (l ++ [⟨2, false, [], one, two⟩]) ∧ Frm H H' b rb) ∧ aLim cfg prot 155 [.ptr b 0 0, .agg [.int .i64 2, .bool false, .nilS, .int .i64 one, .int .i64 two]] H = some (.int .i64 (l.length : Nat), some H') :=
 state_ok l ⟨2, false, .nilS, rfl, one, two⟩ ⟨2, false, [], one, two⟩ hl b rb prot H hp (by omega) (by omega) (by omega) hm ⟨rfl, rfl, rfl, rfl, Row.nil, .inl rfl⟩
theorem wrap_dec {k : Nat} (h : k ≤ 1000000) : IntKind.i64.wrap ((k : Int) - 1) = (k : Int) - 1 := wrap64 (by omega) (by omega)
theorem mkeither_ok (kids : List Nd) (hk : ∀ x ∈ kids, MkOk x) (hf : ∀ x ∈ kids, Fair x) (v : AV) (hv : Sl encN v kids) (hkl : kids.length ≤ 1000000) (l : List St) (to : Int) (b rb prot : Nat) (H : Heap) (hl : l.length + (cntL kids + (kids.length - 1)) ≤ 100000) (hp : prot ≤ b) (hb : b < rb) (hm : MkAt H b rb l) :
   ∃ H', (MkAt H' b rb (mkE kids l to).1 ∧ Frm H H' b rb) ∧ aLim cfg prot 176 [.ptr b 0 0, v, .int .i64 to] H = some (.int .i64 (mkE kids l to).2, some H') := by
 have hvl := fun K : Heap => hv.len (P := Tryz.prog) (H := K) Tryz.underlying174
 have hw0 := wrap_dec hkl
 refine raw_slimE rfl (by kernel_rfl) (by kernel_rfl) (by kernel_rfl) Tryz.func176 s176 (by simp [Tryz.f176]) fun fr hlen h => ?_
 simp only [Has, Nat.zero_add] at h
 obtain ⟨a0, a1, a2, -⟩ := h
 simp only [Tryz.f176] at hlen ⊢
 unfold g176
 simp only [w9, AV.cells, AV.leaf, reduceEqDiff, reduceLT, reduceAdd, reduceLeDiff, reduceCtorEq, reduceMul, reduceMod, u154, hlen, a0, a1, a2, hvl, hw0]
 refine loop_ruleE (fun m fr H' => ∃ (k : Nat), m = k ∧ k ≤ kids.length ∧ fr.length = 37 ∧ fget fr 0 = .ptr b 0 0 ∧ fget fr 1 = v ∧ fget fr 2 = .int .i64 to ∧ fget fr 7 = .int .i64 (mkE (kids.drop k) l to).2 ∧ fget fr 8 = .int .i64 ((k : Int) - 1)
   ∧ MkAt H' b rb (mkE (kids.drop k) l to).1 ∧ Frm H H' b rb) ?_ kids.length _ _ ⟨kids.length, by
     rw [List.drop_of_length_le (Nat.le_refl _)]
     refine ⟨rfl, Nat.le_refl _, by simp [w9, AV.cells, AV.leaf, reduceEqDiff, reduceLT, reduceAdd, reduceLeDiff, reduceCtorEq, reduceMul, reduceMod, u154, hlen], by simp [w9, AV.cells, AV.leaf, reduceEqDiff, reduceLT, reduceAdd, reduceLeDiff, reduceCtorEq, reduceMul, reduceMod, u154, hlen, a0], by simp [w9, AV.cells, AV.leaf, reduceEqDiff, reduceLT, reduceAdd, reduceLeDiff, reduceCtorEq, reduceMul, reduceMod, u154, hlen, a1], by simp [w9, AV.cells, AV.leaf, reduceEqDiff, reduceLT, reduceAdd, reduceLeDiff, reduceCtorEq, reduceMul, reduceMod, u154, hlen, a2], by simp [w9, AV.cells, AV.leaf, reduceEqDiff, reduceLT, reduceAdd, reduceLeDiff, reduceCtorEq, reduceMul, reduceMod, u154, hlen, mkE], by simp [w9, AV.cells, AV.leaf, reduceEqDiff, reduceLT, reduceAdd, reduceLeDiff, reduceCtorEq, reduceMul, reduceMod, u154, hlen], hm, Frm.refl _ _ _⟩⟩
 clear a0 a1 a2 hlen fr
 rintro m fr H' ⟨k, rfl, hki, hlen, a0, a1, a2, a7, a8, hm1, f1⟩ ih
 cases m with
 | zero =>
   have d1 : decide (((0 : Nat) : Int) - 1 ≥ 0) = false := rfl
   rw [List.drop_zero] at hm1 a7
   simp only [w9, AV.cells, AV.leaf, reduceEqDiff, reduceLT, reduceAdd, reduceLeDiff, reduceCtorEq, reduceMul, reduceMod, u154, hlen, a0, a1, a2, a7, a8, d1]
   exact ⟨_, ⟨hm1, f1⟩, Fin_raw (l := [.int .i64 (mkE kids l to).2]) (by simp [w9, AV.cells, AV.leaf, reduceEqDiff, reduceLT, reduceAdd, reduceLeDiff, reduceCtorEq, reduceMul, reduceMod, u154, hlen, aResults, aResult])⟩
 | succ j =>
   have e0 : ((j + 1 : Nat) : Int) - 1 = (j : Nat) := by omega
   rw [e0] at a8
   have d1 : decide (((j : Nat) : Int) ≥ 0) = true := decide_eq_true (by omega)
   have e1 := hv.at (P := Tryz.prog) (k := .i64) (i := j) Tryz.underlying174 sz176 encN_len (by omega)
   have hdj : kids.drop j = kids[j] :: kids.drop (j + 1) := by simp
   have hcl := cntL_drop kids j
   have hml := mkE_len (kids.drop (j + 1)) (fun y hy => hf y (List.mem_of_mem_drop hy)) l to
   have hdl : (kids.drop (j + 1)).length = kids.length - (j + 1) := by simp
   rw [hdj, cntL] at hcl
   obtain ⟨H2, ⟨hm2, f2⟩, n1⟩ := hk kids[j] (List.getElem_mem _) _ to b rb prot H' (by rw [hml]; omega) hp hb hm1
   have hnl := mkN_len kids[j] (hf _ (List.getElem_mem _)) (mkE (kids.drop (j + 1)) l to).1 to
   rw [hml] at hnl
   have hmk : mkE (kids.drop j) l to = if (kids.drop (j + 1)).isEmpty = true then mkN kids[j] (mkE (kids.drop (j + 1)) l to).1 to else ((mkN kids[j] (mkE (kids.drop (j + 1)) l to).1 to).1 ++ [⟨2, false, [], (mkN kids[j] (mkE (kids.drop (j + 1)) l to).1 to).2, (mkE (kids.drop (j + 1)) l to).2⟩], ((mkN kids[j] (mkE (kids.drop (j + 1)) l to).1 to).1.length : Nat)) := by
     rw [hdj, mkE]
   generalize kids[j] = x at *
   generalize mkE (kids.drop (j + 1)) l to = q at *
   generalize mkN x q.1 to = w at *
   obtain ⟨k', no', s, x1, x2, t, hx, hs, ht, -, -⟩ := encN_sh x
   rw [hx] at e1 n1
   simp only [AV.cells] at e1
   have hw2 := wrap_dec (k := j) (by omega)
   by_cases hlast : j + 1 = kids.length
   · have d2 : decide (((j : Nat) : Int) < (kids.length : Int) - 1) = false := decide_eq_false (by omega)
     have hem : (kids.drop (j + 1)).isEmpty = true := by rw [hlast]; simp
     rw [if_pos hem] at hmk
     simp only [w9, AV.cells, AV.leaf, reduceEqDiff, reduceLT, reduceAdd, reduceLeDiff, reduceCtorEq, reduceMul, reduceMod, u154, hlen, a0, a1, a2, a7, a8, d1, e1, n1, hvl, hw0, d2, hw2]
     refine ih _ _ j (by omega) ⟨j, rfl, by omega, by simp [w9, AV.cells, AV.leaf, reduceEqDiff, reduceLT, reduceAdd, reduceLeDiff, reduceCtorEq, reduceMul, reduceMod, u154, hlen], by simp [w9, AV.cells, AV.leaf, reduceEqDiff, reduceLT, reduceAdd, reduceLeDiff, reduceCtorEq, reduceMul, reduceMod, u154, hlen, a0], by simp [w9, AV.cells, AV.leaf, reduceEqDiff, reduceLT, reduceAdd, reduceLeDiff, reduceCtorEq, reduceMul, reduceMod, u154, hlen, a1], by simp [w9, AV.cells, AV.leaf, reduceEqDiff, reduceLT, reduceAdd, reduceLeDiff, reduceCtorEq, reduceMul, reduceMod, u154, hlen, a2], ?_, by simp [w9, AV.cells, AV.leaf, reduceEqDiff, reduceLT, reduceAdd, reduceLeDiff, reduceCtorEq, reduceMul, reduceMod, u154, hlen], ?_, f1.trans f2⟩
     · rw [hmk]; simp [w9, AV.cells, AV.leaf, reduceEqDiff, reduceLT, reduceAdd, reduceLeDiff, reduceCtorEq, reduceMul, reduceMod, u154, hlen]
     · rw [hmk]; exact hm2
   · have d2 : decide (((j : Nat) : Int) < (kids.length : Int) - 1) = true := decide_eq_true (by omega)
     have hem : ¬ (kids.drop (j + 1)).isEmpty = true := by rw [List.isEmpty_iff_length_eq_zero, hdl]; omega
     rw [if_neg hem] at hmk
     obtain ⟨H3, ⟨hm3, f3⟩, n2⟩ := split_ok w.1 w.2 q.2 (by rw [hnl]; omega) b rb prot H2 hp hb hm2
     simp only [w9, AV.cells, AV.leaf, reduceEqDiff, reduceLT, reduceAdd, reduceLeDiff, reduceCtorEq, reduceMul, reduceMod, u154, hlen, a0, a1, a2, a7, a8, d1, e1, n1, hvl, hw0, d2, n2, hw2]
     refine ih _ _ j (by omega) ⟨j, rfl, by omega, by simp [w9, AV.cells, AV.leaf, reduceEqDiff, reduceLT, reduceAdd, reduceLeDiff, reduceCtorEq, reduceMul, reduceMod, u154, hlen], by simp [w9, AV.cells, AV.leaf, reduceEqDiff, reduceLT, reduceAdd, reduceLeDiff, reduceCtorEq, reduceMul, reduceMod, u154, hlen, a0], by simp [w9, AV.cells, AV.leaf, reduceEqDiff, reduceLT, reduceAdd, reduceLeDiff, reduceCtorEq, reduceMul, reduceMod, u154, hlen, a1], by simp [w9, AV.cells, AV.leaf, reduceEqDiff, reduceLT, reduceAdd, reduceLeDiff, reduceCtorEq, reduceMul, reduceMod, u154, hlen, a2], ?_, by simp [w9, AV.cells, AV.leaf, reduceEqDiff, reduceLT, reduceAdd, reduceLeDiff, reduceCtorEq, reduceMul, reduceMod, u154, hlen], ?_, (f1.trans f2).trans f3⟩
     · rw [hmk]; simp [w9, AV.cells, AV.leaf, reduceEqDiff, reduceLT, reduceAdd, reduceLeDiff, reduceCtorEq, reduceMul, reduceMod, u154, hlen]
     · rw [hmk]; exact hm3
def setOneH : List HS → Nat → Int → List HS
 | [], _, _ => []
 | s :: r, 0, v => ⟨s.kind, s.no, s.sv, s.lf, v, s.two⟩ :: r
 | s :: r, i + 1, v => s :: setOneH r i v
theorem setOneH_cells : ∀ (l : List HS) (i : Nat) (v : Int), i < l.length → splice (cellsOf encH l) (i * 5 + 3) [.int .i64 v] = cellsOf encH (setOneH l i v)
 | [], i, v, h => by simp at h
 | s :: r, 0, v, _ => by simp [splice, cellsOf, setOneH, encH, AV.cells]
 | s :: r, i + 1, v, h => by
   have ih := setOneH_cells r i v (by simpa using h)
   rw [setOneH]
   have e : ∀ t : List HS, cellsOf encH (s :: t) = (encH s).cells ++ cellsOf encH t := fun t => by simp [cellsOf]
   rw [e, e, ← ih]
   have h5 : (encH s).cells.length = 5 := rfl
   unfold splice
   have e2 : (i + 1) * 5 + 3 = (encH s).cells.length + (i * 5 + 3) := by rw [h5]; omega
   rw [e2, List.take_length_add_append, List.append_assoc, Nat.add_assoc, List.drop_length_add_append]
   simp only [List.append_assoc]
theorem Lks.setOne {base : Nat} {H : Heap} {hl : List HS} {l : List St} (h : Lks base H hl l) : ∀ (i : Nat) (v : Int), Lks base H (setOneH hl i v) (setOne l i v) := by
 induction h with
 | nil => intro i v; exact .nil
 | cons a b ih =>
   intro i v
   cases i with
   | zero => obtain ⟨a1, a2, a3, a4, a5, a6⟩ := a; exact .cons ⟨a1, a2, rfl, a4, a5, a6⟩ b
   | succ i => exact .cons a (ih i v)
theorem MkAt.setOne {H : Heap} {b rb : Nat} {l : List St} (h : MkAt H b rb l) {prot : Nat} (hp : prot ≤ rb) (hb : b < rb) {i : Nat} (hi : i < l.length) (v : Int) : ∃ ver H', hget H b 0 = some [.bs ⟨rb, ver, 0, l.length, 0, 5, true, false⟩] ∧ hput prot H rb ver (i * 5 + 3) [.int .i64 v] = some H' ∧ MkAt H' b rb (Proofs.YtnipaiklandliaaGreatDoor.setOne l i v) ∧ Frm H H' b rb := by
 obtain ⟨ver, hls, g1, g2, hlk, hv4⟩ := h
 have hll := hlk.length
 refine ⟨ver, _, g1, hput_eq g2 hp ?_ (by simp [AV.leaf]), ⟨ver, setOneH hls i v, ?_, ?_, (hlk.setOne i v).keep (Frm.set2 H b rb _) (by omega) (by omega), hv4⟩, Frm.set2 H b rb _⟩
 · have := encH_L.length hls
   simp only [List.length_singleton]
   omega
 · rw [hget_set_ne (by omega), setOne_len]; exact g1
 · rw [hget_set_same (hget_lt g2), if_pos rfl, setOneH_cells hls i v (by omega)]
theorem mkrepeat_ok (x : Nd) (hx0 : MkOk x) (hfx : Fair x) (no sf : Bool) (sp : List Sg) (least most : Int) (kf : Bool) (h1 : 0 ≤ least) (h2 : least ≤ 16) (h3 : most = -1 ∨ (least ≤ most ∧ most ≤ 16)) (l : List St) (to : Int) (b rb prot : Nat) (H : Heap)
   (hl : l.length + cnt (.mk 4 no sf sp least most kf [x]) ≤ 100000) (hp : prot ≤ b) (hb : b < rb) (hm : MkAt H b rb l) :
   ∃ H', (MkAt H' b rb (repS (mkN x) least most l to).1 ∧ Frm H H' b rb) ∧ aLim cfg prot 177 [.ptr b 0 0, encN (.mk 4 no sf sp least most kf [x]), .int .i64 to] H = some (.int .i64 (repS (mkN x) least most l to).2, some H') := by
 obtain ⟨a, rfl⟩ : ∃ a : Nat, least = a := ⟨least.toNat, by omega⟩
 generalize hle : (a : Int) = least at *
 have hcnt : cnt (.mk 4 no sf sp least most kf [x]) = if most = -1 then 1 + (max least 1).toNat * cnt x else (most - least).toNat * (cnt x + 1) + least.toNat * cnt x := by rw [cnt.eq_def]; simp
 rw [hcnt] at hl
 have hfl := mkN_len x hfx
 have hrl := repS_len hfl least most h1 l to
 have hs1 := slF_leaf sf encG sp
 have ht1 := slF_leaf kf encN [x]
 have hk0 := (slF_sl kf encN [x]).at (P := Tryz.prog) (k := .i64) (i := 0) Tryz.underlying174 sz176 encN_len (by simp)
 simp only [List.getElem_cons_zero] at hk0
 have e1 : aIndexAddr Tryz.prog 174 (slF kf encN [x]) (.int .i64 0) = some (.vptr (encN x).cells 0) := hk0
 have hrb : rb < H.length := by obtain ⟨ver, hls, g1, g2, -, -⟩ := hm; exact hget_lt g2
 obtain ⟨k', no', s', x1, x2, t, hx, hs, ht, -, -⟩ := encN_sh x
 have hcx : (encN x).cells = [.int .i64 k', .bool no', s', .int .i64 x1, .int .i64 x2, t] := by rw [hx]; rfl
 rw [hcx] at e1
 have hlZ : ∀ Z, (H ++ [Blk.cells 0 Z]).length = H.length + 1 := fun Z => by simp
 have hz4 : hget (H ++ [Blk.cells 0 [.int .i64 4, .bool no, slF sf encG sp, .int .i64 least, .int .i64 most, slF kf encN [x]]] ++ [Blk.cells 0 [.int .i64 k', .bool no', s', .int .i64 x1, .int .i64 x2, t]]) H.length 0 = some [.int .i64 4, .bool no, slF sf encG sp, .int .i64 least, .int .i64 most, slF kf encN [x]] := hget_mono (by rw [hget_new rfl, if_pos rfl]) _
 have hz7 : hget (H ++ [Blk.cells 0 [.int .i64 4, .bool no, slF sf encG sp, .int .i64 least, .int .i64 most, slF kf encN [x]]] ++ [Blk.cells 0 [.int .i64 k', .bool no', s', .int .i64 x1, .int .i64 x2, t]]) (H.length + 1) 0 = some [.int .i64 k', .bool no', s', .int .i64 x1, .int .i64 x2, t] := by rw [hget_new (hlZ _).symm, if_pos rfl]
 have f0 : Frm H (H ++ [Blk.cells 0 [.int .i64 4, .bool no, slF sf encG sp, .int .i64 least, .int .i64 most, slF kf encN [x]]] ++ [Blk.cells 0 [.int .i64 k', .bool no', s', .int .i64 x1, .int .i64 x2, t]]) b rb := (Frm.more H b rb _).trans (Frm.more _ b rb _)
 have hm0 : MkAt (H ++ [Blk.cells 0 [.int .i64 4, .bool no, slF sf encG sp, .int .i64 least, .int .i64 most, slF kf encN [x]]] ++ [Blk.cells 0 [.int .i64 k', .bool no', s', .int .i64 x1, .int .i64 x2, t]]) b rb l := by
   obtain ⟨ver, hls, g1, g2, g3, g4⟩ := hm
   exact ⟨ver, hls, hget_mono (hget_mono g1 _) _, hget_mono (hget_mono g2 _) _, g3.keep f0 (by omega) (by omega), g4⟩
 have hg1 : hget (H ++ [Blk.cells 0 [.int .i64 4, .bool no, slF sf encG sp, .int .i64 least, .int .i64 most, slF kf encN [x]]]) H.length 0 = some [.int .i64 4, .bool no, slF sf encG sp, .int .i64 least, .int .i64 most, slF kf encN [x]] := by rw [hget_new rfl, if_pos rfl]
 have hs0 := hs
 have ht0 := ht
 have hpn : hput prot (H ++ [Blk.cells 0 [.int .i64 4, .bool no, slF sf encG sp, .int .i64 least, .int .i64 most, slF kf encN [x]]] ++ [Blk.cells 0 [.int .i64 0, .bool false, .nilS, .int .i64 0, .int .i64 0, .nilS]]) (H.length + 1) 0 0 [.int .i64 k', .bool no', s', .int .i64 x1, .int .i64 x2, t] = some (H ++ [Blk.cells 0 [.int .i64 4, .bool no, slF sf encG sp, .int .i64 least, .int .i64 most, slF kf encN [x]]] ++ [Blk.cells 0 [.int .i64 k', .bool no', s', .int .i64 x1, .int .i64 x2, t]]) := by
   rw [hput_new (hlZ _).symm (by rw [hlZ]; omega) (by simp) (by simp only [List.all_cons, List.all_nil, hs0, ht0]; rfl)]; rfl
 generalize hK : H ++ [Blk.cells 0 [.int .i64 4, .bool no, slF sf encG sp, .int .i64 least, .int .i64 most, slF kf encN [x]]] ++ [Blk.cells 0 [.int .i64 k', .bool no', s', .int .i64 x1, .int .i64 x2, t]] = K at *
 refine raw_slimE rfl (by kernel_rfl) (by kernel_rfl) (by kernel_rfl) Tryz.func177 s177 (by simp [Tryz.f177]) fun fr hlen h => ?_
 simp only [Has, Nat.zero_add] at h
 obtain ⟨a0, a1, a2, -⟩ := h
 simp only [Tryz.f177] at hlen ⊢
 unfold g177
 rw [encN_eq] at a1
 unfold AV.leaf at hs1 ht1 hs ht
 have hT : (repS (mkN x) least most l to).1.length ≤ 100000 := by rw [hrl]; exact hl
 have hxo := fun (l : List St) (to : Int) (H : Heap) (hl : l.length + cnt x ≤ 100000) (hm : MkAt H b rb l) => hx0 l to b rb prot H hl hp hb hm
 simp only [hx] at hxo
 by_cases hm1 : most = -1
 rotate_left
 have d1 : decide (most = -1) = false := decide_eq_false hm1
 have hq : repS (mkN x) least most l to = repK (mkN x) a (optK (mkN x) to (most - least).toNat l to).1 (optK (mkN x) to (most - least).toNat l to).2 := by unfold repS; rw [if_neg hm1, show least.toNat = a by omega]
 simp only [w9, AV.cells, AV.leaf, reduceEqDiff, reduceLT, reduceAdd, reduceLeDiff, reduceCtorEq, reduceMul, reduceMod, u154, hlen, a0, a1, a2, hs1, ht1, hs, ht, e1, hg1, hlZ, hpn, hz4, hz7, d1, none_beq]
 have mc := hm0
 have fc := f0
 have hz4c := hz4
 have hz7c := hz7
 rotate_left
 rw [if_pos hm1] at hl
 have hlec : cnt x ≤ (max least 1).toNat * cnt x := Nat.le_mul_of_pos_left _ (by omega)
 have d1 : decide (most = -1) = true := decide_eq_true hm1
 obtain ⟨H1, ⟨m1, f1⟩, n1⟩ := split_ok l 0 to (by omega) b rb prot K hp hb hm0
 obtain ⟨H2, ⟨m2, f2⟩, n2⟩ := hxo (l ++ [⟨2, false, [], 0, to⟩]) (l.length : Nat) H1 (by rw [List.length_append, List.length_singleton]; omega) m1
 have hwl := hfl (l ++ [⟨2, false, [], 0, to⟩]) (l.length : Nat)
 rw [List.length_append, List.length_singleton] at hwl
 have z7 := f1.keep _ _ _ (by omega) (by omega) hz7
 have hunf : repS (mkN x) least most l to = if least = 0 then (setOne (mkN x (l ++ [⟨2, false, [], 0, to⟩]) (l.length : Nat)).1 l.length (mkN x (l ++ [⟨2, false, [], 0, to⟩]) (l.length : Nat)).2, ((l.length : Nat) : Int))
     else repK (mkN x) (least - 1).toNat (setOne (mkN x (l ++ [⟨2, false, [], 0, to⟩]) (l.length : Nat)).1 l.length (mkN x (l ++ [⟨2, false, [], 0, to⟩]) (l.length : Nat)).2) (mkN x (l ++ [⟨2, false, [], 0, to⟩]) (l.length : Nat)).2 := by unfold repS; rw [if_pos hm1]
 generalize mkN x (l ++ [⟨2, false, [], 0, to⟩]) (l.length : Nat) = w at *
 obtain ⟨ver, H3, g, hput3, mc, f3⟩ := m2.setOne (prot := prot) (by omega) hb (i := l.length) (by omega) w.2
 have eI : aIndexAddr Tryz.prog 179 (.bs ⟨rb, ver, 0, w.1.length, 0, 5, true, false⟩) (.int .i64 (l.length : Nat)) = some (.ptr rb ver (l.length * 5)) := by
   simp [aIndexAddr, asNat, Tryz.underlying179, sz219]; omega
 have fc := ((f0.trans f1).trans f2).trans f3
 by_cases h0 : least = 0
 · have d2 : decide (least = 0) = true := decide_eq_true h0
   rw [if_pos h0] at hunf
   rw [hunf]
   simp only [w9, AV.cells, AV.leaf, reduceEqDiff, reduceLT, reduceAdd, reduceLeDiff, reduceCtorEq, reduceMul, reduceMod, u154, hlen, a0, a1, a2, hs1, ht1, hs, ht, e1, hg1, hlZ, hpn, hz4, hz7, d1, n1, z7, n2, g, eI, hput3, d2]
   exact ⟨_, ⟨mc, fc⟩, Fin_raw (l := [.int .i64 (l.length : Nat)]) (by simp [w9, AV.cells, AV.leaf, reduceEqDiff, reduceLT, reduceAdd, reduceLeDiff, reduceCtorEq, reduceMul, reduceMod, u154, hlen, aResults, aResult])⟩
 rw [if_neg h0] at hunf
 have d2 : decide (least = 0) = false := decide_eq_false h0
 have hw1 : IntKind.i64.wrap (least - 1) = ((a - 1 : Nat) : Int) := by rw [wrap64 (by omega) (by omega)]; omega
 have hz4c := (f1.trans (f2.trans f3)).keep _ _ _ (by omega) (by omega) hz4
 have hz7c := (f1.trans (f2.trans f3)).keep _ _ _ (by omega) (by omega) hz7
 have hq : repS (mkN x) least most l to = repK (mkN x) (a - 1) (optK (mkN x) to (most - least).toNat (setOne w.1 l.length w.2) w.2).1 (optK (mkN x) to (most - least).toNat (setOne w.1 l.length w.2) w.2).2 := by
   rw [hunf, show (most - least).toNat = 0 by omega, show (least - 1).toNat = a - 1 by omega]; rfl
 simp only [w9, AV.cells, AV.leaf, reduceEqDiff, reduceLT, reduceAdd, reduceLeDiff, reduceCtorEq, reduceMul, reduceMod, u154, hlen, a0, a1, a2, hs1, ht1, hs, ht, e1, hg1, hlZ, hpn, hz4, hz7, d1, n1, z7, n2, g, eI, hput3, d2, hw1, hz4c, none_beq]
 all_goals
   clear hz4 hz7 hm0 f0 hpn hg1
   refine loop_ruleE (fun m fr H' => ∃ (l1 : List St) (a1 : Int) (n : Nat) (i : Int), m = (most - i).toNat ∧ 0 ≤ i ∧ i ≤ 1000 ∧ n ≤ a ∧ repS (mkN x) least most l to = repK (mkN x) n (optK (mkN x) to m l1 a1).1 (optK (mkN x) to m l1 a1).2 ∧ MkAt H' b rb l1 ∧ Frm H H' b rb ∧
     hget H' H.length 0 = some [.int .i64 4, .bool no, slF sf encG sp, .int .i64 least, .int .i64 most, slF kf encN [x]] ∧ hget H' (H.length + 1) 0 = some [.int .i64 k', .bool no', s', .int .i64 x1, .int .i64 x2, t] ∧
     fr.length = 70 ∧ fget fr 0 = .ptr b 0 0 ∧ fget fr 2 = .int .i64 to ∧ fget fr 4 = .ptr H.length 0 0 ∧ fget fr 7 = .ptr (H.length + 1) 0 0 ∧ fget fr 8 = .int .i64 a1 ∧ fget fr 9 = .int .i64 (n : Nat) ∧ fget fr 11 = .int .i64 i) ?_ (most - least).toNat _ _
     ⟨_, _, _, _, rfl, h1, by omega, by omega, hq, mc, fc, hz4c, hz7c, by simp [w9, AV.cells, AV.leaf, reduceEqDiff, reduceLT, reduceAdd, reduceLeDiff, reduceCtorEq, reduceMul, reduceMod, u154, hlen], by simp [w9, AV.cells, AV.leaf, reduceEqDiff, reduceLT, reduceAdd, reduceLeDiff, reduceCtorEq, reduceMul, reduceMod, u154, hlen, a0], by simp [w9, AV.cells, AV.leaf, reduceEqDiff, reduceLT, reduceAdd, reduceLeDiff, reduceCtorEq, reduceMul, reduceMod, u154, hlen, a2], by simp [w9, AV.cells, AV.leaf, reduceEqDiff, reduceLT, reduceAdd, reduceLeDiff, reduceCtorEq, reduceMul, reduceMod, u154, hlen], by simp [w9, AV.cells, AV.leaf, reduceEqDiff, reduceLT, reduceAdd, reduceLeDiff, reduceCtorEq, reduceMul, reduceMod, u154, hlen], by simp [w9, AV.cells, AV.leaf, reduceEqDiff, reduceLT, reduceAdd, reduceLeDiff, reduceCtorEq, reduceMul, reduceMod, u154, hlen], by simp [w9, AV.cells, AV.leaf, reduceEqDiff, reduceLT, reduceAdd, reduceLeDiff, reduceCtorEq, reduceMul, reduceMod, u154, hlen, hle], by simp [w9, AV.cells, AV.leaf, reduceEqDiff, reduceLT, reduceAdd, reduceLeDiff, reduceCtorEq, reduceMul, reduceMod, u154, hlen]⟩
   clear hz4c hz7c mc fc hq a0 a1 a2 hlen fr
   rintro m fr H' ⟨l1, a1, n, i, rfl, hi0, hi1, hna, hq, hm, f, hz4, hz7, hlen, b0, b2, b4, b7, b8, b9, b11⟩ ih
   have hTl : (repS (mkN x) least most l to).1.length = l1.length + (most - i).toNat * (cnt x + 1) + n * cnt x := by rw [hq, repK_len hfl, optK_len hfl]
   have hT2 := hT
   rw [hTl] at hT
   by_cases hi : i < most
   · have hk : (most - i).toNat = (most - (i + 1)).toNat + 1 := by omega
     rw [hk] at hq hT
     rw [optK] at hq
     rw [Nat.succ_mul] at hT
     obtain ⟨H2, ⟨m2, f2⟩, n1⟩ := hxo l1 a1 H' (by omega) hm
     have hwl := hfl l1 a1
     generalize mkN x l1 a1 = w at *
     obtain ⟨H3, ⟨m3, f3⟩, n2⟩ := split_ok w.1 w.2 to (by omega) b rb prot H2 hp hb m2
     have d5 : decide (i < most) = true := decide_eq_true hi
     have hw : IntKind.i64.wrap (i + 1) = i + 1 := wrap64 (by omega) (by omega)
     simp only [w9, AV.cells, AV.leaf, reduceEqDiff, reduceLT, reduceAdd, reduceLeDiff, reduceCtorEq, reduceMul, reduceMod, u154, hlen, b0, b2, b4, b7, b8, b9, b11, hz4, d5, hz7, n1, n2, hw]
     refine ih _ _ (most - (i + 1)).toNat (by omega) ⟨_, _, n, i + 1, rfl, by omega, by omega, hna, hq, m3, (f.trans f2).trans f3, (f2.trans f3).keep _ _ _ (by omega) (by omega) hz4, (f2.trans f3).keep _ _ _ (by omega) (by omega) hz7,
       by simp [w9, AV.cells, AV.leaf, reduceEqDiff, reduceLT, reduceAdd, reduceLeDiff, reduceCtorEq, reduceMul, reduceMod, u154, hlen], by simp [w9, AV.cells, AV.leaf, reduceEqDiff, reduceLT, reduceAdd, reduceLeDiff, reduceCtorEq, reduceMul, reduceMod, u154, hlen, b0], by simp [w9, AV.cells, AV.leaf, reduceEqDiff, reduceLT, reduceAdd, reduceLeDiff, reduceCtorEq, reduceMul, reduceMod, u154, hlen, b2], by simp [w9, AV.cells, AV.leaf, reduceEqDiff, reduceLT, reduceAdd, reduceLeDiff, reduceCtorEq, reduceMul, reduceMod, u154, hlen, b4], by simp [w9, AV.cells, AV.leaf, reduceEqDiff, reduceLT, reduceAdd, reduceLeDiff, reduceCtorEq, reduceMul, reduceMod, u154, hlen, b7], by simp [w9, AV.cells, AV.leaf, reduceEqDiff, reduceLT, reduceAdd, reduceLeDiff, reduceCtorEq, reduceMul, reduceMod, u154, hlen], by simp [w9, AV.cells, AV.leaf, reduceEqDiff, reduceLT, reduceAdd, reduceLeDiff, reduceCtorEq, reduceMul, reduceMod, u154, hlen, b9], by simp [w9, AV.cells, AV.leaf, reduceEqDiff, reduceLT, reduceAdd, reduceLeDiff, reduceCtorEq, reduceMul, reduceMod, u154, hlen]⟩
   · have hk : (most - i).toNat = 0 := by omega
     rw [hk] at hq hT
     rw [optK] at hq
     try dsimp only at hq
     have d5 : decide (i < most) = false := decide_eq_false hi
     simp only [w9, AV.cells, AV.leaf, reduceEqDiff, reduceLT, reduceAdd, reduceLeDiff, reduceCtorEq, reduceMul, reduceMod, u154, hlen, b0, b2, b4, b7, b8, b9, b11, hz4, d5]
     clear ih
     refine loop_ruleE (fun m fr H' => ∃ (l1 : List St) (a1 : Int) (j : Nat), m = n - j ∧ j ≤ n ∧ repS (mkN x) least most l to = repK (mkN x) m l1 a1 ∧ MkAt H' b rb l1 ∧ Frm H H' b rb ∧ hget H' (H.length + 1) 0 = some [.int .i64 k', .bool no', s', .int .i64 x1, .int .i64 x2, t] ∧
       fr.length = 70 ∧ fget fr 0 = .ptr b 0 0 ∧ fget fr 7 = .ptr (H.length + 1) 0 0 ∧ fget fr 8 = .int .i64 a1 ∧ fget fr 61 = .int .i64 (n : Nat) ∧ fget fr 62 = .int .i64 (j : Nat)) ?_ n _ _
       ⟨l1, a1, 0, rfl, by omega, hq, hm, f, hz7, by simp [w9, AV.cells, AV.leaf, reduceEqDiff, reduceLT, reduceAdd, reduceLeDiff, reduceCtorEq, reduceMul, reduceMod, u154, hlen], by simp [w9, AV.cells, AV.leaf, reduceEqDiff, reduceLT, reduceAdd, reduceLeDiff, reduceCtorEq, reduceMul, reduceMod, u154, hlen, b0], by simp [w9, AV.cells, AV.leaf, reduceEqDiff, reduceLT, reduceAdd, reduceLeDiff, reduceCtorEq, reduceMul, reduceMod, u154, hlen, b7], by simp [w9, AV.cells, AV.leaf, reduceEqDiff, reduceLT, reduceAdd, reduceLeDiff, reduceCtorEq, reduceMul, reduceMod, u154, hlen, b8], by simp [w9, AV.cells, AV.leaf, reduceEqDiff, reduceLT, reduceAdd, reduceLeDiff, reduceCtorEq, reduceMul, reduceMod, u154, hlen, b9], by simp [w9, AV.cells, AV.leaf, reduceEqDiff, reduceLT, reduceAdd, reduceLeDiff, reduceCtorEq, reduceMul, reduceMod, u154, hlen]⟩
     clear hq hm f hz7 hz4 b0 b2 b4 b7 b8 b9 b11 hlen fr hTl hT
     have hT := hT2
     rintro m fr H' ⟨l1, a1, j, rfl, hj, hq, hm, f, hz7, hlen, b0, b7, b8, b61, b62⟩ ih
     have hTl : (repS (mkN x) least most l to).1.length = l1.length + (n - j) * cnt x := by rw [hq, repK_len hfl]
     by_cases hj2 : j < n
     · have hk : n - j = (n - (j + 1)) + 1 := by omega
       rw [hk] at hq hTl
       rw [repK] at hq
       rw [Nat.succ_mul] at hTl
       obtain ⟨H2, ⟨m2, f2⟩, n1⟩ := hxo l1 a1 H' (by omega) hm
       generalize mkN x l1 a1 = w at *
       have d6 : decide (((j : Nat) : Int) < (n : Nat)) = true := decide_eq_true (by omega)
       have hw : IntKind.i64.wrap ((j : Int) + 1) = ((j + 1 : Nat) : Int) := by rw [wrap64 (by omega) (by omega)]; simp
       simp only [w9, AV.cells, AV.leaf, reduceEqDiff, reduceLT, reduceAdd, reduceLeDiff, reduceCtorEq, reduceMul, reduceMod, u154, hlen, b0, b7, b8, b61, b62, d6, hz7, n1, hw]
       exact ih _ _ (n - (j + 1)) (by omega) ⟨_, _, j + 1, rfl, by omega, hq, m2, f.trans f2, f2.keep _ _ _ (by omega) (by omega) hz7, by simp [w9, AV.cells, AV.leaf, reduceEqDiff, reduceLT, reduceAdd, reduceLeDiff, reduceCtorEq, reduceMul, reduceMod, u154, hlen], by simp [w9, AV.cells, AV.leaf, reduceEqDiff, reduceLT, reduceAdd, reduceLeDiff, reduceCtorEq, reduceMul, reduceMod, u154, hlen, b0], by simp [w9, AV.cells, AV.leaf, reduceEqDiff, reduceLT, reduceAdd, reduceLeDiff, reduceCtorEq, reduceMul, reduceMod, u154, hlen, b7], by simp [w9, AV.cells, AV.leaf, reduceEqDiff, reduceLT, reduceAdd, reduceLeDiff, reduceCtorEq, reduceMul, reduceMod, u154, hlen], by simp [w9, AV.cells, AV.leaf, reduceEqDiff, reduceLT, reduceAdd, reduceLeDiff, reduceCtorEq, reduceMul, reduceMod, u154, hlen, b61], by simp [w9, AV.cells, AV.leaf, reduceEqDiff, reduceLT, reduceAdd, reduceLeDiff, reduceCtorEq, reduceMul, reduceMod, u154, hlen]⟩
     · have hk : n - j = 0 := by omega
       rw [hk] at hq
       rw [repK] at hq
       have d6 : decide (((j : Nat) : Int) < (n : Nat)) = false := decide_eq_false (by omega)
       simp only [w9, AV.cells, AV.leaf, reduceEqDiff, reduceLT, reduceAdd, reduceLeDiff, reduceCtorEq, reduceMul, reduceMod, u154, hlen, b0, b7, b8, b61, b62, d6]
       rw [hq]
       exact ⟨_, ⟨hm, f⟩, Fin_raw (l := [.int .i64 a1]) (by simp [w9, AV.cells, AV.leaf, reduceEqDiff, reduceLT, reduceAdd, reduceLeDiff, reduceCtorEq, reduceMul, reduceMod, u154, hlen, aResults, aResult])⟩
end Go.Proofs.YtnipaiklandliaaGreatDoor
namespace Go.Proofs.YtnipaiklandliaaGreatDoor
open Go Go.Abs AbsSeat Ty
open Nat (reduceEqDiff reduceLT reduceAdd reduceLeDiff reduceMul reduceMod)
theorem MkAt.more {H : Heap} {b rb : Nat} {l : List St} (h : MkAt H b rb l) (hb : b < rb) (x : List Blk) : MkAt (H ++ x) b rb l := by
 obtain ⟨ver, hls, g1, g2, g3, g4⟩ := h
 exact ⟨ver, hls, hget_mono g1 _, hget_mono g2 _, g3.keep (Frm.more H b rb x) (by omega) (by omega), g4⟩
theorem MkAt.lt {H : Heap} {b rb : Nat} {l : List St} (h : MkAt H b rb l) : rb < H.length := by
 obtain ⟨ver, hls, g1, g2, g3, g4⟩ := h
 exact hget_lt g2
theorem mknode_step (kind : Int) (no sf : Bool) (sp : List Sg) (least most : Int) (kf : Bool) (kids : List Nd) (hg : Good (.mk kind no sf sp least most kf kids)) (hfi : Fine (.mk kind no sf sp least most kf kids)) (ih : ∀ x ∈ kids, MkOk x) : MkOk (.mk kind no sf sp least most kf kids) := by
 intro l to b rb prot H hl hp hb hm
 have hfr := hg.fair
 cases hfi with
 | mk hfk hfs _ =>
 cases hg with
 | mk hgk hk hkl =>
 have hs1 := slF_leaf sf encG sp
 have ht1 := slF_leaf kf encN kids
 have hsl := slF_sl kf encN kids
 have hkn := fun K : Heap => hsl.len (P := Tryz.prog) (H := K) Tryz.underlying174
 have hlt := hm.lt
 have hw0 := wrap_dec hkl
 have hfk : ∀ x ∈ kids, Fair x := fun x hx => (hgk x hx).fair
 have f0 := Frm.more H b rb [Blk.cells 0 [.int .i64 kind, .bool no, slF sf encG sp, .int .i64 least, .int .i64 most, slF kf encN kids]]
 have hm0 := hm.more hb [Blk.cells 0 [.int .i64 kind, .bool no, slF sf encG sp, .int .i64 least, .int .i64 most, slF kf encN kids]]
 have hg0 : hget (H ++ [Blk.cells 0 [.int .i64 kind, .bool no, slF sf encG sp, .int .i64 least, .int .i64 most, slF kf encN kids]]) H.length 0 = some [.int .i64 kind, .bool no, slF sf encG sp, .int .i64 least, .int .i64 most, slF kf encN kids] := by rw [hget_new rfl, if_pos rfl]
 have hKl : (H ++ [Blk.cells 0 [.int .i64 kind, .bool no, slF sf encG sp, .int .i64 least, .int .i64 most, slF kf encN kids]]).length = H.length + 1 := by simp
 generalize hK : H ++ [Blk.cells 0 [.int .i64 kind, .bool no, slF sf encG sp, .int .i64 least, .int .i64 most, slF kf encN kids]] = K at *
 have d01 : decide ((0 : Int) = 1) = false := rfl
 have d02 : decide ((0 : Int) = 2) = false := rfl
 have d03 : decide ((0 : Int) = 3) = false := rfl
 have d04 : decide ((0 : Int) = 4) = false := rfl
 have d11 : decide ((1 : Int) = 1) = true := rfl
 have d21 : decide ((2 : Int) = 1) = false := rfl
 have d22 : decide ((2 : Int) = 2) = true := rfl
 have d31 : decide ((3 : Int) = 1) = false := rfl
 have d32 : decide ((3 : Int) = 2) = false := rfl
 have d33 : decide ((3 : Int) = 3) = true := rfl
 have d41 : decide ((4 : Int) = 1) = false := rfl
 have d42 : decide ((4 : Int) = 2) = false := rfl
 have d43 : decide ((4 : Int) = 3) = false := rfl
 have d44 : decide ((4 : Int) = 4) = true := rfl
 rcases hk with rfl | rfl | rfl | rfl | ⟨rfl, hk1, hk2, hk3, hk4⟩
 · have e : mkN (.mk 0 no sf sp least most kf kids) l to = (l, to) := by rw [mkN.eq_def]; simp
   rw [e]
   refine raw_slimE rfl (by kernel_rfl) (by kernel_rfl) (by kernel_rfl) Tryz.func156 s156 (by simp [Tryz.f156]) fun fr hlen h => ?_
   simp only [Has, Nat.zero_add] at h
   obtain ⟨a0, a1, a2, -⟩ := h
   simp only [Tryz.f156] at hlen ⊢
   unfold g156
   rw [encN_eq] at a1
   unfold AV.leaf at hs1 ht1
   simp only [w9, AV.cells, AV.leaf, reduceEqDiff, reduceLT, reduceAdd, reduceLeDiff, reduceCtorEq, reduceMul, reduceMod, u154, hlen, a0, a1, a2, hs1, ht1, hK, hg0, d01, d02, d03, d04]
   exact ⟨_, ⟨hm0, f0⟩, Fin_raw (l := [.int .i64 to]) (by simp [w9, AV.cells, AV.leaf, reduceEqDiff, reduceLT, reduceAdd, reduceLeDiff, reduceCtorEq, reduceMul, reduceMod, u154, hlen, aResults, aResult])⟩
 · have e : mkN (.mk 1 no sf sp least most kf kids) l to = (l ++ [⟨1, no, sp, to, 0⟩], ((l.length : Nat) : Int)) := by rw [mkN.eq_def]; simp
   have ec : cnt (.mk 1 no sf sp least most kf kids) = 1 := by rw [cnt.eq_def]; simp
   rw [ec] at hl
   rw [e]
   rcases spans_app (slF sf encG sp) sp (slF_sl sf encG sp) hfs prot (rb + 1) K (by omega) with ⟨rfl, happ⟩ | ⟨hne, K', happ, hKe, hrow⟩
   · obtain ⟨H2, ⟨m2, f2⟩, n1⟩ := state_ok l ⟨1, no, .nilS, rfl, to, 0⟩ ⟨1, no, [], to, 0⟩ (by omega) b rb prot K hp (by omega) (by omega) (by omega) hm0 ⟨rfl, rfl, rfl, rfl, Row.nil, .inl rfl⟩
     simp only [encH] at n1
     refine raw_slimE rfl (by kernel_rfl) (by kernel_rfl) (by kernel_rfl) Tryz.func156 s156 (by simp [Tryz.f156]) fun fr hlen h => ?_
     simp only [Has, Nat.zero_add] at h
     obtain ⟨a0, a1, a2, -⟩ := h
     simp only [Tryz.f156] at hlen ⊢
     unfold g156
     rw [encN_eq] at a1
     unfold AV.leaf at hs1 ht1
     simp only [w9, AV.cells, AV.leaf, reduceEqDiff, reduceLT, reduceAdd, reduceLeDiff, reduceCtorEq, reduceMul, reduceMod, u154, hlen, a0, a1, a2, hs1, ht1, hK, hg0, d11, happ, n1]
     refine ex_draw ?_ ?_
     · rw [show befs [] _ = [0, 0, 2, 0, 8, 24, 0, 126, 255, 511] from by kernel_rfl]
       simp [w9, AV.cells, AV.leaf, reduceEqDiff, reduceLT, reduceAdd, reduceLeDiff, reduceCtorEq, reduceMul, reduceMod, u154, hlen, drawOk, chained, mayAt, sameAt, bound, List.range_succ, Nat.testBit, a0, a1, a2, hs1, ht1, hK, hg0, happ, n1, avbeq_refl]
     exact ⟨_, ⟨m2, f0.trans f2⟩, Fin_raw (l := [.int .i64 (l.length : Nat)]) (by simp [w9, AV.cells, AV.leaf, reduceEqDiff, reduceLT, reduceAdd, reduceLeDiff, reduceCtorEq, reduceMul, reduceMod, u154, hlen, aResults, aResult])⟩
   · subst hKe
     obtain ⟨H2, ⟨m2, f2⟩, n1⟩ := state_ok l ⟨1, no, .bs ⟨K.length, 0, 0, sp.length, 0, 2, true, false⟩, rfl, to, 0⟩ ⟨1, no, sp, to, 0⟩ (by omega) b rb prot _ hp (by omega) (by omega) (by omega) (hm0.more hb _) ⟨rfl, rfl, rfl, rfl, hrow, .inr hne⟩
     simp only [encH] at n1
     refine raw_slimE rfl (by kernel_rfl) (by kernel_rfl) (by kernel_rfl) Tryz.func156 s156 (by simp [Tryz.f156]) fun fr hlen h => ?_
     simp only [Has, Nat.zero_add] at h
     obtain ⟨a0, a1, a2, -⟩ := h
     simp only [Tryz.f156] at hlen ⊢
     unfold g156
     rw [encN_eq] at a1
     unfold AV.leaf at hs1 ht1
     have hgK := hget_mono hg0 [Blk.cells 0 (cellsOf encG sp)]
     simp only [w9, AV.cells, AV.leaf, reduceEqDiff, reduceLT, reduceAdd, reduceLeDiff, reduceCtorEq, reduceMul, reduceMod, u154, hlen, a0, a1, a2, hs1, ht1, hK, hg0, d11, happ, n1]
     refine ex_draw ?_ ?_
     · rw [show befs [] _ = [0, 0, 2, 0, 8, 24, 0, 126, 255, 511] from by kernel_rfl]
       simp [w9, AV.cells, AV.leaf, reduceEqDiff, reduceLT, reduceAdd, reduceLeDiff, reduceCtorEq, reduceMul, reduceMod, u154, hlen, drawOk, chained, mayAt, sameAt, bound, List.range_succ, Nat.testBit, a0, a1, a2, hs1, ht1, hK, hg0, hgK, happ, n1, avbeq_refl]
     exact ⟨_, ⟨m2, (f0.trans (Frm.more K b rb _)).trans f2⟩, Fin_raw (l := [.int .i64 (l.length : Nat)]) (by simp [w9, AV.cells, AV.leaf, reduceEqDiff, reduceLT, reduceAdd, reduceLeDiff, reduceCtorEq, reduceMul, reduceMod, u154, hlen, aResults, aResult])⟩
 · have e : mkN (.mk 2 no sf sp least most kf kids) l to = mkC kids l to := by rw [mkN.eq_def]; simp
   have ec : cnt (.mk 2 no sf sp least most kf kids) = cntL kids := by rw [cnt.eq_def]; simp
   rw [ec] at hl
   rw [e]
   refine raw_slimE rfl (by kernel_rfl) (by kernel_rfl) (by kernel_rfl) Tryz.func156 s156 (by simp [Tryz.f156]) fun fr hlen h => ?_
   simp only [Has, Nat.zero_add] at h
   obtain ⟨a0, a1, a2, -⟩ := h
   simp only [Tryz.f156] at hlen ⊢
   unfold g156
   rw [encN_eq] at a1
   unfold AV.leaf at hs1 ht1
   simp only [w9, AV.cells, AV.leaf, reduceEqDiff, reduceLT, reduceAdd, reduceLeDiff, reduceCtorEq, reduceMul, reduceMod, u154, hlen, a0, a1, a2, hs1, ht1, hK, hg0, d21, d22, hkn, hw0, none_beq]
   refine loop_ruleE (fun m fr H' => ∃ (k : Nat), m = k ∧ k ≤ kids.length ∧ fr.length = 53 ∧ fget fr 0 = .ptr b 0 0 ∧ fget fr 2 = .int .i64 (mkC (kids.drop k) l to).2 ∧ fget fr 4 = .ptr H.length 0 0 ∧ fget fr 7 = .int .i64 ((k : Int) - 1)
     ∧ MkAt H' b rb (mkC (kids.drop k) l to).1 ∧ Frm K H' b rb) ?_ kids.length _ _ ⟨kids.length, by
       rw [List.drop_of_length_le (Nat.le_refl _)]
       refine ⟨rfl, Nat.le_refl _, by simp [w9, AV.cells, AV.leaf, reduceEqDiff, reduceLT, reduceAdd, reduceLeDiff, reduceCtorEq, reduceMul, reduceMod, u154, hlen], by simp [w9, AV.cells, AV.leaf, reduceEqDiff, reduceLT, reduceAdd, reduceLeDiff, reduceCtorEq, reduceMul, reduceMod, u154, hlen, a0], by simp [w9, AV.cells, AV.leaf, reduceEqDiff, reduceLT, reduceAdd, reduceLeDiff, reduceCtorEq, reduceMul, reduceMod, u154, hlen, a2, mkC], by simp [w9, AV.cells, AV.leaf, reduceEqDiff, reduceLT, reduceAdd, reduceLeDiff, reduceCtorEq, reduceMul, reduceMod, u154, hlen], by simp [w9, AV.cells, AV.leaf, reduceEqDiff, reduceLT, reduceAdd, reduceLeDiff, reduceCtorEq, reduceMul, reduceMod, u154, hlen], hm0, Frm.refl _ _ _⟩⟩
   clear a0 a1 a2 hlen fr
   rintro m fr H' ⟨k, rfl, hki, hlen, a0, a2, a4, a7, hm1, f1⟩ ihl
   cases m with
   | zero =>
     have d1 : decide (((0 : Nat) : Int) - 1 ≥ 0) = false := rfl
     rw [List.drop_zero] at hm1 a2
     simp only [w9, AV.cells, AV.leaf, reduceEqDiff, reduceLT, reduceAdd, reduceLeDiff, reduceCtorEq, reduceMul, reduceMod, u154, hlen, a0, a2, a4, a7, d1]
     exact ⟨_, ⟨hm1, f0.trans f1⟩, Fin_raw (l := [.int .i64 (mkC kids l to).2]) (by simp [w9, AV.cells, AV.leaf, reduceEqDiff, reduceLT, reduceAdd, reduceLeDiff, reduceCtorEq, reduceMul, reduceMod, u154, hlen, aResults, aResult])⟩
   | succ j =>
     have e0 : ((j + 1 : Nat) : Int) - 1 = (j : Nat) := by omega
     rw [e0] at a7
     have d1 : decide (((j : Nat) : Int) ≥ 0) = true := decide_eq_true (by omega)
     have e1 := hsl.at (P := Tryz.prog) (k := .i64) (i := j) Tryz.underlying174 sz176 encN_len (by omega)
     have hdj : kids.drop j = kids[j] :: kids.drop (j + 1) := by simp
     have hcl := cntL_drop kids j
     have hml := mkC_len (kids.drop (j + 1)) (fun y hy => hfk y (List.mem_of_mem_drop hy)) l to
     rw [hdj, cntL] at hcl
     have hgk := f1.keep _ _ _ (by omega) (by omega) hg0
     obtain ⟨H2, ⟨hm2, f2⟩, n1⟩ := ih kids[j] (List.getElem_mem _) _ (mkC (kids.drop (j + 1)) l to).2 b rb prot H' (by rw [hml]; omega) hp hb hm1
     have hmk : mkC (kids.drop j) l to = mkN kids[j] (mkC (kids.drop (j + 1)) l to).1 (mkC (kids.drop (j + 1)) l to).2 := by rw [hdj, mkC]
     generalize kids[j] = x at *
     generalize mkC (kids.drop (j + 1)) l to = q at *
     generalize mkN x q.1 q.2 = w at *
     obtain ⟨k', no', s, x1, x2, t, hx, hs, ht, -, -⟩ := encN_sh x
     rw [hx] at e1 n1
     simp only [AV.cells] at e1
     have hw2 := wrap_dec (k := j) (by omega)
     simp only [w9, AV.cells, AV.leaf, reduceEqDiff, reduceLT, reduceAdd, reduceLeDiff, reduceCtorEq, reduceMul, reduceMod, u154, hlen, a0, a2, a4, a7, d1, hgk, e1, n1, hw2]
     refine ihl _ _ j (by omega) ⟨j, rfl, by omega, by simp [w9, AV.cells, AV.leaf, reduceEqDiff, reduceLT, reduceAdd, reduceLeDiff, reduceCtorEq, reduceMul, reduceMod, u154, hlen], by simp [w9, AV.cells, AV.leaf, reduceEqDiff, reduceLT, reduceAdd, reduceLeDiff, reduceCtorEq, reduceMul, reduceMod, u154, hlen, a0], ?_, by simp [w9, AV.cells, AV.leaf, reduceEqDiff, reduceLT, reduceAdd, reduceLeDiff, reduceCtorEq, reduceMul, reduceMod, u154, hlen, a4], by simp [w9, AV.cells, AV.leaf, reduceEqDiff, reduceLT, reduceAdd, reduceLeDiff, reduceCtorEq, reduceMul, reduceMod, u154, hlen], ?_, f1.trans f2⟩
     · rw [hmk]; simp [w9, AV.cells, AV.leaf, reduceEqDiff, reduceLT, reduceAdd, reduceLeDiff, reduceCtorEq, reduceMul, reduceMod, u154, hlen]
     · rw [hmk]; exact hm2
 · have e : mkN (.mk 3 no sf sp least most kf kids) l to = mkE kids l to := by rw [mkN.eq_def]; simp
   have ec : cnt (.mk 3 no sf sp least most kf kids) = cntL kids + (kids.length - 1) := by rw [cnt.eq_def]; simp
   rw [ec] at hl
   rw [e]
   obtain ⟨H2, ⟨m2, f2⟩, n1⟩ := mkeither_ok kids ih hfk _ hsl hkl l to b rb prot K hl hp hb hm0
   refine raw_slimE rfl (by kernel_rfl) (by kernel_rfl) (by kernel_rfl) Tryz.func156 s156 (by simp [Tryz.f156]) fun fr hlen h => ?_
   simp only [Has, Nat.zero_add] at h
   obtain ⟨a0, a1, a2, -⟩ := h
   simp only [Tryz.f156] at hlen ⊢
   unfold g156
   rw [encN_eq] at a1
   unfold AV.leaf at hs1 ht1
   simp only [w9, AV.cells, AV.leaf, reduceEqDiff, reduceLT, reduceAdd, reduceLeDiff, reduceCtorEq, reduceMul, reduceMod, u154, hlen, a0, a1, a2, hs1, ht1, hK, hg0, d31, d32, d33, n1, none_beq]
   exact ⟨_, ⟨m2, f0.trans f2⟩, Fin_raw (l := [.int .i64 (mkE kids l to).2]) (by simp [w9, AV.cells, AV.leaf, reduceEqDiff, reduceLT, reduceAdd, reduceLeDiff, reduceCtorEq, reduceMul, reduceMod, u154, hlen, aResults, aResult])⟩
 · obtain ⟨x, rfl⟩ : ∃ x, kids = [x] := List.length_eq_one_iff.1 hk1
   have e : mkN (.mk 4 no sf sp least most kf [x]) l to = repS (mkN x) least most l to := by rw [mkN.eq_def]; simp
   rw [e]
   obtain ⟨H2, ⟨m2, f2⟩, n1⟩ := mkrepeat_ok x (ih x (by simp)) (hfk x (by simp)) no sf sp least most kf hk2 hk3 hk4 l to b rb prot K hl hp hb hm0
   rw [encN_eq] at n1
   refine raw_slimE rfl (by kernel_rfl) (by kernel_rfl) (by kernel_rfl) Tryz.func156 s156 (by simp [Tryz.f156]) fun fr hlen h => ?_
   simp only [Has, Nat.zero_add] at h
   obtain ⟨a0, a1, a2, -⟩ := h
   simp only [Tryz.f156] at hlen ⊢
   unfold g156
   rw [encN_eq] at a1
   unfold AV.leaf at hs1 ht1
   simp only [w9, AV.cells, AV.leaf, reduceEqDiff, reduceLT, reduceAdd, reduceLeDiff, reduceCtorEq, reduceMul, reduceMod, u154, hlen, a0, a1, a2, hs1, ht1, hK, hg0, d41, d42, d43, d44, n1, none_beq]
   exact ⟨_, ⟨m2, f0.trans f2⟩, Fin_raw (l := [.int .i64 (repS (mkN x) least most l to).2]) (by simp [w9, AV.cells, AV.leaf, reduceEqDiff, reduceLT, reduceAdd, reduceLeDiff, reduceCtorEq, reduceMul, reduceMod, u154, hlen, aResults, aResult])⟩
theorem mknode_ok : ∀ (x : Nd), Good x → Fine x → MkOk x
 | .mk kind no sf sp least most kf kids, hg, hf => mknode_step kind no sf sp least most kf kids hg hf fun x hx => mknode_ok x (by cases hg with | mk h _ _ => exact h x hx) (by cases hf with | mk h _ _ => exact h x hx)
termination_by x => SizeOf.sizeOf x
decreasing_by have := List.sizeOf_lt_of_mem hx; simp; omega
end Go.Proofs.YtnipaiklandliaaGreatDoor
namespace Go.Proofs.YtnipaiklandliaaGreatDoor
open Go Go.Abs AbsSeat Ty
open Nat (reduceEqDiff reduceLT reduceAdd reduceLeDiff reduceMul reduceMod)
theorem Lks.frozen {base low : Nat} {H : Heap} (hlow : low ≤ base) {hl : List HS} {l : List St} (h : Lks base H hl l) : FrzL H low (cellsOf encH hl) (cellsOf encSt l) := by
 induction h with
 | nil => exact .nil
 | @cons h s hl l a b ih =>
   obtain ⟨a1, a2, a3, a4, a5, a6⟩ := a
   have e1 : cellsOf encH (h :: hl) = .int .i64 h.kind :: .bool h.no :: h.sv :: .int .i64 h.one :: .int .i64 h.two :: cellsOf encH hl := by simp [cellsOf, encH, AV.cells]
   have e2 : cellsOf encSt (s :: l) = .int .i64 s.kind :: .bool s.no :: slv encG s.sp :: .int .i64 s.one :: .int .i64 s.two :: cellsOf encSt l := by simp [cellsOf, encSt, AV.cells]
   rw [e1, e2, a1, a2, a3, a4]
   exact .cons (.still rfl) (.cons (.still rfl) (.cons ((a5.low hlow).frozen encG_T (by decide) rfl a6) (.cons (.still rfl) (.cons (.still rfl) ih))))
theorem MkAt.frozen {H : Heap} {b rb low : Nat} {l : List St} {ver : Nat} (h : MkAt H b rb l) (hlow : low ≤ rb) (hne : l ≠ []) (hg : hget H b 0 = some [.bs ⟨rb, ver, 0, l.length, 0, 5, true, false⟩]) : Frz H low (.bs ⟨rb, ver, 0, l.length, 0, 5, true, false⟩) (slv encSt l) := by
 obtain ⟨ver', hls, g1, g2, g3, g4⟩ := h
 rw [hg] at g1
 cases g1
 have hll := g3.length
 have hw : win (cellsOf encH hls) 0 (l.length * 5) = some (cellsOf encH hls) := by
   have := encH_L.length hls
   simp only [win, Nat.zero_add, List.drop_zero]
   rw [if_pos (by omega), List.take_of_length_le (by omega)]
 have := Frz.bs (H := H) (base := low) (s := ⟨rb, ver, 0, l.length, 0, 5, true, false⟩) hlow (Nat.succ_pos 4) rfl g2 hw (g3.frozen (by omega))
 rw [chunk_cellsOf encSt_T (by decide)] at this
 cases l with
 | nil => exact absurd rfl hne
 | cons x r => exact this
theorem state0_ok (x : HS) (s : St) (b prot : Nat) (H : Heap) (hp : prot ≤ b) (hg : hget H b 0 = some [.nilS]) (hx : LikeS (H.length + 3) H x s) :
   ∃ H', (MkAt H' b (H.length + 2) [s] ∧ Frm H H' b b) ∧ aLim cfg prot 155 [.ptr b 0 0, encH x] H = some (.int .i64 0, some H') := by
 have hxl := x.lf
 have hlb := hget_lt hg
 have hbox : hget (H ++ [Blk.cells 0 (encH x).cells]) H.length 0 = some (encH x).cells := by rw [hget_new rfl, if_pos rfl]
 have hl1 : (H ++ [Blk.cells 0 (encH x).cells]).length = H.length + 1 := by simp
 have hl2 : (H ++ [Blk.cells 0 (encH x).cells] ++ [Blk.cells 0 (encH x).cells]).length = H.length + 2 := by simp
 have f0 : Frm H (H ++ [Blk.cells 0 (encH x).cells] ++ [Blk.cells 0 (encH x).cells]) b b := (Frm.more H b b _).trans (Frm.more _ b b _)
 have g1' := hget_mono (hget_mono hg [Blk.cells 0 (encH x).cells]) [Blk.cells 0 (encH x).cells]
 have hlit := litH x (H ++ [Blk.cells 0 (encH x).cells])
 have hel := elemH x (H ++ [Blk.cells 0 (encH x).cells])
 have happ := encH_L.app0 (prot := prot) (m := [x]) rowSt hxtSt hel (by simp) (show roomy 1 56 = true from by decide)
 rw [hl1, hl2] at happ
 rw [hl1] at hlit
 have hll1 : hget (H ++ [Blk.cells 0 (encH x).cells]) b 0 = some [.nilS] := hget_mono hg _
 generalize hK : H ++ [Blk.cells 0 (encH x).cells] ++ [Blk.cells 0 (encH x).cells] = K at *
 have g3 : hget (K ++ [Blk.cells 0 (cellsOf encH [x])]) b 0 = some [.nilS] := hget_mono g1' _
 have g4 : hget (K ++ [Blk.cells 0 (cellsOf encH [x])]) (H.length + 2) 0 = some (cellsOf encH [x]) := by rw [hget_new hl2.symm, if_pos rfl]
 have hput1 : hput prot (K ++ [Blk.cells 0 (cellsOf encH [x])]) b 0 0 [.bs ⟨H.length + 2, 0, 0, 1, 0, 5, true, false⟩] = some ((K ++ [Blk.cells 0 (cellsOf encH [x])]).set b (.cells 0 [.bs ⟨H.length + 2, 0, 0, 1, 0, 5, true, false⟩])) := by
   rw [hput_eq g3 hp (by simp) (by simp [AV.leaf])]; rfl
 have g5 : hget ((K ++ [Blk.cells 0 (cellsOf encH [x])]).set b (.cells 0 [.bs ⟨H.length + 2, 0, 0, 1, 0, 5, true, false⟩])) b 0 = some [.bs ⟨H.length + 2, 0, 0, 1, 0, 5, true, false⟩] := hget_set_at (hget_lt g3)
 have hbb : hget (H ++ [Blk.cells 0 (encH x).cells]) H.length 0 = some (encH x).cells := by rw [hget_new rfl, if_pos rfl]
 have fT : Frm H ((K ++ [Blk.cells 0 (cellsOf encH [x])]).set b (.cells 0 [.bs ⟨H.length + 2, 0, 0, 1, 0, 5, true, false⟩])) b b := (f0.trans (Frm.more K b b _)).trans (Frm.set1 _ b b _)
 have hx' := hx.keep fT (by omega) (by omega)
 have hw1 : IntKind.i64.wrap (((1 : Nat) : Int) - 1) = 0 := by decide
 simp only [encH, AV.cells] at hlit happ hK hbb hll1 hl1
 simp only [List.length_singleton] at happ
 unfold AV.leaf at hxl
 refine raw_slimE rfl (by kernel_rfl) (by kernel_rfl) (by kernel_rfl) Tryz.func155 s155 (by simp [Tryz.f155]) fun fr hlen h => ?_
 simp only [Has, Nat.zero_add] at h
 obtain ⟨a0, a1, -⟩ := h
 simp only [Tryz.f155] at hlen ⊢
 unfold g155
 simp only [w9, AV.cells, AV.leaf, reduceEqDiff, reduceLT, reduceAdd, reduceLeDiff, reduceCtorEq, reduceMul, reduceMod, u154, hlen, a0, a1, encH, hxl, hll1, hl1, hbb, hlit, hK, happ, hput1]
 refine ex_draw ?_ ?_
 · rw [show befs [] _ = [0, 0, 2, 6, 14, 0, 32, 126, 255, 511, 1023] from by kernel_rfl]
   simp [w9, AV.cells, AV.leaf, reduceEqDiff, reduceLT, reduceAdd, reduceLeDiff, reduceCtorEq, reduceMul, reduceMod, u154, hlen, drawOk, chained, mayAt, sameAt, bound, List.range_succ, Nat.testBit, a0, a1, encH, hxl, hll1, hl1, hbb, hlit, hK, happ, hput1, g1', avbeq_refl]
 simp only [w9, AV.cells, AV.leaf, reduceEqDiff, reduceLT, reduceAdd, reduceLeDiff, reduceCtorEq, reduceMul, reduceMod, u154, hlen, a0, g5, lenSt, hw1]
 refine ⟨_, ⟨⟨0, [x], ?_, ?_, ?_, rfl⟩, fT⟩, Fin_raw (l := [.int .i64 0]) (by simp [w9, AV.cells, AV.leaf, reduceEqDiff, reduceLT, reduceAdd, reduceLeDiff, reduceCtorEq, reduceMul, reduceMod, u154, hlen, aResults, aResult])⟩
 · exact g5
 · rw [hget_set_ne (by omega)]; exact g4
 · exact .cons hx' .nil
theorem compile_ok (x : Nd) (hg : Good x) (hf : Fine x) (hd : Dep 51 x) (hs : sizeN x ≤ 400) (prot : Nat) (H : Heap) (hp : prot ≤ H.length) :
   aLim cfg prot 121 [encN x] H = some (.tup [slv encSt (mkN x [⟨3, false, [], 0, 0⟩] 0).1, .int .i64 (mkN x [⟨3, false, [], 0, 0⟩] 0).2, .int .i64 0], none) := by
 have hsnap : snap H [encN x] = some ([encN x], false) := by cases x; rw [encN_eq]; rfl
 have hcs := cnt_size x hg (by omega)
 have hlen1 := mkN_len x hg.fair [⟨3, false, [], 0, 0⟩] 0
 have n1 : ∀ K : Heap, H.length ≤ K.length → aLim cfg H.length 154 [encN x, .int .i64 0] K = some (.int .i64 0, none) := fun K hK => may_ok x hg 51 hd 0 (by omega) H.length K hK
 have n2 := fun (K : Heap) (hK : H.length ≤ K.length) => nsize_ok x hg H.length K hK
 have hmk := mknode_ok x hg hf
 unfold MkOk at hmk
 have hlZ : ∀ Z, (H ++ [Blk.cells 0 Z]).length = H.length + 1 := fun Z => by simp
 obtain ⟨k', no', s, x1, x2, t, hx, hs1, ht1, -, -⟩ := encN_sh x
 rw [hx] at n1 n2 hmk ⊢
 rw [hx] at hsnap
 have hgx : hget (H ++ [Blk.cells 0 [.int .i64 k', .bool no', s, .int .i64 x1, .int .i64 x2, t]]) H.length 0 = some [.int .i64 k', .bool no', s, .int .i64 x1, .int .i64 x2, t] := by rw [hget_new rfl, if_pos rfl]
 have hgm : hget (H ++ [Blk.cells 0 [.int .i64 k', .bool no', s, .int .i64 x1, .int .i64 x2, t]] ++ [Blk.cells 0 [.nilS]]) (H.length + 1) 0 = some [.nilS] := by rw [hget_new (hlZ _).symm, if_pos rfl]
 have hgx2 := hget_mono hgx [Blk.cells 0 [.nilS]]
 obtain ⟨H1, ⟨m1, f1⟩, c1⟩ := state0_ok ⟨3, false, .nilS, rfl, 0, 0⟩ ⟨3, false, [], 0, 0⟩ (H.length + 1) H.length _ (by omega) hgm ⟨rfl, rfl, rfl, rfl, Row.nil, .inl rfl⟩
 have hl2 : (H ++ [Blk.cells 0 [.int .i64 k', .bool no', s, .int .i64 x1, .int .i64 x2, t]] ++ [Blk.cells 0 [.nilS]]).length = H.length + 2 := by simp
 rw [hl2] at m1
 have hgx3 := f1.keep _ _ _ (by omega) (by omega) hgx2
 obtain ⟨H2, ⟨m2, f2⟩, c2⟩ := hmk [⟨3, false, [], 0, 0⟩] 0 (H.length + 1) (H.length + 2 + 2) H.length H1 (by simp; omega) (by omega) (by omega) m1
 simp only [encH] at c1
 have m2' := m2
 obtain ⟨ver, hls, g1, -, -, -⟩ := m2'
 have hd1 : decide ((400 : Int) < (sizeN x : Nat)) = false := decide_eq_false (by omega)
 have hd2 : decide (¬ (0 : Int) = 0) = false := rfl
 have hle1 : H.length ≤ H.length + 1 := by omega
 have hfz := m2.frozen (low := H.length) (by omega) (by intro h; rw [h] at hlen1; simp at hlen1; omega) g1
 refine pure_slim rfl (by kernel_rfl) Tryz.func121 s121 hp hsnap (by simp [Tryz.f121]) fun fr hlen h => ?_
 simp only [Has, Nat.zero_add] at h
 obtain ⟨a0, -⟩ := h
 simp only [Tryz.f121] at hlen ⊢
 unfold g121
 unfold AV.leaf at hs1 ht1
 simp only [w9, AV.cells, AV.leaf, reduceEqDiff, reduceLT, reduceAdd, reduceLeDiff, reduceCtorEq, reduceMul, reduceMod, u154, hlen, a0, hs1, ht1, hgx, hlZ, hle1, n1, n2, hd1, hd2, hgm, c1, hgx3, c2, g1, none_beq]
 exact Fin_pure (l := [.bs ⟨H.length + 2 + 2, ver, 0, (mkN x [⟨3, false, [], 0, 0⟩] 0).1.length, 0, 5, true, false⟩, .int .i64 (mkN x [⟨3, false, [], 0, 0⟩] 0).2, .int .i64 0]) (by simp [w9, AV.cells, AV.leaf, reduceEqDiff, reduceLT, reduceAdd, reduceLeDiff, reduceCtorEq, reduceMul, reduceMod, u154, hlen, aResults, aResult]) (.tup (.cons hfz (.cons (.still rfl) (.cons (.still rfl) .nil)))) (by simp)
end Go.Proofs.YtnipaiklandliaaGreatDoor
/- Chapter 16: a machine of a text, and the law NfaSteps, walked. -/
namespace Go.Proofs.YtnipaiklandliaaGreatDoor
open Go Go.Abs AbsSeat Ty
open Nat (reduceEqDiff reduceLT reduceAdd reduceLeDiff reduceMul reduceMod)
def SpOk (l : List St) : Prop := ∀ s ∈ l, s.sp.length ≤ 10000000
theorem SpOk.snoc {l : List St} (h : SpOk l) {s : St} (hs : s.sp.length ≤ 10000000) : SpOk (l ++ [s]) := fun t ht => by
 rcases List.mem_append.1 ht with h1 | h1
 · exact h t h1
 · rw [List.mem_singleton.1 h1]; exact hs
theorem SpOk.setOne : ∀ {l : List St} (_ : SpOk l) (i : Nat) (v : Int), SpOk (setOne l i v)
 | [], h, _, _ => h
 | s :: r, h, 0, v => fun t ht => by
   rw [Proofs.YtnipaiklandliaaGreatDoor.setOne] at ht
   rcases List.mem_cons.1 ht with h1 | h1
   · rw [h1]; exact h s (by simp)
   · exact h t (by simp [h1])
 | s :: r, h, i + 1, v => fun t ht => by
   rw [Proofs.YtnipaiklandliaaGreatDoor.setOne] at ht
   rcases List.mem_cons.1 ht with h1 | h1
   · rw [h1]; exact h s (by simp)
   · exact SpOk.setOne (l := r) (fun u hu => h u (by simp [hu])) i v t h1
theorem repK_sp {f : List St → Int → List St × Int} (hf : ∀ l a, SpOk l → SpOk (f l a).1) : ∀ (n : Nat) (l : List St) (a : Int), SpOk l → SpOk (repK f n l a).1
 | 0, l, a, h => by rw [repK]; exact h
 | n + 1, l, a, h => by rw [repK]; exact repK_sp hf n _ _ (hf l a h)
theorem optK_sp {f : List St → Int → List St × Int} {to : Int} (hf : ∀ l a, SpOk l → SpOk (f l a).1) : ∀ (n : Nat) (l : List St) (a : Int), SpOk l → SpOk (optK f to n l a).1
 | 0, l, a, h => by rw [optK]; exact h
 | n + 1, l, a, h => by rw [optK]; exact optK_sp hf n _ _ ((hf l a h).snoc (by simp))
theorem repS_sp {f : List St → Int → List St × Int} (hf : ∀ l a, SpOk l → SpOk (f l a).1) (least most : Int) (l : List St) (to : Int) (h : SpOk l) : SpOk (repS f least most l to).1 := by
 unfold repS
 have h1 := (hf _ ((l.length : Nat) : Int) (h.snoc (s := ⟨2, false, [], 0, to⟩) (by simp))).setOne l.length (f (l ++ [⟨2, false, [], 0, to⟩]) (l.length : Nat)).2
 split
 · split
   · exact h1
   · exact repK_sp hf _ _ _ h1
 · exact repK_sp hf _ _ _ (optK_sp hf _ _ _ h)
mutual
theorem mkN_sp : ∀ (x : Nd), Fine x → ∀ (l : List St) (to : Int), SpOk l → SpOk (mkN x l to).1
 | .mk kind no sf sp least most kf kids, hf, l, to, h => by
   cases hf with
   | mk hk hs _ =>
   rw [mkN.eq_def]
   dsimp only
   by_cases h1 : kind = 1
   · rw [if_pos h1]; exact h.snoc hs
   · rw [if_neg h1]
     by_cases h2 : kind = 2
     · rw [if_pos h2]; exact mkC_sp kids hk l to h
     · rw [if_neg h2]
       by_cases h3 : kind = 3
       · rw [if_pos h3]; exact mkE_sp kids hk l to h
       · rw [if_neg h3]
         by_cases h5 : kind = 4
         · rw [if_pos h5]
           match kids, hk with
           | [], _ => exact h
           | [x], hk => exact repS_sp (fun l a hl => mkN_sp x (hk x (by simp)) l a hl) least most l to h
           | x :: y :: r, _ => exact h
         · rw [if_neg h5]; exact h
theorem mkC_sp : ∀ (kids : List Nd), (∀ x ∈ kids, Fine x) → ∀ (l : List St) (to : Int), SpOk l → SpOk (mkC kids l to).1
 | [], _, l, to, h => by rw [mkC]; exact h
 | x :: r, hk, l, to, h => by
   rw [mkC]; exact mkN_sp x (hk x (by simp)) _ _ (mkC_sp r (fun y hy => hk y (by simp [hy])) l to h)
theorem mkE_sp : ∀ (kids : List Nd), (∀ x ∈ kids, Fine x) → ∀ (l : List St) (to : Int), SpOk l → SpOk (mkE kids l to).1
 | [], _, l, to, h => by rw [mkE]; exact h
 | x :: r, hk, l, to, h => by
   rw [mkE]
   have h1 := mkN_sp x (hk x (by simp)) _ to (mkE_sp r (fun y hy => hk y (by simp [hy])) l to h)
   split
   · exact h1
   · exact h1.snoc (by simp)
end
def ofS (s : List UInt8) : AV := if (parseU s).2 = 0 then newS (mkN (parseU s).1 [⟨3, false, [], 0, 0⟩] 0).1 (mkN (parseU s).1 [⟨3, false, [], 0, 0⟩] 0).2 else .tup [.nil, .int .i64 (parseU s).2]
theorem rightM_of {l : List St} (h : l.all (rightB l.length) = true) : RightM l := fun s hs => by
 have h1 := List.all_eq_true.1 h s hs
 unfold rightB at h1
 split at h1
 · rename_i h2
   simp only [inN, Bool.and_eq_true, decide_eq_true_eq] at h1
   exact ⟨.inr (.inr h2), fun _ => h1.2, fun _ => h1.1⟩
 · rename_i h2
   split at h1
   · rename_i h3
     simp only [inN, Bool.and_eq_true, decide_eq_true_eq] at h1
     exact ⟨.inr (.inl h3), fun _ => h1, fun h => absurd h h2⟩
   · rename_i h3
     simp only [decide_eq_true_eq] at h1
     exact ⟨.inl h1, fun h => by omega, fun h => absurd h h2⟩
theorem ofS_cases (s : List UInt8) (hs : s.length ≤ 1000) : (∃ e : Int, e ≠ 0 ∧ ofS s = .tup [.nil, .int .i64 e]) ∨ ∃ l a, RightM l ∧ SpOk l ∧ l.length ≤ 401 ∧ a < l.length ∧ ofS s = .tup [encM l a, .int .i64 0] := by
 unfold ofS
 by_cases h : (parseU s).2 = 0
 · rw [if_pos h]
   obtain ⟨-, hf, -, -⟩ := parse_known s hs h
   have hsp := mkN_sp _ hf [⟨3, false, [], 0, 0⟩] 0 (fun t ht => by rw [List.mem_singleton.1 ht]; simp)
   generalize mkN (parseU s).1 [⟨3, false, [], 0, 0⟩] 0 = w at *
   unfold newS
   by_cases hc : (decide (w.1.length ≤ 401) && inN w.1.length w.2 && w.1.all (rightB w.1.length)) = true
   · rw [if_pos hc]
     simp only [Bool.and_eq_true, decide_eq_true_eq, inN] at hc
     obtain ⟨⟨c1, c2, c3⟩, c4⟩ := hc
     refine .inr ⟨w.1, w.2.toNat, rightM_of c4, hsp, c1, by omega, ?_⟩
     unfold encM
     rw [show ((w.2.toNat : Nat) : Int) = w.2 by omega]
   · rw [if_neg hc]
     exact .inl ⟨1, by decide, rfl⟩
 · rw [if_neg h]
   exact .inl ⟨_, h, rfl⟩
theorem nof_ok (s : List UInt8) (hs : s.length ≤ 1000) (prot : Nat) (H : Heap) (hp : prot ≤ H.length) : aLim cfg prot 88 [.str s] H = some (ofS s, none) := by
 have hsnap : snap H [.str s] = some ([.str s], false) := rfl
 have n1 := fun (K : Heap) (hK : H.length ≤ K.length) => parse_okX s hs H.length K hK
 have hkn := parse_known s hs
 unfold ofS
 generalize parseU s = z at *
 obtain ⟨x, e⟩ := z
 dsimp only at n1 hkn ⊢
 obtain ⟨k', no', s', x1, x2, t, hx, hs, ht, -, -⟩ := encN_sh x
 rw [hx] at n1
 unfold AV.leaf at hs ht
 have hpl1 : H.length ≤ H.length + 1 := by omega
 have hlZ : ∀ Z, (H ++ [Blk.cells 0 Z]).length = H.length + 1 := fun Z => by simp
 have hg0 : ∀ Y, hget (H ++ [Blk.cells 0 Y]) H.length 0 = some Y := fun Y => by rw [hget_new rfl, if_pos rfl]
 by_cases he : e = 0
 · subst he
   rw [if_pos rfl]
   obtain ⟨hg, hf, hd, hsz⟩ := hkn rfl
   have hcs := cnt_size x hg (by omega)
   have hl1 := mkN_len x hg.fair [⟨3, false, [], 0, 0⟩] 0
   rw [List.length_singleton] at hl1
   have hsp := mkN_sp _ hf [⟨3, false, [], 0, 0⟩] 0 (fun t ht => by rw [List.mem_singleton.1 ht]; simp)
   have n2 := fun (K : Heap) (hK : H.length ≤ K.length) => compile_ok x hg hf hd hsz H.length K hK
   have n3 := fun (K : Heap) (hK : H.length ≤ K.length) => nnew_ok (mkN x [⟨3, false, [], 0, 0⟩] 0).1 _ (slv_sl encSt _) (by omega) hsp (mkN x [⟨3, false, [], 0, 0⟩] 0).2 H.length K hK
   rw [hx] at n2
   generalize mkN x [⟨3, false, [], 0, 0⟩] 0 = w at *
   have hsv : (slv encSt w.1).leaf = true := by cases w.1 <;> rfl
   unfold AV.leaf at hsv
   have e1 : decide (¬ (0 : Int) = 0) = false := rfl
   unfold newS at n3 ⊢
   by_cases hc : (decide (w.1.length ≤ 401) && inN w.1.length w.2 && w.1.all (rightB w.1.length)) = true
   · simp only [hc, if_true] at n3 ⊢
     refine pure_slim rfl (by kernel_rfl) Tryz.func88 s88 hp hsnap (by simp [Tryz.f88]) fun fr hlen h => ?_
     simp only [Has, Nat.zero_add] at h
     obtain ⟨a0, -⟩ := h
     simp only [Tryz.f88] at hlen ⊢
     unfold g88
     simp only [w9, AV.cells, AV.leaf, reduceEqDiff, reduceLT, reduceAdd, reduceLeDiff, reduceCtorEq, reduceMul, reduceMod, u163, hlen, a0, n1, n2, n3, hs, ht, hpl1, hlZ, hg0, e1, hsv, none_beq]
     exact Fin_pure (l := [.vptr [slv encSt w.1, .int .i64 w.2] 0, .int .i64 0]) (by simp [w9, AV.cells, AV.leaf, reduceEqDiff, reduceLT, reduceAdd, reduceLeDiff, reduceCtorEq, reduceMul, reduceMod, u163, hlen, aResults, aResult]) (.tup (.cons (.still rfl) (.cons (.still rfl) .nil))) (by simp)
   · have hc := Bool.eq_false_iff.2 hc
     simp only [hc, Bool.false_eq_true, if_false] at n3 ⊢
     refine pure_slim rfl (by kernel_rfl) Tryz.func88 s88 hp hsnap (by simp [Tryz.f88]) fun fr hlen h => ?_
     simp only [Has, Nat.zero_add] at h
     obtain ⟨a0, -⟩ := h
     simp only [Tryz.f88] at hlen ⊢
     unfold g88
     simp only [w9, AV.cells, AV.leaf, reduceEqDiff, reduceLT, reduceAdd, reduceLeDiff, reduceCtorEq, reduceMul, reduceMod, u163, hlen, a0, n1, n2, n3, hs, ht, hpl1, hlZ, hg0, e1, hsv, none_beq]
     exact Fin_pure (l := [.nil, .int .i64 1]) (by simp [w9, AV.cells, AV.leaf, reduceEqDiff, reduceLT, reduceAdd, reduceLeDiff, reduceCtorEq, reduceMul, reduceMod, u163, hlen, aResults, aResult]) (.tup (.cons (.still rfl) (.cons (.still rfl) .nil))) (by simp)
 · rw [if_neg he]
   have e1 : decide (¬ e = 0) = true := decide_eq_true he
   refine pure_slim rfl (by kernel_rfl) Tryz.func88 s88 hp hsnap (by simp [Tryz.f88]) fun fr hlen h => ?_
   simp only [Has, Nat.zero_add] at h
   obtain ⟨a0, -⟩ := h
   simp only [Tryz.f88] at hlen ⊢
   unfold g88
   simp only [w9, AV.cells, AV.leaf, reduceEqDiff, reduceLT, reduceAdd, reduceLeDiff, reduceCtorEq, reduceMul, reduceMod, u163, hlen, a0, n1, hs, ht, hpl1, hlZ, hg0, e1, none_beq]
   exact Fin_pure (l := [.nil, .int .i64 e]) (by simp [w9, AV.cells, AV.leaf, reduceEqDiff, reduceLT, reduceAdd, reduceLeDiff, reduceCtorEq, reduceMul, reduceMod, u163, hlen, aResults, aResult]) (.tup (.cons (.still rfl) (.cons (.still rfl) .nil))) (by simp)
end Go.Proofs.YtnipaiklandliaaGreatDoor
namespace Go.Proofs.YtnipaiklandliaaGreatDoor
open Go Go.Abs AbsSeat Ty
open Nat (reduceEqDiff reduceLT reduceAdd reduceLeDiff reduceMul reduceMod)
end Go.Proofs.YtnipaiklandliaaGreatDoor
/- Chapter 16: a node's states elsewhere: plain. -/
namespace Go.Proofs.YtnipaiklandliaaGreatDoor
open Go Go.Abs AbsSeat Ty
open Nat (reduceEqDiff reduceLT reduceAdd reduceLeDiff reduceMul reduceMod)
def Rv (b b2 : Nat) (to to2 : Int) (n : Nat) (v v2 : Int) : Prop := (v = to ∧ v2 = to2) ∨ ((b : Int) ≤ v ∧ v < n ∧ v2 = v - b + b2)
theorem Rv.up {b b2 : Nat} {to to2 : Int} {n m : Nat} {v v2 : Int} (h : Rv b b2 to to2 n v v2) (hn : n ≤ m) : Rv b b2 to to2 m v v2 := by
 rcases h with h | ⟨h1, h2, h3⟩
 · exact .inl h
 · exact .inr ⟨h1, by omega, h3⟩
def EqS (b b2 : Nat) (to to2 : Int) (n : Nat) (s s2 : St) : Prop := s.kind = s2.kind ∧ s.no = s2.no ∧ s.sp = s2.sp ∧ (s.kind = 1 ∨ s.kind = 2) ∧ Rv b b2 to to2 n s.one s2.one ∧ (s.kind = 2 → Rv b b2 to to2 n s.two s2.two)
def RelL (b b2 : Nat) (to to2 : Int) (A A2 : List St) : Prop := b ≤ A.length ∧ A.length + b2 = A2.length + b ∧ ∀ i, b + i < A.length → ∃ s s2, A[b + i]? = some s ∧ A2[b2 + i]? = some s2 ∧ EqS b b2 to to2 A.length s s2
theorem EqS.up {b b2 : Nat} {to to2 : Int} {n m : Nat} {s s2 : St} (h : EqS b b2 to to2 n s s2) (hn : n ≤ m) : EqS b b2 to to2 m s s2 := by
 obtain ⟨h1, h2, h3, h4, h5, h6⟩ := h
 exact ⟨h1, h2, h3, h4, h5.up hn, fun hk => (h6 hk).up hn⟩
def Pre (L A : List St) : Prop := ∀ (i : Nat) (s : St), L[i]? = some s → A[i]? = some s
theorem Pre.refl (L : List St) : Pre L L := fun _ _ h => h
theorem Pre.trans {L A B : List St} (h : Pre L A) (k : Pre A B) : Pre L B := fun i s hs => k i s (h i s hs)
theorem Pre.app (L X : List St) : Pre L (L ++ X) := fun i s hs => by
 have := (List.getElem?_eq_some_iff.1 hs).1
 rw [List.getElem?_append_left this]; exact hs
theorem RelL.nil (L L2 : List St) (to to2 : Int) : RelL L.length L2.length to to2 L L2 := ⟨Nat.le_refl _, Nat.add_comm _ _, fun i hi => by omega⟩
theorem RelL.snoc {b b2 : Nat} {to to2 : Int} {A A2 : List St} (h : RelL b b2 to to2 A A2) {s s2 : St} (hs : EqS b b2 to to2 (A.length + 1) s s2) : RelL b b2 to to2 (A ++ [s]) (A2 ++ [s2]) := by
 obtain ⟨h1, h2, h3⟩ := h
 refine ⟨by simp; omega, by simp; omega, fun i hi => ?_⟩
 rw [List.length_append, List.length_singleton] at hi
 by_cases hc : b + i < A.length
 · obtain ⟨t, t2, e1, e2, e3⟩ := h3 i hc
   exact ⟨t, t2, Pre.app A _ _ _ e1, Pre.app A2 _ _ _ e2, e3.up (by simp)⟩
 · refine ⟨s, s2, ?_, ?_, by rw [List.length_append]; exact hs⟩
   · rw [show b + i = A.length by omega]; simp
   · rw [show b2 + i = A2.length by omega]; simp
theorem RelL.at {b b2 : Nat} {to to2 : Int} {A A2 : List St} (h : RelL b b2 to to2 A A2) : Rv b b2 to to2 (A.length + 1) (A.length : Nat) (A2.length : Nat) := .inr ⟨by have := h.1; omega, by omega, by have := h.2.1; omega⟩
end Go.Proofs.YtnipaiklandliaaGreatDoor
/- Chapter 16: what a machine takes: plain. -/
namespace Go.Proofs.YtnipaiklandliaaGreatDoor
open Go Go.Abs AbsSeat Ty
open Nat (reduceEqDiff reduceLT reduceAdd reduceLeDiff reduceMul reduceMod)
inductive Acc (l : List St) : Nat → List Int → Prop where
 | halt {k : Nat} {s : St} (h : l[k]? = some s) (h3 : s.kind = 3) : Acc l k []
 | split {k j : Nat} {u : List Int} (h : nxt l k j) (a : Acc l j u) : Acc l k u
 | take {k j : Nat} {c : Int} {u : List Int} (h : tk l c k j) (a : Acc l j u) : Acc l k (c :: u)
inductive Pth (l : List St) : Nat → List Int → Nat → Prop where
 | refl {k : Nat} : Pth l k [] k
 | split {k j m : Nat} {u : List Int} (h : nxt l k j) (a : Pth l j u m) : Pth l k u m
 | take {k j m : Nat} {c : Int} {u : List Int} (h : tk l c k j) (a : Pth l j u m) : Pth l k (c :: u) m
theorem Pth.acc {l : List St} {k m : Nat} {u v : List Int} (h : Pth l k u m) (a : Acc l m v) : Acc l k (u ++ v) := by
 induction h with
 | refl => exact a
 | split h _ ih => exact .split h (ih a)
 | take h _ ih => exact .take h (ih a)
theorem Rch.pth {l : List St} {k j : Nat} (h : Rch l k j) {u : List Int} (a : Acc l j u) : Acc l k u := by
 induction h with
 | refl => exact a
 | step _ n ih => exact ih (.split n a)
theorem run_acc {l : List St} {s : List UInt8} {k : Nat} {o : List Nat} {os : List (Nat × List Nat)} (h : RunRel l s k o os) : ∀ rs, runesU (s.drop k) = some rs → Closed l o → (haltS l (((k, o) :: os).getLast (by simp)).2 = true ↔ ∃ x ∈ o, Acc l x rs) := by
 have hs : ∀ o : List Nat, Closed l o → (haltS l o = true ↔ ∃ x ∈ o, Acc l x []) := fun o hc => by
   unfold haltS
   rw [List.any_eq_true]
   constructor
   · rintro ⟨x, h1, h2⟩
     simp only [decide_eq_true_eq] at h2
     unfold kd at h2
     cases hx : l[x]? with
     | none => rw [hx] at h2; cases h2
     | some t => rw [hx] at h2; exact ⟨x, h1, .halt hx h2⟩
   · rintro ⟨x, h1, h2⟩
     generalize hu : ([] : List Int) = u at h2
     induction h2 with
     | halt hx h3 => exact ⟨_, h1, by unfold kd; rw [hx]; simpa using h3⟩
     | split hn _ ih => exact ih (hc _ h1 _ hn) hu
     | take _ _ _ => cases hu
 induction h with
 | @done k o h =>
   intro rs hr hc
   rw [List.drop_eq_nil_of_le h, runesU_nil] at hr
   cases hr
   exact hs o hc
 | @bad k o h he =>
   intro rs hr hc
   rw [runesU_step h, dif_neg he] at hr
   cases hr
 | @step k o o' os h he hnd hlt hm hr ih =>
   intro rs hrs hc
   rw [runesU_step h, dif_pos he] at hrs
   cases hd : runesU (s.drop (k + (nextU (s.drop k)).2.1)) with
   | none => rw [hd] at hrs; cases hrs
   | some r2 =>
     rw [hd] at hrs
     cases hrs
     have hc' : Closed l o' := fun x hx y hn => by
       rw [hm] at hx ⊢
       obtain ⟨j, h1, z, h2, h3⟩ := hx
       exact ⟨j, h1, z, h2, h3.step hn⟩
     rw [List.getLast_cons (by simp), ih r2 hd hc']
     constructor
     · rintro ⟨y, h1, h2⟩
       obtain ⟨j, h3, z, h4, h5⟩ := (hm y).1 h1
       exact ⟨j, h3, .take h4 (h5.pth h2)⟩
     · rintro ⟨x, h1, h2⟩
       replace h2 : Acc l x ((nextU (s.drop k)).1 :: r2) := h2
       generalize hu : ((nextU (s.drop k)).1 :: r2) = u at h2
       induction h2 with
       | halt _ _ => cases hu
       | split hn _ ih2 => exact ih2 (hc _ h1 _ hn) hu
       | @take k0 j c u ht a _ =>
         cases hu
         exact ⟨j, (hm j).2 ⟨k0, h1, j, ht, .refl⟩, a⟩
theorem run_lastN {l : List St} {s : List UInt8} {k : Nat} {o : List Nat} {os : List (Nat × List Nat)} (h : RunRel l s k o os) : k ≤ s.length → (runesU (s.drop k)).isSome = true → (((k, o) :: os).getLast (by simp)).1 = s.length := by
 induction h with
 | @done k o h => intro h1 _; show k = s.length; omega
 | @bad k o h he => intro _ h2; rw [runesU_step h, dif_neg he] at h2; cases h2
 | @step k o o' os h he hnd hlt hm hr ih =>
   intro h1 h2
   rw [runesU_step h, dif_pos he] at h2
   have hpos := nextU_pos he
   simp only [List.length_drop] at hpos
   rw [List.getLast_cons (by simp)]
   refine ih (by omega) ?_
   cases hd : runesU (s.drop (k + (nextU (s.drop k)).2.1)) with
   | none => rw [hd] at h2; cases h2
   | some x => rfl
theorem match_acc (l : List St) (hr : RightM l) (hsp : ∀ s ∈ l, s.sp.length < 1000000000) (a : Nat) (ha : a < l.length) (hln : l.length ≤ 100000) (s : List UInt8) (hs : s.length ≤ 10000) (prot : Nat) (H : Heap) (hp : prot ≤ H.length) :
   ∃ b : Bool, (b = true ↔ ∃ rs, runesU s = some rs ∧ Acc l a rs) ∧ aLim cfg prot 92 [encM l a, .str s] H = some (.bool b, none) := by
 obtain ⟨o0, os, ⟨h1, h2, h3, h4⟩, h5⟩ := match_ok l hr hsp a ha hln s hs prot H hp
 refine ⟨_, ?_, h5⟩
 have hfl : ∀ (T : List (Nat × List Nat)) (h : T ≠ []) (q : Bool), told (fun (_ : Bool) a o => decide (a = s.length) && haltS l o) q T = (decide ((T.getLast h).1 = s.length) && haltS l (T.getLast h).2) := by
   intro T h
   induction T with
   | nil => exact absurd rfl h
   | cons p r ih =>
     intro q
     cases r with
     | nil => rfl
     | cons p2 r2 =>
       rw [List.getLast_cons (by simp)]
       exact ih (by simp) (decide (p.1 = s.length) && haltS l p.2)
 rw [hfl ((0, o0) :: os) (by simp) false]
 have hc : Closed l o0 := fun x hx y hn => by
   rw [h3] at hx ⊢
   exact hx.step hn
 have hra := run_acc h4
 have hla : (0 : Nat) ≤ s.length → (runesU (s.drop 0)).isSome = true → (((0, o0) :: os).getLast (by simp)).1 = s.length := run_lastN h4
 rw [List.drop_zero] at hra hla
 cases hru : runesU s with
 | none => simp
 | some rs =>
   have hra := hra rs hru hc
   have hla := hla (Nat.zero_le _) (by rw [hru]; rfl)
   rw [hla, decide_eq_true rfl, Bool.true_and, Option.isSome_some, Bool.true_and, hra]
   constructor
   · rintro ⟨x, h6, h7⟩
     exact ⟨rs, rfl, ((h3 x).1 h6).pth h7⟩
   · rintro ⟨rs', h6, h7⟩
     cases h6
     exact ⟨a, (h3 a).2 .refl, h7⟩
end Go.Proofs.YtnipaiklandliaaGreatDoor
/- strings.HasPrefix, strings.CutPrefix, walked. -/
namespace Go.Proofs.YtnipaiklandliaaGreatDoor
open Go Go.Abs AbsSeat Ty
open Nat (reduceEqDiff reduceLT reduceAdd reduceLeDiff reduceMul reduceMod)
theorem slen (s : List UInt8) (K : Heap) : aLen Tryz.prog K 9 (.str s) = some (.int .i64 s.length) := str_len Tryz.underlying9 s K
theorem ff2 {K : Heap} {n : Nat} {x y : AV} (h1 : still x = true) (h2 : still y = true) : Frz K n (packR [x, y]) (.tup [x, y]) := .tup (.cons (.still h1) (.cons (.still h2) .nil))
end Go.Proofs.YtnipaiklandliaaGreatDoor
