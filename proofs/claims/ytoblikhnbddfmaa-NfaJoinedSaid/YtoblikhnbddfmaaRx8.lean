import Derived.Test.YtoblikhnbddfmaaRx3
import Derived.Test.YtoblikhnbddfmaaRx7
/-! Chapter 15: how many states a node makes, walked. -/
set_option linter.unusedSimpArgs false
namespace Go.Proofs.Ytoblikhnbddfmaa
open Go Go.Abs AbsSeat Ty

def cutN (n : Nat) : Nat := min n 2147483647
mutual
/-- how many states a node makes. -/
def sizeN : Nd → Nat
  | .mk kind _ _ _ least most _ kids =>
    if kind = 1 then 1
    else if kind = 2 ∨ kind = 3 then sizeL (decide (kind = 3)) true 0 kids
    else if kind = 4 then
      match kids with
      | [x] => if most = -1 then cutN (cutN ((max least 1).toNat * sizeN x) + 1) else cutN (cutN (least.toNat * sizeN x) + cutN ((most - least).toNat * (sizeN x + 1)))
      | _ => 0
    else 0
def sizeL (e : Bool) : Bool → Nat → List Nd → Nat
  | _, a, [] => a
  | first, a, x :: r => sizeL e false (if e && !first then cutN (cutN (a + sizeN x) + 1) else cutN (a + sizeN x)) r
end
/-- nodes that an expression may have. -/
inductive Good : Nd → Prop where
  | mk {kind : Int} {no sf : Bool} {sp : List Sg} {least most : Int} {kf : Bool} {kids : List Nd} (h : ∀ x ∈ kids, Good x) (hk : kind = 0 ∨ kind = 1 ∨ kind = 2 ∨ kind = 3 ∨ (kind = 4 ∧ kids.length = 1 ∧ 0 ≤ least ∧ least ≤ 16 ∧ (most = -1 ∨ (least ≤ most ∧ most ≤ 16)))) (hl : kids.length ≤ 1000000) : Good (.mk kind no sf sp least most kf kids)
theorem cutN_le (n : Nat) : cutN n ≤ 2147483647 := Nat.min_le_right _ _
theorem sizeL_le (e : Bool) : ∀ (l : List Nd) (f : Bool) (a : Nat), a ≤ 2147483647 → sizeL e f a l ≤ 2147483647
  | [], f, a, h => by rw [sizeL]; exact h
  | x :: r, f, a, h => by
    rw [sizeL]
    refine sizeL_le e r _ _ ?_
    split <;> exact cutN_le _
theorem sizeN_le (x : Nd) : sizeN x ≤ 2147483647 := by
  cases x with
  | mk kind no sf sp least most kf kids =>
    rw [sizeN.eq_def]
    dsimp only
    split
    · omega
    · split
      · exact sizeL_le _ _ _ _ (by omega)
      · split
        · split
          · split <;> exact cutN_le _
          · omega
        · omega
theorem cut_mul (m s : Nat) : cutN (m * cutN (s + 1)) = cutN (m * (s + 1)) := by
  unfold cutN
  by_cases h : s + 1 ≤ 2147483647
  · rw [Nat.min_eq_left h]
  · rw [Nat.min_eq_right (show 2147483647 ≤ s + 1 by omega)]
    cases m with
    | zero => simp
    | succ m =>
      have : 2147483647 ≤ (m + 1) * 2147483647 := by rw [Nat.succ_mul]; omega
      have : (m + 1) * 2147483647 ≤ (m + 1) * (s + 1) := Nat.mul_le_mul_left _ (by omega)
      omega
theorem u26 : type_of% (And.intro (show tagT Try.prog 41 = 0 from by kernel_rfl) (And.intro (show tagT Try.prog 106 = 0 from by kernel_rfl) (And.intro (show tagT Try.prog 47 = 0 from by kernel_rfl) (And.intro (show tagT Try.prog 111 = 0 from by kernel_rfl) (And.intro ag3 (And.intro sz3 (And.intro by3 (And.intro ze3 (And.intro Try.underlying3 (And.intro ag4 (And.intro sz4 (And.intro by4 (And.intro ze4 (And.intro Try.underlying4 (And.intro ag9 (And.intro sz9 (And.intro by9 (And.intro ze9 (And.intro Try.underlying9 (And.intro ag21 (And.intro sz21 (And.intro by21 (And.intro ze21 (And.intro Try.underlying21 (And.intro ag39 (And.intro sz39 (And.intro by39 (And.intro se39 (And.intro ze39 (And.intro Try.underlying39 (And.intro ag41 (And.intro sz41 (And.intro by41 (And.intro ze41 (And.intro bu41 (And.intro Try.underlying41 (And.intro ag45 (And.intro sz45 (And.intro by45 (And.intro se45 (And.intro ze45 (And.intro Try.underlying45 (And.intro ag47 (And.intro sz47 (And.intro by47 (And.intro ze47 (And.intro bu47 (And.intro Try.underlying47 (And.intro ag80 (And.intro sz80 (And.intro by80 (And.intro se80 (And.intro ze80 (And.intro Try.underlying80 (And.intro ag103 (And.intro sz103 (And.intro by103 (And.intro ze103 (And.intro Try.underlying103 (And.intro ag106 (And.intro sz106 (And.intro by106 (And.intro ze106 (And.intro bu106 (And.intro Try.underlying106 (And.intro ag109 (And.intro sz109 (And.intro by109 (And.intro ze109 (And.intro Try.underlying109 (And.intro ag111 (And.intro sz111 (And.intro by111 (And.intro ze111 (And.intro bu111 (And.intro Try.underlying111 (And.intro fa41_0 (And.intro fd41_0 (And.intro fa41_3 (And.intro fd41_3 (And.intro fa41_4 (And.intro fd41_4 (And.intro fa41_5 (And.intro fd41_5 (And.intro fa47_0 (And.intro fd47_0 (And.intro fa47_3 (And.intro fd47_3 (And.intro fa47_4 (And.intro fd47_4 (And.intro fa47_5 (And.intro fd47_5 (And.intro fa106_0 (And.intro fd106_0 (And.intro fa106_1 (And.intro fd106_1 (And.intro fa111_1 (And.intro fd111_1 (And.intro fa111_2 fd111_2))))))))))))))))))))))))))))))))))))))))))))))))))))))))))))))))))))))))))))))))))))))))))))))))))) := And.intro (show tagT Try.prog 41 = 0 from by kernel_rfl) (And.intro (show tagT Try.prog 106 = 0 from by kernel_rfl) (And.intro (show tagT Try.prog 47 = 0 from by kernel_rfl) (And.intro (show tagT Try.prog 111 = 0 from by kernel_rfl) (And.intro ag3 (And.intro sz3 (And.intro by3 (And.intro ze3 (And.intro Try.underlying3 (And.intro ag4 (And.intro sz4 (And.intro by4 (And.intro ze4 (And.intro Try.underlying4 (And.intro ag9 (And.intro sz9 (And.intro by9 (And.intro ze9 (And.intro Try.underlying9 (And.intro ag21 (And.intro sz21 (And.intro by21 (And.intro ze21 (And.intro Try.underlying21 (And.intro ag39 (And.intro sz39 (And.intro by39 (And.intro se39 (And.intro ze39 (And.intro Try.underlying39 (And.intro ag41 (And.intro sz41 (And.intro by41 (And.intro ze41 (And.intro bu41 (And.intro Try.underlying41 (And.intro ag45 (And.intro sz45 (And.intro by45 (And.intro se45 (And.intro ze45 (And.intro Try.underlying45 (And.intro ag47 (And.intro sz47 (And.intro by47 (And.intro ze47 (And.intro bu47 (And.intro Try.underlying47 (And.intro ag80 (And.intro sz80 (And.intro by80 (And.intro se80 (And.intro ze80 (And.intro Try.underlying80 (And.intro ag103 (And.intro sz103 (And.intro by103 (And.intro ze103 (And.intro Try.underlying103 (And.intro ag106 (And.intro sz106 (And.intro by106 (And.intro ze106 (And.intro bu106 (And.intro Try.underlying106 (And.intro ag109 (And.intro sz109 (And.intro by109 (And.intro ze109 (And.intro Try.underlying109 (And.intro ag111 (And.intro sz111 (And.intro by111 (And.intro ze111 (And.intro bu111 (And.intro Try.underlying111 (And.intro fa41_0 (And.intro fd41_0 (And.intro fa41_3 (And.intro fd41_3 (And.intro fa41_4 (And.intro fd41_4 (And.intro fa41_5 (And.intro fd41_5 (And.intro fa47_0 (And.intro fd47_0 (And.intro fa47_3 (And.intro fd47_3 (And.intro fa47_4 (And.intro fd47_4 (And.intro fa47_5 (And.intro fd47_5 (And.intro fa106_0 (And.intro fd106_0 (And.intro fa106_1 (And.intro fd106_1 (And.intro fa111_1 (And.intro fd111_1 (And.intro fa111_2 fd111_2))))))))))))))))))))))))))))))))))))))))))))))))))))))))))))))))))))))))))))))))))))))))))))))))))
def g26 : Code :=
  .seq (.region 0 #[q 1 (.box 41 (.tmp 0)) 0, q 2 (.assign (ik 0)) 3] false) (.seq (.seq (.region 1 #[q 6 (.fieldAddr 41 (.tmp 1) 0) 0, q 7 (.load 3 (.tmp 6)) 3] false) (.block 0 (.seq (.region 2 #[q 9 (.binOp .eql 3 (.tmp 7) (ik 1) 3) 4, q 8 (.assign (.tmp 9)) 4] false) (.cond (.tmp 8) (.seq (.region 3 #[q 2 (.assign (ik 1)) 3] false) .ret) (.seq (.seq (.region 4 #[q 11 (.binOp .eql 3 (.tmp 7) (ik 2) 3) 4, q 10 (.assign (.tmp 11)) 4] false) (.cond (.tmp 10) .skip (.region 5 #[q 12 (.binOp .eql 3 (.tmp 7) (ik 3) 3) 4, q 10 (.assign (.tmp 12)) 4] false))) (.cond (.tmp 10) (.seq (.region 6 #[q 3 (.assign (ik 0)) 3] false) (.seq (.seq (.region 7 #[q 13 (.fieldAddr 41 (.tmp 1) 5) 0, q 14 (.load 39 (.tmp 13)) 39, q 15 (bi .len #[.tmp 14] #[39]) 3, q 16 (.move (ik 0)) 3] false) (.block 1 (.loop (.seq (.region 8 #[q 17 (.binOp .lss 3 (.tmp 16) (.tmp 15) 3) 0] false) (.seq (.cond (.tmp 17) .skip (.exit 1)) (.seq (.block 2 (.seq (.region 9 #[q 18 (.move (.tmp 16)) 3, q 19 (.indexAddr 39 (.tmp 14) (.tmp 16)) 0, q 20 (.load 41 (.tmp 19)) 41, q 5 (.alloc 41) 0, q 4 (.assign (.tmp 18)) 3, qn (.store 41 (.tmp 5) (.tmp 20)) 0] false) (.seq (.region 10 #[q 21 (.move (.tmp 3)) 3, q 22 (.load 41 (.tmp 5)) 41, q 23 (cl 26 #[.tmp 22] #[41]) 3, q 24 (cl 64 #[.tmp 21, .tmp 23] #[3, 3]) 3, q 3 (.assign (.tmp 24)) 3] false) (.seq (.region 11 #[q 25 (.fieldAddr 41 (.tmp 1) 0) 0, q 26 (.load 3 (.tmp 25)) 3, q 27 (.binOp .eql 3 (.tmp 26) (ik 3) 3) 4, q 28 (.move (.tmp 27)) 4, qg 29 (.move (.tmp 4)) 3 3 true, qg 30 (.binOp .gtr 3 (.tmp 29) (ik 0) 3) 4 3 true, q 31 (.pick (.tmp 28) (.tmp 30) (.const (.bool false))) 4] false) (.cond (.tmp 31) (.region 12 #[q 32 (.move (.tmp 3)) 3, q 33 (cl 64 #[.tmp 32, ik 1] #[3, 3]) 3, q 3 (.assign (.tmp 33)) 3] false) .skip))))) (.region 13 #[q 34 (.binOp .add 3 (.tmp 16) (ik 1) 3) 3, q 16 (.move (.tmp 34)) 3] false))))))) (.seq (.region 14 #[q 35 (.move (.tmp 3)) 3, q 2 (.assign (.tmp 35)) 3] false) .ret))) (.seq (.region 15 #[q 37 (.binOp .eql 3 (.tmp 7) (ik 4) 3) 4, q 36 (.assign (.tmp 37)) 4] false) (.cond (.tmp 36) (.seq (.region 16 #[q 38 (.load 41 (.tmp 1)) 41, q 39 (cl 65 #[.tmp 38] #[41]) 3, q 2 (.assign (.tmp 39)) 3] false) .ret) .skip)))))))) (.seq (.region 17 #[q 2 (.assign (ik 0)) 3] false) .ret))
theorem s26 : Try.f26.body.map (slim cfg) = some g26 := by kernel_rfl
def g65 : Code :=
  .seq (.region 0 #[q 1 (.box 41 (.tmp 0)) 0, q 2 (.assign (ik 0)) 3] false) (.seq (.seq (.region 1 #[q 5 (.fieldAddr 41 (.tmp 1) 5) 0, q 6 (.load 39 (.tmp 5)) 39, q 7 (bi .len #[.tmp 6] #[39]) 3, q 8 (.binOp .neq 3 (.tmp 7) (ik 1) 3) 4] false) (.cond (.tmp 8) (.seq (.region 2 #[q 2 (.assign (ik 0)) 3] false) .ret) .skip)) (.seq (.region 3 #[q 9 (.fieldAddr 41 (.tmp 1) 5) 0, q 10 (.load 39 (.tmp 9)) 39, q 11 (.indexAddr 39 (.tmp 10) (ik 0)) 0, q 12 (.load 41 (.tmp 11)) 41, q 13 (cl 26 #[.tmp 12] #[41]) 3, q 14 (.fieldAddr 41 (.tmp 1) 3) 0, q 15 (.load 3 (.tmp 14)) 3, q 16 (bi .max #[.tmp 15, ik 0] #[3, 3]) 3, q 17 (bi .min #[.tmp 16, ik 2147483647] #[3, 3]) 3, q 3 (.assign (.tmp 13)) 3, q 4 (.assign (.tmp 17)) 3] false) (.seq (.seq (.region 4 #[q 18 (.fieldAddr 41 (.tmp 1) 4) 0, q 19 (.load 3 (.tmp 18)) 3, q 20 (.binOp .eql 3 (.tmp 19) (ik (-1)) 3) 4] false) (.cond (.tmp 20) (.seq (.region 5 #[q 21 (.move (.tmp 4)) 3, q 22 (bi .max #[.tmp 21, ik 1] #[3, 3]) 3, q 23 (.move (.tmp 3)) 3, q 24 (cl 88 #[.tmp 22, .tmp 23] #[3, 3]) 3, q 25 (cl 64 #[.tmp 24, ik 1] #[3, 3]) 3, q 2 (.assign (.tmp 25)) 3] false) .ret) .skip)) (.seq (.region 6 #[q 26 (.move (.tmp 4)) 3, q 27 (.move (.tmp 3)) 3, q 28 (cl 88 #[.tmp 26, .tmp 27] #[3, 3]) 3, q 29 (.fieldAddr 41 (.tmp 1) 4) 0, q 30 (.load 3 (.tmp 29)) 3, q 31 (.move (.tmp 4)) 3, q 32 (.binOp .sub 3 (.tmp 30) (.tmp 31) 3) 3, q 33 (bi .max #[.tmp 32, ik 0] #[3, 3]) 3, q 34 (bi .min #[.tmp 33, ik 2147483647] #[3, 3]) 3, q 35 (.move (.tmp 3)) 3, q 36 (cl 64 #[.tmp 35, ik 1] #[3, 3]) 3, q 37 (cl 88 #[.tmp 34, .tmp 36] #[3, 3]) 3, q 38 (cl 64 #[.tmp 28, .tmp 37] #[3, 3]) 3, q 2 (.assign (.tmp 38)) 3] false) .ret))))
theorem s65 : Try.f65.body.map (slim cfg) = some g65 := by kernel_rfl
def g64 : Code :=
  .seq (.region 0 #[q 4 (.assign (ik 0)) 3] false) (.seq (.region 1 #[q 5 (.move (.tmp 0)) 3, q 6 (.move (.tmp 1)) 3, q 7 (.binOp .add 3 (.tmp 5) (.tmp 6) 3) 3, q 8 (bi .min #[.tmp 7, ik 2147483647] #[3, 3]) 3, q 4 (.assign (.tmp 8)) 3] false) .ret)
theorem s64 : Try.f64.body.map (slim cfg) = some g64 := by kernel_rfl
def g88 : Code :=
  .seq (.region 0 #[q 4 (.assign (ik 0)) 3] false) (.seq (.seq (.region 1 #[q 5 (.move (.tmp 0)) 3, q 6 (.binOp .gtr 3 (.tmp 5) (ik 0) 3) 4, q 7 (.move (.tmp 6)) 4, qg 8 (.move (.tmp 1)) 3 2 true, qg 9 (.move (.tmp 0)) 3 2 true, qg 10 (.binOp .quo 3 (ik 2147483647) (.tmp 9) 3) 3 2 true, qg 11 (.binOp .gtr 3 (.tmp 8) (.tmp 10) 3) 4 2 true, q 12 (.pick (.tmp 7) (.tmp 11) (.const (.bool false))) 4] false) (.cond (.tmp 12) (.seq (.region 2 #[q 4 (.assign (ik 2147483647)) 3] false) .ret) .skip)) (.seq (.region 3 #[q 13 (.move (.tmp 0)) 3, q 14 (.move (.tmp 1)) 3, q 15 (.binOp .mul 3 (.tmp 13) (.tmp 14) 3) 3, q 4 (.assign (.tmp 15)) 3] false) .ret))
theorem s88 : Try.f88.body.map (slim cfg) = some g88 := by kernel_rfl
def g20 : Code :=
  .seq (.region 0 #[q 2 (.alloc 41) 0, q 3 (.assign (ik 0)) 29] false) (.seq (.seq (.region 1 #[q 7 (.move (.tmp 0)) 9, q 8 (cl 55 #[.tmp 7] #[9]) 4, q 9 (.unOp .not 4 (.tmp 8)) 4] false) (.cond (.tmp 9) (.seq (.region 2 #[q 10 (.build 41 #[]) 41, qn (.store 41 (.tmp 2) (.tmp 10)) 0, q 3 (.assign (ik 3)) 29] false) .ret) .skip)) (.seq (.region 3 #[q 11 (.move (.tmp 0)) 9, q 12 (cl 56 #[.tmp 11] #[9]) 80, q 13 (.build 106 #[(0, .tmp 12)]) 106, q 14 (.box 106 (.tmp 13)) 103, q 4 (.assign (.tmp 14)) 103] false) (.seq (.region 4 #[q 16 (.move (.tmp 4)) 103, q 17 (cl 57 #[.tmp 16, ik 0] #[103, 3]) 107, q 15 (.move (.tmp 17)) 107, q 18 (.extract (.tmp 15) 0) 41, q 19 (.extract (.tmp 15) 1) 4, q 5 (.alloc 41) 0, qn (.store 41 (.tmp 5) (.tmp 18)) 0, q 6 (.assign (.tmp 19)) 4] false) (.seq (.block 0 (.seq (.region 5 #[q 21 (.move (.tmp 6)) 4, q 22 (.unOp .not 4 (.tmp 21)) 4, q 23 (.move (.tmp 22)) 4, qg 24 (.move (.tmp 4)) 103 2 false, qg 25 (.nilCheck (.tmp 24)) 0 2 false, qg 26 (.fieldAddr 106 (.tmp 25) 1) 0 2 false, qg 27 (.load 3 (.tmp 26)) 3 2 false, qg 28 (.move (.tmp 4)) 103 2 false, qg 29 (.nilCheck (.tmp 28)) 0 2 false, qg 30 (.fieldAddr 106 (.tmp 29) 0) 0 2 false, qg 31 (.load 80 (.tmp 30)) 80 2 false, qg 32 (bi .len #[.tmp 31] #[80]) 3 2 false, qg 33 (.binOp .neq 3 (.tmp 27) (.tmp 32) 3) 4 2 false, q 34 (.pick (.tmp 23) (.const (.bool true)) (.tmp 33)) 4, q 20 (.assign (.tmp 34)) 4] false) (.cond (.tmp 20) (.seq (.region 6 #[q 35 (.build 41 #[]) 41, qn (.store 41 (.tmp 2) (.tmp 35)) 0, q 3 (.assign (ik 3)) 29] false) .ret) (.seq (.region 7 #[q 37 (.load 41 (.tmp 5)) 41, q 38 (cl 26 #[.tmp 37] #[41]) 3, q 39 (.binOp .gtr 3 (.tmp 38) (ik 400) 3) 4, q 36 (.assign (.tmp 39)) 4] false) (.cond (.tmp 36) (.seq (.region 8 #[q 40 (.build 41 #[]) 41, qn (.store 41 (.tmp 2) (.tmp 40)) 0, q 3 (.assign (ik 5)) 29] false) .ret) .skip))))) (.seq (.region 9 #[q 41 (.load 41 (.tmp 5)) 41, qn (.store 41 (.tmp 2) (.tmp 41)) 0, q 3 (.assign (ik 0)) 29] false) .ret)))))
theorem s20 : Try.f20.body.map (slim cfg) = some g20 := by kernel_rfl
def g27 : Code :=
  .seq (.region 0 #[q 1 (.box 47 (.tmp 0)) 0, q 2 (.assign (ik 0)) 3] false) (.seq (.seq (.region 1 #[q 8 (.fieldAddr 47 (.tmp 1) 0) 0, q 9 (.load 3 (.tmp 8)) 3, q 10 (.binOp .eql 3 (.tmp 9) (ik 1) 3) 4] false) (.cond (.tmp 10) (.seq (.region 2 #[q 2 (.assign (ik 1)) 3] false) .ret) .skip)) (.seq (.seq (.region 3 #[q 11 (.fieldAddr 47 (.tmp 1) 0) 0, q 12 (.load 3 (.tmp 11)) 3, q 13 (.binOp .eql 3 (.tmp 12) (ik 2) 3) 4, q 14 (.move (.tmp 13)) 4, qg 15 (.fieldAddr 47 (.tmp 1) 0) 0 3 false, qg 16 (.load 3 (.tmp 15)) 3 3 false, qg 17 (.binOp .eql 3 (.tmp 16) (ik 3) 3) 4 3 false, q 18 (.pick (.tmp 14) (.const (.bool true)) (.tmp 17)) 4] false) (.cond (.tmp 18) (.seq (.region 4 #[q 3 (.assign (ik 0)) 3] false) (.seq (.seq (.region 5 #[q 19 (.fieldAddr 47 (.tmp 1) 5) 0, q 20 (.load 45 (.tmp 19)) 45, q 21 (bi .len #[.tmp 20] #[45]) 3, q 22 (.move (ik 0)) 3] false) (.block 0 (.loop (.seq (.region 6 #[q 23 (.binOp .lss 3 (.tmp 22) (.tmp 21) 3) 0] false) (.seq (.cond (.tmp 23) .skip (.exit 0)) (.seq (.block 1 (.seq (.region 7 #[q 24 (.move (.tmp 22)) 3, q 25 (.indexAddr 45 (.tmp 20) (.tmp 22)) 0, q 26 (.load 47 (.tmp 25)) 47, q 5 (.alloc 47) 0, q 4 (.assign (.tmp 24)) 3, qn (.store 47 (.tmp 5) (.tmp 26)) 0] false) (.seq (.region 8 #[q 27 (.move (.tmp 3)) 3, q 28 (.load 47 (.tmp 5)) 47, q 29 (cl 27 #[.tmp 28] #[47]) 3, q 30 (.binOp .add 3 (.tmp 27) (.tmp 29) 3) 3, q 31 (cl 66 #[.tmp 30] #[3]) 3, q 3 (.assign (.tmp 31)) 3] false) (.seq (.region 9 #[q 32 (.move (.tmp 4)) 3, q 33 (.binOp .gtr 3 (.tmp 32) (ik 0) 3) 4, q 34 (.move (.tmp 33)) 4, qg 35 (.fieldAddr 47 (.tmp 1) 0) 0 2 true, qg 36 (.load 3 (.tmp 35)) 3 2 true, qg 37 (.binOp .eql 3 (.tmp 36) (ik 3) 3) 4 2 true, q 38 (.pick (.tmp 34) (.tmp 37) (.const (.bool false))) 4] false) (.cond (.tmp 38) (.region 10 #[q 39 (.move (.tmp 3)) 3, q 40 (.binOp .add 3 (.tmp 39) (ik 1) 3) 3, q 41 (cl 66 #[.tmp 40] #[3]) 3, q 3 (.assign (.tmp 41)) 3] false) .skip))))) (.region 11 #[q 42 (.binOp .add 3 (.tmp 22) (ik 1) 3) 3, q 22 (.move (.tmp 42)) 3] false))))))) (.seq (.region 12 #[q 43 (.move (.tmp 3)) 3, q 2 (.assign (.tmp 43)) 3] false) .ret))) .skip)) (.seq (.seq (.region 13 #[q 44 (.fieldAddr 47 (.tmp 1) 0) 0, q 45 (.load 3 (.tmp 44)) 3, q 46 (.binOp .neq 3 (.tmp 45) (ik 4) 3) 4, q 47 (.move (.tmp 46)) 4, qg 48 (.fieldAddr 47 (.tmp 1) 5) 0 3 false, qg 49 (.load 45 (.tmp 48)) 45 3 false, qg 50 (bi .len #[.tmp 49] #[45]) 3 3 false, qg 51 (.binOp .neq 3 (.tmp 50) (ik 1) 3) 4 3 false, q 52 (.pick (.tmp 47) (.const (.bool true)) (.tmp 51)) 4] false) (.cond (.tmp 52) (.seq (.region 14 #[q 2 (.assign (ik 0)) 3] false) .ret) .skip)) (.seq (.region 15 #[q 53 (.fieldAddr 47 (.tmp 1) 5) 0, q 54 (.load 45 (.tmp 53)) 45, q 55 (.indexAddr 45 (.tmp 54) (ik 0)) 0, q 56 (.load 47 (.tmp 55)) 47, q 57 (cl 27 #[.tmp 56] #[47]) 3, q 6 (.assign (.tmp 57)) 3] false) (.seq (.seq (.region 16 #[q 58 (.fieldAddr 47 (.tmp 1) 4) 0, q 59 (.load 3 (.tmp 58)) 3, q 60 (.binOp .eql 3 (.tmp 59) (ik (-1)) 3) 4] false) (.cond (.tmp 60) (.seq (.region 17 #[q 61 (.fieldAddr 47 (.tmp 1) 3) 0, q 62 (.load 3 (.tmp 61)) 3, q 7 (.assign (.tmp 62)) 3] false) (.seq (.seq (.region 18 #[q 63 (.move (.tmp 7)) 3, q 64 (.binOp .eql 3 (.tmp 63) (ik 0) 3) 4] false) (.cond (.tmp 64) (.region 19 #[q 7 (.assign (ik 1)) 3] false) .skip)) (.seq (.region 20 #[q 65 (.move (.tmp 7)) 3, q 66 (.move (.tmp 6)) 3, q 67 (.binOp .mul 3 (.tmp 65) (.tmp 66) 3) 3, q 68 (cl 66 #[.tmp 67] #[3]) 3, q 69 (.binOp .add 3 (.tmp 68) (ik 1) 3) 3, q 70 (cl 66 #[.tmp 69] #[3]) 3, q 2 (.assign (.tmp 70)) 3] false) .ret))) .skip)) (.seq (.region 21 #[q 71 (.fieldAddr 47 (.tmp 1) 3) 0, q 72 (.load 3 (.tmp 71)) 3, q 73 (.move (.tmp 6)) 3, q 74 (.binOp .mul 3 (.tmp 72) (.tmp 73) 3) 3, q 75 (cl 66 #[.tmp 74] #[3]) 3, q 76 (.fieldAddr 47 (.tmp 1) 4) 0, q 77 (.load 3 (.tmp 76)) 3, q 78 (.fieldAddr 47 (.tmp 1) 3) 0, q 79 (.load 3 (.tmp 78)) 3, q 80 (.binOp .sub 3 (.tmp 77) (.tmp 79) 3) 3, q 81 (.move (.tmp 6)) 3, q 82 (.binOp .add 3 (.tmp 81) (ik 1) 3) 3, q 83 (.binOp .mul 3 (.tmp 80) (.tmp 82) 3) 3, q 84 (cl 66 #[.tmp 83] #[3]) 3, q 85 (.binOp .add 3 (.tmp 75) (.tmp 84) 3) 3, q 86 (cl 66 #[.tmp 85] #[3]) 3, q 2 (.assign (.tmp 86)) 3] false) .ret))))))
theorem s27 : Try.f27.body.map (slim cfg) = some g27 := by kernel_rfl
def g66 : Code :=
  .seq (.region 0 #[q 2 (.assign (ik 0)) 3] false) (.seq (.seq (.region 1 #[q 3 (.move (.tmp 0)) 3, q 4 (.binOp .gtr 3 (.tmp 3) (ik 2147483647) 3) 4, q 5 (.move (.tmp 4)) 4, qg 6 (.move (.tmp 0)) 3 2 false, qg 7 (.binOp .lss 3 (.tmp 6) (ik 0) 3) 4 2 false, q 8 (.pick (.tmp 5) (.const (.bool true)) (.tmp 7)) 4] false) (.cond (.tmp 8) (.seq (.region 2 #[q 2 (.assign (ik 2147483647)) 3] false) .ret) .skip)) (.seq (.region 3 #[q 9 (.move (.tmp 0)) 3, q 2 (.assign (.tmp 9)) 3] false) .ret))
theorem s66 : Try.f66.body.map (slim cfg) = some g66 := by kernel_rfl
def g21 : Code :=
  .seq (.region 0 #[q 2 (.alloc 47) 0, q 3 (.assign (ik 0)) 29] false) (.seq (.region 1 #[q 9 (.move (.tmp 0)) 9, q 10 (cl 44 #[.tmp 9] #[9]) 81, q 8 (.move (.tmp 10)) 81, q 11 (.extract (.tmp 8) 0) 80, q 12 (.extract (.tmp 8) 1) 4, q 4 (.assign (.tmp 11)) 80, q 5 (.assign (.tmp 12)) 4] false) (.seq (.region 2 #[q 13 (.move (.tmp 4)) 80, q 14 (.build 111 #[(0, .tmp 13)]) 111, q 15 (.box 111 (.tmp 14)) 109, q 6 (.assign (.tmp 15)) 109] false) (.seq (.region 3 #[q 16 (.move (.tmp 6)) 109, q 17 (cl 58 #[.tmp 16, ik 0] #[109, 3]) 47, q 7 (.alloc 47) 0, qn (.store 47 (.tmp 7) (.tmp 17)) 0] false) (.seq (.seq (.region 4 #[q 18 (.move (.tmp 5)) 4, q 19 (.unOp .not 4 (.tmp 18)) 4, q 20 (.move (.tmp 19)) 4, qg 21 (.move (.tmp 6)) 109 2 false, qg 22 (.nilCheck (.tmp 21)) 0 2 false, qg 23 (.fieldAddr 111 (.tmp 22) 2) 0 2 false, qg 24 (.load 4 (.tmp 23)) 4 2 false, q 25 (.pick (.tmp 20) (.const (.bool true)) (.tmp 24)) 4, q 26 (.move (.tmp 25)) 4, qg 27 (.move (.tmp 6)) 109 8 false, qg 28 (.nilCheck (.tmp 27)) 0 8 false, qg 29 (.fieldAddr 111 (.tmp 28) 1) 0 8 false, qg 30 (.load 3 (.tmp 29)) 3 8 false, qg 31 (.move (.tmp 4)) 80 8 false, qg 32 (bi .len #[.tmp 31] #[80]) 3 8 false, qg 33 (.binOp .neq 3 (.tmp 30) (.tmp 32) 3) 4 8 false, q 34 (.pick (.tmp 26) (.const (.bool true)) (.tmp 33)) 4] false) (.cond (.tmp 34) (.seq (.region 5 #[q 35 (.build 47 #[]) 47, qn (.store 47 (.tmp 2) (.tmp 35)) 0, q 3 (.assign (ik 3)) 29] false) .ret) .skip)) (.seq (.seq (.region 6 #[q 36 (.load 47 (.tmp 7)) 47, q 37 (cl 27 #[.tmp 36] #[47]) 3, q 38 (.binOp .gtr 3 (.tmp 37) (ik 400) 3) 4] false) (.cond (.tmp 38) (.seq (.region 7 #[q 39 (.build 47 #[]) 47, qn (.store 47 (.tmp 2) (.tmp 39)) 0, q 3 (.assign (ik 5)) 29] false) .ret) .skip)) (.seq (.region 8 #[q 40 (.load 47 (.tmp 7)) 47, qn (.store 47 (.tmp 2) (.tmp 40)) 0, q 3 (.assign (ik 0)) 29] false) .ret))))))
theorem s21 : Try.f21.body.map (slim cfg) = some g21 := by kernel_rfl

theorem add_ok (a b : Nat) (ha : a ≤ 2147483647) (hb : b ≤ 2147483647) (prot : Nat) (H : Heap) (hp : prot ≤ H.length) : aLim cfg prot 64 [.int .i64 a, .int .i64 b] H = some (.int .i64 (cutN (a + b)), none) := by
  have hsnap : snap H [.int .i64 a, .int .i64 b] = some ([.int .i64 a, .int .i64 b], false) := rfl
  have w1 : IntKind.i64.wrap ((a : Int) + (b : Int)) = ((a + b : Nat) : Int) := by rw [wrap64 (by omega) (by omega)]; simp
  have e : min (((a + b : Nat)) : Int) 2147483647 = (cutN (a + b) : Nat) := by unfold cutN; omega
  refine pure_slim rfl (by kernel_rfl) Try.func64 s64 hp hsnap (by simp [Try.f64]) fun fr hlen h => ?_
  simp only [Has, Nat.zero_add] at h
  obtain ⟨a0, a1, -⟩ := h
  simp only [Try.f64] at hlen ⊢
  unfold g64
  simp only [wk, aBuiltin, AV.cells, AV.leaf, Nat.reduceEqDiff, Nat.reduceLT, Nat.reduceAdd, Nat.reduceLeDiff, reduceCtorEq, Nat.reduceMul, cfgP, u26, hlen, a0, a1, w1, min_int, e]
  exact Fin_pure (l := [.int .i64 (cutN (a + b))]) (by simp [wk, aBuiltin, AV.cells, AV.leaf, Nat.reduceEqDiff, Nat.reduceLT, Nat.reduceAdd, Nat.reduceLeDiff, reduceCtorEq, Nat.reduceMul, cfgP, u26, aResults, aResult, hlen]) (.still rfl) (by simp)
theorem add1_ok (a : Nat) (ha : a ≤ 2147483647) (prot : Nat) (H : Heap) (hp : prot ≤ H.length) : aLim cfg prot 64 [.int .i64 a, .int .i64 1] H = some (.int .i64 (cutN (a + 1)), none) := add_ok a 1 ha (by omega) prot H hp

theorem mul_ok (a b : Nat) (ha : a ≤ 16) (hb : b ≤ 2147483648) (prot : Nat) (H : Heap) (hp : prot ≤ H.length) : aLim cfg prot 88 [.int .i64 a, .int .i64 b] H = some (.int .i64 (cutN (a * b)), none) := by
  have hsnap : snap H [.int .i64 a, .int .i64 b] = some ([.int .i64 a, .int .i64 b], false) := rfl
  have hab : a * b ≤ 16 * 2147483648 := Nat.mul_le_mul ha hb
  have w1 : IntKind.i64.wrap ((a : Int) * (b : Int)) = ((a * b : Nat) : Int) := by
    rw [← Int.natCast_mul]
    exact wrap64 (by omega) (by omega)
  refine pure_slim rfl (by kernel_rfl) Try.func88 s88 hp hsnap (by simp [Try.f88]) fun fr hlen h => ?_
  simp only [Has, Nat.zero_add] at h
  obtain ⟨a0, a1, -⟩ := h
  simp only [Try.f88] at hlen ⊢
  unfold g88
  by_cases h0 : 0 < a
  · have d0 : decide (0 < (a : Int)) = true := decide_eq_true (by omega)
    have q1 : aBin Try.prog .quo 3 (.const (.int .i64 2147483647)) (.tmp 9) (.int .i64 2147483647) (.int .i64 a) = some (.int .i64 (IntKind.i64.wrap ((2147483647 / a : Nat)))) := bin_quo_nat (a := 2147483647) h0
    have hq1 : a * (2147483647 / a) ≤ 2147483647 := by rw [Nat.mul_comm]; exact Nat.div_mul_le_self _ _
    have hq2 : 2147483647 < a * (2147483647 / a + 1) := by
      have := Nat.div_add_mod 2147483647 a
      have := Nat.mod_lt 2147483647 h0
      rw [Nat.mul_add]; omega
    have hq3 := Nat.div_le_self 2147483647 a
    generalize 2147483647 / a = q at *
    have w2 : IntKind.i64.wrap ((q : Nat) : Int) = ((q : Nat) : Int) := wrap64 (by omega) (by omega)
    by_cases h1 : q < b
    · have d1 : decide (((q : Nat) : Int) < (b : Int)) = true := decide_eq_true (by omega)
      have e : cutN (a * b) = 2147483647 := by
        have h2 : a * (q + 1) ≤ a * b := Nat.mul_le_mul_left _ h1
        unfold cutN; omega
      rw [e]
      simp only [wk, aBuiltin, AV.cells, AV.leaf, Nat.reduceEqDiff, Nat.reduceLT, Nat.reduceAdd, Nat.reduceLeDiff, reduceCtorEq, Nat.reduceMul, cfgP, u26, hlen, a0, a1, d0, q1, w2, d1, none_beq]
      exact Fin_pure (l := [.int .i64 2147483647]) (by simp [wk, aBuiltin, AV.cells, AV.leaf, Nat.reduceEqDiff, Nat.reduceLT, Nat.reduceAdd, Nat.reduceLeDiff, reduceCtorEq, Nat.reduceMul, cfgP, u26, aResults, aResult, hlen]) (.still rfl) (by simp)
    · have d1 : decide (((q : Nat) : Int) < (b : Int)) = false := decide_eq_false (by omega)
      have e : cutN (a * b) = a * b := by
        have h2 : a * b ≤ a * q := Nat.mul_le_mul_left _ (by omega)
        unfold cutN; omega
      rw [e]
      simp only [wk, aBuiltin, AV.cells, AV.leaf, Nat.reduceEqDiff, Nat.reduceLT, Nat.reduceAdd, Nat.reduceLeDiff, reduceCtorEq, Nat.reduceMul, cfgP, u26, hlen, a0, a1, d0, q1, w2, d1, w1, none_beq]
      exact Fin_pure (l := [.int .i64 ((a * b : Nat))]) (by simp [wk, aBuiltin, AV.cells, AV.leaf, Nat.reduceEqDiff, Nat.reduceLT, Nat.reduceAdd, Nat.reduceLeDiff, reduceCtorEq, Nat.reduceMul, cfgP, u26, aResults, aResult, hlen]) (.still rfl) (by simp)
  · have : a = 0 := by omega
    subst this
    have e : cutN (0 * b) = 0 * b := by unfold cutN; omega
    have d0 : decide ((0 : Int) < ((0 : Nat) : Int)) = false := rfl
    rw [e]
    simp only [wk, aBuiltin, AV.cells, AV.leaf, Nat.reduceEqDiff, Nat.reduceLT, Nat.reduceAdd, Nat.reduceLeDiff, reduceCtorEq, Nat.reduceMul, cfgP, u26, hlen, a0, a1, d0, w1, none_beq]
    exact Fin_pure (l := [.int .i64 ((0 * b : Nat))]) (by simp [wk, aBuiltin, AV.cells, AV.leaf, Nat.reduceEqDiff, Nat.reduceLT, Nat.reduceAdd, Nat.reduceLeDiff, reduceCtorEq, Nat.reduceMul, cfgP, u26, aResults, aResult, hlen]) (.still rfl) (by simp)

theorem cut_ok (n : Nat) (hn : n ≤ 1000000000000) (prot : Nat) (H : Heap) (hp : prot ≤ H.length) : aLim cfg prot 66 [.int .i64 n] H = some (.int .i64 (cutN n), none) := by
  have hsnap : snap H [.int .i64 n] = some ([.int .i64 n], false) := rfl
  have d2 : decide ((n : Int) < 0) = false := decide_eq_false (by omega)
  refine pure_slim rfl (by kernel_rfl) Try.func66 s66 hp hsnap (by simp [Try.f66]) fun fr hlen h => ?_
  simp only [Has, Nat.zero_add] at h
  obtain ⟨a0, -⟩ := h
  simp only [Try.f66] at hlen ⊢
  unfold g66
  by_cases h : 2147483647 < n
  · have d1 : decide (2147483647 < (n : Int)) = true := decide_eq_true (by omega)
    have e : cutN n = 2147483647 := by unfold cutN; omega
    rw [e]
    simp only [wk, aBuiltin, AV.cells, AV.leaf, Nat.reduceEqDiff, Nat.reduceLT, Nat.reduceAdd, Nat.reduceLeDiff, reduceCtorEq, Nat.reduceMul, cfgP, u26, hlen, a0, d1, d2, none_beq]
    exact Fin_pure (l := [.int .i64 2147483647]) (by simp [wk, aBuiltin, AV.cells, AV.leaf, Nat.reduceEqDiff, Nat.reduceLT, Nat.reduceAdd, Nat.reduceLeDiff, reduceCtorEq, Nat.reduceMul, cfgP, u26, aResults, aResult, hlen]) (.still rfl) (by simp)
  · have d1 : decide (2147483647 < (n : Int)) = false := decide_eq_false (by omega)
    have e : cutN n = n := by unfold cutN; omega
    rw [e]
    simp only [wk, aBuiltin, AV.cells, AV.leaf, Nat.reduceEqDiff, Nat.reduceLT, Nat.reduceAdd, Nat.reduceLeDiff, reduceCtorEq, Nat.reduceMul, cfgP, u26, hlen, a0, d1, d2, none_beq]
    exact Fin_pure (l := [.int .i64 n]) (by simp [wk, aBuiltin, AV.cells, AV.leaf, Nat.reduceEqDiff, Nat.reduceLT, Nat.reduceAdd, Nat.reduceLeDiff, reduceCtorEq, Nat.reduceMul, cfgP, u26, aResults, aResult, hlen]) (.still rfl) (by simp)
theorem sizeN_cat {kind : Int} {no sf : Bool} {sp : List Sg} {least most : Int} {kf : Bool} {kids : List Nd} (h : kind = 2 ∨ kind = 3) : sizeN (.mk kind no sf sp least most kf kids) = sizeL (decide (kind = 3)) true 0 kids := by
  rw [sizeN.eq_def]
  dsimp only
  rw [if_neg (by omega), if_pos h]

theorem repeats_ok (x : Nd) (hS : ∀ (prot : Nat) (H : Heap), prot ≤ H.length → aLim cfg prot 26 [encN x] H = some (.int .i64 (sizeN x), none)) (no sf : Bool) (sp : List Sg) (least most : Int) (kf : Bool) (h1 : 0 ≤ least) (h2 : least ≤ 16) (h3 : most = -1 ∨ (least ≤ most ∧ most ≤ 16))
    (prot : Nat) (H : Heap) (hp : prot ≤ H.length) : aLim cfg prot 65 [encN (.mk 4 no sf sp least most kf [x])] H = some (.int .i64 (sizeN (.mk 4 no sf sp least most kf [x])), none) := by
  have hsnap : snap H [encN (.mk 4 no sf sp least most kf [x])] = some ([encN (.mk 4 no sf sp least most kf [x])], false) := by rw [encN_eq]; rfl
  have hs1 := slF_leaf sf encG sp
  have ht1 := slF_leaf kf encN [x]
  have hkl := fun K : Heap => (slF_sl kf encN [x]).len (P := Try.prog) (H := K) Try.underlying39
  have hk0 := (slF_sl kf encN [x]).at (P := Try.prog) (k := .i64) (i := 0) Try.underlying39 sz41 encN_len (by simp)
  have hle := sizeN_le x
  refine pure_slim rfl (by kernel_rfl) Try.func65 s65 hp hsnap (by simp [Try.f65]) fun fr hlen h => ?_
  simp only [Has, Nat.zero_add] at h
  obtain ⟨a0, -⟩ := h
  simp only [Try.f65] at hlen ⊢
  unfold g65
  rw [encN_eq] at a0
  unfold AV.leaf at hs1 ht1
  obtain ⟨a, rfl⟩ : ∃ a : Nat, least = a := ⟨least.toNat, by omega⟩
  have d1 : decide (¬ ((1 : Nat) : Int) = 1) = false := rfl
  have hS' := fun (K : Heap) (hK : H.length ≤ K.length) => hS H.length K hK
  simp only [List.getElem_cons_zero] at hk0
  have m1 : min (max (a : Int) 0) 2147483647 = (a : Int) := by omega
  have e1 : aIndexAddr Try.prog 39 (slF kf encN [x]) (.int .i64 0) = some (.vptr (encN x).cells 0) := hk0
  obtain ⟨k', no', s, x1, x2, t, hx, hs, ht, hs2, ht2⟩ := encN_sh x
  rw [hx] at e1 hS'
  simp only [AV.cells] at e1
  have hle' : ∀ Z, H.length ≤ (H ++ [Blk.cells 0 Z]).length := fun Z => by simp
  by_cases hm : most = -1
  · subst hm
    have d2 : decide ((-1 : Int) = -1) = true := rfl
    have m2 : max (a : Int) 1 = ((max a 1 : Nat) : Int) := by omega
    have hmx : max a 1 ≤ 16 := by omega
    have n1 := fun (K : Heap) (hK : H.length ≤ K.length) => mul_ok (max a 1) (sizeN x) hmx (by omega) H.length K hK
    have n2 := fun (K : Heap) (hK : H.length ≤ K.length) => add1_ok (cutN (max a 1 * sizeN x)) (cutN_le _) H.length K hK
    have hsz : sizeN (.mk 4 no sf sp a (-1) kf [x]) = cutN (cutN (max a 1 * sizeN x) + 1) := by
      rw [sizeN.eq_def]
      have : (max (a : Int) 1).toNat = max a 1 := by omega
      simp [this]
    rw [hsz]
    simp only [wk, aBuiltin, AV.cells, AV.leaf, Nat.reduceEqDiff, Nat.reduceLT, Nat.reduceAdd, Nat.reduceLeDiff, reduceCtorEq, Nat.reduceMul, cfgP, u26, hlen, a0, hs1, ht1, hkl, d1, e1, hS', hle', max_int, min_int, m1, d2, m2, n1, n2]
    exact Fin_pure (l := [.int .i64 (cutN (cutN (max a 1 * sizeN x) + 1))]) (by simp [wk, aBuiltin, AV.cells, AV.leaf, Nat.reduceEqDiff, Nat.reduceLT, Nat.reduceAdd, Nat.reduceLeDiff, reduceCtorEq, Nat.reduceMul, cfgP, u26, aResults, aResult, hlen]) (.still rfl) (by simp)
  · have h3 := h3.resolve_left hm
    obtain ⟨c, rfl⟩ : ∃ c : Nat, most = c := ⟨most.toNat, by omega⟩
    have d2 : decide ((c : Int) = -1) = false := decide_eq_false (by omega)
    have w1 : IntKind.i64.wrap ((c : Int) - (a : Int)) = ((c - a : Nat) : Int) := by rw [wrap64 (by omega) (by omega)]; omega
    have m2 : min (max ((c - a : Nat) : Int) 0) 2147483647 = ((c - a : Nat) : Int) := by omega
    have n1 := fun (K : Heap) (hK : H.length ≤ K.length) => mul_ok a (sizeN x) (by omega) (by omega) H.length K hK
    have n2 := fun (K : Heap) (hK : H.length ≤ K.length) => add1_ok (sizeN x) hle H.length K hK
    have n3 := fun (K : Heap) (hK : H.length ≤ K.length) => mul_ok (c - a) (cutN (sizeN x + 1)) (by omega) (by have := cutN_le (sizeN x + 1); omega) H.length K hK
    have n4 := fun (K : Heap) (hK : H.length ≤ K.length) => add_ok (cutN (a * sizeN x)) (cutN ((c - a) * cutN (sizeN x + 1))) (cutN_le _) (cutN_le _) H.length K hK
    have hsz : sizeN (.mk 4 no sf sp a c kf [x]) = cutN (cutN (a * sizeN x) + cutN ((c - a) * cutN (sizeN x + 1))) := by
      rw [sizeN.eq_def, cut_mul]
      have : ((c : Int) - (a : Int)).toNat = c - a := by omega
      simp [this, hm]
    rw [hsz]
    simp only [wk, aBuiltin, AV.cells, AV.leaf, Nat.reduceEqDiff, Nat.reduceLT, Nat.reduceAdd, Nat.reduceLeDiff, reduceCtorEq, Nat.reduceMul, cfgP, u26, hlen, a0, hs1, ht1, hkl, d1, e1, hS', hle', max_int, min_int, m1, d2, w1, m2, n1, n2, n3, n4]
    exact Fin_pure (l := [.int .i64 (cutN (cutN (a * sizeN x) + cutN ((c - a) * cutN (sizeN x + 1))))]) (by simp [wk, aBuiltin, AV.cells, AV.leaf, Nat.reduceEqDiff, Nat.reduceLT, Nat.reduceAdd, Nat.reduceLeDiff, reduceCtorEq, Nat.reduceMul, cfgP, u26, aResults, aResult, hlen]) (.still rfl) (by simp)
theorem dec_ne {a b : Int} (h : a ≠ b) : decide (a = b) = false := decide_eq_false h
theorem sizeL_cons (e f : Bool) (a : Nat) (x : Nd) (r : List Nd) : sizeL e f a (x :: r) = sizeL e false (if e && !f then cutN (cutN (a + sizeN x) + 1) else cutN (a + sizeN x)) r := by rw [sizeL]

theorem size_step (kind : Int) (no sf : Bool) (sp : List Sg) (least most : Int) (kf : Bool) (kids : List Nd) (hg : Good (.mk kind no sf sp least most kf kids)) (ih : ∀ x ∈ kids, ∀ (prot : Nat) (H : Heap), prot ≤ H.length → aLim cfg prot 26 [encN x] H = some (.int .i64 (sizeN x), none))
    (prot : Nat) (H : Heap) (hp : prot ≤ H.length) : aLim cfg prot 26 [encN (.mk kind no sf sp least most kf kids)] H = some (.int .i64 (sizeN (.mk kind no sf sp least most kf kids)), none) := by
  have hsnap : snap H [encN (.mk kind no sf sp least most kf kids)] = some ([encN (.mk kind no sf sp least most kf kids)], false) := by rw [encN_eq]; rfl
  cases hg with
  | mk hgk hk hl =>
  have hs1 := slF_leaf sf encG sp
  have ht1 := slF_leaf kf encN kids
  have hsl := slF_sl kf encN kids
  have hkl := fun K : Heap => hsl.len (P := Try.prog) (H := K) Try.underlying39
  have n4 : kind = 4 → ∀ (K : Heap), H.length ≤ K.length → aLim cfg H.length 65 [encN (.mk kind no sf sp least most kf kids)] K = some (.int .i64 (sizeN (.mk kind no sf sp least most kf kids)), none) := by
    rintro rfl K hK
    rcases hk with h | h | h | h | ⟨_, h1, h2, h3, h4⟩
    · omega
    · omega
    · omega
    · omega
    obtain ⟨x, rfl⟩ := List.length_eq_one_iff.1 h1
    exact repeats_ok x (ih x (by simp)) no sf sp least most kf h2 h3 h4 H.length K hK
  refine pure_slim rfl (by kernel_rfl) Try.func26 s26 hp hsnap (by simp [Try.f26]) fun fr hlen h => ?_
  simp only [Has, Nat.zero_add] at h
  obtain ⟨a0, -⟩ := h
  simp only [Try.f26] at hlen ⊢
  unfold g26
  rw [encN_eq] at a0
  unfold AV.leaf at hs1 ht1
  have hle' : ∀ Z, H.length ≤ (H ++ [Blk.cells 0 Z]).length := fun Z => by simp
  have hk' : kind = 0 ∨ kind = 1 ∨ (kind = 2 ∨ kind = 3) ∨ kind = 4 := by omega
  rcases hk' with rfl | rfl | h23 | rfl
  · have d1 : decide ((0 : Int) = 1) = false := rfl
    have d2 : decide ((0 : Int) = 2) = false := rfl
    have d3 : decide ((0 : Int) = 3) = false := rfl
    have d4 : decide ((0 : Int) = 4) = false := rfl
    have hsz : sizeN (.mk 0 no sf sp least most kf kids) = 0 := by rw [sizeN.eq_def]; simp
    rw [hsz]
    simp only [wk, aBuiltin, AV.cells, AV.leaf, Nat.reduceEqDiff, Nat.reduceLT, Nat.reduceAdd, Nat.reduceLeDiff, reduceCtorEq, Nat.reduceMul, cfgP, u26, hlen, a0, hs1, ht1, d1, d2, d3, d4]
    exact Fin_pure (l := [.int .i64 0]) (by simp [wk, aBuiltin, AV.cells, AV.leaf, Nat.reduceEqDiff, Nat.reduceLT, Nat.reduceAdd, Nat.reduceLeDiff, reduceCtorEq, Nat.reduceMul, cfgP, u26, aResults, aResult, hlen]) (.still rfl) (by simp)
  · have hsz : sizeN (.mk 1 no sf sp least most kf kids) = 1 := by rw [sizeN.eq_def]; simp
    rw [hsz]
    simp only [wk, aBuiltin, AV.cells, AV.leaf, Nat.reduceEqDiff, Nat.reduceLT, Nat.reduceAdd, Nat.reduceLeDiff, reduceCtorEq, Nat.reduceMul, cfgP, u26, hlen, a0, hs1, ht1]
    exact Fin_pure (l := [.int .i64 1]) (by simp [wk, aBuiltin, AV.cells, AV.leaf, Nat.reduceEqDiff, Nat.reduceLT, Nat.reduceAdd, Nat.reduceLeDiff, reduceCtorEq, Nat.reduceMul, cfgP, u26, aResults, aResult, hlen]) (.still rfl) (by simp)
  · have d1 : decide (kind = 1) = false := decide_eq_false (by omega)
    have hsz := sizeN_cat (no := no) (sf := sf) (sp := sp) (least := least) (most := most) (kf := kf) (kids := kids) h23
    rw [hsz]
    have hg0 : hget (H ++ [Blk.cells 0 [.int .i64 kind, .bool no, slF sf encG sp, .int .i64 least, .int .i64 most, slF kf encN kids]]) H.length 0 = some [.int .i64 kind, .bool no, slF sf encG sp, .int .i64 least, .int .i64 most, slF kf encN kids] := by rw [hget_new rfl, if_pos rfl]
    have hstep : ∀ (e : Bool) (i a : Nat) (hi : i < kids.length), sizeL e (decide (i = 0)) a (kids.drop i) = sizeL e (decide (i + 1 = 0)) (if e && !decide (i = 0) then cutN (cutN (a + sizeN kids[i]) + 1) else cutN (a + sizeN kids[i])) (kids.drop (i + 1)) := fun e i a hi => by
      have hd : kids.drop i = kids[i] :: kids.drop (i + 1) := by simp
      rw [hd, sizeL_cons]
      have : decide (i + 1 = 0) = false := decide_eq_false (by omega)
      rw [this]
    rcases h23 with rfl | rfl
    · have d2 : decide ((2 : Int) = 2) = true := rfl
      have d3 : decide ((2 : Int) = 3) = false := rfl
      simp only [wk, aBuiltin, AV.cells, AV.leaf, Nat.reduceEqDiff, Nat.reduceLT, Nat.reduceAdd, Nat.reduceLeDiff, reduceCtorEq, Nat.reduceMul, cfgP, u26, hlen, a0, hs1, ht1, d1, d2, hkl]
      try rw [d3]
      refine loop_rule (fun m fr H' => ∃ (i a : Nat), m = kids.length - i ∧ i ≤ kids.length ∧ a ≤ 2147483647 ∧ fr.length = 40 ∧ fget fr 1 = .ptr H.length 0 0 ∧ fget fr 14 = slF kf encN kids ∧ fget fr 15 = .int .i64 kids.length ∧ fget fr 16 = .int .i64 i ∧ fget fr 3 = .int .i64 a
        ∧ H.length + 1 ≤ H'.length ∧ hget H' H.length 0 = some [.int .i64 2, .bool no, slF sf encG sp, .int .i64 least, .int .i64 most, slF kf encN kids] ∧ sizeL false true 0 kids = sizeL false (decide (i = 0)) a (kids.drop i)) ?_ kids.length _ _ ⟨0, 0, by simp [wk, aBuiltin, AV.cells, AV.leaf, Nat.reduceEqDiff, Nat.reduceLT, Nat.reduceAdd, Nat.reduceLeDiff, reduceCtorEq, Nat.reduceMul, cfgP, u26, hlen, a0, hg0]⟩
      rintro m fr H' ⟨i, a, rfl, hi, ha, hlen, a1, a14, a15, a16, a3, hH, hg, hc⟩ ihl
      simp only [wk, aBuiltin, AV.cells, AV.leaf, Nat.reduceEqDiff, Nat.reduceLT, Nat.reduceAdd, Nat.reduceLeDiff, reduceCtorEq, Nat.reduceMul, cfgP, u26, hlen, a1, a14, a15, a16, a3]
      refine RC_split (fun h => ?_) (fun h => ?_)
      · have hlt : i < kids.length := by simpa using h
        have hww : IntKind.i64.wrap ((i : Int) + 1) = ((i + 1 : Nat) : Int) := by rw [wrap64 (by omega) (by omega)]; simp
        have e1 := hsl.at (P := Try.prog) (k := .i64) (i := i) Try.underlying39 sz41 encN_len hlt
        rw [hstep false i a hlt] at hc
        have n1 := fun (K : Heap) (hK : H.length ≤ K.length) => ih kids[i] (List.getElem_mem hlt) H.length K hK
        have n2 := fun (K : Heap) (hK : H.length ≤ K.length) => add_ok a (sizeN kids[i]) ha (sizeN_le _) H.length K hK
        have hcl := cutN_le (a + sizeN kids[i])
        generalize kids[i] = x at *
        obtain ⟨k', no', s, x1, x2, t, hx, hs, ht, hs2, ht2⟩ := encN_sh x
        rw [hx] at e1 n1
        simp only [AV.cells] at e1
        unfold AV.leaf at hs ht
        have hH0 : H.length ≤ H'.length := by omega
        have hle2 : ∀ Z, H.length ≤ (H' ++ [Blk.cells 0 Z]).length := fun Z => by simp; omega
        have hg2 := hget_mono hg [Blk.cells 0 [.int .i64 k', .bool no', s, .int .i64 x1, .int .i64 x2, t]]
        simp only [wk, aBuiltin, AV.cells, AV.leaf, Nat.reduceEqDiff, Nat.reduceLT, Nat.reduceAdd, Nat.reduceLeDiff, reduceCtorEq, Nat.reduceMul, cfgP, u26, hlen, a1, a14, a15, a16, a3, e1, hH0, hs, ht, hle2, n1, n2, hg2, d3, hww, none_beq]
        refine ihl _ _ (kids.length - (i + 1)) (by omega) ⟨i + 1, cutN (a + sizeN x), rfl, hlt, hcl, ?_⟩
        refine ⟨by simp [wk, aBuiltin, AV.cells, AV.leaf, Nat.reduceEqDiff, Nat.reduceLT, Nat.reduceAdd, Nat.reduceLeDiff, reduceCtorEq, Nat.reduceMul, cfgP, u26, hlen], by simp [wk, aBuiltin, AV.cells, AV.leaf, Nat.reduceEqDiff, Nat.reduceLT, Nat.reduceAdd, Nat.reduceLeDiff, reduceCtorEq, Nat.reduceMul, cfgP, u26, hlen, a1], by simp [wk, aBuiltin, AV.cells, AV.leaf, Nat.reduceEqDiff, Nat.reduceLT, Nat.reduceAdd, Nat.reduceLeDiff, reduceCtorEq, Nat.reduceMul, cfgP, u26, hlen, a14], by simp [wk, aBuiltin, AV.cells, AV.leaf, Nat.reduceEqDiff, Nat.reduceLT, Nat.reduceAdd, Nat.reduceLeDiff, reduceCtorEq, Nat.reduceMul, cfgP, u26, hlen, a15], by simp [wk, aBuiltin, AV.cells, AV.leaf, Nat.reduceEqDiff, Nat.reduceLT, Nat.reduceAdd, Nat.reduceLeDiff, reduceCtorEq, Nat.reduceMul, cfgP, u26, hlen], by simp [wk, aBuiltin, AV.cells, AV.leaf, Nat.reduceEqDiff, Nat.reduceLT, Nat.reduceAdd, Nat.reduceLeDiff, reduceCtorEq, Nat.reduceMul, cfgP, u26, hlen], by simp; omega, hg2, hc⟩
      · have hnl : ¬ i < kids.length := by simpa using h
        rw [List.drop_eq_nil_of_le (by omega), sizeL] at hc
        rw [hc]
        simp only [wk, aBuiltin, AV.cells, AV.leaf, Nat.reduceEqDiff, Nat.reduceLT, Nat.reduceAdd, Nat.reduceLeDiff, reduceCtorEq, Nat.reduceMul, cfgP, u26, hlen, a1, a14, a15, a16, a3]
        exact Fin_pure (l := [.int .i64 a]) (by simp [wk, aBuiltin, AV.cells, AV.leaf, Nat.reduceEqDiff, Nat.reduceLT, Nat.reduceAdd, Nat.reduceLeDiff, reduceCtorEq, Nat.reduceMul, cfgP, u26, aResults, aResult, hlen]) (.still rfl) (by simp)
    · have d2 : decide ((3 : Int) = 2) = false := rfl
      have d3 : decide ((3 : Int) = 3) = true := rfl
      simp only [wk, aBuiltin, AV.cells, AV.leaf, Nat.reduceEqDiff, Nat.reduceLT, Nat.reduceAdd, Nat.reduceLeDiff, reduceCtorEq, Nat.reduceMul, cfgP, u26, hlen, a0, hs1, ht1, d1, d2, hkl]
      try rw [d3]
      refine loop_rule (fun m fr H' => ∃ (i a : Nat), m = kids.length - i ∧ i ≤ kids.length ∧ a ≤ 2147483647 ∧ fr.length = 40 ∧ fget fr 1 = .ptr H.length 0 0 ∧ fget fr 14 = slF kf encN kids ∧ fget fr 15 = .int .i64 kids.length ∧ fget fr 16 = .int .i64 i ∧ fget fr 3 = .int .i64 a
        ∧ H.length + 1 ≤ H'.length ∧ hget H' H.length 0 = some [.int .i64 3, .bool no, slF sf encG sp, .int .i64 least, .int .i64 most, slF kf encN kids] ∧ sizeL true true 0 kids = sizeL true (decide (i = 0)) a (kids.drop i)) ?_ kids.length _ _ ⟨0, 0, by simp [wk, aBuiltin, AV.cells, AV.leaf, Nat.reduceEqDiff, Nat.reduceLT, Nat.reduceAdd, Nat.reduceLeDiff, reduceCtorEq, Nat.reduceMul, cfgP, u26, hlen, a0, hg0]⟩
      rintro m fr H' ⟨i, a, rfl, hi, ha, hlen, a1, a14, a15, a16, a3, hH, hg, hc⟩ ihl
      simp only [wk, aBuiltin, AV.cells, AV.leaf, Nat.reduceEqDiff, Nat.reduceLT, Nat.reduceAdd, Nat.reduceLeDiff, reduceCtorEq, Nat.reduceMul, cfgP, u26, hlen, a1, a14, a15, a16, a3]
      refine RC_split (fun h => ?_) (fun h => ?_)
      · have hlt : i < kids.length := by simpa using h
        have hww : IntKind.i64.wrap ((i : Int) + 1) = ((i + 1 : Nat) : Int) := by rw [wrap64 (by omega) (by omega)]; simp
        have e1 := hsl.at (P := Try.prog) (k := .i64) (i := i) Try.underlying39 sz41 encN_len hlt
        rw [hstep true i a hlt] at hc
        have n1 := fun (K : Heap) (hK : H.length ≤ K.length) => ih kids[i] (List.getElem_mem hlt) H.length K hK
        have n2 := fun (K : Heap) (hK : H.length ≤ K.length) => add_ok a (sizeN kids[i]) ha (sizeN_le _) H.length K hK
        have n3 := fun (K : Heap) (hK : H.length ≤ K.length) => add1_ok (cutN (a + sizeN kids[i])) (cutN_le _) H.length K hK
        have hcl := cutN_le (a + sizeN kids[i])
        have hcl2 := cutN_le (cutN (a + sizeN kids[i]) + 1)
        generalize kids[i] = x at *
        obtain ⟨k', no', s, x1, x2, t, hx, hs, ht, hs2, ht2⟩ := encN_sh x
        rw [hx] at e1 n1
        simp only [AV.cells] at e1
        unfold AV.leaf at hs ht
        have hH0 : H.length ≤ H'.length := by omega
        have hle2 : ∀ Z, H.length ≤ (H' ++ [Blk.cells 0 Z]).length := fun Z => by simp; omega
        have hg2 := hget_mono hg [Blk.cells 0 [.int .i64 k', .bool no', s, .int .i64 x1, .int .i64 x2, t]]
        by_cases h0 : i = 0
        · have d5 : decide ((0 : Int) < (i : Int)) = false := decide_eq_false (by omega)
          have d6 : decide (i = 0) = true := decide_eq_true h0
          simp only [d6, Bool.not_true, Bool.and_false, Bool.false_eq_true, if_false] at hc
          simp only [wk, aBuiltin, AV.cells, AV.leaf, Nat.reduceEqDiff, Nat.reduceLT, Nat.reduceAdd, Nat.reduceLeDiff, reduceCtorEq, Nat.reduceMul, cfgP, u26, hlen, a1, a14, a15, a16, a3, e1, hH0, hs, ht, hle2, n1, n2, hg2, d3, d5, hww, none_beq]
          refine ihl _ _ (kids.length - (i + 1)) (by omega) ⟨i + 1, cutN (a + sizeN x), rfl, hlt, hcl, ?_⟩
          refine ⟨by simp [wk, aBuiltin, AV.cells, AV.leaf, Nat.reduceEqDiff, Nat.reduceLT, Nat.reduceAdd, Nat.reduceLeDiff, reduceCtorEq, Nat.reduceMul, cfgP, u26, hlen], by simp [wk, aBuiltin, AV.cells, AV.leaf, Nat.reduceEqDiff, Nat.reduceLT, Nat.reduceAdd, Nat.reduceLeDiff, reduceCtorEq, Nat.reduceMul, cfgP, u26, hlen, a1], by simp [wk, aBuiltin, AV.cells, AV.leaf, Nat.reduceEqDiff, Nat.reduceLT, Nat.reduceAdd, Nat.reduceLeDiff, reduceCtorEq, Nat.reduceMul, cfgP, u26, hlen, a14], by simp [wk, aBuiltin, AV.cells, AV.leaf, Nat.reduceEqDiff, Nat.reduceLT, Nat.reduceAdd, Nat.reduceLeDiff, reduceCtorEq, Nat.reduceMul, cfgP, u26, hlen, a15], by simp [wk, aBuiltin, AV.cells, AV.leaf, Nat.reduceEqDiff, Nat.reduceLT, Nat.reduceAdd, Nat.reduceLeDiff, reduceCtorEq, Nat.reduceMul, cfgP, u26, hlen], by simp [wk, aBuiltin, AV.cells, AV.leaf, Nat.reduceEqDiff, Nat.reduceLT, Nat.reduceAdd, Nat.reduceLeDiff, reduceCtorEq, Nat.reduceMul, cfgP, u26, hlen], by simp; omega, hg2, hc⟩
        · have d5 : decide ((0 : Int) < (i : Int)) = true := decide_eq_true (by omega)
          have d6 : decide (i = 0) = false := decide_eq_false h0
          simp only [d6, Bool.not_false, Bool.and_true, if_true] at hc
          simp only [wk, aBuiltin, AV.cells, AV.leaf, Nat.reduceEqDiff, Nat.reduceLT, Nat.reduceAdd, Nat.reduceLeDiff, reduceCtorEq, Nat.reduceMul, cfgP, u26, hlen, a1, a14, a15, a16, a3, e1, hH0, hs, ht, hle2, n1, n2, n3, hg2, d3, d5, hww, none_beq]
          refine ihl _ _ (kids.length - (i + 1)) (by omega) ⟨i + 1, cutN (cutN (a + sizeN x) + 1), rfl, hlt, hcl2, ?_⟩
          refine ⟨by simp [wk, aBuiltin, AV.cells, AV.leaf, Nat.reduceEqDiff, Nat.reduceLT, Nat.reduceAdd, Nat.reduceLeDiff, reduceCtorEq, Nat.reduceMul, cfgP, u26, hlen], by simp [wk, aBuiltin, AV.cells, AV.leaf, Nat.reduceEqDiff, Nat.reduceLT, Nat.reduceAdd, Nat.reduceLeDiff, reduceCtorEq, Nat.reduceMul, cfgP, u26, hlen, a1], by simp [wk, aBuiltin, AV.cells, AV.leaf, Nat.reduceEqDiff, Nat.reduceLT, Nat.reduceAdd, Nat.reduceLeDiff, reduceCtorEq, Nat.reduceMul, cfgP, u26, hlen, a14], by simp [wk, aBuiltin, AV.cells, AV.leaf, Nat.reduceEqDiff, Nat.reduceLT, Nat.reduceAdd, Nat.reduceLeDiff, reduceCtorEq, Nat.reduceMul, cfgP, u26, hlen, a15], by simp [wk, aBuiltin, AV.cells, AV.leaf, Nat.reduceEqDiff, Nat.reduceLT, Nat.reduceAdd, Nat.reduceLeDiff, reduceCtorEq, Nat.reduceMul, cfgP, u26, hlen], by simp [wk, aBuiltin, AV.cells, AV.leaf, Nat.reduceEqDiff, Nat.reduceLT, Nat.reduceAdd, Nat.reduceLeDiff, reduceCtorEq, Nat.reduceMul, cfgP, u26, hlen], by simp; omega, hg2, hc⟩
      · have hnl : ¬ i < kids.length := by simpa using h
        rw [List.drop_eq_nil_of_le (by omega), sizeL] at hc
        rw [hc]
        simp only [wk, aBuiltin, AV.cells, AV.leaf, Nat.reduceEqDiff, Nat.reduceLT, Nat.reduceAdd, Nat.reduceLeDiff, reduceCtorEq, Nat.reduceMul, cfgP, u26, hlen, a1, a14, a15, a16, a3]
        exact Fin_pure (l := [.int .i64 a]) (by simp [wk, aBuiltin, AV.cells, AV.leaf, Nat.reduceEqDiff, Nat.reduceLT, Nat.reduceAdd, Nat.reduceLeDiff, reduceCtorEq, Nat.reduceMul, cfgP, u26, aResults, aResult, hlen]) (.still rfl) (by simp)
  · have d1 : decide ((4 : Int) = 1) = false := rfl
    have d2 : decide ((4 : Int) = 2) = false := rfl
    have d3 : decide ((4 : Int) = 3) = false := rfl
    have n4' := n4 rfl
    rw [encN_eq] at n4'
    simp only [wk, aBuiltin, AV.cells, AV.leaf, Nat.reduceEqDiff, Nat.reduceLT, Nat.reduceAdd, Nat.reduceLeDiff, reduceCtorEq, Nat.reduceMul, cfgP, u26, hlen, a0, hs1, ht1, d1, d2, d3, hle', n4']
    exact Fin_pure (l := [.int .i64 (sizeN (.mk 4 no sf sp least most kf kids))]) (by simp [wk, aBuiltin, AV.cells, AV.leaf, Nat.reduceEqDiff, Nat.reduceLT, Nat.reduceAdd, Nat.reduceLeDiff, reduceCtorEq, Nat.reduceMul, cfgP, u26, aResults, aResult, hlen]) (.still rfl) (by simp)

theorem rsize_step (kind : Int) (no sf : Bool) (sp : List Sg) (least most : Int) (kf : Bool) (kids : List Nd) (hg : Good (.mk kind no sf sp least most kf kids)) (ih : ∀ x ∈ kids, ∀ (prot : Nat) (H : Heap), prot ≤ H.length → aLim cfg prot 27 [encN x] H = some (.int .i64 (sizeN x), none))
    (prot : Nat) (H : Heap) (hp : prot ≤ H.length) : aLim cfg prot 27 [encN (.mk kind no sf sp least most kf kids)] H = some (.int .i64 (sizeN (.mk kind no sf sp least most kf kids)), none) := by
  have hsnap : snap H [encN (.mk kind no sf sp least most kf kids)] = some ([encN (.mk kind no sf sp least most kf kids)], false) := by rw [encN_eq]; rfl
  cases hg with
  | mk hgk hk hl =>
  have hs1 := slF_leaf sf encG sp
  have ht1 := slF_leaf kf encN kids
  have hsl := slF_sl kf encN kids
  have hkl := fun K : Heap => hsl.len (P := Try.prog) (H := K) Try.underlying45
  refine pure_slim rfl (by kernel_rfl) Try.func27 s27 hp hsnap (by simp [Try.f27]) fun fr hlen h => ?_
  simp only [Has, Nat.zero_add] at h
  obtain ⟨a0, -⟩ := h
  simp only [Try.f27] at hlen ⊢
  unfold g27
  rw [encN_eq] at a0
  unfold AV.leaf at hs1 ht1
  have hle' : ∀ Z, H.length ≤ (H ++ [Blk.cells 0 Z]).length := fun Z => by simp
  have hk' : kind = 0 ∨ kind = 1 ∨ (kind = 2 ∨ kind = 3) ∨ kind = 4 := by omega
  rcases hk' with rfl | rfl | h23 | rfl
  · have d1 : decide ((0 : Int) = 1) = false := rfl
    have d2 : decide ((0 : Int) = 2) = false := rfl
    have d3 : decide ((0 : Int) = 3) = false := rfl
    have d4 : decide (¬ (0 : Int) = 4) = true := rfl
    have hsz : sizeN (.mk 0 no sf sp least most kf kids) = 0 := by rw [sizeN.eq_def]; simp
    rw [hsz]
    simp only [wk, aBuiltin, AV.cells, AV.leaf, Nat.reduceEqDiff, Nat.reduceLT, Nat.reduceAdd, Nat.reduceLeDiff, reduceCtorEq, Nat.reduceMul, cfgP, u26, hlen, a0, hs1, ht1, d1, d2, d3, d4, none_beq]
    exact Fin_pure (l := [.int .i64 0]) (by simp [wk, aBuiltin, AV.cells, AV.leaf, Nat.reduceEqDiff, Nat.reduceLT, Nat.reduceAdd, Nat.reduceLeDiff, reduceCtorEq, Nat.reduceMul, cfgP, u26, aResults, aResult, hlen]) (.still rfl) (by simp)
  · have hsz : sizeN (.mk 1 no sf sp least most kf kids) = 1 := by rw [sizeN.eq_def]; simp
    rw [hsz]
    simp only [wk, aBuiltin, AV.cells, AV.leaf, Nat.reduceEqDiff, Nat.reduceLT, Nat.reduceAdd, Nat.reduceLeDiff, reduceCtorEq, Nat.reduceMul, cfgP, u26, hlen, a0, hs1, ht1]
    exact Fin_pure (l := [.int .i64 1]) (by simp [wk, aBuiltin, AV.cells, AV.leaf, Nat.reduceEqDiff, Nat.reduceLT, Nat.reduceAdd, Nat.reduceLeDiff, reduceCtorEq, Nat.reduceMul, cfgP, u26, aResults, aResult, hlen]) (.still rfl) (by simp)
  · have d1 : decide (kind = 1) = false := decide_eq_false (by omega)
    have hsz := sizeN_cat (no := no) (sf := sf) (sp := sp) (least := least) (most := most) (kf := kf) (kids := kids) h23
    rw [hsz]
    have hg0 : hget (H ++ [Blk.cells 0 [.int .i64 kind, .bool no, slF sf encG sp, .int .i64 least, .int .i64 most, slF kf encN kids]]) H.length 0 = some [.int .i64 kind, .bool no, slF sf encG sp, .int .i64 least, .int .i64 most, slF kf encN kids] := by rw [hget_new rfl, if_pos rfl]
    have hstep : ∀ (e : Bool) (i a : Nat) (hi : i < kids.length), sizeL e (decide (i = 0)) a (kids.drop i) = sizeL e (decide (i + 1 = 0)) (if e && !decide (i = 0) then cutN (cutN (a + sizeN kids[i]) + 1) else cutN (a + sizeN kids[i])) (kids.drop (i + 1)) := fun e i a hi => by
      have hd : kids.drop i = kids[i] :: kids.drop (i + 1) := by simp
      rw [hd, sizeL_cons]
      have : decide (i + 1 = 0) = false := decide_eq_false (by omega)
      rw [this]
    rcases h23 with rfl | rfl
    · have d2 : decide ((2 : Int) = 2) = true := rfl
      have d3 : decide ((2 : Int) = 3) = false := rfl
      simp only [wk, aBuiltin, AV.cells, AV.leaf, Nat.reduceEqDiff, Nat.reduceLT, Nat.reduceAdd, Nat.reduceLeDiff, reduceCtorEq, Nat.reduceMul, cfgP, u26, hlen, a0, hs1, ht1, d1, d2, d3, hkl, none_beq]
      try rw [d3]
      refine loop_rule (fun m fr H' => ∃ (i a : Nat), m = kids.length - i ∧ i ≤ kids.length ∧ a ≤ 2147483647 ∧ fr.length = 87 ∧ fget fr 1 = .ptr H.length 0 0 ∧ fget fr 20 = slF kf encN kids ∧ fget fr 21 = .int .i64 kids.length ∧ fget fr 22 = .int .i64 i ∧ fget fr 3 = .int .i64 a
        ∧ H.length + 1 ≤ H'.length ∧ hget H' H.length 0 = some [.int .i64 2, .bool no, slF sf encG sp, .int .i64 least, .int .i64 most, slF kf encN kids] ∧ sizeL false true 0 kids = sizeL false (decide (i = 0)) a (kids.drop i)) ?_ kids.length _ _ ⟨0, 0, by simp [wk, aBuiltin, AV.cells, AV.leaf, Nat.reduceEqDiff, Nat.reduceLT, Nat.reduceAdd, Nat.reduceLeDiff, reduceCtorEq, Nat.reduceMul, cfgP, u26, hlen, a0, hg0]⟩
      rintro m fr H' ⟨i, a, rfl, hi, ha, hlen, a1, a20, a21, a22, a3, hH, hg, hc⟩ ihl
      simp only [wk, aBuiltin, AV.cells, AV.leaf, Nat.reduceEqDiff, Nat.reduceLT, Nat.reduceAdd, Nat.reduceLeDiff, reduceCtorEq, Nat.reduceMul, cfgP, u26, hlen, a1, a20, a21, a22, a3]
      refine RC_split (fun h => ?_) (fun h => ?_)
      · have hlt : i < kids.length := by simpa using h
        have hww : IntKind.i64.wrap ((i : Int) + 1) = ((i + 1 : Nat) : Int) := by rw [wrap64 (by omega) (by omega)]; simp
        have e1 := hsl.at (P := Try.prog) (k := .i64) (i := i) Try.underlying45 sz47 encN_len hlt
        rw [hstep false i a hlt] at hc
        have n1 := fun (K : Heap) (hK : H.length ≤ K.length) => ih kids[i] (List.getElem_mem hlt) H.length K hK
        have hsl2 := sizeN_le kids[i]
        have n2 := fun (K : Heap) (hK : H.length ≤ K.length) => cut_ok (a + sizeN kids[i]) (by omega) H.length K hK
        have w1 : IntKind.i64.wrap ((a : Int) + (sizeN kids[i] : Int)) = ((a + sizeN kids[i] : Nat) : Int) := by rw [wrap64 (by omega) (by omega)]; simp
        have hcl := cutN_le (a + sizeN kids[i])
        generalize kids[i] = x at *
        obtain ⟨k', no', s, x1, x2, t, hx, hs, ht, hs2, ht2⟩ := encN_sh x
        rw [hx] at e1 n1
        simp only [AV.cells] at e1
        unfold AV.leaf at hs ht
        have hH0 : H.length ≤ H'.length := by omega
        have hle2 : ∀ Z, H.length ≤ (H' ++ [Blk.cells 0 Z]).length := fun Z => by simp; omega
        have hg2 := hget_mono hg [Blk.cells 0 [.int .i64 k', .bool no', s, .int .i64 x1, .int .i64 x2, t]]
        by_cases h0 : i = 0
        · have d5 : decide ((0 : Int) < (i : Int)) = false := decide_eq_false (by omega)
          simp only [wk, aBuiltin, AV.cells, AV.leaf, Nat.reduceEqDiff, Nat.reduceLT, Nat.reduceAdd, Nat.reduceLeDiff, reduceCtorEq, Nat.reduceMul, cfgP, u26, hlen, a1, a20, a21, a22, a3, e1, hH0, hs, ht, hle2, n1, n2, w1, hg2, d3, d5, hww, none_beq]
          refine ihl _ _ (kids.length - (i + 1)) (by omega) ⟨i + 1, cutN (a + sizeN x), rfl, hlt, hcl, ?_⟩
          refine ⟨by simp [wk, aBuiltin, AV.cells, AV.leaf, Nat.reduceEqDiff, Nat.reduceLT, Nat.reduceAdd, Nat.reduceLeDiff, reduceCtorEq, Nat.reduceMul, cfgP, u26, hlen], by simp [wk, aBuiltin, AV.cells, AV.leaf, Nat.reduceEqDiff, Nat.reduceLT, Nat.reduceAdd, Nat.reduceLeDiff, reduceCtorEq, Nat.reduceMul, cfgP, u26, hlen, a1], by simp [wk, aBuiltin, AV.cells, AV.leaf, Nat.reduceEqDiff, Nat.reduceLT, Nat.reduceAdd, Nat.reduceLeDiff, reduceCtorEq, Nat.reduceMul, cfgP, u26, hlen, a20], by simp [wk, aBuiltin, AV.cells, AV.leaf, Nat.reduceEqDiff, Nat.reduceLT, Nat.reduceAdd, Nat.reduceLeDiff, reduceCtorEq, Nat.reduceMul, cfgP, u26, hlen, a21], by simp [wk, aBuiltin, AV.cells, AV.leaf, Nat.reduceEqDiff, Nat.reduceLT, Nat.reduceAdd, Nat.reduceLeDiff, reduceCtorEq, Nat.reduceMul, cfgP, u26, hlen], by simp [wk, aBuiltin, AV.cells, AV.leaf, Nat.reduceEqDiff, Nat.reduceLT, Nat.reduceAdd, Nat.reduceLeDiff, reduceCtorEq, Nat.reduceMul, cfgP, u26, hlen], by simp; omega, hg2, hc⟩
        · have d5 : decide ((0 : Int) < (i : Int)) = true := decide_eq_true (by omega)
          simp only [wk, aBuiltin, AV.cells, AV.leaf, Nat.reduceEqDiff, Nat.reduceLT, Nat.reduceAdd, Nat.reduceLeDiff, reduceCtorEq, Nat.reduceMul, cfgP, u26, hlen, a1, a20, a21, a22, a3, e1, hH0, hs, ht, hle2, n1, n2, w1, hg2, d3, d5, hww, none_beq]
          refine ihl _ _ (kids.length - (i + 1)) (by omega) ⟨i + 1, cutN (a + sizeN x), rfl, hlt, hcl, ?_⟩
          refine ⟨by simp [wk, aBuiltin, AV.cells, AV.leaf, Nat.reduceEqDiff, Nat.reduceLT, Nat.reduceAdd, Nat.reduceLeDiff, reduceCtorEq, Nat.reduceMul, cfgP, u26, hlen], by simp [wk, aBuiltin, AV.cells, AV.leaf, Nat.reduceEqDiff, Nat.reduceLT, Nat.reduceAdd, Nat.reduceLeDiff, reduceCtorEq, Nat.reduceMul, cfgP, u26, hlen, a1], by simp [wk, aBuiltin, AV.cells, AV.leaf, Nat.reduceEqDiff, Nat.reduceLT, Nat.reduceAdd, Nat.reduceLeDiff, reduceCtorEq, Nat.reduceMul, cfgP, u26, hlen, a20], by simp [wk, aBuiltin, AV.cells, AV.leaf, Nat.reduceEqDiff, Nat.reduceLT, Nat.reduceAdd, Nat.reduceLeDiff, reduceCtorEq, Nat.reduceMul, cfgP, u26, hlen, a21], by simp [wk, aBuiltin, AV.cells, AV.leaf, Nat.reduceEqDiff, Nat.reduceLT, Nat.reduceAdd, Nat.reduceLeDiff, reduceCtorEq, Nat.reduceMul, cfgP, u26, hlen], by simp [wk, aBuiltin, AV.cells, AV.leaf, Nat.reduceEqDiff, Nat.reduceLT, Nat.reduceAdd, Nat.reduceLeDiff, reduceCtorEq, Nat.reduceMul, cfgP, u26, hlen], by simp; omega, hg2, hc⟩
      · have hnl : ¬ i < kids.length := by simpa using h
        rw [List.drop_eq_nil_of_le (by omega), sizeL] at hc
        rw [hc]
        simp only [wk, aBuiltin, AV.cells, AV.leaf, Nat.reduceEqDiff, Nat.reduceLT, Nat.reduceAdd, Nat.reduceLeDiff, reduceCtorEq, Nat.reduceMul, cfgP, u26, hlen, a1, a20, a21, a22, a3]
        exact Fin_pure (l := [.int .i64 a]) (by simp [wk, aBuiltin, AV.cells, AV.leaf, Nat.reduceEqDiff, Nat.reduceLT, Nat.reduceAdd, Nat.reduceLeDiff, reduceCtorEq, Nat.reduceMul, cfgP, u26, aResults, aResult, hlen]) (.still rfl) (by simp)
    · have d2 : decide ((3 : Int) = 2) = false := rfl
      have d3 : decide ((3 : Int) = 3) = true := rfl
      simp only [wk, aBuiltin, AV.cells, AV.leaf, Nat.reduceEqDiff, Nat.reduceLT, Nat.reduceAdd, Nat.reduceLeDiff, reduceCtorEq, Nat.reduceMul, cfgP, u26, hlen, a0, hs1, ht1, d1, d2, d3, hkl, none_beq]
      try rw [d3]
      refine loop_rule (fun m fr H' => ∃ (i a : Nat), m = kids.length - i ∧ i ≤ kids.length ∧ a ≤ 2147483647 ∧ fr.length = 87 ∧ fget fr 1 = .ptr H.length 0 0 ∧ fget fr 20 = slF kf encN kids ∧ fget fr 21 = .int .i64 kids.length ∧ fget fr 22 = .int .i64 i ∧ fget fr 3 = .int .i64 a
        ∧ H.length + 1 ≤ H'.length ∧ hget H' H.length 0 = some [.int .i64 3, .bool no, slF sf encG sp, .int .i64 least, .int .i64 most, slF kf encN kids] ∧ sizeL true true 0 kids = sizeL true (decide (i = 0)) a (kids.drop i)) ?_ kids.length _ _ ⟨0, 0, by simp [wk, aBuiltin, AV.cells, AV.leaf, Nat.reduceEqDiff, Nat.reduceLT, Nat.reduceAdd, Nat.reduceLeDiff, reduceCtorEq, Nat.reduceMul, cfgP, u26, hlen, a0, hg0]⟩
      rintro m fr H' ⟨i, a, rfl, hi, ha, hlen, a1, a20, a21, a22, a3, hH, hg, hc⟩ ihl
      simp only [wk, aBuiltin, AV.cells, AV.leaf, Nat.reduceEqDiff, Nat.reduceLT, Nat.reduceAdd, Nat.reduceLeDiff, reduceCtorEq, Nat.reduceMul, cfgP, u26, hlen, a1, a20, a21, a22, a3]
      refine RC_split (fun h => ?_) (fun h => ?_)
      · have hlt : i < kids.length := by simpa using h
        have hww : IntKind.i64.wrap ((i : Int) + 1) = ((i + 1 : Nat) : Int) := by rw [wrap64 (by omega) (by omega)]; simp
        have e1 := hsl.at (P := Try.prog) (k := .i64) (i := i) Try.underlying45 sz47 encN_len hlt
        rw [hstep true i a hlt] at hc
        have n1 := fun (K : Heap) (hK : H.length ≤ K.length) => ih kids[i] (List.getElem_mem hlt) H.length K hK
        have hsl2 := sizeN_le kids[i]
        have n2 := fun (K : Heap) (hK : H.length ≤ K.length) => cut_ok (a + sizeN kids[i]) (by omega) H.length K hK
        have w1 : IntKind.i64.wrap ((a : Int) + (sizeN kids[i] : Int)) = ((a + sizeN kids[i] : Nat) : Int) := by rw [wrap64 (by omega) (by omega)]; simp
        have hcl0 := cutN_le (a + sizeN kids[i])
        have n3 := fun (K : Heap) (hK : H.length ≤ K.length) => cut_ok (cutN (a + sizeN kids[i]) + 1) (by omega) H.length K hK
        have w2 : IntKind.i64.wrap ((cutN (a + sizeN kids[i]) : Int) + 1) = ((cutN (a + sizeN kids[i]) + 1 : Nat) : Int) := by rw [wrap64 (by omega) (by omega)]; simp
        have hcl := cutN_le (a + sizeN kids[i])
        have hcl2 := cutN_le (cutN (a + sizeN kids[i]) + 1)
        generalize kids[i] = x at *
        obtain ⟨k', no', s, x1, x2, t, hx, hs, ht, hs2, ht2⟩ := encN_sh x
        rw [hx] at e1 n1
        simp only [AV.cells] at e1
        unfold AV.leaf at hs ht
        have hH0 : H.length ≤ H'.length := by omega
        have hle2 : ∀ Z, H.length ≤ (H' ++ [Blk.cells 0 Z]).length := fun Z => by simp; omega
        have hg2 := hget_mono hg [Blk.cells 0 [.int .i64 k', .bool no', s, .int .i64 x1, .int .i64 x2, t]]
        by_cases h0 : i = 0
        · have d5 : decide ((0 : Int) < (i : Int)) = false := decide_eq_false (by omega)
          have d6 : decide (i = 0) = true := decide_eq_true h0
          simp only [d6, Bool.not_true, Bool.and_false, Bool.false_eq_true, if_false] at hc
          simp only [wk, aBuiltin, AV.cells, AV.leaf, Nat.reduceEqDiff, Nat.reduceLT, Nat.reduceAdd, Nat.reduceLeDiff, reduceCtorEq, Nat.reduceMul, cfgP, u26, hlen, a1, a20, a21, a22, a3, e1, hH0, hs, ht, hle2, n1, n2, w1, hg2, d3, d5, hww, none_beq]
          refine ihl _ _ (kids.length - (i + 1)) (by omega) ⟨i + 1, cutN (a + sizeN x), rfl, hlt, hcl, ?_⟩
          refine ⟨by simp [wk, aBuiltin, AV.cells, AV.leaf, Nat.reduceEqDiff, Nat.reduceLT, Nat.reduceAdd, Nat.reduceLeDiff, reduceCtorEq, Nat.reduceMul, cfgP, u26, hlen], by simp [wk, aBuiltin, AV.cells, AV.leaf, Nat.reduceEqDiff, Nat.reduceLT, Nat.reduceAdd, Nat.reduceLeDiff, reduceCtorEq, Nat.reduceMul, cfgP, u26, hlen, a1], by simp [wk, aBuiltin, AV.cells, AV.leaf, Nat.reduceEqDiff, Nat.reduceLT, Nat.reduceAdd, Nat.reduceLeDiff, reduceCtorEq, Nat.reduceMul, cfgP, u26, hlen, a20], by simp [wk, aBuiltin, AV.cells, AV.leaf, Nat.reduceEqDiff, Nat.reduceLT, Nat.reduceAdd, Nat.reduceLeDiff, reduceCtorEq, Nat.reduceMul, cfgP, u26, hlen, a21], by simp [wk, aBuiltin, AV.cells, AV.leaf, Nat.reduceEqDiff, Nat.reduceLT, Nat.reduceAdd, Nat.reduceLeDiff, reduceCtorEq, Nat.reduceMul, cfgP, u26, hlen], by simp [wk, aBuiltin, AV.cells, AV.leaf, Nat.reduceEqDiff, Nat.reduceLT, Nat.reduceAdd, Nat.reduceLeDiff, reduceCtorEq, Nat.reduceMul, cfgP, u26, hlen], by simp; omega, hg2, hc⟩
        · have d5 : decide ((0 : Int) < (i : Int)) = true := decide_eq_true (by omega)
          have d6 : decide (i = 0) = false := decide_eq_false h0
          simp only [d6, Bool.not_false, Bool.and_true, if_true] at hc
          simp only [wk, aBuiltin, AV.cells, AV.leaf, Nat.reduceEqDiff, Nat.reduceLT, Nat.reduceAdd, Nat.reduceLeDiff, reduceCtorEq, Nat.reduceMul, cfgP, u26, hlen, a1, a20, a21, a22, a3, e1, hH0, hs, ht, hle2, n1, n2, n3, w1, w2, hg2, d3, d5, hww, none_beq]
          refine ihl _ _ (kids.length - (i + 1)) (by omega) ⟨i + 1, cutN (cutN (a + sizeN x) + 1), rfl, hlt, hcl2, ?_⟩
          refine ⟨by simp [wk, aBuiltin, AV.cells, AV.leaf, Nat.reduceEqDiff, Nat.reduceLT, Nat.reduceAdd, Nat.reduceLeDiff, reduceCtorEq, Nat.reduceMul, cfgP, u26, hlen], by simp [wk, aBuiltin, AV.cells, AV.leaf, Nat.reduceEqDiff, Nat.reduceLT, Nat.reduceAdd, Nat.reduceLeDiff, reduceCtorEq, Nat.reduceMul, cfgP, u26, hlen, a1], by simp [wk, aBuiltin, AV.cells, AV.leaf, Nat.reduceEqDiff, Nat.reduceLT, Nat.reduceAdd, Nat.reduceLeDiff, reduceCtorEq, Nat.reduceMul, cfgP, u26, hlen, a20], by simp [wk, aBuiltin, AV.cells, AV.leaf, Nat.reduceEqDiff, Nat.reduceLT, Nat.reduceAdd, Nat.reduceLeDiff, reduceCtorEq, Nat.reduceMul, cfgP, u26, hlen, a21], by simp [wk, aBuiltin, AV.cells, AV.leaf, Nat.reduceEqDiff, Nat.reduceLT, Nat.reduceAdd, Nat.reduceLeDiff, reduceCtorEq, Nat.reduceMul, cfgP, u26, hlen], by simp [wk, aBuiltin, AV.cells, AV.leaf, Nat.reduceEqDiff, Nat.reduceLT, Nat.reduceAdd, Nat.reduceLeDiff, reduceCtorEq, Nat.reduceMul, cfgP, u26, hlen], by simp; omega, hg2, hc⟩
      · have hnl : ¬ i < kids.length := by simpa using h
        rw [List.drop_eq_nil_of_le (by omega), sizeL] at hc
        rw [hc]
        simp only [wk, aBuiltin, AV.cells, AV.leaf, Nat.reduceEqDiff, Nat.reduceLT, Nat.reduceAdd, Nat.reduceLeDiff, reduceCtorEq, Nat.reduceMul, cfgP, u26, hlen, a1, a20, a21, a22, a3]
        exact Fin_pure (l := [.int .i64 a]) (by simp [wk, aBuiltin, AV.cells, AV.leaf, Nat.reduceEqDiff, Nat.reduceLT, Nat.reduceAdd, Nat.reduceLeDiff, reduceCtorEq, Nat.reduceMul, cfgP, u26, aResults, aResult, hlen]) (.still rfl) (by simp)
  · rcases hk with h | h | h | h | ⟨_, h1, h2, h3, h4⟩
    · omega
    · omega
    · omega
    · omega
    obtain ⟨x, rfl⟩ := List.length_eq_one_iff.1 h1
    have d1 : decide ((4 : Int) = 1) = false := rfl
    have d2 : decide ((4 : Int) = 2) = false := rfl
    have d3 : decide ((4 : Int) = 3) = false := rfl
    have d4 : decide (¬ (4 : Int) = 4) = false := rfl
    have d5 : decide (¬ ((1 : Nat) : Int) = 1) = false := rfl
    have hk0 := hsl.at (P := Try.prog) (k := .i64) (i := 0) Try.underlying45 sz47 encN_len (by simp)
    simp only [List.getElem_cons_zero] at hk0
    have e1 : aIndexAddr Try.prog 45 (slF kf encN [x]) (.int .i64 0) = some (.vptr (encN x).cells 0) := hk0
    have hS' := fun (K : Heap) (hK : H.length ≤ K.length) => ih x (by simp) H.length K hK
    have hle := sizeN_le x
    obtain ⟨a, rfl⟩ : ∃ a : Nat, least = a := ⟨least.toNat, by omega⟩
    have ha16 : a ≤ 16 := by omega
    obtain ⟨k', no', s, x1, x2, t, hx, hs, ht, hs2, ht2⟩ := encN_sh x
    rw [hx] at e1 hS'
    simp only [AV.cells] at e1
    have hmul : ∀ m : Nat, m ≤ 16 → m * sizeN x ≤ 16 * 2147483647 := fun m h => Nat.mul_le_mul h hle
    have hmul2 : ∀ m : Nat, m ≤ 16 → m * (sizeN x + 1) ≤ 16 * 2147483648 := fun m h => Nat.mul_le_mul h (by omega)
    have wm : ∀ m : Nat, m ≤ 16 → IntKind.i64.wrap ((m : Int) * (sizeN x : Int)) = ((m * sizeN x : Nat) : Int) := fun m h => by
      rw [← Int.natCast_mul]; exact wrap64 (by omega) (by have := hmul m h; omega)
    by_cases hm : most = -1
    · subst hm
      have d6 : decide ((-1 : Int) = -1) = true := rfl
      have n2 := fun (m : Nat) (h : m ≤ 16) (K : Heap) (hK : H.length ≤ K.length) => cut_ok (m * sizeN x) (by have := hmul m h; omega) H.length K hK
      have hc2 := fun m => cutN_le (m * sizeN x)
      have n3 := fun (m : Nat) (K : Heap) (hK : H.length ≤ K.length) => cut_ok (cutN (m * sizeN x) + 1) (by have := hc2 m; omega) H.length K hK
      have w2 : ∀ m : Nat, IntKind.i64.wrap ((cutN (m * sizeN x) : Int) + 1) = ((cutN (m * sizeN x) + 1 : Nat) : Int) := fun m => by have := hc2 m; rw [wrap64 (by omega) (by omega)]; simp
      have hsz : sizeN (.mk 4 no sf sp a (-1) kf [x]) = cutN (cutN (max a 1 * sizeN x) + 1) := by
        rw [sizeN.eq_def]
        have : (max (a : Int) 1).toNat = max a 1 := by omega
        simp [this]
      rw [hsz]
      by_cases ha : a = 0
      · subst ha
        have d7 : decide (((0 : Nat) : Int) = 0) = true := rfl
        have hmx : max 0 1 = 1 := rfl
        rw [hmx]
        have wm1 : IntKind.i64.wrap ((1 : Int) * (sizeN x : Int)) = ((1 * sizeN x : Nat) : Int) := wm 1 (by omega)
        have n21 := n2 1 (by omega)
        simp only [wk, aBuiltin, AV.cells, AV.leaf, Nat.reduceEqDiff, Nat.reduceLT, Nat.reduceAdd, Nat.reduceLeDiff, reduceCtorEq, Nat.reduceMul, cfgP, u26, hlen, a0, hs1, ht1, hkl, d1, d2, d3, d4, d5, e1, hS', hle', d6, d7, wm1, n21, n3, w2, none_beq]
        exact Fin_pure (l := [.int .i64 (cutN (cutN (1 * sizeN x) + 1))]) (by simp [wk, aBuiltin, AV.cells, AV.leaf, Nat.reduceEqDiff, Nat.reduceLT, Nat.reduceAdd, Nat.reduceLeDiff, reduceCtorEq, Nat.reduceMul, cfgP, u26, aResults, aResult, hlen]) (.still rfl) (by simp)
      · have d7 : decide ((a : Int) = 0) = false := decide_eq_false (by omega)
        have hmx : max a 1 = a := by omega
        rw [hmx]
        have wm1 := wm a ha16
        have n21 := n2 a ha16
        simp only [wk, aBuiltin, AV.cells, AV.leaf, Nat.reduceEqDiff, Nat.reduceLT, Nat.reduceAdd, Nat.reduceLeDiff, reduceCtorEq, Nat.reduceMul, cfgP, u26, hlen, a0, hs1, ht1, hkl, d1, d2, d3, d4, d5, e1, hS', hle', d6, d7, wm1, n21, n3, w2, none_beq]
        exact Fin_pure (l := [.int .i64 (cutN (cutN (a * sizeN x) + 1))]) (by simp [wk, aBuiltin, AV.cells, AV.leaf, Nat.reduceEqDiff, Nat.reduceLT, Nat.reduceAdd, Nat.reduceLeDiff, reduceCtorEq, Nat.reduceMul, cfgP, u26, aResults, aResult, hlen]) (.still rfl) (by simp)
    · have h4 := h4.resolve_left hm
      obtain ⟨c, rfl⟩ : ∃ c : Nat, most = c := ⟨most.toNat, by omega⟩
      have d6 : decide ((c : Int) = -1) = false := decide_eq_false (by omega)
      have w1 : IntKind.i64.wrap ((c : Int) - (a : Int)) = ((c - a : Nat) : Int) := by rw [wrap64 (by omega) (by omega)]; omega
      have w2 : IntKind.i64.wrap ((sizeN x : Int) + 1) = ((sizeN x + 1 : Nat) : Int) := by rw [wrap64 (by omega) (by omega)]; simp
      have hca : c - a ≤ 16 := by omega
      have wm1 := wm a ha16
      have h5 := hmul2 (c - a) hca
      have wm2 : IntKind.i64.wrap (((c - a : Nat) : Int) * ((sizeN x + 1 : Nat) : Int)) = (((c - a) * (sizeN x + 1) : Nat) : Int) := by
        rw [← Int.natCast_mul]; exact wrap64 (by omega) (by omega)
      have n2 := fun (K : Heap) (hK : H.length ≤ K.length) => cut_ok (a * sizeN x) (by have := hmul a ha16; omega) H.length K hK
      have n3 := fun (K : Heap) (hK : H.length ≤ K.length) => cut_ok ((c - a) * (sizeN x + 1)) (by omega) H.length K hK
      have hc1 := cutN_le (a * sizeN x)
      have hc2 := cutN_le ((c - a) * (sizeN x + 1))
      have n4 := fun (K : Heap) (hK : H.length ≤ K.length) => cut_ok (cutN (a * sizeN x) + cutN ((c - a) * (sizeN x + 1))) (by omega) H.length K hK
      have w3 : IntKind.i64.wrap ((cutN (a * sizeN x) : Int) + (cutN ((c - a) * (sizeN x + 1)) : Int)) = ((cutN (a * sizeN x) + cutN ((c - a) * (sizeN x + 1)) : Nat) : Int) := by rw [wrap64 (by omega) (by omega)]; simp
      have hsz : sizeN (.mk 4 no sf sp a c kf [x]) = cutN (cutN (a * sizeN x) + cutN ((c - a) * (sizeN x + 1))) := by
        rw [sizeN.eq_def]
        have : ((c : Int) - (a : Int)).toNat = c - a := by omega
        simp [this, hm]
      rw [hsz]
      simp only [wk, aBuiltin, AV.cells, AV.leaf, Nat.reduceEqDiff, Nat.reduceLT, Nat.reduceAdd, Nat.reduceLeDiff, reduceCtorEq, Nat.reduceMul, cfgP, u26, hlen, a0, hs1, ht1, hkl, d1, d2, d3, d4, d5, e1, hS', hle', d6, wm1, n2, w1, w2, wm2, n3, w3, n4, none_beq]
      exact Fin_pure (l := [.int .i64 (cutN (cutN (a * sizeN x) + cutN ((c - a) * (sizeN x + 1))))]) (by simp [wk, aBuiltin, AV.cells, AV.leaf, Nat.reduceEqDiff, Nat.reduceLT, Nat.reduceAdd, Nat.reduceLeDiff, reduceCtorEq, Nat.reduceMul, cfgP, u26, aResults, aResult, hlen]) (.still rfl) (by simp)
theorem nsize_ok : ∀ (x : Nd), Good x → ∀ (prot : Nat) (H : Heap), prot ≤ H.length → aLim cfg prot 26 [encN x] H = some (.int .i64 (sizeN x), none)
  | .mk kind no sf sp least most kf kids, hg => size_step kind no sf sp least most kf kids hg fun x hx => nsize_ok x (by cases hg with | mk h _ _ => exact h x hx)
termination_by x => SizeOf.sizeOf x
decreasing_by have := List.sizeOf_lt_of_mem hx; simp; omega
theorem rsize_ok : ∀ (x : Nd), Good x → ∀ (prot : Nat) (H : Heap), prot ≤ H.length → aLim cfg prot 27 [encN x] H = some (.int .i64 (sizeN x), none)
  | .mk kind no sf sp least most kf kids, hg => rsize_step kind no sf sp least most kf kids hg fun x hx => rsize_ok x (by cases hg with | mk h _ _ => exact h x hx)
termination_by x => SizeOf.sizeOf x
decreasing_by have := List.sizeOf_lt_of_mem hx; simp; omega
end Go.Proofs.Ytoblikhnbddfmaa
/-! Chapter 15: Parse, walked. -/
namespace Go.Proofs.Ytoblikhnbddfmaa
open Go Go.Abs AbsSeat Ty

theorem good_zero : Good ndZ := .mk (fun x h => by cases h) (.inl rfl) (by simp)
theorem good_rune (no sf : Bool) (sp : List Sg) : Good (.mk 1 no sf sp 0 0 false []) := .mk (fun x h => by cases h) (.inr (.inl rfl)) (by simp)
theorem good_rep {x : Nd} (h : Good x) {a b : Int} (h1 : 0 ≤ a) (h2 : a ≤ 16) (h3 : b = -1 ∨ (a ≤ b ∧ b ≤ 16)) : Good (ndR x a b) :=
  .mk (fun y hy => by simp at hy; subst hy; exact h) (.inr (.inr (.inr (.inr ⟨rfl, rfl, h1, h2, h3⟩)))) (by simp)
theorem numV_in {l : List Int} {i : Nat} (h : numB l i = true) : 0 ≤ numV l i ∧ numV l i ≤ 16 := by
  unfold numB at h
  simp only [Bool.and_eq_true, decide_eq_true_eq] at h
  refine ⟨?_, h.2⟩
  unfold numV
  split
  · rename_i h1
    have h1 := dgC_iff.1 h1
    split
    · rename_i h2
      have h2 := dgC_iff.1 h2
      omega
    · omega
  · omega
theorem times_good {l : List Int} {i : Nat} (h : (timesS l i).ok = true) : 0 ≤ (timesS l i).lo ∧ (timesS l i).lo ≤ 16 ∧ ((timesS l i).hi = -1 ∨ ((timesS l i).lo ≤ (timesS l i).hi ∧ (timesS l i).hi ≤ 16)) := by
  unfold timesS at h ⊢
  dsimp only at h ⊢
  split at h
  · rename_i h1
    rw [if_pos h1]
    have hv := numV_in h1
    split at h
    · rename_i h2
      rw [if_pos h2]
      split at h
      · rename_i h3
        rw [if_pos h3]
        exact ⟨hv.1, hv.2, .inl rfl⟩
      · rename_i h3
        rw [if_neg h3]
        split at h
        · rename_i h4
          rw [if_pos h4]
          simp only [Bool.and_eq_true, decide_eq_true_eq] at h4
          have hv2 := numV_in h4.1
          split at h
          · rename_i h5
            rw [if_pos h5]
            exact ⟨hv.1, hv.2, .inr ⟨h4.2, hv2.2⟩⟩
          · cases h
        · cases h
    · rename_i h2
      rw [if_neg h2]
      split at h
      · rename_i h3
        rw [if_pos h3]
        exact ⟨hv.1, hv.2, .inr ⟨Int.le_refl _, hv.2⟩⟩
      · cases h
  · cases h
theorem conN_good {l : List Nd} (h : ∀ x ∈ l, Good x) (hl : l.length ≤ 1000000) : Good (conN l) := by
  match l, h, hl with
  | [], _, _ => exact good_zero
  | [x], h, _ => exact h x (by simp)
  | x :: y :: r, h, hl => exact .mk h (.inr (.inr (.inl rfl))) hl
theorem eitN_good {l : List Nd} (h : ∀ x ∈ l, Good x) (hl : l.length ≤ 1000000) : Good (eitN l) := by
  match l, h, hl with
  | [], h, hl => exact .mk h (.inr (.inr (.inr (.inl rfl)))) hl
  | [x], h, _ => exact h x (by simp)
  | x :: y :: r, h, hl => exact .mk h (.inr (.inr (.inr (.inl rfl)))) hl
theorem readS_good (l : List Int) (hll : l.length < 1000000) : ∀ k : Nat, (∀ j d, (atomS l k j d).ok = true → Good (atomS l k j d).n) ∧ (∀ j d, (pieceS l k j d).ok = true → Good (pieceS l k j d).n) ∧
    (∀ j d acc, j ≤ l.length → acc.length ≤ j → (∀ x ∈ acc, Good x) → (concatS l k j d acc).ok = true → Good (concatS l k j d acc).n) ∧ ∀ j d acc, j ≤ l.length → acc.length ≤ j → (∀ x ∈ acc, Good x) → (eitherS l k j d acc).ok = true → Good (eitherS l k j d acc).n
  | 0 => ⟨fun j d h => by simp [atomS] at h, fun j d h => by simp [pieceS] at h, fun j d acc _ _ _ h => by simp [concatS] at h, fun j d acc _ _ _ h => by simp [eitherS] at h⟩
  | k + 1 => by
    obtain ⟨ha, hp, hc, he⟩ := readS_good l hll k
    obtain ⟨ia, ip, ic, ie⟩ := readS_in l k
    refine ⟨fun j d h => ?_, fun j d h => ?_, fun j d acc hj hal hga h => ?_, fun j d acc hj hal hga h => ?_⟩
    · rw [atomS] at h ⊢
      dsimp only at h ⊢
      split at h
      · rename_i h1
        rw [if_pos h1]
        have hj := pk_in (l := l) (i := j) (by rw [h1]; decide)
        split at h
        · cases h
        · rename_i h2
          rw [if_neg h2]
          split at h
          · rename_i h3
            rw [if_pos h3]
            have := he (j + 1) (d + 1) [] (by omega) (by simp) (fun x h => by cases h) h3
            split at h
            · rename_i h4
              rw [if_pos h4]
              exact this
            · cases h
          · cases h
      · rename_i h1
        rw [if_neg h1]
        split at h
        · rename_i h2
          rw [if_pos h2]
          exact good_rune _ _ _
        · rename_i h2
          rw [if_neg h2]
          split at h
          · rename_i h3
            rw [if_pos h3]
            exact good_rune _ _ _
          · rename_i h3
            rw [if_neg h3]
            split at h
            · rename_i h4
              rw [if_pos h4]
              exact good_rune _ _ _
            · rename_i h4
              rw [if_neg h4]
              exact good_rune _ _ _
    · rw [pieceS] at h ⊢
      try dsimp only at h ⊢
      split at h
      · rename_i h1
        rw [if_pos h1]
        have h0 := ha j d h1
        split at h
        · rename_i h2
          rw [if_pos h2]
          exact good_rep h0 (by omega) (by omega) (.inl rfl)
        · rename_i h2
          rw [if_neg h2]
          split at h
          · rename_i h3
            rw [if_pos h3]
            exact good_rep h0 (by omega) (by omega) (.inl rfl)
          · rename_i h3
            rw [if_neg h3]
            split at h
            · rename_i h4
              rw [if_pos h4]
              exact good_rep h0 (by omega) (by omega) (.inr (by omega))
            · rename_i h4
              rw [if_neg h4]
              split at h
              · rename_i h5
                rw [if_pos h5]
                have := times_good h
                exact good_rep h0 this.1 this.2.1 this.2.2
              · rename_i h5
                rw [if_neg h5]
                exact h0
      · rename_i h1
        exact absurd h h1
    · rw [concatS] at h ⊢
      try dsimp only at h ⊢
      split at h
      · rename_i h1
        rw [if_pos h1]
        exact conN_good hga (by omega)
      · rename_i h1
        rw [if_neg h1]
        split at h
        · rename_i h2
          rw [if_pos h2]
          have h0 := ip j d h2
          refine hc _ d _ h0.2 (by simp; omega) (fun x hx => ?_) h
          rcases List.mem_append.1 hx with hx | hx
          · exact hga x hx
          · simp at hx; subst hx; exact hp j d h2
        · rename_i h2
          exact absurd h h2
    · rw [eitherS] at h ⊢
      try dsimp only at h ⊢
      split at h
      · rename_i h1
        rw [if_pos h1]
        have h0 := ic j d [] hj h1
        have hg0 := hc j d [] hj (by simp) (fun x h => by cases h) h1
        have hga2 : ∀ x ∈ acc ++ [(concatS l k j d []).n], Good x := fun x hx => by
          rcases List.mem_append.1 hx with hx | hx
          · exact hga x hx
          · simp at hx; subst hx; exact hg0
        split at h
        · rename_i h2
          rw [if_pos h2]
          have := pk_in (l := l) (i := (concatS l k j d []).at_) (by rw [h2]; decide)
          exact he _ d _ (by omega) (by simp; omega) hga2 h
        · rename_i h2
          rw [if_neg h2]
          exact eitN_good hga2 (by simp; omega)
      · rename_i h1
        exact absurd h h1
/-- a text's expression, or why there is none. -/
def parseL (l : List Int) : Nd × Int :=
  let r := eitherS l (5 * l.length + 4) 0 0 []
  if r.ok = true ∧ r.at_ = l.length then (if 400 < sizeN r.n then (ndZ, 5) else (r.n, 0)) else (ndZ, 3)
def parseU (s : List UInt8) : Nd × Int := match runesU s with
  | none => (ndZ, 3)
  | some l => parseL l
theorem encN_zero : encN ndZ = .agg [.int .i64 0, .bool false, .nilS, .int .i64 0, .int .i64 0, .nilS] := by rw [ndZ, encN_eq]; rfl

theorem parse_ok (s : List UInt8) (hl : s.length ≤ 1000) (prot : Nat) (H : Heap) (hp : prot ≤ H.length) :
    aLim cfg prot 20 [.str s] H = some (.tup [encN (parseU s).1, .int .i64 (parseU s).2], none) := by
  have hsnap : snap H [.str s] = some ([.str s], false) := rfl
  have hfz : ∀ (K : Heap) k n a x y b e, still a = true → still b = true → Frz K H.length (packR [.agg [.int .i64 k, .bool n, a, .int .i64 x, .int .i64 y, b], .int .i64 e]) (.tup [.agg [.int .i64 k, .bool n, a, .int .i64 x, .int .i64 y, b], .int .i64 e]) := fun K k n a x y b e h1 h2 =>
    .tup (.cons (.agg (.cons (.still rfl) (.cons (.still rfl) (.cons (.still h1) (.cons (.still rfl) (.cons (.still rfl) (.cons (.still h2) .nil))))))) (.cons (.still rfl) .nil))
  have hlZ : ∀ Z, (H ++ [Blk.cells 0 Z]).length = H.length + 1 := fun Z => by simp
  have hpl1 : H.length ≤ H.length + 1 := by omega
  have hv := validU_runes s
  have n1 := fun (K : Heap) (hK : H.length ≤ K.length) => valid_ok s (by omega) H.length K hK
  have hz0 : hget (H ++ [Blk.cells 0 [.int .i64 0, .bool false, .nilS, .int .i64 0, .int .i64 0, .nilS]]) H.length 0 = some [.int .i64 0, .bool false, .nilS, .int .i64 0, .int .i64 0, .nilS] := by simp [hget]
  have hp1 := hput6 (prot := H.length) hz0 rfl (Nat.le_refl _) 0 false .nilS 0 0 .nilS rfl rfl
  have hgZ : ∀ d, hget ((H ++ [Blk.cells 0 [.int .i64 0, .bool false, .nilS, .int .i64 0, .int .i64 0, .nilS]]).set H.length (.cells 0 d)) H.length 0 = some d := fun d => hget_set_at (by simp)
  unfold parseU
  refine pure_slim rfl (by kernel_rfl) Try.func20 s20 hp hsnap (by simp [Try.f20]) fun fr hlen h => ?_
  simp only [Has, Nat.zero_add] at h
  obtain ⟨a0, -⟩ := h
  simp only [Try.f20] at hlen ⊢
  unfold g20
  cases hr : runesU s with
  | none =>
    rw [hr] at hv
    rw [hv] at n1
    simp only [encN_zero]
    simp only [wk, aBuiltin, AV.cells, AV.leaf, Nat.reduceEqDiff, Nat.reduceLT, Nat.reduceAdd, Nat.reduceLeDiff, reduceCtorEq, Nat.reduceMul, cfgP, u26, hlen, a0, hlZ, hpl1, n1, Option.isSome, hp1]
    exact Fin_pure (l := [.agg [.int .i64 0, .bool false, .nilS, .int .i64 0, .int .i64 0, .nilS], .int .i64 3]) (by simp [wk, aBuiltin, AV.cells, AV.leaf, Nat.reduceEqDiff, Nat.reduceLT, Nat.reduceAdd, Nat.reduceLeDiff, reduceCtorEq, Nat.reduceMul, cfgP, u26, hlen, aResults, aResult, hgZ]) (hfz _ _ _ _ _ _ _ _ rfl rfl) (by simp)
  | some l =>
    rw [hr] at hv
    rw [hv] at n1
    have hro := runesU_ok s.length s l (Nat.le_refl _) hr
    have hl' : Runes l := ⟨by omega, hro.2⟩
    have n2 := fun (K : Heap) (hK : H.length ≤ K.length) => runes_ok s (by omega) l hr H.length K hK
    have hLl := (slv_sl encI l)
    have hlf : (slv encI l).leaf = true := by cases l <;> rfl
    have hlc : (slv encI l).cells = [slv encI l] := by cases l <;> rfl
    have hls1 : ∀ Z, (H ++ [Blk.cells 0 Z]).length = H.length + 1 := fun Z => by simp
    have hb : hget (H ++ [Blk.cells 0 [.int .i64 0, .bool false, .nilS, .int .i64 0, .int .i64 0, .nilS]] ++ [Blk.cells 0 [slv encI l, .int .i64 0]]) (H.length + 1) 0 = some [slv encI l, .int .i64 ((0 : Nat) : Int)] := by rw [hget_new (hls1 _).symm, if_pos rfl]; rfl
    have hz1 := hget_mono hz0 [Blk.cells 0 [slv encI l, .int .i64 0]]
    have hl1 : (H ++ [Blk.cells 0 [.int .i64 0, .bool false, .nilS, .int .i64 0, .int .i64 0, .nilS]] ++ [Blk.cells 0 [slv encI l, .int .i64 0]]).length = H.length + 2 := by simp
    have n3 : aLim cfg H.length 57 [.ptr (H.length + 1) 0 0, .int .i64 0] _ = _ := (read_ok l hl' (5 * l.length + 4)).1 (slv encI l) hLl 0 0 (H.length + 1) H.length _ (by omega) hb (by omega) (by omega) (by omega)
    dsimp only at n3
    have hin := (readS_in l (5 * l.length + 4)).2.2.2 0 0 [] (by omega)
    have hgd := (readS_good l hl'.1 (5 * l.length + 4)).2.2.2 0 0 [] (by omega) (by simp) (fun x h => by cases h)
    unfold parseL
    dsimp only
    generalize eitherS l (5 * l.length + 4) 0 0 [] = r at *
    obtain ⟨x, j, ok⟩ := r
    obtain ⟨k', no, s', x1, x2, t, hx, hs, ht, hs2, ht2⟩ := encN_sh x
    dsimp only at n3 hin hgd ⊢
    have n4 := fun (hg : Good x) (K : Heap) (hK : H.length ≤ K.length) => nsize_ok x hg H.length K hK
    rw [hx] at n3 n4
    have hs0 := hs
    have ht0 := ht
    unfold AV.leaf at hs ht hlf; unfold AV.cells at hlc
    generalize hK1 : H ++ [Blk.cells 0 [.int .i64 0, .bool false, .nilS, .int .i64 0, .int .i64 0, .nilS]] ++ [Blk.cells 0 [slv encI l, .int .i64 0]] = K1 at *
    have hl2 : ∀ c, (K1.set (H.length + 1) (.cells 0 c)).length = H.length + 2 := fun c => by simp [hl1]
    have hpl2 : H.length ≤ H.length + 2 := by omega
    simp only [wk, aBuiltin, AV.cells, AV.leaf, Nat.reduceEqDiff, Nat.reduceLT, Nat.reduceAdd, Nat.reduceLeDiff, reduceCtorEq, Nat.reduceMul, cfgP, u26, hlen, a0, hlZ, hpl1, n1, Option.isSome, n2, hlf, hlc, hK1, n3, hl2, hpl2, hs, ht]
    have hz2 : ∀ c, hget (K1.set (H.length + 1) (.cells 0 c) ++ [Blk.cells 0 [.int .i64 k', .bool no, s', .int .i64 x1, .int .i64 x2, t]]) H.length 0 = some [.int .i64 0, .bool false, .nilS, .int .i64 0, .int .i64 0, .nilS] := fun c => hget_mono (by rw [hget_set_ne (by omega)]; exact hz1) _
    have hb2 : ∀ c, hget (K1.set (H.length + 1) (.cells 0 c) ++ [Blk.cells 0 [.int .i64 k', .bool no, s', .int .i64 x1, .int .i64 x2, t]]) (H.length + 1) 0 = some c := fun c => hget_mono (hget_set_at (by omega)) _
    have hn2 : ∀ c, hget (K1.set (H.length + 1) (.cells 0 c) ++ [Blk.cells 0 [.int .i64 k', .bool no, s', .int .i64 x1, .int .i64 x2, t]]) (H.length + 2) 0 = some [.int .i64 k', .bool no, s', .int .i64 x1, .int .i64 x2, t] := fun c => by rw [hget_new (hl2 _).symm, if_pos rfl]
    have hl3 : H.length ≤ (K1.set (H.length + 1) (.cells 0 [slv encI l, .int .i64 (j : Nat)]) ++ [Blk.cells 0 [.int .i64 k', .bool no, s', .int .i64 x1, .int .i64 x2, t]]).length := by simp; omega
    have hz3 := hz2 [slv encI l, .int .i64 (j : Nat)]
    have hb3 := hb2 [slv encI l, .int .i64 (j : Nat)]
    have hn3 := hn2 [slv encI l, .int .i64 (j : Nat)]
    generalize K1.set (H.length + 1) (.cells 0 [slv encI l, .int .i64 (j : Nat)]) ++ [Blk.cells 0 [.int .i64 k', .bool no, s', .int .i64 x1, .int .i64 x2, t]] = K2 at *
    have hgZ2 : ∀ d, hget (K2.set H.length (.cells 0 d)) H.length 0 = some d := fun d => hget_set_at (hget_lt hz3)
    have hp0 := hput6 (prot := H.length) hz3 rfl (Nat.le_refl _) 0 false .nilS 0 0 .nilS rfl rfl
    have hlnL := hLl.len (P := Try.prog) (H := K2) Try.underlying80
    cases ok with
    | false =>
      simp only [Bool.false_eq_true, false_and, if_false, encN_zero]
      simp only [wk, aBuiltin, AV.cells, AV.leaf, Nat.reduceEqDiff, Nat.reduceLT, Nat.reduceAdd, Nat.reduceLeDiff, reduceCtorEq, Nat.reduceMul, cfgP, u26, hlen, hn3, hp0, none_beq]
      exact Fin_pure (l := [.agg [.int .i64 0, .bool false, .nilS, .int .i64 0, .int .i64 0, .nilS], .int .i64 3]) (by simp [wk, aBuiltin, AV.cells, AV.leaf, Nat.reduceEqDiff, Nat.reduceLT, Nat.reduceAdd, Nat.reduceLeDiff, reduceCtorEq, Nat.reduceMul, cfgP, u26, hlen, aResults, aResult, hgZ2]) (hfz _ _ _ _ _ _ _ _ rfl rfl) (by simp)
    | true =>
      by_cases hj : j = l.length
      · subst hj
        have d1 : decide (¬ ((l.length : Nat) : Int) = (l.length : Nat)) = false := by simp
        have hg := hgd rfl
        have n5 := n4 hg K2 hl3
        simp only [true_and, if_true]
        by_cases h4 : 400 < sizeN x
        · have d2 : decide ((400 : Int) < (sizeN x : Int)) = true := decide_eq_true (by omega)
          simp only [h4, if_true, encN_zero]
          simp only [wk, aBuiltin, AV.cells, AV.leaf, Nat.reduceEqDiff, Nat.reduceLT, Nat.reduceAdd, Nat.reduceLeDiff, reduceCtorEq, Nat.reduceMul, cfgP, u26, hlen, hb3, hlnL, d1, hn3, n5, d2, hp0, none_beq]
          exact Fin_pure (l := [.agg [.int .i64 0, .bool false, .nilS, .int .i64 0, .int .i64 0, .nilS], .int .i64 5]) (by simp [wk, aBuiltin, AV.cells, AV.leaf, Nat.reduceEqDiff, Nat.reduceLT, Nat.reduceAdd, Nat.reduceLeDiff, reduceCtorEq, Nat.reduceMul, cfgP, u26, hlen, aResults, aResult, hgZ2]) (hfz _ _ _ _ _ _ _ _ rfl rfl) (by simp)
        · have d2 : decide ((400 : Int) < (sizeN x : Int)) = false := decide_eq_false (by omega)
          have hp2 := hput6 (prot := H.length) hz3 rfl (Nat.le_refl _) k' no s' x1 x2 t hs0 ht0
          simp only [h4, if_false, hx]
          simp only [wk, aBuiltin, AV.cells, AV.leaf, Nat.reduceEqDiff, Nat.reduceLT, Nat.reduceAdd, Nat.reduceLeDiff, reduceCtorEq, Nat.reduceMul, cfgP, u26, hlen, hb3, hlnL, d1, hn3, n5, d2, hs, ht, hp2, none_beq]
          exact Fin_pure (l := [.agg [.int .i64 k', .bool no, s', .int .i64 x1, .int .i64 x2, t], .int .i64 0]) (by simp [wk, aBuiltin, AV.cells, AV.leaf, Nat.reduceEqDiff, Nat.reduceLT, Nat.reduceAdd, Nat.reduceLeDiff, reduceCtorEq, Nat.reduceMul, cfgP, u26, hlen, aResults, aResult, hgZ2]) (hfz _ _ _ _ _ _ _ _ hs2 ht2) (by simp)
      · have d1 : decide (¬ ((j : Nat) : Int) = (l.length : Nat)) = true := decide_eq_true (by omega)
        simp only [hj, and_false, if_false, encN_zero]
        simp only [wk, aBuiltin, AV.cells, AV.leaf, Nat.reduceEqDiff, Nat.reduceLT, Nat.reduceAdd, Nat.reduceLeDiff, reduceCtorEq, Nat.reduceMul, cfgP, u26, hlen, hb3, hlnL, d1, hn3, hp0, none_beq]
        exact Fin_pure (l := [.agg [.int .i64 0, .bool false, .nilS, .int .i64 0, .int .i64 0, .nilS], .int .i64 3]) (by simp [wk, aBuiltin, AV.cells, AV.leaf, Nat.reduceEqDiff, Nat.reduceLT, Nat.reduceAdd, Nat.reduceLeDiff, reduceCtorEq, Nat.reduceMul, cfgP, u26, hlen, aResults, aResult, hgZ2]) (hfz _ _ _ _ _ _ _ _ rfl rfl) (by simp)
end Go.Proofs.Ytoblikhnbddfmaa
/-! Chapter 15: how long rows of a node that was read are. -/
namespace Go.Proofs.Ytoblikhnbddfmaa
open Go Go.Abs AbsSeat Ty

/-- nodes whose rows are not too long. -/
inductive Fine : Nd → Prop where
  | mk {kind : Int} {no sf : Bool} {sp : List Sg} {least most : Int} {kf : Bool} {kids : List Nd} (h : ∀ x ∈ kids, Fine x) (hs : sp.length ≤ 10000000) (hl : kids.length ≤ 1000000) : Fine (.mk kind no sf sp least most kf kids)
theorem fine_zero : Fine ndZ := .mk (fun x h => by cases h) (by simp) (by simp)
theorem fine_rune (no sf : Bool) (sp : List Sg) (h : sp.length ≤ 10000000) : Fine (.mk 1 no sf sp 0 0 false []) := .mk (fun x h => by cases h) h (by simp)
theorem fine_rep {x : Nd} (h : Fine x) (a b : Int) : Fine (ndR x a b) := .mk (fun y hy => by simp at hy; subst hy; exact h) (by simp) (by simp)
theorem conN_fine {l : List Nd} (h : ∀ x ∈ l, Fine x) (hl : l.length ≤ 1000000) : Fine (conN l) := by
  match l, h, hl with
  | [], _, _ => exact fine_zero
  | [x], h, _ => exact h x (by simp)
  | x :: y :: r, h, hl => exact .mk h (by simp) hl
theorem eitN_fine {l : List Nd} (h : ∀ x ∈ l, Fine x) (hl : l.length ≤ 1000000) : Fine (eitN l) := by
  match l, h, hl with
  | [], h, hl => exact .mk h (by simp) hl
  | [x], h, _ => exact h x (by simp)
  | x :: y :: r, h, hl => exact .mk h (by simp) hl
theorem classGo_len (l : List Int) : ∀ (k j : Nat) (acc : List Sg), (classGo l k j acc).1.length ≤ acc.length + 4 * k
  | 0, j, acc => by rw [classGo]; simp
  | k + 1, j, acc => by
    rw [classGo]
    split
    · exact Nat.le_add_right _ _
    · split
      · split
        · have := classGo_len l k (j + 2) (acc ++ (escS (pk l (j + 1))).1)
          have h2 := escS_len (pk l (j + 1))
          rw [List.length_append] at this
          omega
        · exact Nat.le_add_right _ _
      · split
        · exact Nat.le_add_right _ _
        · split
          · split
            · exact Nat.le_add_right _ _
            · have := classGo_len l k (j + 3) (acc ++ [⟨pk l j, pk l (j + 2)⟩])
              rw [List.length_append, List.length_singleton] at this
              omega
          · have := classGo_len l k (j + 1) (acc ++ [⟨pk l j, pk l j⟩])
            rw [List.length_append, List.length_singleton] at this
            omega
theorem class_fine (l : List Int) (hll : l.length < 1000000) (j : Nat) : Fine (classS l j).n := by
  unfold classS
  dsimp only
  refine fine_rune _ _ _ ?_
  have := classGo_len l (l.length + 2) (if pk l j = 94 then j + 1 else j) []
  simp only [List.length_nil] at this
  omega
theorem readS_fine (l : List Int) (hll : l.length < 1000000) : ∀ k : Nat, (∀ j d, (atomS l k j d).ok = true → Fine (atomS l k j d).n) ∧ (∀ j d, (pieceS l k j d).ok = true → Fine (pieceS l k j d).n) ∧
    (∀ j d acc, j ≤ l.length → acc.length ≤ j → (∀ x ∈ acc, Fine x) → (concatS l k j d acc).ok = true → Fine (concatS l k j d acc).n) ∧ ∀ j d acc, j ≤ l.length → acc.length ≤ j → (∀ x ∈ acc, Fine x) → (eitherS l k j d acc).ok = true → Fine (eitherS l k j d acc).n
  | 0 => ⟨fun j d h => by simp [atomS] at h, fun j d h => by simp [pieceS] at h, fun j d acc _ _ _ h => by simp [concatS] at h, fun j d acc _ _ _ h => by simp [eitherS] at h⟩
  | k + 1 => by
    obtain ⟨ha, hp, hc, he⟩ := readS_fine l hll k
    obtain ⟨ia, ip, ic, ie⟩ := readS_in l k
    refine ⟨fun j d h => ?_, fun j d h => ?_, fun j d acc hj hal hga h => ?_, fun j d acc hj hal hga h => ?_⟩
    · rw [atomS] at h ⊢
      dsimp only at h ⊢
      split at h
      · rename_i h1
        rw [if_pos h1]
        have hj := pk_in (l := l) (i := j) (by rw [h1]; decide)
        split at h
        · cases h
        · rename_i h2
          rw [if_neg h2]
          split at h
          · rename_i h3
            rw [if_pos h3]
            have := he (j + 1) (d + 1) [] (by omega) (by simp) (fun x h => by cases h) h3
            split at h
            · rename_i h4
              rw [if_pos h4]
              exact this
            · cases h
          · cases h
      · rename_i h1
        rw [if_neg h1]
        split at h
        · rename_i h2
          rw [if_pos h2]
          exact class_fine l hll _
        · rename_i h2
          rw [if_neg h2]
          split at h
          · rename_i h3
            rw [if_pos h3]
            exact fine_rune _ _ _ (by simp)
          · rename_i h3
            rw [if_neg h3]
            split at h
            · rename_i h4
              rw [if_pos h4]
              exact fine_rune _ _ _ (by have := escS_len (pk l (j + 1)); omega)
            · rename_i h4
              rw [if_neg h4]
              exact fine_rune _ _ _ (by simp)
    · rw [pieceS] at h ⊢
      try dsimp only at h ⊢
      split at h
      · rename_i h1
        rw [if_pos h1]
        have h0 := ha j d h1
        split at h
        · rename_i h2
          rw [if_pos h2]
          exact fine_rep h0 _ _
        · rename_i h2
          rw [if_neg h2]
          split at h
          · rename_i h3
            rw [if_pos h3]
            exact fine_rep h0 _ _
          · rename_i h3
            rw [if_neg h3]
            split at h
            · rename_i h4
              rw [if_pos h4]
              exact fine_rep h0 _ _
            · rename_i h4
              rw [if_neg h4]
              split at h
              · rename_i h5
                rw [if_pos h5]
                exact fine_rep h0 _ _
              · rename_i h5
                rw [if_neg h5]
                exact h0
      · rename_i h1
        exact absurd h h1
    · rw [concatS] at h ⊢
      try dsimp only at h ⊢
      split at h
      · rename_i h1
        rw [if_pos h1]
        exact conN_fine hga (by omega)
      · rename_i h1
        rw [if_neg h1]
        split at h
        · rename_i h2
          rw [if_pos h2]
          have h0 := ip j d h2
          refine hc _ d _ h0.2 (by simp; omega) (fun x hx => ?_) h
          rcases List.mem_append.1 hx with hx | hx
          · exact hga x hx
          · simp at hx; subst hx; exact hp j d h2
        · rename_i h2
          exact absurd h h2
    · rw [eitherS] at h ⊢
      try dsimp only at h ⊢
      split at h
      · rename_i h1
        rw [if_pos h1]
        have h0 := ic j d [] hj h1
        have hg0 := hc j d [] hj (by simp) (fun x h => by cases h) h1
        have hga2 : ∀ x ∈ acc ++ [(concatS l k j d []).n], Fine x := fun x hx => by
          rcases List.mem_append.1 hx with hx | hx
          · exact hga x hx
          · simp at hx; subst hx; exact hg0
        split at h
        · rename_i h2
          rw [if_pos h2]
          have := pk_in (l := l) (i := (concatS l k j d []).at_) (by rw [h2]; decide)
          exact he _ d _ (by omega) (by simp; omega) hga2 h
        · rename_i h2
          rw [if_neg h2]
          exact eitN_fine hga2 (by simp; omega)
      · rename_i h1
        exact absurd h h1
theorem parse_fine (s : List UInt8) (hl : s.length ≤ 1000) : Fine (parseU s).1 := by
  unfold parseU
  cases hr : runesU s with
  | none => exact fine_zero
  | some l =>
    have hro := runesU_ok s.length s l (Nat.le_refl _) hr
    show Fine (parseL l).1
    unfold parseL
    dsimp only
    have h := (readS_fine l (by omega) (5 * l.length + 4)).2.2.2 0 0 [] (by omega) (by simp) (fun x h => by cases h)
    split
    · rename_i h1
      split
      · exact fine_zero
      · exact h h1.1
    · exact fine_zero
end Go.Proofs.Ytoblikhnbddfmaa
