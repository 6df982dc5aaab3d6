import Derived.Test.YtnipaiklandliaaGreatDoorAbsSeat
import Derived.Test.YtnipaiklandliaaGreatDoorAbsTy
import Derived.Test.YtnipaiklandliaaGreatDoorAbsSet
import Derived.Test.YtnipaiklandliaaGreatDoorAbsMore
/-! Part 1 of the proof of MatchBack. -/
set_option linter.unusedSimpArgs false
set_option linter.defProp false
namespace Go.Proofs.YtnipaiklandliaaGreatDoor
open Go Go.Abs AbsSeat Ty
theorem cfgP : cfg.P = Tryz.prog := rfl
def mA (d s : Nat) (t : TypeId) : Oper := q d (.move (.tmp s)) t
def mB (d s : Nat) (t : TypeId) : Oper := q d (.assign (.tmp s)) t
def mC (d s : Nat) (t : TypeId) : Oper := q d (.load t (.tmp s)) t
def mD (t : TypeId) (a b : Nat) : Oper := qn (.store t (.tmp a) (.tmp b)) 0
def mE (d s k : Nat) (t : TypeId) : Oper := q d (.extract (.tmp s) k) t
def mF (d : Nat) (o : BinOp) (t : TypeId) (s : Nat) (y : Operand) (u r : TypeId) : Oper := q d (.binOp o t (.tmp s) y u) r
def mG (n : Nat) (o : Array Oper) : Code := .region n o false
def mH : Operand := .const (.string { data := #[] })
def mI (b : Bool) : Operand := .const (.bool b)
theorem sL (f : Func) (g : Code) (h : f.body.map (slim cfg) = some g) : f.body.map (slim cfg) = some g := h
theorem an {a b : Prop} (x : a) (y : b) : a ∧ b := ⟨x, y⟩
def w9 := an @wk (an @AV.cells.eq_def (an @AV.leaf.eq_def (an @aResults.eq_1 (an @aResults.eq_2 (an @aResult.eq_1 (an @aResult.eq_2 (an @aBuiltin.eq_1 (an @aBuiltin.eq_2 (an @aBuiltin.eq_3 (an @aBuiltin.eq_4 (an @aBuiltin.eq_5 (an @aBuiltin.eq_6 (an @aBuiltin.eq_7 (an @aBuiltin.eq_8 (an @aBuiltin.eq_9 (an @aBuiltin.eq_10 (an @aBuiltin.eq_11 (an @aBuiltin.eq_12 (an @mA.eq_1 (an @mB.eq_1 (an @mC.eq_1 (an @mD.eq_1 (an @mE.eq_1 (an @mF.eq_1 (an @mG.eq_1 (an @mH.eq_1 (an @mI.eq_1 cfgP)))))))))))))))))))))))))))
theorem none_beq (b : Bool) : ((none : Option Bool) == some b) = false := by cases b <;> rfl
def u133 := an (fun (K : Heap) (n : Int) => conv_int Tryz.underlying5 Tryz.underlying21 K n) (an ag3 (an sz3 (an by3 (an ze3 (an Tryz.underlying3 (an ag5 (an sz5 (an by5 (an ze5 (an Tryz.underlying5 (an ag21 (an sz21 (an by21 (an ze21 (an Tryz.underlying21 (an ag72 (an sz72 (an by72 (an se72 (an ze72 (an Tryz.underlying72 (an ag116 (an sz116 (an by116 (an ze116 (an Tryz.underlying116 (an ag232 (an sz232 (an by232 (an ze232 Tryz.underlying232))))))))))))))))))))))))))))))
def g133 : Code := .seq (mG 0 #[q 2 (.assign (ik 0)) 3]) (.seq (.block 0 (.seq (mG 1 #[mA 4 0 5, mF 5 .lss 5 4 (.const (.int .u8 128)) 5 4, mB 3 5 4]) (.cond (.tmp 3) (.seq (mG 2 #[q 2 (.assign (ik 1)) 3]) .ret) (.seq (mG 3 #[mA 7 0 5, mF 8 .geq 5 7 (.const (.int .u8 194)) 5 4, mA 9 8 4, qg 10 (.move (.tmp 0)) 5 2 true, qg 11 (.binOp .lss 5 (.tmp 10) (.const (.int .u8 224)) 5) 4 2 true, q 12 (.pick (.tmp 9) (.tmp 11) (mI false)) 4, mB 6 12 4]) (.cond (.tmp 6) (.seq (mG 4 #[q 2 (.assign (ik 2)) 3]) .ret) (.seq (mG 5 #[mA 14 0 5, mF 15 .geq 5 14 (.const (.int .u8 224)) 5 4, mA 16 15 4, qg 17 (.move (.tmp 0)) 5 2 true, qg 18 (.binOp .lss 5 (.tmp 17) (.const (.int .u8 240)) 5) 4 2 true, q 19 (.pick (.tmp 16) (.tmp 18) (mI false)) 4, mB 13 19 4]) (.cond (.tmp 13) (.seq (mG 6 #[q 2 (.assign (ik 3)) 3]) .ret) (.seq (mG 7 #[mA 21 0 5, mF 22 .geq 5 21 (.const (.int .u8 240)) 5 4, mA 23 22 4, qg 24 (.move (.tmp 0)) 5 2 true, qg 25 (.binOp .lss 5 (.tmp 24) (.const (.int .u8 245)) 5) 4 2 true, q 26 (.pick (.tmp 23) (.tmp 25) (mI false)) 4, mB 20 26 4]) (.cond (.tmp 20) (.seq (mG 8 #[q 2 (.assign (ik 4)) 3]) .ret) .skip))))))))) (.seq (mG 9 #[q 2 (.assign (ik 0)) 3]) .ret))
def s133 := sL Tryz.f133 g133 (by kernel_rfl)
def g134 : Code := .seq (mG 0 #[q 4 (.assign (mI false)) 4]) (.seq (mG 1 #[q 5 (.assign (.const (.int .u8 128))) 5, q 6 (.assign (.const (.int .u8 191))) 5]) (.seq (.seq (mG 2 #[mA 8 0 72, q 9 (.indexAddr 72 (.tmp 8) (ik 0)) 0, mC 10 9 5]) (.block 0 (.seq (mG 3 #[mF 12 .eql 5 10 (.const (.int .u8 224)) 5 4, mB 11 12 4]) (.cond (.tmp 11) (mG 4 #[q 5 (.assign (.const (.int .u8 160))) 5]) (.seq (mG 5 #[mF 14 .eql 5 10 (.const (.int .u8 237)) 5 4, mB 13 14 4]) (.cond (.tmp 13) (mG 6 #[q 6 (.assign (.const (.int .u8 159))) 5]) (.seq (mG 7 #[mF 16 .eql 5 10 (.const (.int .u8 240)) 5 4, mB 15 16 4]) (.cond (.tmp 15) (mG 8 #[q 5 (.assign (.const (.int .u8 144))) 5]) (.seq (mG 9 #[mF 18 .eql 5 10 (.const (.int .u8 244)) 5 4, mB 17 18 4]) (.cond (.tmp 17) (mG 10 #[q 6 (.assign (.const (.int .u8 143))) 5]) .skip)))))))))) (.seq (.seq (mG 11 #[q 7 (.assign (ik 1)) 3]) (.block 1 (.loop (.seq (.seq (mG 12 #[mA 19 7 3, mA 20 1 3, mA 21 0 72, q 22 (bi .len #[.tmp 21] #[72]) 3, q 23 (bi .min #[.tmp 20, .tmp 22] #[3, 3]) 3, mF 24 .lss 3 19 (.tmp 23) 3 4]) (.cond (.tmp 24) .skip (.exit 1))) (.seq (.block 2 (.seq (.seq (mG 14 #[mA 27 0 72, mA 28 7 3, q 29 (.indexAddr 72 (.tmp 27) (.tmp 28)) 0, mC 30 29 5, mA 31 5 5, mF 32 .lss 5 30 (.tmp 31) 5 4, mA 33 32 4, qg 34 (.move (.tmp 0)) 72 6 false, qg 35 (.move (.tmp 7)) 3 6 false, qg 36 (.indexAddr 72 (.tmp 34) (.tmp 35)) 0 6 false, qg 37 (.load 5 (.tmp 36)) 5 6 false, qg 38 (.move (.tmp 6)) 5 6 false, qg 39 (.binOp .gtr 5 (.tmp 37) (.tmp 38) 5) 4 6 false, q 40 (.pick (.tmp 33) (mI true) (.tmp 39)) 4]) (.cond (.tmp 40) (.seq (mG 15 #[q 4 (.assign (mI false)) 4]) .ret) .skip)) (mG 16 #[q 5 (.assign (.const (.int .u8 128))) 5, q 6 (.assign (.const (.int .u8 191))) 5]))) (mG 13 #[mA 25 7 3, mF 26 .add 3 25 (ik 1) 3 3, mB 7 26 3])))))) (.seq (mG 17 #[q 4 (.assign (mI true)) 4]) .ret))))
def s134 := sL Tryz.f134 g134 (by kernel_rfl)
def g135 : Code := .seq (mG 0 #[q 2 (.assign (.const (.int .i32 0))) 21]) (.seq (mG 1 #[q 3 (.build 232 #[(0, .const (.int .i32 0)), (1, .const (.int .i32 0)), (2, .const (.int .i32 192)), (3, .const (.int .i32 224)), (4, .const (.int .i32 240))]) 232, mA 4 0 3, q 5 (.index 232 (.tmp 3) (.tmp 4)) 21, mB 2 5 21]) .ret)
def s135 := sL Tryz.f135 g135 (by kernel_rfl)
def g94 : Code := .seq (mG 0 #[q 2 (.assign (.const (.int .i32 0))) 21, q 3 (.assign (ik 0)) 3, q 4 (.assign (ik 0)) 28]) (.seq (.seq (mG 1 #[mA 9 0 72, q 10 (bi .len #[.tmp 9] #[72]) 3, mF 11 .eql 3 10 (ik 0) 3 4]) (.cond (.tmp 11) (.seq (mG 2 #[q 2 (.assign (.const (.int .i32 0))) 21, q 3 (.assign (ik 0)) 3, q 4 (.assign (ik 6)) 28]) .ret) .skip)) (.seq (mG 3 #[mA 12 0 72, q 13 (.indexAddr 72 (.tmp 12) (ik 0)) 0, mC 14 13 5, q 15 (cl 133 #[.tmp 14] #[5]) 3, mB 5 15 3]) (.seq (.block 0 (.seq (mG 4 #[mA 17 5 3, mF 18 .eql 3 17 (ik 0) 3 4, mA 19 18 4, qg 20 (.move (.tmp 0)) 72 2 false, qg 21 (.move (.tmp 5)) 3 2 false, qg 22 (cl 134 #[.tmp 20, .tmp 21] #[72, 3]) 4 2 false, qg 23 (.unOp .not 4 (.tmp 22)) 4 2 false, q 24 (.pick (.tmp 19) (mI true) (.tmp 23)) 4, mB 16 24 4]) (.cond (.tmp 16) (.seq (mG 5 #[q 2 (.assign (.const (.int .i32 0))) 21, q 3 (.assign (ik 0)) 3, q 4 (.assign (ik 3)) 28]) .ret) (.seq (mG 6 #[mA 26 0 72, q 27 (bi .len #[.tmp 26] #[72]) 3, mA 28 5 3, mF 29 .lss 3 27 (.tmp 28) 3 4, mB 25 29 4]) (.cond (.tmp 25) (.seq (mG 7 #[q 2 (.assign (.const (.int .i32 0))) 21, q 3 (.assign (ik 0)) 3, q 4 (.assign (ik 11)) 28]) .ret) .skip))))) (.seq (mG 8 #[mA 30 0 72, q 31 (.indexAddr 72 (.tmp 30) (ik 0)) 0, mC 32 31 5, q 33 (.convert 5 21 (.tmp 32)) 21, mA 34 5 3, q 35 (cl 135 #[.tmp 34] #[3]) 21, mF 36 .andNot 21 33 (.tmp 35) 21 21, mB 6 36 21]) (.seq (.seq (mG 9 #[mA 37 0 72, mA 38 5 3, q 39 (.slice 72 (.tmp 37) (some (ik 1)) (some (.tmp 38)) none) 72, q 40 (bi .len #[.tmp 39] #[72]) 3, q 41 (.move (ik 0)) 3]) (.block 1 (.loop (.seq (mG 10 #[mF 42 .lss 3 41 (.tmp 40) 3 0]) (.seq (.cond (.tmp 42) .skip (.exit 1)) (.seq (.block 2 (.seq (mG 11 #[q 43 (.indexAddr 72 (.tmp 39) (.tmp 41)) 0, mC 44 43 5, mB 8 44 5]) (mG 12 #[mA 45 6 21, mF 46 .shl 21 45 (.const (.int .u64 6)) 116 21, mA 47 8 5, q 48 (.convert 5 21 (.tmp 47)) 21, mF 49 .and 21 48 (.const (.int .i32 63)) 21 21, mF 50 .or 21 46 (.tmp 49) 21 21, mB 6 50 21]))) (mG 13 #[mF 51 .add 3 41 (ik 1) 3 3, mA 41 51 3]))))))) (.seq (mG 14 #[mA 52 6 21, mA 53 5 3, mB 2 52 21, mB 3 53 3, q 4 (.assign (ik 0)) 28]) .ret))))))
def s94 := sL Tryz.f94 g94 (by kernel_rfl)
def wantedU (c : Int) : Nat := if c < 128 then 1 else if 194 ≤ c ∧ c < 224 then 2 else if 224 ≤ c ∧ c < 240 then 3 else if 240 ≤ c ∧ c < 245 then 4 else 0
theorem wanted_ok (c : Int) (prot : Nat) (H : Heap) (hp : prot ≤ H.length) : aLim cfg prot 133 [.int .u8 c] H = some (.int .i64 (wantedU c), none) := by
 unfold wantedU
 refine pure_slim rfl (by kernel_rfl) Tryz.func133 s133 hp rfl (by simp [Tryz.f133]) fun fr hlen h => ?_
 simp only [Has] at h
 obtain ⟨a0, -⟩ := h
 simp only [Tryz.f133] at hlen ⊢
 unfold g133
 by_cases h1 : c < 128
 ·simp only [w9, simprocAttr, hlen, a0, h1]
  exact Fin_pure (l := [.int .i64 1]) (by simp [w9, hlen]) (.still rfl) (by simp)
 ·by_cases h2 : 194 ≤ c
  ·by_cases h3 : c < 224
   ·simp only [w9, simprocAttr, hlen, a0, h1, h2, h3]
    exact Fin_pure (l := [.int .i64 2]) (by simp [w9, hlen]) (.still rfl) (by simp)
   ·have h4 : 224 ≤ c := by omega
    by_cases h5 : c < 240
    ·simp only [w9, simprocAttr, hlen, a0, h1, h2, h3, h4, h5]
     exact Fin_pure (l := [.int .i64 3]) (by simp [w9, hlen]) (.still rfl) (by simp)
    ·have h6 : 240 ≤ c := by omega
     by_cases h7 : c < 245
     ·simp only [w9, simprocAttr, hlen, a0, h1, h2, h3, h4, h5, h6, h7]
      exact Fin_pure (l := [.int .i64 4]) (by simp [w9, hlen]) (.still rfl) (by simp)
     ·simp only [w9, simprocAttr, hlen, a0, h1, h2, h3, h4, h5, h6, h7]
      exact Fin_pure (l := [.int .i64 0]) (by simp [w9, hlen]) (.still rfl) (by simp)
  ·have h4 : ¬ 224 ≤ c := by omega
   have h6 : ¬ 240 ≤ c := by omega
   simp only [w9, simprocAttr, hlen, a0, h1, h2, h4, h6]
   exact Fin_pure (l := [.int .i64 0]) (by simp [w9, hlen]) (.still rfl) (by simp)
def leadU (n : Nat) : Int := if n = 2 then 192 else if n = 3 then 224 else if n = 4 then 240 else 0
theorem lead_ok (n : Nat) (hn : n ≤ 4) (prot : Nat) (H : Heap) (hp : prot ≤ H.length) : aLim cfg prot 135 [.int .i64 n] H = some (.int .i32 (leadU n), none) := by
 have bu : aBuild Tryz.prog 232 [(0, .int .i32 0), (1, .int .i32 0), (2, .int .i32 192), (3, .int .i32 224), (4, .int .i32 240)] = some (.agg [.int .i32 0, .int .i32 0, .int .i32 192, .int .i32 224, .int .i32 240]) := by kernel_rfl
 have i0 : aIndex Tryz.prog 232 (.agg [.int .i32 0, .int .i32 0, .int .i32 192, .int .i32 224, .int .i32 240]) (.int .i64 0) = some (.int .i32 0) := by kernel_rfl
 have i1 : aIndex Tryz.prog 232 (.agg [.int .i32 0, .int .i32 0, .int .i32 192, .int .i32 224, .int .i32 240]) (.int .i64 1) = some (.int .i32 0) := by kernel_rfl
 have i2 : aIndex Tryz.prog 232 (.agg [.int .i32 0, .int .i32 0, .int .i32 192, .int .i32 224, .int .i32 240]) (.int .i64 2) = some (.int .i32 192) := by kernel_rfl
 have i3 : aIndex Tryz.prog 232 (.agg [.int .i32 0, .int .i32 0, .int .i32 192, .int .i32 224, .int .i32 240]) (.int .i64 3) = some (.int .i32 224) := by kernel_rfl
 have i4 : aIndex Tryz.prog 232 (.agg [.int .i32 0, .int .i32 0, .int .i32 192, .int .i32 224, .int .i32 240]) (.int .i64 4) = some (.int .i32 240) := by kernel_rfl
 have ix : aIndex Tryz.prog 232 (.agg [.int .i32 0, .int .i32 0, .int .i32 192, .int .i32 224, .int .i32 240]) (.int .i64 n) = some (.int .i32 (leadU n)) := by
  have : n = 0 ∨ n = 1 ∨ n = 2 ∨ n = 3 ∨ n = 4 := by omega
  rcases this with rfl | rfl | rfl | rfl | rfl
  ·exact i0
  ·exact i1
  ·exact i2
  ·exact i3
  ·exact i4
 refine pure_slim rfl (by kernel_rfl) Tryz.func135 s135 hp rfl (by simp [Tryz.f135]) fun fr hlen h => ?_
 simp only [Has] at h
 obtain ⟨a0, -⟩ := h
 simp only [Tryz.f135] at hlen ⊢
 unfold g135
 simp only [w9, simprocAttr, hlen, a0, bu, ix]
 exact Fin_pure (l := [.int .i32 (leadU n)]) (by simp [w9, hlen]) (.still rfl) (by simp)
def fitsGo : Int → Int → List UInt8 → Bool
 | _, _, [] => true
 | lo, hi, c :: r => if (c.toNat : Int) < lo ∨ hi < (c.toNat : Int) then false else fitsGo 128 191 r
def lowU (c : Int) : Int := if c = 224 then 160 else if c = 240 then 144 else 128
def highU (c : Int) : Int := if c = 237 then 159 else if c = 244 then 143 else 191
def fitsU (c : UInt8) (b : List UInt8) (n : Nat) : Bool := fitsGo (lowU c.toNat) (highU c.toNat) ((b.take n).drop 1)
theorem fits_ok (c : UInt8) (r : List UInt8) (n : Nat) (hn : n ≤ 4) (v : AV) (hv : Sl encB v (c :: r)) (hl : (c :: r).length ≤ 9223372036854775807) (prot : Nat) (H : Heap) (hp : prot ≤ H.length) :
  aLim cfg prot 134 [v, .int .i64 n] H = some (.bool (fitsU c (c :: r) n), none) := by
 have hsnap : snap H [v, .int .i64 n] = some ([v, .int .i64 n], false) := by cases hv <;> rfl
 have e0 : aIndexAddr Tryz.prog 72 v (.int .i64 0) = some (.vptr [.int .u8 (c.toNat : Int)] 0) := hv.at (k := .i64) (i := 0) Tryz.underlying72 sz5 encB_len (by simp)
 generalize hb : c :: r = b at *
 have hpos : 0 < b.length := by rw [← hb]; simp
 unfold fitsU
 generalize hc : (c.toNat : Int) = cn at *
 have hmin : ((min (n : Int) (b.length : Int)) : Int) = ((min n b.length : Nat) : Int) := by omega
 have hlen2 : (b.take n).length = min n b.length := by simp
 refine pure_slim rfl (by kernel_rfl) Tryz.func134 s134 hp hsnap (by simp [Tryz.f134]) fun fr hlen h => ?_
 simp only [Has, Nat.zero_add] at h
 obtain ⟨a0, a1, -⟩ := h
 simp only [Tryz.f134] at hlen ⊢
 unfold g134
 have hcase : (decide (cn = 224) = true ∧ decide (cn = 237) = false ∧ decide (cn = 240) = false ∧ decide (cn = 244) = false ∧ lowU cn = 160 ∧ highU cn = 191) ∨
   (decide (cn = 224) = false ∧ decide (cn = 237) = true ∧ decide (cn = 240) = false ∧ decide (cn = 244) = false ∧ lowU cn = 128 ∧ highU cn = 159) ∨
   (decide (cn = 224) = false ∧ decide (cn = 237) = false ∧ decide (cn = 240) = true ∧ decide (cn = 244) = false ∧ lowU cn = 144 ∧ highU cn = 191) ∨
   (decide (cn = 224) = false ∧ decide (cn = 237) = false ∧ decide (cn = 240) = false ∧ decide (cn = 244) = true ∧ lowU cn = 128 ∧ highU cn = 143) ∨
   (decide (cn = 224) = false ∧ decide (cn = 237) = false ∧ decide (cn = 240) = false ∧ decide (cn = 244) = false ∧ lowU cn = 128 ∧ highU cn = 191) := by
  unfold lowU highU
  by_cases k1 : cn = 224
  ·subst k1; decide
  ·by_cases k2 : cn = 237
   ·subst k2; decide
   ·by_cases k3 : cn = 240
    ·subst k3; decide
    ·by_cases k4 : cn = 244
     ·subst k4; decide
     ·simp [k1, k2, k3, k4]
 generalize lowU cn = lo0 at *
 generalize highU cn = hi0 at *
 generalize hg : fitsGo lo0 hi0 ((b.take n).drop 1) = g
 rcases hcase with ⟨d1, d2, d3, d4, hl0, hh0⟩ | ⟨d1, d2, d3, d4, hl0, hh0⟩ | ⟨d1, d2, d3, d4, hl0, hh0⟩ | ⟨d1, d2, d3, d4, hl0, hh0⟩ | ⟨d1, d2, d3, d4, hl0, hh0⟩
 all_goals
  simp only [w9, simprocAttr, u133, hlen, a0, e0, d1, d2, d3, d4]
  refine loop_rule (fun m fr H' => ∃ (i : Nat) (lo hi : Int), m = b.length - i ∧ 1 ≤ i ∧ i ≤ b.length ∧ fr.length = 41 ∧ fget fr 0 = v ∧ fget fr 1 = .int .i64 n ∧ fget fr 5 = .int .u8 lo ∧ fget fr 6 = .int .u8 hi ∧ fget fr 7 = .int .i64 i
   ∧ H' = H ∧ g = fitsGo lo hi ((b.take n).drop i)) ?_ (b.length - 1) _ _ ⟨1, lo0, hi0, by simp [w9, hlen, a0, a1, hl0, hh0]; refine ⟨by omega, ?_⟩; rw [← hg, hl0, hh0]; simp⟩
  rintro m fr H' ⟨i, lo, hi, rfl, h1i, hi', hlen, a0, a1, a5, a6, a7, hHe, hc⟩ ih
  subst hHe
  simp only [w9, simprocAttr, hlen, a0, a1, a7, hv.len Tryz.underlying72, hmin]
  refine RC_split (fun h => ?_) (fun h => ?_)
  ·have hlt : i < min n b.length := by simpa using h
   have hw : IntKind.i64.wrap ((i : Int) + 1) = ((i + 1 : Nat) : Int) := by rw [wrap64 (by omega) (by omega)]; simp
   have hib : i < b.length := by omega
   have e1 := hv.at (k := .i64) Tryz.underlying72 sz5 encB_len hib
   have hit : i < (b.take n).length := by omega
   have hd : (b.take n).drop i = b[i] :: (b.take n).drop (i + 1) := by
    rw [List.drop_eq_getElem_cons hit]; simp
   rw [hd] at hc
   generalize b[i] = x at *
   rw [fitsGo] at hc
   simp only [encB, AV.cells] at e1
   by_cases q1 : (x.toNat : Int) < lo
   ·simp only [w9, simprocAttr, u133, hlen, a0, a5, a7, e1, q1]
    rw [hc, if_pos (.inl q1)]
    exact Fin_pure (l := [.bool false]) (by simp [w9, hlen]) (.still rfl) (by simp)
   ·by_cases q2 : hi < (x.toNat : Int)
    ·simp only [w9, simprocAttr, u133, hlen, a0, a5, a6, a7, e1, q1, q2]
     rw [hc, if_pos (.inr q2)]
     exact Fin_pure (l := [.bool false]) (by simp [w9, hlen]) (.still rfl) (by simp)
    ·simp only [w9, simprocAttr, u133, hlen, a0, a5, a6, a7, e1, q1, q2, hw]
     rw [if_neg (by omega)] at hc
     refine ih _ _ (b.length - (i + 1)) (by omega) ⟨i + 1, 128, 191, rfl, by omega, by omega, ?_⟩
     simp [w9, hlen, a0, a1, hc]
  ·have hnl : ¬ i < min n b.length := by simpa using h
   have he : (b.take n).drop i = [] := by rw [List.drop_eq_nil_iff]; omega
   rw [he, fitsGo] at hc
   rw [hc]
   simp only [w9, simprocAttr]
   exact Fin_pure (l := [.bool true]) (by simp [w9, hlen]) (.still rfl) (by simp)
theorem Sl_mid {α : Type} {enc : α → AV} {v : AV} {l : List α} (h : Sl enc v l) {P : Program} {t e : TypeId} {sz lo hi : Nat} (hu : P.underlying t = some (.slice e)) (hsz : sizeT P e = some sz)
  (he : ∀ x, (enc x).cells.length = sz) (h1 : lo ≤ hi) (h2 : hi ≤ l.length) : ∃ v', aSlice P t v (some (.int .i64 (lo : Nat))) (some (.int .i64 (hi : Nat))) none = some v' ∧ Sl enc v' ((l.drop lo).take (hi - lo)) := by
 cases h with
 | nil =>
  have : hi = 0 := by simpa using h2
  subst this
  have : lo = 0 := by omega
  subst this
  exact ⟨.nilS, by simp [aSlice, hu, hsz, aBounds, optInt], .nil⟩
 | vs l full =>
  have h3 : ((l.map enc).all fun v => v.cells.length == sz) = true := by simp [he]
  refine ⟨.vs (((l.drop lo).take (hi - lo)).map enc) (fullOf full hi l.length none), ?_, .vs _ _⟩
  simp only [aSlice, hu, hsz, Option.bind_some, h3, if_true]
  simp [aBounds, optInt, h1, h2, List.map_take, List.map_drop]
def shl6 (r : Int) : Int := IntKind.i32.wrap (r * 2 ^ min (6 : Int).toNat IntKind.i32.bits)
def runeStep (r : Int) (c : Int) : Int := IntKind.i32.wrap (BitVec.ofInt IntKind.i32.bits (shl6 r) ||| BitVec.ofInt IntKind.i32.bits (IntKind.i32.wrap (BitVec.ofInt IntKind.i32.bits (IntKind.i32.wrap c) &&& BitVec.ofInt IntKind.i32.bits 63).toNat)).toNat
def runeFirst (c : Int) (n : Nat) : Int := IntKind.i32.wrap (BitVec.ofInt IntKind.i32.bits (IntKind.i32.wrap c) &&& ~~~ BitVec.ofInt IntKind.i32.bits (leadU n)).toNat
def runeGo : Int → List UInt8 → Int
 | r, [] => r
 | r, c :: m => runeGo (runeStep r c.toNat) m
def nextU : List UInt8 → Int × Nat × Int
 | [] => (0, 0, 6)
 | c :: r =>
  let n := wantedU c.toNat
  if n = 0 ∨ fitsU c (c :: r) n = false then (0, 0, 3)
  else if (c :: r).length < n then (0, 0, 11)
  else (runeGo (runeFirst c.toNat n) (((c :: r).drop 1).take (n - 1)), n, 0)
theorem nextU_eq {b : List UInt8} {c : UInt8} {r : List UInt8} (hb : b = c :: r) : nextU b = if wantedU c.toNat = 0 ∨ fitsU c b (wantedU c.toNat) = false then (0, 0, 3) else if b.length < wantedU c.toNat then (0, 0, 11)
  else (runeGo (runeFirst c.toNat (wantedU c.toNat)) ((b.drop 1).take (wantedU c.toNat - 1)), wantedU c.toNat, 0) := by subst hb; rfl
theorem wantedU_le (c : Int) : wantedU c ≤ 4 := by unfold wantedU; split <;> (try split) <;> (try split) <;> (try split) <;> omega
theorem next_ok (b : List UInt8) (o v : AV) (sn : Bool) (hv : Sl encB v b) (hl : b.length ≤ 9223372036854775807) (prot : Nat) (H : Heap) (hp : prot ≤ H.length) (hsnap : snap H [o] = some ([v], sn)) :
  aLim cfg prot 94 [o] H = some (.tup [.int .i32 (nextU b).1, .int .i64 (nextU b).2.1, .int .i64 (nextU b).2.2], none) := by
 refine pure_slim rfl (by kernel_rfl) Tryz.func94 s94 hp hsnap (by simp [Tryz.f94]) fun fr hlen h => ?_
 simp only [Has] at h
 obtain ⟨a0, -⟩ := h
 simp only [Tryz.f94] at hlen ⊢
 unfold g94
 have hfz : ∀ (K : Heap) (x y z : AV), still x = true → still y = true → still z = true → Frz K H.length (packR [x, y, z]) (.tup [x, y, z]) := fun K x y z h1 h2 h3 => .tup (.cons (.still h1) (.cons (.still h2) (.cons (.still h3) .nil)))
 by_cases hb : b = []
 ·subst hb
  have hn : ∀ K, aLen Tryz.prog K 72 v = some (.int .i64 0) := fun K => hv.len Tryz.underlying72
  simp only [w9, simprocAttr, hlen, a0, hn]
  exact Fin_pure (l := [.int .i32 0, .int .i64 0, .int .i64 6]) (by simp [w9, hlen]) (hfz _ _ _ _ rfl rfl rfl) (by intro _; rfl)
 ·obtain ⟨c, r, hb⟩ := List.exists_cons_of_ne_nil hb
  have hz : decide ((b.length : Int) = 0) = false := by rw [hb]; simp; omega
  have e0 : aIndexAddr Tryz.prog 72 v (.int .i64 0) = some (.vptr [.int .u8 (c.toNat : Int)] 0) := by
   subst hb
   exact hv.at (k := .i64) (i := 0) Tryz.underlying72 sz5 encB_len (by simp)
  have hw := fun K (hK : H.length ≤ K.length) => wanted_ok (c.toNat : Int) H.length K hK
  have hn4 := wantedU_le (c.toNat : Int)
  have hf := fun K (hK : H.length ≤ K.length) => fits_ok c r (wantedU (c.toNat : Int)) hn4 v (by rw [← hb]; exact hv) (by rw [← hb]; exact hl) H.length K hK
  have hld := fun K (hK : H.length ≤ K.length) => lead_ok (wantedU (c.toNat : Int)) hn4 H.length K hK
  rw [nextU_eq hb]
  rw [← hb] at hf
  generalize hn : wantedU (c.toNat : Int) = n at *
  by_cases hn0 : n = 0
  ·subst hn0
   have hw : ∀ K, H.length ≤ K.length → aLim cfg H.length 133 [.int .u8 (c.toNat : Int)] K = some (.int .i64 0, none) := hw
   simp only [true_or, if_true]
   simp only [w9, simprocAttr, u133, hlen, a0, hv.len Tryz.underlying72, hz, e0, hw]
   exact Fin_pure (l := [.int .i32 0, .int .i64 0, .int .i64 3]) (by simp [w9, hlen]) (hfz _ _ _ _ rfl rfl rfl) (by intro _; rfl)
  ·have hnd : decide ((n : Int) = 0) = false := by simp; omega
   cases hfit : fitsU c b n with
   | false =>
    rw [hfit] at hf
    simp only [or_true, if_true]
    simp only [w9, simprocAttr, u133, hlen, a0, hv.len Tryz.underlying72, hz, e0, hw, hnd, hf]
    exact Fin_pure (l := [.int .i32 0, .int .i64 0, .int .i64 3]) (by simp [w9, hlen]) (hfz _ _ _ _ rfl rfl rfl) (by intro _; rfl)
   | true =>
    rw [hfit] at hf
    rw [if_neg (by simp [hn0])]
    by_cases hlt : (b.length : Int) < n
    ·rw [if_pos (by omega)]
     simp only [w9, simprocAttr, u133, hlen, a0, hv.len Tryz.underlying72, hz, e0, hw, hnd, hf, hlt]
     exact Fin_pure (l := [.int .i32 0, .int .i64 0, .int .i64 11]) (by simp [w9, hlen]) (hfz _ _ _ _ rfl rfl rfl) (by intro _; rfl)
    ·rw [if_neg (by omega)]
     obtain ⟨v2, e2, hv2⟩ := Sl_mid hv (lo := 1) (hi := n) Tryz.underlying72 sz5 encB_len (by omega) (by omega)
     have e2 : aSlice Tryz.prog 72 v (some (.int .i64 1)) (some (.int .i64 n)) none = some v2 := e2
     have hm : ((b.drop 1).take (n - 1)).length = n - 1 := by simp; omega
     generalize (b.drop 1).take (n - 1) = m at *
     simp only [w9, simprocAttr, u133, hlen, a0, hv.len Tryz.underlying72, hz, e0, hw, hnd, hf, hlt, hld, e2, hv2.len Tryz.underlying72]
     refine loop_rule (fun k fr H' => ∃ (i : Nat) (x : Int), k = m.length - i ∧ i ≤ m.length ∧ fr.length = 54 ∧ fget fr 39 = v2 ∧ fget fr 40 = .int .i64 m.length ∧ fget fr 41 = .int .i64 i ∧ fget fr 6 = .int .i32 x ∧ fget fr 5 = .int .i64 n
      ∧ runeGo (runeFirst c.toNat n) m = runeGo x (m.drop i)) ?_ m.length _ _ ⟨0, runeFirst c.toNat n, by simp [w9, hlen, runeFirst]⟩
     rintro k fr H' ⟨i, x, rfl, hi, hlen, a39, a40, a41, a6, a5, hc⟩ ih
     simp only [w9, simprocAttr, hlen, a40, a41]
     refine RC_split (fun h => ?_) (fun h => ?_)
     ·have hlt : i < m.length := by simpa using h
      have hw : IntKind.i64.wrap ((i : Int) + 1) = ((i + 1 : Nat) : Int) := by rw [wrap64 (by omega) (by omega)]; simp
      have e1 := hv2.at (k := .i64) Tryz.underlying72 sz5 encB_len hlt
      have hd : m.drop i = m[i] :: m.drop (i + 1) := by simp
      have hs := fun (xo yo : Operand) => bin_shl (P := Tryz.prog) (t := 21) (xo := xo) (yo := yo) (k := .i32) (k' := .u64) (a := x) (b := 6) (by decide)
      rw [hd] at hc
      generalize m[i] = y at *
      simp only [encB, AV.cells] at e1
      simp only [w9, simprocAttr, u133, hlen, a39, a41, a6, e1, hs, hw]
      refine ih _ _ (m.length - (i + 1)) (by omega) ⟨i + 1, runeStep x y.toNat, rfl, hlt, ?_⟩
      rw [hc, runeGo]
      simp [w9, hlen, a39, a40, a5, runeStep, shl6]
     ·have hnl : ¬ i < m.length := by simpa using h
      have he : m.drop i = [] := by simp; omega
      rw [he, runeGo] at hc
      rw [hc]
      simp only [w9, simprocAttr, hlen, a6, a5]
      exact Fin_pure (l := [.int .i32 x, .int .i64 n, .int .i64 0]) (by simp [w9, hlen]) (hfz _ _ _ _ rfl rfl rfl) (by intro _; rfl)
open Go Go.Abs AbsSeat Ty
theorem nextU_pos {b : List UInt8} (h : (nextU b).2.2 = 0) : 0 < (nextU b).2.1 ∧ (nextU b).2.1 ≤ b.length := by
 by_cases hb : b = []
 ·subst hb; simp [nextU] at h
 ·obtain ⟨c, r, hb⟩ := List.exists_cons_of_ne_nil hb
  rw [nextU_eq hb] at h ⊢
  by_cases h1 : wantedU c.toNat = 0 ∨ fitsU c b (wantedU c.toNat) = false
  ·rw [if_pos h1] at h; simp at h
  ·rw [if_neg h1] at h ⊢
   by_cases h2 : b.length < wantedU c.toNat
   ·rw [if_pos h2] at h; simp at h
   ·rw [if_neg h2] at h ⊢
    simp only [not_or] at h1
    simp only
    omega
theorem conv_sb {P : Program} {s d e : TypeId} (h1 : P.underlying s = some .string) (h2 : P.underlying d = some (.slice e)) (h3 : P.underlying e = some (.int .u8)) (H : Heap) (x : List UInt8) :
  aConvert P H s d (.str x) = some (.bs ⟨H.length, 0, 0, x.length, 0, 1, false, false⟩, some (H ++ [Blk.cells 0 (cellsOf encB x)])) := by
 simp only [aConvert, h1, h2, h3, ← cellsB]
end Go.Proofs.YtnipaiklandliaaGreatDoor
namespace Go.Proofs.YtnipaiklandliaaGreatDoor
open Go Go.Abs
def digitC (c : Int) : Bool := decide (48 ≤ c) && decide (c ≤ 57)
def greatC (c : Int) : Bool := decide (65 ≤ c) && decide (c ≤ 90)
def letterC (c : Int) : Bool := greatC c || (decide (97 ≤ c) && decide (c ≤ 122))
open Go Go.Abs AbsSeat Ty
def g62 : Code := .seq (mG 0 #[q 2 (.assign (mI false)) 4]) (.seq (mG 1 #[mA 3 0 5, mF 4 .geq 5 3 (.const (.int .u8 48)) 5 4, mA 5 4 4, qg 6 (.move (.tmp 0)) 5 2 true, qg 7 (.binOp .leq 5 (.tmp 6) (.const (.int .u8 57)) 5) 4 2 true, q 8 (.pick (.tmp 5) (.tmp 7) (mI false)) 4, mB 2 8 4]) .ret)
def s62 := sL Tryz.f62 g62 (by kernel_rfl)
theorem digit_ok (c : Int) (prot : Nat) (H : Heap) (hp : prot ≤ H.length) : aLim cfg prot 62 [.int .u8 c] H = some (.bool (digitC c), none) := by
 unfold digitC
 refine pure_slim rfl (by kernel_rfl) Tryz.func62 s62 hp rfl (by simp [Tryz.f62]) fun fr hlen h => ?_
 simp only [Has] at h
 obtain ⟨a0, -⟩ := h
 simp only [Tryz.f62] at hlen ⊢
 unfold g62
 by_cases h1 : 48 ≤ c
 ·simp only [w9, simprocAttr, hlen, a0, h1]
  simp only [Bool.true_and]
  exact Fin_pure (l := [.bool (decide (c ≤ 57))]) (by simp [w9, hlen]) (.still rfl) (by simp)
 ·simp only [w9, simprocAttr, hlen, a0, h1]
  simp only [Bool.false_and]
  exact Fin_pure (l := [.bool false]) (by simp [w9, hlen]) (.still rfl) (by simp)
open Go Go.Abs AbsSeat Ty
def g63 : Code := .seq (mG 0 #[q 4 (.assign (mI false)) 4]) (.seq (.seq (mG 1 #[q 5 (.assign (ik 0)) 3]) (.block 0 (.loop (.seq (.seq (mG 2 #[mA 6 1 110, mF 7 .neq 110 6 (.const .nilFunc) 110 4, mA 8 7 4, qg 9 (.move (.tmp 5)) 3 2 true, qg 10 (.move (.tmp 0)) 9 2 true, qg 11 (bi .len #[.tmp 10] #[9]) 3 2 true, qg 12 (.binOp .lss 3 (.tmp 9) (.tmp 11) 3) 4 2 true, q 13 (.pick (.tmp 8) (.tmp 12) (mI false)) 4]) (.cond (.tmp 13) .skip (.exit 0))) (.seq (.block 1 (.seq (mG 4 #[mA 16 1 110, mA 17 0 9, mA 18 5 3, q 19 (.index 9 (.tmp 17) (.tmp 18)) 5, q 20 (cv (.tmp 16) #[.tmp 19] #[5]) 4, q 21 (.unOp .not 4 (.tmp 20)) 4]) (.cond (.tmp 21) (.seq (mG 5 #[q 4 (.assign (mI false)) 4]) .ret) .skip))) (mG 3 #[mA 14 5 3, mF 15 .add 3 14 (ik 1) 3 3, mB 5 15 3])))))) (.seq (mG 6 #[mA 22 1 110, mF 23 .neq 110 22 (.const .nilFunc) 110 4, mB 4 23 4]) .ret))
def s63 := sL Tryz.f63 g63 (by kernel_rfl)
open Go Go.Abs AbsSeat Ty
def u85 := an (fun (K : Heap) (n : Int) => conv_int Tryz.underlying5 Tryz.underlying126 K n) (an ag3 (an sz3 (an by3 (an ze3 (an Tryz.underlying3 (an ag5 (an sz5 (an by5 (an ze5 (an Tryz.underlying5 (an ag9 (an sz9 (an by9 (an ze9 (an Tryz.underlying9 (an ag126 (an sz126 (an by126 (an ze126 Tryz.underlying126)))))))))))))))))))
def g85 : Code := .seq (mG 0 #[q 4 (.assign (.const (.int .u64 0))) 126, q 5 (.assign (ik 0)) 28]) (.seq (mG 1 #[q 6 (.assign (.const (.int .u64 0))) 126]) (.seq (.seq (mG 2 #[mA 9 0 9, q 10 (bi .len #[.tmp 9] #[9]) 3, q 11 (.move (ik 0)) 3]) (.block 0 (.loop (.seq (mG 3 #[mF 12 .lss 3 11 (.tmp 10) 3 4]) (.seq (.cond (.tmp 12) .skip (.exit 0)) (.seq (.block 1 (.seq (mG 4 #[mA 13 11 3, mB 7 13 3]) (.seq (mG 5 #[mA 14 0 9, mA 15 7 3, q 16 (.index 9 (.tmp 14) (.tmp 15)) 5, mF 17 .sub 5 16 (.const (.int .u8 48)) 5 5, q 18 (.convert 5 126 (.tmp 17)) 126, mB 8 18 126]) (.seq (.seq (mG 6 #[mA 19 6 126, mA 20 1 126, mA 21 8 126, mF 22 .sub 126 20 (.tmp 21) 126 126, mF 23 .quo 126 22 (.const (.int .u64 10)) 126 126, mF 24 .gtr 126 19 (.tmp 23) 126 4]) (.cond (.tmp 24) (.seq (mG 7 #[q 4 (.assign (.const (.int .u64 0))) 126, q 5 (.assign (ik 5)) 28]) .ret) .skip)) (mG 8 #[mA 25 6 126, mF 26 .mul 126 25 (.const (.int .u64 10)) 126 126, mA 27 8 126, mF 28 .add 126 26 (.tmp 27) 126 126, mB 6 28 126]))))) (mG 9 #[mF 29 .add 3 11 (ik 1) 3 3, mA 11 29 3]))))))) (.seq (mG 10 #[mA 30 6 126, mB 4 30 126, q 5 (.assign (ik 0)) 28]) .ret)))
def s85 := sL Tryz.f85 g85 (by kernel_rfl)
theorem allF_ok (f : Nat) (p : Int → Bool) (hf : ∀ (c : UInt8) (prot : Nat) (H : Heap), prot ≤ H.length → aLim cfg prot f [.int .u8 c.toNat] H = some (.bool (p c.toNat), none)) (s : List UInt8) (hl : s.length ≤ 9223372036854775807) (prot : Nat) (H : Heap) (hp : prot ≤ H.length) :
  aLim cfg prot 63 [.str s, .func f [] []] H = some (.bool (s.all fun c => p c.toNat), none) := by
 have fnn : ∀ (K : Heap) (xo yo : Operand), aBinH Tryz.prog K .neq 110 xo yo (.func f [] []) .nilF = some (.bool true) := fun K xo yo => by simp [aBinH, aBin, aNilNe, Tryz.underlying110]
 refine pure_slim rfl (by kernel_rfl) Tryz.func63 s63 hp rfl (by simp [Tryz.f63]) fun fr hlen h => ?_
 simp only [Has, Nat.zero_add] at h
 obtain ⟨a0, a1, -⟩ := h
 simp only [Tryz.f63] at hlen ⊢
 unfold g63
 simp only [w9, simprocAttr]
 refine loop_rule (fun m fr H' => ∃ (i : Nat), m = s.length - i ∧ i ≤ s.length ∧ fr.length = 24 ∧ fget fr 0 = .str s ∧ fget fr 1 = .func f [] [] ∧ fget fr 5 = .int .i64 i ∧ H' = H
  ∧ (s.all fun c => p c.toNat) = ((s.drop i).all fun c => p c.toNat)) ?_ s.length _ _ ⟨0, by simp [w9, hlen, a0, a1]⟩
 rintro m fr H' ⟨i, rfl, hi, hlen, a0, a1, a5, rfl, hc⟩ ih
 simp only [w9, simprocAttr, hlen, a0, a1, a5, fnn, str_len Tryz.underlying9]
 refine RC_split (fun h => ?_) (fun h => ?_)
 ·have hlt : i < s.length := by simpa using h
  have hw : IntKind.i64.wrap ((i : Int) + 1) = ((i + 1 : Nat) : Int) := by rw [wrap64 (by omega) (by omega)]; simp
  have e1 := str_at (P := Tryz.prog) Tryz.underlying9 s (k := .i64) hlt
  have hd : s.drop i = s[i] :: s.drop (i + 1) := by simp
  rw [hd, List.all_cons] at hc
  generalize s[i] = x at *
  have n1 := hf x H'.length H' (Nat.le_refl _)
  cases hx : p (x.toNat : Int) with
  | true =>
   rw [hx] at n1 hc
   simp only [w9, simprocAttr, hlen, a0, a1, a5, e1, n1, hw]
   refine ih _ _ (s.length - (i + 1)) (by omega) ⟨i + 1, rfl, hlt, ?_⟩
   rw [hc]
   simp [w9, hlen, a0, a1]
  | false =>
   rw [hx] at n1 hc
   simp only [w9, simprocAttr, hlen, a0, a1, a5, e1, n1]
   rw [hc]
   simp only [Bool.false_and]
   exact Fin_pure (l := [.bool false]) (by simp [w9, hlen]) (.still rfl) (by simp)
 ·have hnl : ¬ i < s.length := by simpa using h
  have hd : s.drop i = [] := by simp; omega
  rw [hd] at hc
  rw [hc]
  simp only [w9, simprocAttr, hlen, a1, fnn]
  exact Fin_pure (l := [.bool true]) (by simp [w9, hlen]) (.still rfl) (by simp)
def digGo (most : Nat) : Nat → List UInt8 → Option Nat
 | v, [] => some v
 | v, c :: r => if (most - (c.toNat - 48)) / 10 < v then none else digGo most (v * 10 + (c.toNat - 48)) r
def dig2 : Option Nat → AV
 | some v => .tup [.int .u64 v, .int .i64 0]
 | none => .tup [.int .u64 0, .int .i64 5]
theorem digits_ok (s : List UInt8) (most : Nat) (hs : ∀ c ∈ s, digitC c.toNat = true) (hm : 9 ≤ most) (hm2 : most < 18446744073709551616) (hl : s.length ≤ 9223372036854775807) (prot : Nat) (H : Heap) (hp : prot ≤ H.length) :
  aLim cfg prot 85 [.str s, .int .u64 most] H = some (dig2 (digGo most 0 s), none) := by
 have hfz : ∀ (K : Heap) (x y : AV), still x = true → still y = true → Frz K H.length (packR [x, y]) (.tup [x, y]) := fun K x y h1 h2 => .tup (.cons (.still h1) (.cons (.still h2) .nil))
 refine pure_slim rfl (by kernel_rfl) Tryz.func85 s85 hp rfl (by simp [Tryz.f85]) fun fr hlen h => ?_
 simp only [Has, Nat.zero_add] at h
 obtain ⟨a0, a1, -⟩ := h
 simp only [Tryz.f85] at hlen ⊢
 unfold g85
 simp only [w9, simprocAttr, hlen, a0, str_len Tryz.underlying9]
 refine loop_rule (fun m fr H' => ∃ (i v : Nat), m = s.length - i ∧ i ≤ s.length ∧ fr.length = 31 ∧ fget fr 0 = .str s ∧ fget fr 1 = .int .u64 most ∧ fget fr 6 = .int .u64 v ∧ fget fr 10 = .int .i64 s.length ∧ fget fr 11 = .int .i64 i ∧ v ≤ most
  ∧ digGo most 0 s = digGo most v (s.drop i)) ?_ s.length _ _ ⟨0, 0, by simp [w9, hlen, a0, a1]⟩
 rintro m fr K ⟨i, v, rfl, hi, hlen, a0, a1, a6, a10, a11, hv, hc⟩ ih
 simp only [w9, simprocAttr, hlen, a10, a11]
 refine RC_split (fun h => ?_) (fun h => ?_)
 ·have hlt : i < s.length := by simpa using h
  have hww : IntKind.i64.wrap ((i : Int) + 1) = ((i + 1 : Nat) : Int) := by rw [wrap64 (by omega) (by omega)]; simp
  have e1 := str_at (P := Tryz.prog) Tryz.underlying9 s (k := .i64) hlt
  have hd := hs s[i] (List.getElem_mem hlt)
  rw [List.drop_eq_getElem_cons hlt, digGo] at hc
  generalize s[i] = c at *
  have hd : 48 ≤ c.toNat ∧ c.toNat ≤ 57 := by unfold digitC at hd; simp at hd; omega
  obtain ⟨d, hcd, hd9⟩ : ∃ d : Nat, c.toNat = d + 48 ∧ d ≤ 9 := ⟨c.toNat - 48, by omega, by omega⟩
  have ed : c.toNat - 48 = d := by omega
  rw [ed] at hc
  have w1 : IntKind.u8.wrap ((c.toNat : Int) - 48) = (d : Int) := by
   rw [hcd]
   simp [IntKind.wrap, IntKind.bits, IntKind.signed]; omega
  have w2 : IntKind.u64.wrap ((d : Nat) : Int) = (d : Int) := wrapu64 (by omega) (by omega)
  have w3 : IntKind.u64.wrap ((most : Int) - (d : Nat)) = ((most - d : Nat) : Int) := by rw [wrapu64 (by omega) (by omega)]; omega
  have q1 : ∀ xo yo, aBin Tryz.prog .quo 126 xo yo (.int .u64 ((most - d : Nat) : Int)) (.int .u64 10) = some (.int .u64 (((most - d) / 10 : Nat) : Int)) := fun xo yo => by
   have h1 := Nat.div_le_self (most - d) 10
   rw [show (10 : Int) = ((10 : Nat) : Int) from rfl, bin_quo_nat (by omega)]
   generalize (most - d) / 10 = y at *
   rw [wrapu64 (by omega) (by omega)]
  by_cases hgt : (most - d) / 10 < v
  ·have c1 : decide ((((most - d) / 10 : Nat) : Int) < (v : Nat)) = true := decide_eq_true (by omega)
   rw [if_pos hgt] at hc
   rw [hc]
   simp only [w9, simprocAttr, u85, hlen, a0, a1, a6, a11, e1, w1, w2, w3, q1, c1]
   exact Fin_pure (l := [.int .u64 0, .int .i64 5]) (by simp [w9, hlen]) (hfz _ _ _ rfl rfl) (by simp [dig2, flat, flat1, flat0])
  ·have c1 : decide ((((most - d) / 10 : Nat) : Int) < (v : Nat)) = false := decide_eq_false (by omega)
   rw [if_neg hgt] at hc
   have w4 : IntKind.u64.wrap ((v : Int) * 10) = ((v * 10 : Nat) : Int) := by rw [wrapu64 (by omega) (by omega)]; simp
   have w5 : IntKind.u64.wrap (((v * 10 : Nat) : Int) + (d : Nat)) = ((v * 10 + d : Nat) : Int) := by rw [wrapu64 (by omega) (by omega)]; simp
   simp only [w9, simprocAttr, u85, hlen, a0, a1, a6, a11, e1, w1, w2, w3, q1, c1, w4, w5, hww]
   refine ih _ _ (s.length - (i + 1)) (by omega) ⟨i + 1, v * 10 + d, rfl, hlt, ?_⟩
   have hle : v * 10 + d ≤ most := by
    have := Nat.div_add_mod (most - d) 10
    omega
   rw [hc]
   simp [w9, hlen, a0, a1, a10, hle]
 ·have hnl : ¬ i < s.length := by simpa using h
  rw [List.drop_eq_nil_of_le (by omega), digGo] at hc
  rw [hc]
  simp only [w9, simprocAttr, hlen, a6]
  exact Fin_pure (l := [.int .u64 v, .int .i64 0]) (by simp [w9, hlen]) (hfz _ _ _ rfl rfl) (by simp [dig2, flat, flat1, flat0])
theorem digGo_le (most : Nat) : ∀ (s : List UInt8) (v x : Nat), v ≤ most → 9 ≤ most → (∀ c ∈ s, digitC c.toNat = true) → digGo most v s = some x → x ≤ most
 | [], v, x, hv, _, _, h => by simp only [digGo, Option.some.injEq] at h; omega
 | c :: r, v, x, hv, hm, hs, h => by
  have hd := hs c (by simp)
  have hd : 48 ≤ c.toNat ∧ c.toNat ≤ 57 := by unfold digitC at hd; simp at hd; omega
  rw [digGo] at h
  split at h
  ·cases h
  ·exact digGo_le most r _ x (by omega) hm (fun d hd => hs d (by simp [hd])) h
open Go Go.Abs AbsSeat Ty
def u49 := an (fun (K : Heap) (n : Int) => conv_int Tryz.underlying126 Tryz.underlying2 K n) (an ag2 (an sz2 (an by2 (an ze2 (an Tryz.underlying2 (an ag3 (an sz3 (an by3 (an ze3 (an Tryz.underlying3 (an ag5 (an sz5 (an by5 (an ze5 (an Tryz.underlying5 (an ag9 (an sz9 (an by9 (an ze9 (an Tryz.underlying9 (an ag28 (an sz28 (an by28 (an ze28 (an Tryz.underlying28 (an ag110 (an sz110 (an by110 (an ze110 (an Tryz.underlying110 (an ag126 (an sz126 (an by126 (an ze126 Tryz.underlying126))))))))))))))))))))))))))))))))))
def g49 : Code := .seq (mG 0 #[q 2 (.assign (ik 0)) 2, q 3 (.assign (ik 0)) 28]) (.seq (mG 1 #[mA 8 0 9, q 9 (bi .len #[.tmp 8] #[9]) 3, mF 10 .gtr 3 9 (ik 0) 3 4, mA 11 10 4, qg 12 (.move (.tmp 0)) 9 3 true, qg 13 (.index 9 (.tmp 12) (ik 0)) 5 3 true, qg 14 (.binOp .eql 5 (.tmp 13) (.const (.int .u8 45)) 5) 4 3 true, q 15 (.pick (.tmp 11) (.tmp 14) (mI false)) 4, mB 4 15 4]) (.seq (mG 2 #[q 5 (.assign (.const (.int .u64 9223372036854775807))) 126]) (.seq (.seq (mG 3 #[mA 16 4 4]) (.cond (.tmp 16) (.seq (mG 4 #[mA 17 0 9, q 18 (.slice 9 (.tmp 17) (some (ik 1)) none none) 9, mB 0 18 9]) (mG 5 #[mA 19 5 126, mF 20 .add 126 19 (.const (.int .u64 1)) 126 126, mB 5 20 126])) .skip)) (.seq (.seq (mG 6 #[mA 21 0 9, mF 22 .eql 9 21 mH 9 4, mA 23 22 4, qg 24 (.move (.tmp 0)) 9 2 false, qg 25 (cl 63 #[.tmp 24, .func 62] #[9, 110]) 4 2 false, qg 26 (.unOp .not 4 (.tmp 25)) 4 2 false, q 27 (.pick (.tmp 23) (mI true) (.tmp 26)) 4, mA 28 27 4, qg 29 (.move (.tmp 0)) 9 7 false, qg 30 (bi .len #[.tmp 29] #[9]) 3 7 false, qg 31 (.binOp .gtr 3 (.tmp 30) (ik 1) 3) 4 7 false, qg 32 (.move (.tmp 31)) 4 7 false, qg 33 (.move (.tmp 0)) 9 11 true, qg 34 (.index 9 (.tmp 33) (ik 0)) 5 11 true, qg 35 (.binOp .eql 5 (.tmp 34) (.const (.int .u8 48)) 5) 4 11 true, qg 36 (.pick (.tmp 32) (.tmp 35) (mI false)) 4 7 false, q 37 (.pick (.tmp 28) (mI true) (.tmp 36)) 4]) (.cond (.tmp 37) (.seq (mG 7 #[q 2 (.assign (ik 0)) 2, q 3 (.assign (ik 3)) 28]) .ret) .skip)) (.seq (mG 8 #[mA 39 0 9, mA 40 5 126, q 41 (cl 85 #[.tmp 39, .tmp 40] #[9, 126]) 138, mA 38 41 138, mE 42 38 0 126, mE 43 38 1 28, mB 6 42 126, mB 7 43 28]) (.seq (.seq (mG 9 #[mA 44 7 28, mF 45 .neq 28 44 (ik 0) 28 4]) (.cond (.tmp 45) (.seq (mG 10 #[mA 46 7 28, q 2 (.assign (ik 0)) 2, mB 3 46 28]) .ret) .skip)) (.seq (.seq (mG 11 #[mA 47 4 4]) (.cond (.tmp 47) (.seq (mG 12 #[mA 48 6 126, q 49 (.unOp .neg 126 (.tmp 48)) 126, q 50 (.convert 126 2 (.tmp 49)) 2, mB 2 50 2, q 3 (.assign (ik 0)) 28]) .ret) .skip)) (.seq (mG 13 #[mA 51 6 126, q 52 (.convert 126 2 (.tmp 51)) 2, mB 2 52 2, q 3 (.assign (ik 0)) 28]) .ret))))))))
def s49 := sL Tryz.f49 g49 (by kernel_rfl)
def numD (minus : Bool) (d : List UInt8) : Int × Int :=
 if d = [] ∨ (d.all fun c => digitC c.toNat) = false ∨ (1 < d.length ∧ d.head? = some 48) then (0, 3)
 else match digGo (if minus then 9223372036854775808 else 9223372036854775807) 0 d with
  | none => (0, 5)
  | some v => (if minus then -(v : Int) else v, 0)
def numS (s : List UInt8) : Int × Int := if s.head? = some 45 then numD true (s.drop 1) else numD false s
theorem neg64 {v : Nat} (h : v ≤ 9223372036854775808) : IntKind.i64.wrap (IntKind.u64.wrap (0 - (v : Int))) = -(v : Int) := by
 simp only [IntKind.wrap, IntKind.signed, IntKind.bits]; simp; omega
theorem pos64 {v : Nat} (h : v ≤ 9223372036854775807) : IntKind.i64.wrap (v : Int) = (v : Int) := wrap64 (by omega) (by omega)
theorem unop_neg (P : Program) (k : IntKind) (a : Int) : ((toV1 (.int k a)).bind fun v => (pureOf P (Op.unary .neg v)).bind ofV1) = some (.int k (k.wrap (0 - a))) := rfl
theorem parse_ok (s : List UInt8) (hl : s.length < 100000000000000) (prot : Nat) (H : Heap) (hp : prot ≤ H.length) : aLim cfg prot 49 [.str s] H = some (.tup [.int .i64 (numS s).1, .int .i64 (numS s).2], none) := by
 have hfz : ∀ (K : Heap) (x y : AV), still x = true → still y = true → Frz K H.length (packR [x, y]) (.tup [x, y]) := fun K x y h1 h2 => .tup (.cons (.still h1) (.cons (.still h2) .nil))
 have hls : ∀ K (u : List UInt8), aLen Tryz.prog K 9 (.str u) = some (.int .i64 u.length) := fun K u => str_len Tryz.underlying9 u K
 have ad : ∀ (d : List UInt8), d.length ≤ s.length → aLim cfg H.length 63 [.str d, .func 62 [] []] H = some (.bool (d.all fun c => digitC c.toNat), none) :=
  fun d hd => allF_ok 62 digitC (fun c prot H hp => digit_ok _ prot H hp) d (by omega) H.length H (Nat.le_refl _)
 have lim : IntKind.u64.wrap (9223372036854775807 + 1) = 9223372036854775808 := by rfl
 have dn50 : decide (¬ (5 : Int) = 0) = true := by decide
 by_cases hm : s.head? = some 45
 ·obtain ⟨d, hd⟩ : ∃ d, s = 45 :: d := by
   cases s with
   | nil => cases hm
   | cons c r => exact ⟨r, by simp at hm; rw [hm]⟩
  have hnum : numS s = numD true d := by rw [hd]; simp [numS]
  rw [hnum]
  have e0 : aIndex Tryz.prog 9 (.str s) (.int .i64 0) = some (.int .u8 45) := by
   rw [hd]; exact str_at (k := .i64) Tryz.underlying9 (45 :: d) (i := 0) (by simp)
  have e1 : aSlice Tryz.prog 9 (.str s) (some (.int .i64 1)) none none = some (.str d) := by
   rw [hd]; exact str_from (k := .i64) Tryz.underlying9 (45 :: d) (a := 1) (by simp)
  have hpos : decide ((0 : Int) < (s.length : Nat)) = true := decide_eq_true (by rw [hd]; simp only [List.length_cons]; omega)
  have hdl : d.length ≤ s.length := by rw [hd]; simp
  have nd := ad d hdl
  clear hd hm
  by_cases c1 : d = []
  ·have hse : (d == []) = true := by rw [c1]; rfl
   rw [show numD true d = (0, 3) by unfold numD; rw [if_pos (.inl c1)]]
   refine pure_slim rfl (by kernel_rfl) Tryz.func49 s49 hp rfl (by simp [Tryz.f49]) fun fr hlen h => ?_
   simp only [Has] at h
   obtain ⟨a0, -⟩ := h
   simp only [Tryz.f49] at hlen ⊢
   unfold g49
   simp only [w9, Nat.reduceEqDiff, Nat.reduceLT, reduceCtorEq, hlen, a0, hls, hpos, e0, e1, lim, none_beq, str_eql, hse]
   exact Fin_pure (l := [.int .i64 0, .int .i64 3]) (by simp [w9, hlen]) (hfz _ _ _ rfl rfl) (by simp)
  ·have hse : (d == []) = false := by simpa using c1
   cases hall : (d.all fun c => digitC c.toNat) with
   | false =>
    rw [hall] at nd
    rw [show numD true d = (0, 3) by unfold numD; rw [if_pos (.inr (.inl hall))]]
    refine pure_slim rfl (by kernel_rfl) Tryz.func49 s49 hp rfl (by simp [Tryz.f49]) fun fr hlen h => ?_
    simp only [Has] at h
    obtain ⟨a0, -⟩ := h
    simp only [Tryz.f49] at hlen ⊢
    unfold g49
    simp only [w9, Nat.reduceEqDiff, Nat.reduceLT, reduceCtorEq, hlen, a0, hls, hpos, e0, e1, lim, none_beq, str_eql, hse, nd]
    exact Fin_pure (l := [.int .i64 0, .int .i64 3]) (by simp [w9, hlen]) (hfz _ _ _ rfl rfl) (by simp)
   | true =>
    rw [hall] at nd
    have hpd : 0 < d.length := List.length_pos_iff.2 c1
    have e3 := str_at (k := .i64) Tryz.underlying9 d hpd
    have e3 : aIndex Tryz.prog 9 (.str d) (.int .i64 0) = some (.int .u8 (d[0].toNat : Int)) := e3
    have hh : d.head? = some d[0] := by rw [List.head?_eq_getElem?, List.getElem?_eq_getElem hpd]
    have hbad : 1 < d.length ∧ d[0] = 48 ∨ (¬ (1 < d.length) ∨ ¬ d[0] = 48) := by
     by_cases x : 1 < d.length
     ·by_cases y : d[0] = 48
      ·exact .inl ⟨x, y⟩
      ·exact .inr (.inr y)
     ·exact .inr (.inl x)
    rcases hbad with ⟨b1, b2⟩ | hgood
    ·rw [show numD true d = (0, 3) by unfold numD; rw [if_pos (.inr (.inr ⟨b1, by rw [hh, b2]⟩))]]
     have d2 : decide (((d[0].toNat : Nat) : Int) = 48) = true := by rw [b2]; rfl
     have d1 : decide ((1 : Int) < (d.length : Nat)) = true := decide_eq_true (by omega)
     refine pure_slim rfl (by kernel_rfl) Tryz.func49 s49 hp rfl (by simp [Tryz.f49]) fun fr hlen h => ?_
     simp only [Has] at h
     obtain ⟨a0, -⟩ := h
     simp only [Tryz.f49] at hlen ⊢
     unfold g49
     simp only [w9, Nat.reduceEqDiff, Nat.reduceLT, reduceCtorEq, hlen, a0, hls, hpos, e0, e1, lim, str_eql, hse, nd, e3, d1, d2]
     exact Fin_pure (l := [.int .i64 0, .int .i64 3]) (by simp [w9, hlen]) (hfz _ _ _ rfl rfl) (by simp)
    ·have hdg : ∀ c ∈ d, digitC c.toNat = true := fun c hc => List.all_eq_true.1 hall c hc
     have nn : aLim cfg H.length 85 [.str d, .int .u64 9223372036854775808] H = some (dig2 (digGo 9223372036854775808 0 d), none) := digits_ok d 9223372036854775808 hdg (by omega) (by omega) (by omega) H.length H (Nat.le_refl _)
     have hle := digGo_le 9223372036854775808 d 0
     have hnd : numD true d = match digGo 9223372036854775808 0 d with
       | none => (0, 5)
       | some v => (-(v : Int), 0) := by
      unfold numD
      rw [if_neg]
      ·rfl
      ·rw [hall, hh]
       rintro (x | x | ⟨x, y⟩)
       ·exact c1 x
       ·cases x
       ·injection y with y
        rcases hgood with g | g
        ·exact g x
        ·exact g y
     have hcase : decide ((1 : Int) < (d.length : Nat)) = false ∨ decide ((1 : Int) < (d.length : Nat)) = true ∧ decide (((d[0].toNat : Nat) : Int) = 48) = false := by
      by_cases x : 1 < d.length
      ·rcases hgood with g | g
       ·exact absurd x g
       ·refine .inr ⟨decide_eq_true (by omega), decide_eq_false fun y => g (UInt8.toNat_inj.1 ?_)⟩
        rw [show (48 : UInt8).toNat = 48 from rfl]; omega
      ·exact .inl (decide_eq_false (by omega))
     rw [hnd]
     have hle := fun v h => hle v (by omega) (by omega) hdg h
     generalize d[0] = c0 at *
     cases hgo : digGo 9223372036854775808 0 d with
     | none =>
      rw [hgo, dig2] at nn
      rcases hcase with d1 | ⟨d1, d2⟩
      ·refine pure_slim rfl (by kernel_rfl) Tryz.func49 s49 hp rfl (by simp [Tryz.f49]) fun fr hlen h => ?_
       simp only [Has] at h
       obtain ⟨a0, -⟩ := h
       simp only [Tryz.f49] at hlen ⊢
       unfold g49
       simp only [w9, Nat.reduceEqDiff, Nat.reduceLT, reduceCtorEq, hlen, a0, hls, hpos, e0, e1, lim, str_eql, hse, nd, d1, nn, dn50]
       exact Fin_pure (l := [.int .i64 0, .int .i64 5]) (by simp [w9, hlen]) (hfz _ _ _ rfl rfl) (by simp)
      ·refine pure_slim rfl (by kernel_rfl) Tryz.func49 s49 hp rfl (by simp [Tryz.f49]) fun fr hlen h => ?_
       simp only [Has] at h
       obtain ⟨a0, -⟩ := h
       simp only [Tryz.f49] at hlen ⊢
       unfold g49
       simp only [w9, Nat.reduceEqDiff, Nat.reduceLT, reduceCtorEq, hlen, a0, hls, hpos, e0, e1, lim, str_eql, hse, nd, e3, d1, d2, nn, dn50]
       exact Fin_pure (l := [.int .i64 0, .int .i64 5]) (by simp [w9, hlen]) (hfz _ _ _ rfl rfl) (by simp)
     | some v =>
      rw [hgo, dig2] at nn
      have hv := hle v hgo
      have wv := neg64 (v := v) hv
      rcases hcase with d1 | ⟨d1, d2⟩
      ·refine pure_slim rfl (by kernel_rfl) Tryz.func49 s49 hp rfl (by simp [Tryz.f49]) fun fr hlen h => ?_
       simp only [Has] at h
       obtain ⟨a0, -⟩ := h
       simp only [Tryz.f49] at hlen ⊢
       unfold g49
       simp only [w9, Nat.reduceEqDiff, Nat.reduceLT, reduceCtorEq, u49, hlen, a0, hls, hpos, e0, e1, lim, str_eql, hse, nd, d1, nn, unop_neg, wv]
       exact Fin_pure (l := [.int .i64 (-(v : Int)), .int .i64 0]) (by simp [w9, hlen]) (hfz _ _ _ rfl rfl) (by simp)
      ·refine pure_slim rfl (by kernel_rfl) Tryz.func49 s49 hp rfl (by simp [Tryz.f49]) fun fr hlen h => ?_
       simp only [Has] at h
       obtain ⟨a0, -⟩ := h
       simp only [Tryz.f49] at hlen ⊢
       unfold g49
       simp only [w9, Nat.reduceEqDiff, Nat.reduceLT, reduceCtorEq, u49, hlen, a0, hls, hpos, e0, e1, lim, str_eql, hse, nd, e3, d1, d2, nn, unop_neg, wv]
       exact Fin_pure (l := [.int .i64 (-(v : Int)), .int .i64 0]) (by simp [w9, hlen]) (hfz _ _ _ rfl rfl) (by simp)
 ·have hnum : numS s = numD false s := by simp [numS, hm]
  rw [hnum]
  have nd := ad s (Nat.le_refl _)
  by_cases hs0 : s = []
  ·have hpos : decide ((0 : Int) < (s.length : Nat)) = false := by rw [hs0]; rfl
   have hse : (s == []) = true := by rw [hs0]; rfl
   rw [show numD false s = (0, 3) by unfold numD; rw [if_pos (.inl hs0)]]
   refine pure_slim rfl (by kernel_rfl) Tryz.func49 s49 hp rfl (by simp [Tryz.f49]) fun fr hlen h => ?_
   simp only [Has] at h
   obtain ⟨a0, -⟩ := h
   simp only [Tryz.f49] at hlen ⊢
   unfold g49
   simp only [w9, Nat.reduceEqDiff, Nat.reduceLT, reduceCtorEq, hlen, a0, hls, hpos, none_beq, str_eql, hse]
   exact Fin_pure (l := [.int .i64 0, .int .i64 3]) (by simp [w9, hlen]) (hfz _ _ _ rfl rfl) (by simp)
  ·have hps : 0 < s.length := List.length_pos_iff.2 hs0
   have hpos : decide ((0 : Int) < (s.length : Nat)) = true := decide_eq_true (by omega)
   have e0 := str_at (k := .i64) Tryz.underlying9 s hps
   have e0 : aIndex Tryz.prog 9 (.str s) (.int .i64 0) = some (.int .u8 (s[0].toNat : Int)) := e0
   have h45 : decide (((s[0].toNat : Nat) : Int) = 45) = false := decide_eq_false fun y => by
    refine hm ?_
    rw [List.head?_eq_getElem?, List.getElem?_eq_getElem hps]
    refine congrArg some (UInt8.toNat_inj.1 ?_)
    rw [show (45 : UInt8).toNat = 45 from rfl]; omega
   by_cases c1 : s = []
   ·have hse : (s == []) = true := by rw [c1]; rfl
    rw [show numD false s = (0, 3) by unfold numD; rw [if_pos (.inl c1)]]
    refine pure_slim rfl (by kernel_rfl) Tryz.func49 s49 hp rfl (by simp [Tryz.f49]) fun fr hlen h => ?_
    simp only [Has] at h
    obtain ⟨a0, -⟩ := h
    simp only [Tryz.f49] at hlen ⊢
    unfold g49
    simp only [w9, Nat.reduceEqDiff, Nat.reduceLT, reduceCtorEq, hlen, a0, hls, hpos, e0, h45, none_beq, str_eql, hse]
    exact Fin_pure (l := [.int .i64 0, .int .i64 3]) (by simp [w9, hlen]) (hfz _ _ _ rfl rfl) (by simp)
   ·have hse : (s == []) = false := by simpa using c1
    cases hall : (s.all fun c => digitC c.toNat) with
    | false =>
     rw [hall] at nd
     rw [show numD false s = (0, 3) by unfold numD; rw [if_pos (.inr (.inl hall))]]
     refine pure_slim rfl (by kernel_rfl) Tryz.func49 s49 hp rfl (by simp [Tryz.f49]) fun fr hlen h => ?_
     simp only [Has] at h
     obtain ⟨a0, -⟩ := h
     simp only [Tryz.f49] at hlen ⊢
     unfold g49
     simp only [w9, Nat.reduceEqDiff, Nat.reduceLT, reduceCtorEq, hlen, a0, hls, hpos, e0, h45, none_beq, str_eql, hse, nd]
     exact Fin_pure (l := [.int .i64 0, .int .i64 3]) (by simp [w9, hlen]) (hfz _ _ _ rfl rfl) (by simp)
    | true =>
     rw [hall] at nd
     have hpd : 0 < s.length := List.length_pos_iff.2 c1
     have e3 := str_at (k := .i64) Tryz.underlying9 s hpd
     have e3 : aIndex Tryz.prog 9 (.str s) (.int .i64 0) = some (.int .u8 (s[0].toNat : Int)) := e3
     have hh : s.head? = some s[0] := by rw [List.head?_eq_getElem?, List.getElem?_eq_getElem hpd]
     have hbad : 1 < s.length ∧ s[0] = 48 ∨ (¬ (1 < s.length) ∨ ¬ s[0] = 48) := by
      by_cases x : 1 < s.length
      ·by_cases y : s[0] = 48
       ·exact .inl ⟨x, y⟩
       ·exact .inr (.inr y)
      ·exact .inr (.inl x)
     rcases hbad with ⟨b1, b2⟩ | hgood
     ·rw [show numD false s = (0, 3) by unfold numD; rw [if_pos (.inr (.inr ⟨b1, by rw [hh, b2]⟩))]]
      have d2 : decide (((s[0].toNat : Nat) : Int) = 48) = true := by rw [b2]; rfl
      have d1 : decide ((1 : Int) < (s.length : Nat)) = true := decide_eq_true (by omega)
      refine pure_slim rfl (by kernel_rfl) Tryz.func49 s49 hp rfl (by simp [Tryz.f49]) fun fr hlen h => ?_
      simp only [Has] at h
      obtain ⟨a0, -⟩ := h
      simp only [Tryz.f49] at hlen ⊢
      unfold g49
      simp only [w9, Nat.reduceEqDiff, Nat.reduceLT, reduceCtorEq, hlen, a0, hls, hpos, e0, h45, str_eql, hse, nd, d1, d2]
      exact Fin_pure (l := [.int .i64 0, .int .i64 3]) (by simp [w9, hlen]) (hfz _ _ _ rfl rfl) (by simp)
     ·have hdg : ∀ c ∈ s, digitC c.toNat = true := fun c hc => List.all_eq_true.1 hall c hc
      have nn : aLim cfg H.length 85 [.str s, .int .u64 9223372036854775807] H = some (dig2 (digGo 9223372036854775807 0 s), none) := digits_ok s 9223372036854775807 hdg (by omega) (by omega) (by omega) H.length H (Nat.le_refl _)
      have hle := digGo_le 9223372036854775807 s 0
      have hnd : numD false s = match digGo 9223372036854775807 0 s with
        | none => (0, 5)
        | some v => ((v : Int), 0) := by
       unfold numD
       rw [if_neg]
       ·rfl
       ·rw [hall, hh]
        rintro (x | x | ⟨x, y⟩)
        ·exact c1 x
        ·cases x
        ·injection y with y
         rcases hgood with g | g
         ·exact g x
         ·exact g y
      have hcase : decide ((1 : Int) < (s.length : Nat)) = false ∨ decide ((1 : Int) < (s.length : Nat)) = true ∧ decide (((s[0].toNat : Nat) : Int) = 48) = false := by
       by_cases x : 1 < s.length
       ·rcases hgood with g | g
        ·exact absurd x g
        ·refine .inr ⟨decide_eq_true (by omega), decide_eq_false fun y => g (UInt8.toNat_inj.1 ?_)⟩
         rw [show (48 : UInt8).toNat = 48 from rfl]; omega
       ·exact .inl (decide_eq_false (by omega))
      rw [hnd]
      have hle := fun v h => hle v (by omega) (by omega) hdg h
      generalize s[0] = c0 at *
      cases hgo : digGo 9223372036854775807 0 s with
      | none =>
       rw [hgo, dig2] at nn
       rcases hcase with d1 | ⟨d1, d2⟩
       ·refine pure_slim rfl (by kernel_rfl) Tryz.func49 s49 hp rfl (by simp [Tryz.f49]) fun fr hlen h => ?_
        simp only [Has] at h
        obtain ⟨a0, -⟩ := h
        simp only [Tryz.f49] at hlen ⊢
        unfold g49
        simp only [w9, Nat.reduceEqDiff, Nat.reduceLT, reduceCtorEq, hlen, a0, hls, hpos, e0, h45, str_eql, hse, nd, d1, nn, dn50]
        exact Fin_pure (l := [.int .i64 0, .int .i64 5]) (by simp [w9, hlen]) (hfz _ _ _ rfl rfl) (by simp)
       ·refine pure_slim rfl (by kernel_rfl) Tryz.func49 s49 hp rfl (by simp [Tryz.f49]) fun fr hlen h => ?_
        simp only [Has] at h
        obtain ⟨a0, -⟩ := h
        simp only [Tryz.f49] at hlen ⊢
        unfold g49
        simp only [w9, Nat.reduceEqDiff, Nat.reduceLT, reduceCtorEq, hlen, a0, hls, hpos, e0, h45, str_eql, hse, nd, d1, d2, nn, dn50]
        exact Fin_pure (l := [.int .i64 0, .int .i64 5]) (by simp [w9, hlen]) (hfz _ _ _ rfl rfl) (by simp)
      | some v =>
       rw [hgo, dig2] at nn
       have hv := hle v hgo
       have wv := pos64 (v := v) hv
       rcases hcase with d1 | ⟨d1, d2⟩
       ·refine pure_slim rfl (by kernel_rfl) Tryz.func49 s49 hp rfl (by simp [Tryz.f49]) fun fr hlen h => ?_
        simp only [Has] at h
        obtain ⟨a0, -⟩ := h
        simp only [Tryz.f49] at hlen ⊢
        unfold g49
        simp only [w9, Nat.reduceEqDiff, Nat.reduceLT, reduceCtorEq, u49, hlen, a0, hls, hpos, e0, h45, str_eql, hse, nd, d1, nn, wv]
        exact Fin_pure (l := [.int .i64 ((v : Int)), .int .i64 0]) (by simp [w9, hlen]) (hfz _ _ _ rfl rfl) (by simp)
       ·refine pure_slim rfl (by kernel_rfl) Tryz.func49 s49 hp rfl (by simp [Tryz.f49]) fun fr hlen h => ?_
        simp only [Has] at h
        obtain ⟨a0, -⟩ := h
        simp only [Tryz.f49] at hlen ⊢
        unfold g49
        simp only [w9, Nat.reduceEqDiff, Nat.reduceLT, reduceCtorEq, u49, hlen, a0, hls, hpos, e0, h45, str_eql, hse, nd, d1, d2, nn, wv]
        exact Fin_pure (l := [.int .i64 ((v : Int)), .int .i64 0]) (by simp [w9, hlen]) (hfz _ _ _ rfl rfl) (by simp)
set_option maxRecDepth 100000
open Go Go.Abs AbsSeat Ty
def u147 := an (show tagT Tryz.prog 242 = 0 from by kernel_rfl) (an ag3 (an sz3 (an by3 (an ze3 (an Tryz.underlying3 (an ag20 (an sz20 (an by20 (an ze20 (an Tryz.underlying20 (an ag76 (an sz76 (an by76 (an ze76 (an Tryz.underlying76 (an ag242 (an sz242 (an by242 (an ze242 (an bu242 (an Tryz.underlying242 (an ag245 (an sz245 (an by245 (an ze245 (an Tryz.underlying245 (an ag247 (an sz247 (an by247 (an ze247 (an Tryz.underlying247 (an ag271 (an sz271 (an by271 (an se271 (an ze271 Tryz.underlying271))))))))))))))))))))))))))))))))))))
def g147 : Code := .seq (mG 0 #[q 4 (.assign (mI false)) 4]) (.seq (.seq (mG 1 #[mA 8 0 76, mF 9 .eql 76 8 (.const .nilIface) 76 4]) (.cond (.tmp 9) (.seq (mG 2 #[q 4 (.assign (mI false)) 4]) .ret) .skip)) (.seq (.seq (mG 3 #[mA 10 1 20, mF 11 .eql 20 10 (.const .nilIface) 20 4]) (.cond (.tmp 11) (mG 4 #[q 12 (.makeInterface 9 (.const (.string { data := #[101, 114, 114, 111, 114, 115, 58, 32, 116, 97, 114, 103, 101, 116, 32, 99, 97, 110, 110, 111, 116, 32, 98, 101, 32, 110, 105, 108] }))) 20, qn (.panic (.tmp 12)) 0]) .skip)) (.seq (mG 5 #[mA 13 1 20, q 14 (cl 168 #[.tmp 13] #[20]) 242, q 5 (.alloc 242) 0, mD 242 5 14]) (.seq (mG 6 #[mC 15 5 242, q 16 (cl 169 #[.tmp 15] #[242]) 245, mB 6 16 245]) (.seq (.seq (mG 7 #[mA 17 6 245, q 18 (.call { callee := .invoke (.tmp 17) "Kind", args := #[], argTypes := #[] }) 247, mF 19 .neq 247 18 (.const (.int .u8 22)) 247 4, mA 20 19 4, qg 21 (.load 242 (.tmp 5)) 242 3 false, qg 22 (cl 170 #[.tmp 21] #[242]) 4 3 false, q 23 (.pick (.tmp 20) (mI true) (.tmp 22)) 4]) (.cond (.tmp 23) (mG 8 #[q 24 (.makeInterface 9 (.const (.string { data := #[101, 114, 114, 111, 114, 115, 58, 32, 116, 97, 114, 103, 101, 116, 32, 109, 117, 115, 116, 32, 98, 101, 32, 97, 32, 110, 111, 110, 45, 110, 105, 108, 32, 112, 111, 105, 110, 116, 101, 114] }))) 20, qn (.panic (.tmp 24)) 0]) .skip)) (.seq (mG 9 #[mA 25 6 245, q 26 (.call { callee := .invoke (.tmp 25) "Elem", args := #[], argTypes := #[] }) 245, mB 7 26 245]) (.seq (.seq (mG 10 #[mA 27 7 245, q 28 (.call { callee := .invoke (.tmp 27) "Kind", args := #[], argTypes := #[] }) 247, mF 29 .neq 247 28 (.const (.int .u8 20)) 247 4, mA 30 29 4, qg 31 (.move (.tmp 7)) 245 3 true, qg 32 (.load 245 (.global 1)) 245 3 true, qg 33 (.call { callee := .invoke (.tmp 31) "Implements", args := #[.tmp 32], argTypes := #[245] }) 4 3 true, qg 34 (.unOp .not 4 (.tmp 33)) 4 3 true, q 35 (.pick (.tmp 30) (.tmp 34) (mI false)) 4]) (.cond (.tmp 35) (mG 11 #[q 36 (.makeInterface 9 (.const (.string { data := #[101, 114, 114, 111, 114, 115, 58, 32, 42, 116, 97, 114, 103, 101, 116, 32, 109, 117, 115, 116, 32, 98, 101, 32, 105, 110, 116, 101, 114, 102, 97, 99, 101, 32, 111, 114, 32, 105, 109, 112, 108, 101, 109, 101, 110, 116, 32, 101, 114, 114, 111, 114] }))) 20, qn (.panic (.tmp 36)) 0]) .skip)) (.seq (mG 12 #[mA 37 0 76, mA 38 1 20, mC 39 5 242, mA 40 7 245, q 41 (cl 171 #[.tmp 37, .tmp 38, .tmp 39, .tmp 40] #[76, 20, 242, 245]) 4, mB 4 41 4]) .ret))))))))
def s147 := sL Tryz.f147 g147 (by kernel_rfl)
def g171 : Code := .seq (mG 0 #[q 6 (.box 242 (.tmp 2)) 0, q 8 (.assign (mI false)) 4]) (.block 0 (.loop (.block 1 (.seq (.seq (mG 1 #[mA 16 0 76, q 17 (cl 182 #[.tmp 16] #[20]) 245, mA 18 3 245, q 19 (.call { callee := .invoke (.tmp 17) "AssignableTo", args := #[.tmp 18], argTypes := #[245] }) 4]) (.cond (.tmp 19) (.seq (mG 2 #[mC 20 6 242, q 21 (cl 183 #[.tmp 20] #[242]) 242, mA 22 0 76, q 23 (cl 168 #[.tmp 22] #[20]) 242, q 24 (cl 184 #[.tmp 21, .tmp 23] #[242, 242]) 0]) (.seq (mG 3 #[q 8 (.assign (mI true)) 4]) .ret)) .skip)) (.seq (.seq (mG 4 #[mA 26 0 76, q 27 (.typeAssert (.tmp 26) 76 265 true) 266, mA 25 27 266, mE 28 25 0 265, mE 29 25 1 4, mB 9 28 265, mB 10 29 4]) (.seq (mG 5 #[mA 30 10 4, mA 31 30 4, qg 32 (.move (.tmp 9)) 265 1 true, qg 33 (.move (.tmp 1)) 20 1 true, qg 34 (.call { callee := .invoke (.tmp 32) "As", args := #[.tmp 33], argTypes := #[20] }) 4 1 true, q 35 (.pick (.tmp 31) (.tmp 34) (mI false)) 4]) (.cond (.tmp 35) (.seq (mG 6 #[q 8 (.assign (mI true)) 4]) .ret) .skip))) (.seq (mG 7 #[mA 36 0 76]) (.block 2 (.seq (mG 10 #[q 37 (.typeAssert (.tmp 36) 76 268 true) 0, mE 38 37 1 4, mE 39 37 0 268]) (.cond (.tmp 38) (.seq (mG 11 #[mB 11 39 268]) (.seq (mG 12 #[mA 40 11 268, q 41 (.call { callee := .invoke (.tmp 40) "Unwrap", args := #[], argTypes := #[] }) 76, mB 0 41 76]) (.seq (mG 13 #[mA 42 0 76, mF 43 .eql 76 42 (.const .nilIface) 76 4]) (.cond (.tmp 43) (.seq (mG 14 #[q 8 (.assign (mI false)) 4]) .ret) .skip)))) (.seq (mG 15 #[q 44 (.typeAssert (.tmp 36) 76 270 true) 0, mE 45 44 1 4, mE 46 44 0 270]) (.cond (.tmp 45) (.seq (mG 16 #[mB 12 46 270]) (.seq (.seq (mG 17 #[mA 47 12 270, q 48 (.call { callee := .invoke (.tmp 47) "Unwrap", args := #[], argTypes := #[] }) 271, q 49 (bi .len #[.tmp 48] #[271]) 3, q 50 (.move (ik 0)) 3]) (.block 3 (.loop (.seq (mG 18 #[mF 51 .lss 3 50 (.tmp 49) 3 0]) (.seq (.cond (.tmp 51) .skip (.exit 3)) (.seq (.block 4 (.seq (mG 19 #[q 52 (.indexAddr 271 (.tmp 48) (.tmp 50)) 0, mC 53 52 76, mB 14 53 76]) (.seq (.seq (mG 20 #[mA 54 14 76, mF 55 .eql 76 54 (.const .nilIface) 76 4]) (.cond (.tmp 55) (.exit 4) .skip)) (.seq (mG 21 #[mA 56 14 76, mA 57 1 20, mC 58 6 242, mA 59 3 245, q 60 (cl 171 #[.tmp 56, .tmp 57, .tmp 58, .tmp 59] #[76, 20, 242, 245]) 4]) (.cond (.tmp 60) (.seq (mG 22 #[q 8 (.assign (mI true)) 4]) .ret) .skip))))) (mG 23 #[mF 61 .add 3 50 (ik 1) 3 3, mA 50 61 3]))))))) (.seq (mG 24 #[q 8 (.assign (mI false)) 4]) .ret))) (.seq (mG 8 #[mB 15 36 76]) (.seq (mG 9 #[q 8 (.assign (mI false)) 4]) .ret)))))))))))))
def s171 := sL Tryz.f171 g171 (by kernel_rfl)
theorem xTypeOf (t : Nat) (v : AV) (r : AV) (hr : rtypeV Tryz.prog t = some r) (prot : Nat) (H : Heap) : aLim cfg prot 182 [.iface t v] H = some (r, none) :=
 lim_ext (by kernel_rfl) Tryz.func182 (by kernel_rfl) (by kernel_rfl) prot H (by
  have h1 : aExt Tryz.prog prot H Tryz.f182 [.iface t v] = (rtypeV Tryz.prog t).map fun r => (r, none) := by kernel_rfl
  show aExt Tryz.prog prot H Tryz.f182 [.iface t v] = _
  rw [h1, hr]; rfl)
section
variable {P : Program} {t : TypeId} {xo yo : Operand}
theorem iface_nil_eq {ms : Array (String × TypeId)} (hu : P.underlying t = some (.interface ms)) (s : Nat) (v : AV) : aBin P .eql t xo yo (.iface s v) .nilI = some (.bool false) := by simp [aBin, aNilNe, hu]
theorem iface_nil_ne {ms : Array (String × TypeId)} (hu : P.underlying t = some (.interface ms)) (s : Nat) (v : AV) : aBin P .neq t xo yo (.iface s v) .nilI = some (.bool true) := by simp [aBin, aNilNe, hu]
end
set_option maxRecDepth 100000
open Go Go.Abs AbsSeat Ty
theorem xExt {f : Nat} {fn : Func} {args : List AV} {r : AV} (hok : cfg.ok f = true) (hfn : cfg.P.funcs[f]? = some fn) (hb : fn.body = none) (hs : cfg.shut f = false) (h : ∀ prot H, aExt cfg.P prot H fn args = some (r, none)) (prot : Nat) (H : Heap) : aLim cfg prot f args H = some (r, none) :=
 lim_ext hok hfn hb hs prot H (h prot H)
noncomputable def rval (t : Nat) (p : AV) (f : Int) : AV := .agg [hnd Tryz.prog t, p, .int .u64 f]
noncomputable def rtyp (t : Nat) : AV := .iface 260 (.agg [hnd Tryz.prog t])
theorem xValueOfP (b : Nat) (prot : Nat) (H : Heap) : aLim cfg prot 168 [.iface 203 (.ptr b 0 0)] H = some (rval 203 (.ptr H.length 0 0) 150, some (H ++ [Blk.cells 0 [.ptr b 0 0]])) :=
 lim_extL (by kernel_rfl) Tryz.func168 (by kernel_rfl) (by kernel_rfl) (by kernel_rfl) prot H (by kernel_rfl)
theorem xValueOfE (e : Int) (prot : Nat) (H : Heap) : aLim cfg prot 168 [.iface 28 (.int .i64 e)] H = some (rval 28 (.ptr H.length 0 0) 130, some (H ++ [Blk.cells 0 [.int .i64 e]])) :=
 lim_extL (by kernel_rfl) Tryz.func168 (by kernel_rfl) (by kernel_rfl) (by kernel_rfl) prot H (by kernel_rfl)
theorem xType (b : Nat) (prot : Nat) (H : Heap) : aLim cfg prot 169 [rval 203 (.ptr b 0 0) 150] H = some (rtyp 203, none) :=
 xExt (by kernel_rfl) Tryz.func169 (by kernel_rfl) (by kernel_rfl) (fun prot H => by kernel_rfl) prot H
theorem xKindP (prot : Nat) (H : Heap) : aLim cfg prot 221 [hnd Tryz.prog 203] H = some (.int .u8 22, none) :=
 xExt (by kernel_rfl) Tryz.func221 (by kernel_rfl) (by kernel_rfl) (fun prot H => by kernel_rfl) prot H
theorem xKindE (prot : Nat) (H : Heap) : aLim cfg prot 221 [hnd Tryz.prog 28] H = some (.int .u8 2, none) :=
 xExt (by kernel_rfl) Tryz.func221 (by kernel_rfl) (by kernel_rfl) (fun prot H => by kernel_rfl) prot H
theorem xElem (prot : Nat) (H : Heap) : aLim cfg prot 236 [.agg [hnd Tryz.prog 203]] H = some (rtyp 28, none) :=
 xExt (by kernel_rfl) Tryz.func236 (by kernel_rfl) (by kernel_rfl) (fun prot H => by kernel_rfl) prot H
theorem xImpl (prot : Nat) (H : Heap) : aLim cfg prot 237 [.agg [hnd Tryz.prog 28], ET] H = some (.bool true, none) :=
 xExt (by kernel_rfl) Tryz.func237 (by kernel_rfl) (by kernel_rfl) (fun prot H => by kernel_rfl) prot H
theorem xAssE (prot : Nat) (H : Heap) : aLim cfg prot 234 [.agg [hnd Tryz.prog 28], rtyp 28] H = some (.bool true, none) :=
 xExt (by kernel_rfl) Tryz.func234 (by kernel_rfl) (by kernel_rfl) (fun prot H => by kernel_rfl) prot H
theorem xNilP {b d : Nat} {H : Heap} (hg : hget H d 0 = some [.ptr b 0 0]) (prot : Nat) : aLim cfg prot 170 [rval 203 (.ptr d 0 0) 150] H = some (.bool false, none) :=
 lim_ext (by kernel_rfl) Tryz.func170 (by kernel_rfl) (by kernel_rfl) prot H (by
  have h1 : aExt Tryz.prog prot H Tryz.f170 [rval 203 (.ptr d 0 0) 150] = (isNilB Tryz.prog 203 H (.ptr d 0 0)).map fun r => (r, none) := by kernel_rfl
  show aExt Tryz.prog prot H Tryz.f170 [rval 203 (.ptr d 0 0) 150] = _
  rw [h1]
  simp [isNilB, aLoad, hg, rd, ag203])
theorem xElemV {b d : Nat} {H : Heap} (hg : hget H d 0 = some [.ptr b 0 0]) (prot : Nat) : aLim cfg prot 183 [rval 203 (.ptr d 0 0) 150] H = some (rval 28 (.ptr b 0 0) 386, none) :=
 lim_ext (by kernel_rfl) Tryz.func183 (by kernel_rfl) (by kernel_rfl) prot H (by
  have h1 : aExt Tryz.prog prot H Tryz.f183 [rval 203 (.ptr d 0 0) 150] = (elemB Tryz.prog 203 H (.ptr d 0 0)).map fun r => (r, none) := by kernel_rfl
  show aExt Tryz.prog prot H Tryz.f183 [rval 203 (.ptr d 0 0) 150] = _
  have h2 : pureOf Tryz.prog (Extern.Rtype.elem? 203) = some (some 28) := by kernel_rfl
  have h3 : valueV Tryz.prog 28 (.ptr b 0 0) 256 = some (rval 28 (.ptr b 0 0) 386) := by kernel_rfl
  rw [h1]
  simp [elemB, aLoad, hg, rd, ag203, h2, h3])
theorem xSet {b c : Nat} {e x : Int} {H : Heap} (hg : hget H c 0 = some [.int .i64 e]) (hb : hget H b 0 = some [.int .i64 x]) (prot : Nat) (hp : prot ≤ b) : aLim cfg prot 184 [rval 28 (.ptr b 0 0) 386, rval 28 (.ptr c 0 0) 130] H = some (.tup [], some (H.set b (.cells 0 [.int .i64 e]))) :=
 lim_extL (by kernel_rfl) Tryz.func184 (by kernel_rfl) (by kernel_rfl) (by kernel_rfl) prot H (by
  have h1 : aExt Tryz.prog prot H Tryz.f184 [rval 28 (.ptr b 0 0) 386, rval 28 (.ptr c 0 0) 130] = (aLoad Tryz.prog 28 H (.ptr c 0 0)).bind fun v => loud (aStore Tryz.prog 28 prot H (.ptr b 0 0) v) := by kernel_rfl
  show aExt Tryz.prog prot H Tryz.f184 [rval 28 (.ptr b 0 0) 386, rval 28 (.ptr c 0 0) 130] = _
  rw [h1]
  have h2 := hput_eq (xs := [.int .i64 e]) (off := 0) hb hp (by simp) (by simp [AV.leaf])
  simp [aLoad, hg, rd, ag28, aStore, sz28, AV.cells, h2, loud, splice])
set_option maxRecDepth 100000
open Go Go.Abs AbsSeat Ty
def u144 := an (show tagT Tryz.prog 239 = 0 from by kernel_rfl) (an (show tagT Tryz.prog 28 = 0 from by kernel_rfl) (an ag20 (an sz20 (an by20 (an ze20 (an Tryz.underlying20 (an ag28 (an sz28 (an by28 (an ze28 (an Tryz.underlying28 (an ag76 (an sz76 (an by76 (an ze76 (an Tryz.underlying76 (an ag203 (an sz203 (an by203 (an ze203 (an Tryz.underlying203 (an ag237 (an sz237 (an by237 (an ze237 (an Tryz.underlying237 (an ag239 (an sz239 (an by239 (an ze239 (an bu239 (an Tryz.underlying239 (an fa239_1 fd239_1)))))))))))))))))))))))))))))))))
def g144 : Code := .seq (mG 0 #[q 4 (.assign (.const .nilIface)) 76]) (.seq (mG 1 #[mA 5 0 3, mA 6 1 28, q 7 (.makeInterface 28 (.tmp 6)) 76, q 8 (.build 239 #[(0, .tmp 5), (1, .tmp 7)]) 239, q 9 (.box 239 (.tmp 8)) 237, q 10 (.makeInterface 237 (.tmp 9)) 76, mB 4 10 76]) .ret)
def s144 := sL Tryz.f144 g144 (by kernel_rfl)
def g111 : Code := .seq (mG 0 #[q 2 (.assign (ik 0)) 28]) (.seq (mG 1 #[q 3 (.alloc 28) 0]) (.seq (.seq (mG 2 #[mA 4 0 76, mF 5 .eql 76 4 (.const .nilIface) 76 4]) (.cond (.tmp 5) (.seq (mG 3 #[q 2 (.assign (ik 0)) 28]) .ret) .skip)) (.seq (.seq (mG 4 #[mA 6 0 76, q 7 (.makeInterface 203 (.tmp 3)) 20, q 8 (cl 147 #[.tmp 6, .tmp 7] #[76, 20]) 4]) (.cond (.tmp 8) (.seq (mG 5 #[mC 9 3 28, mB 2 9 28]) .ret) .skip)) (.seq (mG 6 #[q 2 (.assign (ik 3)) 28]) .ret))))
def s111 := sL Tryz.f111 g111 (by kernel_rfl)
def g229 : Code := .seq (mG 0 #[q 2 (.assign (.const .nilIface)) 76]) (.seq (mG 1 #[mA 3 0 237, q 4 (.nilCheck (.tmp 3)) 0, q 5 (.fieldAddr 239 (.tmp 4) 1) 0, mC 6 5 76, mB 2 6 76]) .ret)
def s229 := sL Tryz.f229 g229 (by kernel_rfl)
def troub (at_ e : Int) : AV := .iface 237 (.vptr [.int .i64 at_, .iface 28 (.int .i64 e)] 0)
theorem xAssT (prot : Nat) (H : Heap) : aLim cfg prot 234 [.agg [hnd Tryz.prog 237], rtyp 28] H = some (.bool false, none) :=
 xExt (by kernel_rfl) Tryz.func234 (by kernel_rfl) (by kernel_rfl) (fun prot H => by kernel_rfl) prot H
theorem rtT : rtypeV Tryz.prog 237 = some (rtyp 237) := by kernel_rfl
theorem rtE' : rtypeV Tryz.prog 28 = some (rtyp 28) := by kernel_rfl
theorem unwrapT_ok (i e : Int) (prot : Nat) (H : Heap) (hp : prot ≤ H.length) : aLim cfg prot 229 [.vptr [.int .i64 i, .iface 28 (.int .i64 e)] 0] H = some (.iface 28 (.int .i64 e), none) := by
 refine pure_slim rfl (by kernel_rfl) Tryz.func229 s229 hp rfl (by simp [Tryz.f229]) fun fr hlen h => ?_
 simp only [Has] at h
 obtain ⟨a0, -⟩ := h
 simp only [Tryz.f229] at hlen ⊢
 unfold g229
 simp only [w9, simprocAttr, u144, hlen, a0]
 exact Fin_pure (l := [.iface 28 (.int .i64 e)]) (by simp [w9, hlen]) (.iface (.still rfl)) (by simp)
theorem wrong_ok (i e : Int) (prot : Nat) (H : Heap) (hp : prot ≤ H.length) : aLim cfg prot 144 [.int .i64 i, .int .i64 e] H = some (troub i e, none) := by
 refine pure_slim rfl (by kernel_rfl) Tryz.func144 s144 hp rfl (by simp [Tryz.f144]) fun fr hlen h => ?_
 simp only [Has, Nat.zero_add] at h
 obtain ⟨a0, a1, -⟩ := h
 simp only [Tryz.f144] at hlen ⊢
 unfold g144
 simp only [w9, simprocAttr, u144, hlen, a0, a1]
 exact Fin_pure (l := [.iface 237 (.ptr H.length 0 0)]) (by simp [w9, hlen]) (.iface (.ptr (by omega) (by rw [hget_new rfl]; rfl) (.cons (.still rfl) (.cons (.iface (.still rfl)) .nil)))) (by simp)
theorem as_ok (i e x : Int) (b vb prot : Nat) (H : Heap) (hb : hget H b 0 = some [.int .i64 x]) (hv : hget H vb 0 = some [.ptr b 0 0]) (hp : prot ≤ b) :
  aLim cfg prot 171 [troub i e, .iface 203 (.ptr b 0 0), rval 203 (.ptr vb 0 0) 150, rtyp 28] H = some (.bool true, some (H.set b (.cells 0 [.int .i64 e]))) := by
 have s1 : aAssert Tryz.prog (troub i e) 265 true = some (.tup [.nilI, .bool false]) := by kernel_rfl
 have s2 : aAssert Tryz.prog (troub i e) 268 true = some (.tup [troub i e, .bool true]) := by kernel_rfl
 have m2 : ∀ v, aMethod Tryz.prog 237 v "Unwrap" = some (229, v) := fun v => by kernel_rfl
 have m3 : ∀ v, aMethod Tryz.prog 260 v "AssignableTo" = some (234, v) := fun v => by kernel_rfl
 have hlb := hget_lt hb
 obtain ⟨K, hK⟩ : ∃ K, K = H ++ [Blk.cells 0 [hnd Tryz.prog 203, .ptr vb 0 0, .int .u64 150]] := ⟨_, rfl⟩
 have hKp : Kp H b [.int .i64 x] K := by rw [hK]; exact (Kp.start hb).app _
 have hKl : K.length = H.length + 1 := by rw [hK]; simp
 have hKv : hget K vb 0 = some [.ptr b 0 0] := by rw [hK]; exact hget_mono hv _
 have hKr : hget K H.length 0 = some [hnd Tryz.prog 203, .ptr vb 0 0, .int .u64 150] := by rw [hK, hget_new rfl, if_pos rfl]
 have hKb := hKp.get
 have t1 := fun v => xTypeOf 237 v _ rtT prot K
 have t2 := fun v => xTypeOf 28 v _ rtE' prot K
 have a1' := xAssT prot K
 have a2' := xAssE prot K
 have v1 := xElemV hKv prot
 have v2 := xValueOfE e prot K
 have v3 := xSet (H := K ++ [Blk.cells 0 [.int .i64 e]]) (c := K.length) (e := e) (by rw [hget_new rfl, if_pos rfl]) (hget_mono hKb _) prot hp
 have u1 := unwrapT_ok i e prot K (by omega)
 have hnn : ∀ xo yo, aBin Tryz.prog .eql 76 xo yo (.iface 28 (.int .i64 e)) .nilI = some (.bool false) := fun xo yo => iface_nil_eq Tryz.underlying76 _ _
 have hh : ∀ t, hnd Tryz.prog t = .adr ⟨Tryz.prog.globals.size, t, none⟩ := fun t => rfl
 simp only [troub, rval, rtyp, hh] at s1 s2 t1 t2 a1' a2' v1 v2 v3 hKr hK ⊢
 refine trim_slim rfl (by kernel_rfl) (by kernel_rfl) (by kernel_rfl) Tryz.func171 s171 (by simp [Tryz.f171]) fun fr hlen h => ?_
 simp only [Has, Nat.zero_add] at h
 obtain ⟨a0, a1, a2, a3, -⟩ := h
 simp only [Tryz.f171] at hlen ⊢
 unfold g171
 simp only [w9, simprocAttr, u147, a2]
 rw [← hK]
 refine loop_rule (fun m fr K' => fr.length = 62 ∧ (m = 1 ∧ fget fr 0 = .iface 237 (.vptr [.int .i64 i, .iface 28 (.int .i64 e)] 0) ∨ m = 0 ∧ fget fr 0 = .iface 28 (.int .i64 e)) ∧ fget fr 1 = .iface 203 (.ptr b 0 0) ∧ fget fr 3 = .iface 260 (.agg [.adr ⟨Tryz.prog.globals.size, 28, none⟩]) ∧ fget fr 6 = .ptr H.length 0 0 ∧ K' = K) ?_ 1 _ _ (by simp [w9, hlen, a0, a1, a3])
 rintro m fr K' ⟨hlen, h01, a1, a3, a6, rfl⟩ ih
 rcases h01 with ⟨rfl, a0⟩ | ⟨rfl, a0⟩
 ·simp only [w9, simprocAttr, hlen, a0, a3, t1, m3, a1', s1, s2, m2, u1, hnn]
  refine ih _ _ 0 (by omega) ?_
  simp [w9, hlen, a1, a3, a6]
 ·simp only [w9, simprocAttr, u147, hlen, a0, a3, a6, t2, m3, a2', hKr, v1, v2, v3]
  refine Kp.fin ((hKp.app [Blk.cells 0 [.int .i64 e]]).put (by rfl)) (l := [.bool true]) (by simp [w9, hlen]) (.still rfl)
theorem As_ok (i e x : Int) (b prot : Nat) (H : Heap) (hb : hget H b 0 = some [.int .i64 x]) (hg0 : hget H 0 (gver 1) = some [ET]) (hp : prot ≤ b) :
  aLim cfg prot 147 [troub i e, .iface 203 (.ptr b 0 0)] H = some (.bool true, some (H.set b (.cells 0 [.int .i64 e]))) := by
 have hlb := hget_lt hb
 have n1 := xValueOfP b prot H
 have hh : ∀ t, hnd Tryz.prog t = .adr ⟨Tryz.prog.globals.size, t, none⟩ := fun t => rfl
 obtain ⟨K, hK⟩ : ∃ K, K = (H ++ [Blk.cells 0 [.ptr b 0 0]]) ++ [Blk.cells 0 [hnd Tryz.prog 203, .ptr H.length 0 0, .int .u64 150]] := ⟨_, rfl⟩
 have hKp : Kp H b [.int .i64 x] K := by rw [hK]; exact ((Kp.start hb).app _).app _
 have hKb := hKp.get
 have hKl : K.length = H.length + 2 := by rw [hK]; simp
 have hKv : hget K H.length 0 = some [.ptr b 0 0] := by rw [hK]; exact hget_mono (by rw [hget_new rfl, if_pos rfl]) _
 have hKr : hget K (H.length + 1) 0 = some [hnd Tryz.prog 203, .ptr H.length 0 0, .int .u64 150] := by
  rw [hK, hget_new (by simp), if_pos rfl]
 have hKg : hget K 0 (gver 1) = some [ET] := by rw [hK]; exact hget_mono (hget_mono hg0 _) _
 have x1 := xType H.length prot K
 have m1 : ∀ v, aMethod Tryz.prog 260 (.agg [v]) "Kind" = some (221, v) := fun v => by kernel_rfl
 have m2 : ∀ v, aMethod Tryz.prog 260 v "Elem" = some (236, v) := fun v => by kernel_rfl
 have m3 : ∀ v, aMethod Tryz.prog 260 v "Implements" = some (237, v) := fun v => by kernel_rfl
 have x2 := xKindP prot K
 have x3 := xKindE prot K
 have x4 := xNilP hKv prot
 have x5 := xElem prot K
 have x6 := xImpl prot K
 have x7 := as_ok i e x b H.length prot K hKb hKv hp
 have i1 : ∀ xo yo v, aBin Tryz.prog .eql 76 xo yo (.iface 237 v) .nilI = some (.bool false) := fun xo yo v => iface_nil_eq Tryz.underlying76 _ _
 have i2 : ∀ xo yo v, aBin Tryz.prog .eql 20 xo yo (.iface 203 v) .nilI = some (.bool false) := fun xo yo v => iface_nil_eq Tryz.underlying20 _ _
 simp only [troub, rval, rtyp, hh] at n1 hK hKr x1 x2 x3 x4 x5 x6 x7 ⊢
 have hpl : prot ≤ (H ++ [Blk.cells 0 [AV.ptr b 0 0]]).length := by simp; omega
 refine trim_slim rfl (by kernel_rfl) (by kernel_rfl) (by kernel_rfl) Tryz.func147 s147 (by simp [Tryz.f147]) fun fr hlen h => ?_
 simp only [Has, Nat.zero_add] at h
 obtain ⟨a0, a1, -⟩ := h
 simp only [Tryz.f147] at hlen ⊢
 unfold g147
 simp only [w9, simprocAttr, u147, hlen, a0, a1, n1, i1, i2, hpl]
 rw [← hK]
 have hln : (H ++ [Blk.cells 0 [AV.ptr b 0 0]]).length = H.length + 1 := by simp
 simp only [w9, simprocAttr, u147, hlen, hln, hKr, x1, x2, x3, x4, x5, x6, x7, m1, m2, m3, gload, hKg, a0, a1]
 refine Kp.fin (hKp.put (by rfl)) (l := [.bool true]) (by simp [w9, hlen]) (.still rfl)
theorem nilNe (xo : Operand) (c : Value) : aBin Tryz.prog .neq 76 xo (.const c) .nilI .nilI = some (.bool false) := by cases xo <;> kernel_rfl
theorem number_ok (i e : Int) (prot : Nat) (H : Heap) (hg0 : hget H 0 (gver 1) = some [ET]) (hp : prot ≤ H.length) :
  aLim cfg prot 111 [troub i e] H = some (.int .i64 e, none) := by
 have hsnap : snap H [troub i e] = some ([troub i e], false) := rfl
 have i1 : ∀ xo yo v, aBin Tryz.prog .eql 76 xo yo (.iface 237 v) .nilI = some (.bool false) := fun xo yo v => iface_nil_eq Tryz.underlying76 _ _
 have n1 := As_ok i e 0 H.length H.length (H ++ [Blk.cells 0 [.int .i64 0]]) (by rw [hget_new rfl, if_pos rfl]) (hget_mono hg0 _) (Nat.le_refl _)
 simp only [troub] at n1 hsnap ⊢
 refine pure_slim rfl (by kernel_rfl) Tryz.func111 s111 hp hsnap (by simp [Tryz.f111]) fun fr hlen h => ?_
 simp only [Has] at h
 obtain ⟨a0, -⟩ := h
 simp only [Tryz.f111] at hlen ⊢
 unfold g111
 have hs := hget_set_at (b := H.length) (v := 0) (H := H ++ [Blk.cells 0 [AV.int .i64 0]]) (cs := [AV.int .i64 e]) (by simp)
 simp only [w9, simprocAttr, u144, hlen, a0, i1, n1, hs]
 exact Fin_pure (l := [.int .i64 e]) (by simp [w9, hlen]) (.still rfl) (by simp)
open Go Go.Abs AbsSeat Ty
def g132 : Code := .seq (mG 0 #[q 2 (.assign (mI false)) 4]) (.seq (mG 1 #[mA 3 0 5, mF 4 .geq 5 3 (.const (.int .u8 65)) 5 4, mA 5 4 4, qg 6 (.move (.tmp 0)) 5 2 true, qg 7 (.binOp .leq 5 (.tmp 6) (.const (.int .u8 90)) 5) 4 2 true, q 8 (.pick (.tmp 5) (.tmp 7) (mI false)) 4, mB 2 8 4]) .ret)
def s132 := sL Tryz.f132 g132 (by kernel_rfl)
def g93 : Code := .seq (mG 0 #[q 2 (.assign (mI false)) 4]) (.seq (mG 1 #[mA 3 0 5, q 4 (cl 132 #[.tmp 3] #[5]) 4, mA 5 4 4, qg 6 (.move (.tmp 0)) 5 2 false, qg 7 (.binOp .geq 5 (.tmp 6) (.const (.int .u8 97)) 5) 4 2 false, qg 8 (.move (.tmp 7)) 4 2 false, qg 9 (.move (.tmp 0)) 5 5 true, qg 10 (.binOp .leq 5 (.tmp 9) (.const (.int .u8 122)) 5) 4 5 true, qg 11 (.pick (.tmp 8) (.tmp 10) (mI false)) 4 2 false, q 12 (.pick (.tmp 5) (mI true) (.tmp 11)) 4, mB 2 12 4]) .ret)
def s93 := sL Tryz.f93 g93 (by kernel_rfl)
theorem great_ok (c : Int) (prot : Nat) (H : Heap) (hp : prot ≤ H.length) : aLim cfg prot 132 [.int .u8 c] H = some (.bool (greatC c), none) := by
 unfold greatC
 refine pure_slim rfl (by kernel_rfl) Tryz.func132 s132 hp rfl (by simp [Tryz.f132]) fun fr hlen h => ?_
 simp only [Has] at h
 obtain ⟨a0, -⟩ := h
 simp only [Tryz.f132] at hlen ⊢
 unfold g132
 by_cases h1 : 65 ≤ c
 ·simp only [w9, simprocAttr, hlen, a0, h1]
  simp only [Bool.true_and]
  exact Fin_pure (l := [.bool (decide (c ≤ 90))]) (by simp [w9, hlen]) (.still rfl) (by simp)
 ·simp only [w9, simprocAttr, hlen, a0, h1]
  simp only [Bool.false_and]
  exact Fin_pure (l := [.bool false]) (by simp [w9, hlen]) (.still rfl) (by simp)
theorem letter_ok (c : Int) (prot : Nat) (H : Heap) (hp : prot ≤ H.length) : aLim cfg prot 93 [.int .u8 c] H = some (.bool (letterC c), none) := by
 have n1 := great_ok c H.length H (Nat.le_refl _)
 unfold letterC
 refine pure_slim rfl (by kernel_rfl) Tryz.func93 s93 hp rfl (by simp [Tryz.f93]) fun fr hlen h => ?_
 simp only [Has] at h
 obtain ⟨a0, -⟩ := h
 simp only [Tryz.f93] at hlen ⊢
 unfold g93
 generalize greatC c = g at *
 cases g with
 | true =>
  simp only [w9, simprocAttr, hlen, a0, n1, none_beq]
  simp only [Bool.true_or]
  exact Fin_pure (l := [.bool true]) (by simp [w9, hlen]) (.still rfl) (by simp)
 | false =>
  simp only [Bool.false_or]
  by_cases h1 : 97 ≤ c
  ·simp only [w9, simprocAttr, hlen, a0, n1, h1]
   simp only [Bool.true_and]
   exact Fin_pure (l := [.bool (decide (c ≤ 122))]) (by simp [w9, hlen]) (.still rfl) (by simp)
  ·simp only [w9, simprocAttr, hlen, a0, n1, h1]
   simp only [Bool.false_and]
   exact Fin_pure (l := [.bool false]) (by simp [w9, hlen]) (.still rfl) (by simp)
open Go Go.Abs AbsSeat Ty
def g145 : Code := .seq (mG 0 #[q 2 (.assign (mI false)) 4]) (.seq (mG 1 #[mA 3 0 5, q 4 (cl 93 #[.tmp 3] #[5]) 4, mA 5 4 4, qg 6 (.move (.tmp 0)) 5 2 false, qg 7 (cl 62 #[.tmp 6] #[5]) 4 2 false, q 8 (.pick (.tmp 5) (mI true) (.tmp 7)) 4, mB 2 8 4]) .ret)
def s145 := sL Tryz.f145 g145 (by kernel_rfl)
def g143 : Code := .seq (mG 0 #[q 2 (.assign (mI false)) 4]) (.seq (mG 1 #[mA 3 0 5, q 4 (cl 145 #[.tmp 3] #[5]) 4, mA 5 4 4, qg 6 (.move (.tmp 0)) 5 2 false, qg 7 (.binOp .eql 5 (.tmp 6) (.const (.int .u8 43)) 5) 4 2 false, q 8 (.pick (.tmp 5) (mI true) (.tmp 7)) 4, mA 9 8 4, qg 10 (.move (.tmp 0)) 5 6 false, qg 11 (.binOp .eql 5 (.tmp 10) (.const (.int .u8 45)) 5) 4 6 false, q 12 (.pick (.tmp 9) (mI true) (.tmp 11)) 4, mA 13 12 4, qg 14 (.move (.tmp 0)) 5 10 false, qg 15 (.binOp .eql 5 (.tmp 14) (.const (.int .u8 46)) 5) 4 10 false, q 16 (.pick (.tmp 13) (mI true) (.tmp 15)) 4, mB 2 16 4]) .ret)
def s143 := sL Tryz.f143 g143 (by kernel_rfl)
def g109 : Code := .seq (mG 0 #[q 2 (.assign (mI false)) 4]) (.seq (.seq (mG 1 #[mA 3 0 5]) (.block 0 (.seq (.block 2 (.block 1 (.seq (.seq (.seq (.seq (mG 2 #[mF 5 .eql 5 3 (.const (.int .u8 10)) 5 4, mB 4 5 4]) (.cond (.tmp 4) .skip (mG 3 #[mF 6 .eql 5 3 (.const (.int .u8 13)) 5 4, mB 4 6 4]))) (.cond (.tmp 4) (.exit 1) .skip)) (.seq (.seq (mG 4 #[mF 8 .eql 5 3 (.const (.int .u8 32)) 5 4, mB 7 8 4]) (.cond (.tmp 7) .skip (mG 5 #[mF 9 .eql 5 3 (.const (.int .u8 9)) 5 4, mB 7 9 4]))) (.cond (.tmp 7) (.exit 2) .skip))) (.exit 0)))) (.seq (.seq (mG 6 #[q 2 (.assign (mI true)) 4]) .ret) (.exit 0))))) (.seq (mG 7 #[q 2 (.assign (mI false)) 4]) .ret))
def s109 := sL Tryz.f109 g109 (by kernel_rfl)
def g108 : Code := .seq (mG 0 #[q 6 (.assign (ik 0)) 3]) (.seq (.block 0 (.loop (.seq (.seq (mG 1 #[mA 7 1 3, mA 8 0 9, q 9 (bi .len #[.tmp 8] #[9]) 3, mF 10 .lss 3 7 (.tmp 9) 3 4, mA 11 10 4, qg 12 (.move (.tmp 2)) 110 4 true, qg 13 (.move (.tmp 0)) 9 4 true, qg 14 (.move (.tmp 1)) 3 4 true, qg 15 (.index 9 (.tmp 13) (.tmp 14)) 5 4 true, qg 16 (cv (.tmp 12) #[.tmp 15] #[5]) 4 4 true, q 17 (.pick (.tmp 11) (.tmp 16) (mI false)) 4]) (.cond (.tmp 17) .skip (.exit 0))) (.block 1 (mG 2 #[mA 18 1 3, mF 19 .add 3 18 (ik 1) 3 3, mB 1 19 3]))))) (.seq (mG 3 #[mA 20 1 3, mB 6 20 3]) .ret))
def s108 := sL Tryz.f108 g108 (by kernel_rfl)
def wordyC (c : Int) : Bool := letterC c || digitC c
theorem wordy_ok (c : Int) (prot : Nat) (H : Heap) (hp : prot ≤ H.length) : aLim cfg prot 145 [.int .u8 c] H = some (.bool (wordyC c), none) := by
 have n1 := letter_ok c H.length H (Nat.le_refl _)
 have n2 := digit_ok c H.length H (Nat.le_refl _)
 unfold wordyC
 refine pure_slim rfl (by kernel_rfl) Tryz.func145 s145 hp rfl (by simp [Tryz.f145]) fun fr hlen h => ?_
 simp only [Has] at h
 obtain ⟨a0, -⟩ := h
 simp only [Tryz.f145] at hlen ⊢
 unfold g145
 generalize letterC c = g at *
 cases g with
 | true =>
  simp only [w9, simprocAttr, hlen, a0, n1]
  simp only [Bool.true_or]
  exact Fin_pure (l := [.bool true]) (by simp [w9, hlen]) (.still rfl) (by simp)
 | false =>
  simp only [w9, simprocAttr, hlen, a0, n1, n2]
  simp only [Bool.false_or]
  exact Fin_pure (l := [.bool (digitC c)]) (by simp [w9, hlen]) (.still rfl) (by simp)
def numericC (c : Int) : Bool := wordyC c || decide (c = 43) || decide (c = 45) || decide (c = 46)
theorem i1310 : ((13 : Int) = 10) = False := by simp
theorem i3210 : ((32 : Int) = 10) = False := by simp
theorem i3213 : ((32 : Int) = 13) = False := by simp
theorem i910 : ((9 : Int) = 10) = False := by simp
theorem i913 : ((9 : Int) = 13) = False := by simp
theorem i932 : ((9 : Int) = 32) = False := by simp
theorem numeric_ok (c : Int) (prot : Nat) (H : Heap) (hp : prot ≤ H.length) : aLim cfg prot 143 [.int .u8 c] H = some (.bool (numericC c), none) := by
 have n1 := wordy_ok c H.length H (Nat.le_refl _)
 have hv : numericC c = (wordyC c || decide (c = 43) || decide (c = 45) || decide (c = 46)) := rfl
 refine pure_slim rfl (by kernel_rfl) Tryz.func143 s143 hp rfl (by simp [Tryz.f143]) fun fr hlen h => ?_
 simp only [Has] at h
 obtain ⟨a0, -⟩ := h
 simp only [Tryz.f143] at hlen ⊢
 unfold g143
 generalize wordyC c = g at *
 generalize numericC c = v at *
 cases g with
 | true =>
  rw [hv, Bool.true_or, Bool.true_or, Bool.true_or]
  simp only [w9, simprocAttr, hlen, a0, n1]
  exact Fin_pure (l := [.bool true]) (by simp [w9, hlen]) (.still rfl) (by simp)
 | false =>
  by_cases h1 : c = 43
  ·rw [show v = true by simp [hv, h1]]
   have d1 : decide (c = 43) = true := by simp [h1]
   simp only [w9, simprocAttr, hlen, a0, n1, d1]
   exact Fin_pure (l := [.bool true]) (by simp [w9, hlen]) (.still rfl) (by simp)
  ·by_cases h2 : c = 45
   ·rw [show v = true by simp [hv, h2]]
    have d1 : decide (c = 43) = false := by simp [h1]
    have d2 : decide (c = 45) = true := by simp [h2]
    simp only [w9, simprocAttr, hlen, a0, n1, d1, d2]
    exact Fin_pure (l := [.bool true]) (by simp [w9, hlen]) (.still rfl) (by simp)
   ·rw [show v = decide (c = 46) by simp [hv, h1, h2]]
    simp only [w9, simprocAttr, hlen, a0, n1, h1, h2]
    exact Fin_pure (l := [.bool (decide (c = 46))]) (by simp [w9, hlen]) (.still rfl) (by simp)
def blankC (c : Int) : Bool := decide (c = 10) || decide (c = 13) || decide (c = 32) || decide (c = 9)
theorem blank_ok (c : Int) (prot : Nat) (H : Heap) (hp : prot ≤ H.length) : aLim cfg prot 109 [.int .u8 c] H = some (.bool (blankC c), none) := by
 refine pure_slim rfl (by kernel_rfl) Tryz.func109 s109 hp rfl (by simp [Tryz.f109]) fun fr hlen h => ?_
 simp only [Has] at h
 obtain ⟨a0, -⟩ := h
 simp only [Tryz.f109] at hlen ⊢
 unfold g109
 by_cases h1 : c = 10
 ·rw [show blankC c = true by simp [blankC, h1]]
  simp only [w9, simprocAttr, hlen, a0, h1]
  exact Fin_pure (l := [.bool true]) (by simp [w9, hlen]) (.still rfl) (by simp)
 ·by_cases h2 : c = 13
  ·rw [show blankC c = true by simp [blankC, h2]]
   simp only [w9, simprocAttr, hlen, a0, h2, i1310]
   exact Fin_pure (l := [.bool true]) (by simp [w9, hlen]) (.still rfl) (by simp)
  ·by_cases h3 : c = 32
   ·rw [show blankC c = true by simp [blankC, h3]]
    simp only [w9, simprocAttr, hlen, a0, h3, i3210, i3213]
    exact Fin_pure (l := [.bool true]) (by simp [w9, hlen]) (.still rfl) (by simp)
   ·by_cases h4 : c = 9
    ·rw [show blankC c = true by simp [blankC, h4]]
     simp only [w9, simprocAttr, hlen, a0, h4, i910, i913, i932]
     exact Fin_pure (l := [.bool true]) (by simp [w9, hlen]) (.still rfl) (by simp)
    ·rw [show blankC c = false by simp [blankC, h1, h2, h3, h4]]
     simp only [w9, simprocAttr, hlen, a0, h1, h2, h3, h4]
     exact Fin_pure (l := [.bool false]) (by simp [w9, hlen]) (.still rfl) (by simp)
def runS (p : Int → Bool) : List UInt8 → Nat
 | [] => 0
 | c :: r => if p c.toNat then runS p r + 1 else 0
theorem runS_le (p : Int → Bool) : ∀ l : List UInt8, runS p l ≤ l.length
 | [] => Nat.le_refl _
 | c :: r => by have := runS_le p r; simp only [runS, List.length_cons]; split <;> omega
theorem run_ok (f : Nat) (p : Int → Bool) (hf : ∀ (c : Int) (prot : Nat) (H : Heap), prot ≤ H.length → aLim cfg prot f [.int .u8 c] H = some (.bool (p c), none)) (s : List UInt8) (hl : s.length < 1000000000000000000) (k : Nat) (hk : k ≤ s.length)
  (prot : Nat) (H : Heap) (hp : prot ≤ H.length) : aLim cfg prot 108 [.str s, .int .i64 k, .func f [] []] H = some (.int .i64 (k + runS p (s.drop k) : Nat), none) := by
 have hls : ∀ K, aLen Tryz.prog K 9 (.str s) = some (.int .i64 s.length) := fun K => str_len Tryz.underlying9 s K
 refine pure_slim rfl (by kernel_rfl) Tryz.func108 s108 hp rfl (by simp [Tryz.f108]) fun fr hlen h => ?_
 simp only [Has, Nat.zero_add] at h
 obtain ⟨a0, a1, a2, -⟩ := h
 simp only [Tryz.f108] at hlen ⊢
 unfold g108
 simp only [w9, simprocAttr]
 refine loop_rule (fun m fr K => ∃ (i : Nat), m = s.length - i ∧ i ≤ s.length ∧ fr.length = 21 ∧ fget fr 0 = .str s ∧ fget fr 1 = .int .i64 i ∧ fget fr 2 = .func f [] [] ∧ K = H ∧ k + runS p (s.drop k) = i + runS p (s.drop i)) ?_ (s.length - k) _ _ ⟨k, by simp [w9, hlen, a0, a1, a2, hk]⟩
 rintro m fr K ⟨i, rfl, hi, hlen, a0, a1, a2, rfl, hc⟩ ih
 by_cases hlt : i < s.length
 ·have e1 := str_at (k := .i64) Tryz.underlying9 s hlt
  have hd : s.drop i = s[i] :: s.drop (i + 1) := List.drop_eq_getElem_cons hlt
  have hli : (i : Int) < (s.length : Nat) := by omega
  have n1 := hf (s[i].toNat : Int) K.length K (Nat.le_refl _)
  rw [hd, runS] at hc
  have hww : IntKind.i64.wrap ((i : Int) + 1) = ((i + 1 : Nat) : Int) := by rw [wrap64 (by omega) (by omega)]; simp
  cases hb : p s[i].toNat with
  | true =>
   rw [hb] at n1
   simp only [w9, simprocAttr, hlen, a0, a1, a2, hls, hli, e1, n1, hww]
   refine ih _ _ (s.length - (i + 1)) (by omega) ⟨i + 1, rfl, by omega, ?_⟩
   rw [hb, if_pos rfl] at hc
   rw [hc]
   simp [w9, hlen, a0, a2]
   omega
  | false =>
   rw [hb] at n1 hc
   simp only [Bool.false_eq_true, if_false, Nat.add_zero] at hc
   rw [hc]
   simp only [w9, simprocAttr, hlen, a0, a1, a2, hls, hli, e1, n1]
   exact Fin_pure (l := [.int .i64 i]) (by simp [w9, hlen]) (.still rfl) (by simp)
 ·have hnl : ¬ ((i : Int) < (s.length : Nat)) := by omega
  have hd : s.drop i = [] := by simp; omega
  rw [hd, runS] at hc
  rw [hc, Nat.add_zero]
  simp only [w9, simprocAttr, hlen, a0, a1, hls, hnl]
  exact Fin_pure (l := [.int .i64 i]) (by simp [w9, hlen]) (.still rfl) (by simp)
open Go Go.Abs AbsSeat Ty
def u204 := an (fun (K : Heap) (n : Int) => conv_int Tryz.underlying5 Tryz.underlying3 K n) (an (fun (K : Heap) (n : Int) => conv_int Tryz.underlying3 Tryz.underlying21 K n) (an ag3 (an sz3 (an by3 (an ze3 (an Tryz.underlying3 (an ag5 (an sz5 (an by5 (an ze5 (an Tryz.underlying5 (an ag9 (an sz9 (an by9 (an ze9 (an Tryz.underlying9 (an ag21 (an sz21 (an by21 (an ze21 (an Tryz.underlying21 (an ag28 (an sz28 (an by28 (an ze28 Tryz.underlying28)))))))))))))))))))))))))
def g204 : Code := .seq (mG 0 #[q 2 (.assign (ik 0)) 3]) (.seq (mG 1 #[q 3 (.assign (ik 0)) 3]) (.seq (.block 0 (.seq (.block 3 (.seq (.block 2 (.seq (.block 1 (.seq (.seq (.seq (mG 2 #[mA 5 0 5, mF 6 .geq 5 5 (.const (.int .u8 65)) 5 4, mA 7 6 4, qg 8 (.move (.tmp 0)) 5 2 true, qg 9 (.binOp .leq 5 (.tmp 8) (.const (.int .u8 70)) 5) 4 2 true, q 10 (.pick (.tmp 7) (.tmp 9) (mI false)) 4, mB 4 10 4]) (.cond (.tmp 4) (.exit 1) .skip)) (.seq (.seq (mG 3 #[mA 12 0 5, mF 13 .geq 5 12 (.const (.int .u8 97)) 5 4, mA 14 13 4, qg 15 (.move (.tmp 0)) 5 2 true, qg 16 (.binOp .leq 5 (.tmp 15) (.const (.int .u8 102)) 5) 4 2 true, q 17 (.pick (.tmp 14) (.tmp 16) (mI false)) 4, mB 11 17 4]) (.cond (.tmp 11) (.exit 2) .skip)) (.seq (mG 4 #[mA 19 0 5, q 20 (cl 62 #[.tmp 19] #[5]) 4, mB 18 20 4]) (.cond (.tmp 18) (.exit 3) .skip)))) (.exit 0))) (mG 5 #[mA 21 0 5, mF 22 .add 5 21 (.const (.int .u8 32)) 5 5, mB 0 22 5]))) (.seq (mG 6 #[q 3 (.assign (ik 10)) 3]) (mG 7 #[mA 23 0 5, mF 24 .sub 5 23 (.const (.int .u8 49)) 5 5, mB 0 24 5])))) (.seq (.seq (mG 8 #[mA 25 3 3, mA 26 0 5, mF 27 .sub 5 26 (.const (.int .u8 48)) 5 5, q 28 (.convert 5 3 (.tmp 27)) 3, mF 29 .add 3 25 (.tmp 28) 3 3, mB 2 29 3]) .ret) (.exit 0)))) (.seq (mG 9 #[q 2 (.assign (ik (-1))) 3]) .ret)))
def s204 := sL Tryz.f204 g204 (by kernel_rfl)
def g196 : Code := .seq (mG 0 #[q 2 (.assign (ik 0)) 3, q 3 (.assign (ik 0)) 28]) (.seq (mG 1 #[q 4 (.assign (ik 0)) 3, q 5 (.assign (mI false)) 4]) (.seq (.seq (mG 2 #[mA 8 0 9, q 9 (bi .len #[.tmp 8] #[9]) 3, q 10 (.move (ik 0)) 3]) (.block 0 (.loop (.seq (mG 3 #[mF 11 .lss 3 10 (.tmp 9) 3 4]) (.seq (.cond (.tmp 11) .skip (.exit 0)) (.seq (.block 1 (.seq (mG 4 #[mA 12 10 3, mB 6 12 3]) (.seq (mG 5 #[mA 13 0 9, mA 14 6 3, q 15 (.index 9 (.tmp 13) (.tmp 14)) 5, q 16 (cl 204 #[.tmp 15] #[5]) 3, mB 7 16 3]) (.seq (.seq (mG 6 #[mA 17 7 3, mF 18 .lss 3 17 (ik 0) 3 4]) (.cond (.tmp 18) (.seq (mG 7 #[q 2 (.assign (ik 0)) 3, q 3 (.assign (ik 3)) 28]) .ret) .skip)) (.seq (mG 8 #[mA 19 5 4, mA 20 19 4, qg 21 (.move (.tmp 4)) 3 1 false, qg 22 (.move (.tmp 7)) 3 1 false, qg 23 (.binOp .sub 3 (ik 2147483647) (.tmp 22) 3) 3 1 false, qg 24 (.binOp .quo 3 (.tmp 23) (ik 16) 3) 3 1 false, qg 25 (.binOp .gtr 3 (.tmp 21) (.tmp 24) 3) 4 1 false, q 26 (.pick (.tmp 20) (mI true) (.tmp 25)) 4, mB 5 26 4]) (.seq (mG 9 #[mA 27 5 4, q 28 (.unOp .not 4 (.tmp 27)) 4]) (.cond (.tmp 28) (mG 10 #[mA 29 4 3, mF 30 .mul 3 29 (ik 16) 3 3, mA 31 7 3, mF 32 .add 3 30 (.tmp 31) 3 3, mB 4 32 3]) .skip))))))) (mG 11 #[mF 33 .add 3 10 (ik 1) 3 3, mA 10 33 3]))))))) (.seq (.block 2 (.seq (mG 12 #[mA 35 0 9, mF 36 .eql 9 35 mH 9 4, mB 34 36 4]) (.cond (.tmp 34) (.seq (mG 13 #[q 2 (.assign (ik 0)) 3, q 3 (.assign (ik 3)) 28]) .ret) (.seq (mG 14 #[mA 38 5 4, mB 37 38 4]) (.cond (.tmp 37) (.seq (mG 15 #[q 2 (.assign (ik 0)) 3, q 3 (.assign (ik 5)) 28]) .ret) .skip))))) (.seq (mG 16 #[mA 39 4 3, mB 2 39 3, q 3 (.assign (ik 0)) 28]) .ret))))
def s196 := sL Tryz.f196 g196 (by kernel_rfl)
def g190 : Code := .seq (mG 0 #[q 4 (.assign (.const (.int .i32 0))) 21, q 5 (.assign (mI false)) 4]) (.seq (.seq (mG 1 #[mA 8 0 9, q 9 (bi .len #[.tmp 8] #[9]) 3, mA 10 1 3, mF 11 .sub 3 9 (.tmp 10) 3 3, mF 12 .lss 3 11 (ik 4) 3 4]) (.cond (.tmp 12) (.seq (mG 2 #[q 4 (.assign (.const (.int .i32 0))) 21, q 5 (.assign (mI false)) 4]) .ret) .skip)) (.seq (mG 3 #[mA 14 0 9, mA 15 1 3, mA 16 1 3, mF 17 .add 3 16 (ik 4) 3 3, q 18 (.slice 9 (.tmp 14) (some (.tmp 15)) (some (.tmp 17)) none) 9, q 19 (cl 196 #[.tmp 18] #[9]) 286, mA 13 19 286, mE 20 13 0 3, mE 21 13 1 28, mB 6 20 3, mB 7 21 28]) (.seq (mG 4 #[mA 22 6 3, q 23 (.convert 3 21 (.tmp 22)) 21, mA 24 7 28, mF 25 .eql 28 24 (ik 0) 28 4, mB 4 23 21, mB 5 25 4]) .ret)))
def s190 := sL Tryz.f190 g190 (by kernel_rfl)
def hexC (c : Int) : Int := if 65 ≤ c ∧ c ≤ 70 then c - 55 else if 97 ≤ c ∧ c ≤ 102 then c - 87 else if 48 ≤ c ∧ c ≤ 57 then c - 48 else -1
theorem wrap8 {n : Int} (h0 : 0 ≤ n) (h1 : n < 256) : IntKind.u8.wrap n = n := by
 simp only [IntKind.wrap, IntKind.signed, IntKind.bits]; simp; omega
theorem hex_ok (c : Int) (hc0 : 0 ≤ c) (hc1 : c < 256) (prot : Nat) (H : Heap) (hp : prot ≤ H.length) : aLim cfg prot 204 [.int .u8 c] H = some (.int .i64 (hexC c), none) := by
 have n1 := digit_ok c H.length H (Nat.le_refl _)
 refine pure_slim rfl (by kernel_rfl) Tryz.func204 s204 hp rfl (by simp [Tryz.f204]) fun fr hlen h => ?_
 simp only [Has] at h
 obtain ⟨a0, -⟩ := h
 simp only [Tryz.f204] at hlen ⊢
 unfold g204
 by_cases h1 : 65 ≤ c ∧ c ≤ 70
 ·obtain ⟨h1, h2⟩ := h1
  rw [show hexC c = c - 55 by simp [hexC, h1, h2]]
  have w1 : IntKind.u8.wrap (c + 32) = c + 32 := wrap8 (by omega) (by omega)
  have w2 : IntKind.u8.wrap (c + 32 - 49) = c - 17 := by rw [wrap8 (by omega) (by omega)]; omega
  have w3 : IntKind.u8.wrap (c - 17 - 48) = c - 65 := by rw [wrap8 (by omega) (by omega)]; omega
  have w4 : IntKind.i64.wrap (c - 65) = c - 65 := by rw [wrap64 (by omega) (by omega)]
  have w5 : IntKind.i64.wrap (10 + (c - 65)) = c - 55 := by rw [wrap64 (by omega) (by omega)]; omega
  simp only [w9, simprocAttr, u204, hlen, a0, h1, h2, w1, w2, w3, w4, w5]
  exact Fin_pure (l := [.int .i64 (c - 55)]) (by simp [w9, hlen]) (.still rfl) (by simp)
 ·by_cases h2 : 97 ≤ c ∧ c ≤ 102
  ·obtain ⟨h3, h4⟩ := h2
   rw [show hexC c = c - 87 by unfold hexC; rw [if_neg h1, if_pos ⟨h3, h4⟩]]
   have h5 : 65 ≤ c := by omega
   have h6 : ¬ c ≤ 70 := by omega
   have w2 : IntKind.u8.wrap (c - 49) = c - 49 := wrap8 (by omega) (by omega)
   have w3 : IntKind.u8.wrap (c - 49 - 48) = c - 97 := by rw [wrap8 (by omega) (by omega)]; omega
   have w4 : IntKind.i64.wrap (c - 97) = c - 97 := by rw [wrap64 (by omega) (by omega)]
   have w5 : IntKind.i64.wrap (10 + (c - 97)) = c - 87 := by rw [wrap64 (by omega) (by omega)]; omega
   simp only [w9, simprocAttr, u204, hlen, a0, h3, h4, h5, h6, w2, w3, w4, w5]
   exact Fin_pure (l := [.int .i64 (c - 87)]) (by simp [w9, hlen]) (.still rfl) (by simp)
  ·have hd1 : decide (65 ≤ c) = false ∨ decide (65 ≤ c) = true ∧ decide (c ≤ 70) = false := by
    by_cases h : 65 ≤ c
    ·right; simp; omega
    ·left; simpa using h
   have hd2 : decide (97 ≤ c) = false ∨ decide (97 ≤ c) = true ∧ decide (c ≤ 102) = false := by
    by_cases h : 97 ≤ c
    ·right; simp; omega
    ·left; simpa using h
   by_cases h3 : 48 ≤ c ∧ c ≤ 57
   ·rw [show hexC c = c - 48 by unfold hexC; rw [if_neg h1, if_neg h2, if_pos h3]]
    have hdg : digitC c = true := by simp [digitC, h3]
    rw [hdg] at n1
    have w3 : IntKind.u8.wrap (c - 48) = c - 48 := wrap8 (by omega) (by omega)
    have w4 : IntKind.i64.wrap (c - 48) = c - 48 := by rw [wrap64 (by omega) (by omega)]
    have w5 : IntKind.i64.wrap (0 + (c - 48)) = c - 48 := by rw [wrap64 (by omega) (by omega)]; omega
    rcases hd1 with d1 | ⟨d1, d2⟩ <;> rcases hd2 with d3 | ⟨d3, d4⟩
    ·simp only [w9, simprocAttr, u204, hlen, a0, d1, d3, n1, w3, w4, w5]
     exact Fin_pure (l := [.int .i64 (c - 48)]) (by simp [w9, hlen]) (.still rfl) (by simp)
    ·simp only [w9, simprocAttr, u204, hlen, a0, d1, d3, d4, n1, w3, w4, w5]
     exact Fin_pure (l := [.int .i64 (c - 48)]) (by simp [w9, hlen]) (.still rfl) (by simp)
    ·simp only [w9, simprocAttr, u204, hlen, a0, d1, d2, d3, n1, w3, w4, w5]
     exact Fin_pure (l := [.int .i64 (c - 48)]) (by simp [w9, hlen]) (.still rfl) (by simp)
    ·simp only [w9, simprocAttr, u204, hlen, a0, d1, d2, d3, d4, n1, w3, w4, w5]
     exact Fin_pure (l := [.int .i64 (c - 48)]) (by simp [w9, hlen]) (.still rfl) (by simp)
   ·rw [show hexC c = -1 by unfold hexC; rw [if_neg h1, if_neg h2, if_neg h3]]
    have hdg : digitC c = false := by
     by_cases h : 48 ≤ c
     ·have : ¬ c ≤ 57 := by omega
      simp [digitC, this]
     ·simp [digitC, h]
    rw [hdg] at n1
    rcases hd1 with d1 | ⟨d1, d2⟩ <;> rcases hd2 with d3 | ⟨d3, d4⟩
    ·simp only [w9, simprocAttr, hlen, a0, d1, d3, n1]
     exact Fin_pure (l := [.int .i64 (-1)]) (by simp [w9, hlen]) (.still rfl) (by simp)
    ·simp only [w9, simprocAttr, hlen, a0, d1, d3, d4, n1]
     exact Fin_pure (l := [.int .i64 (-1)]) (by simp [w9, hlen]) (.still rfl) (by simp)
    ·simp only [w9, simprocAttr, hlen, a0, d1, d2, d3, n1]
     exact Fin_pure (l := [.int .i64 (-1)]) (by simp [w9, hlen]) (.still rfl) (by simp)
    ·simp only [w9, simprocAttr, hlen, a0, d1, d2, d3, d4, n1]
     exact Fin_pure (l := [.int .i64 (-1)]) (by simp [w9, hlen]) (.still rfl) (by simp)
theorem hexC_le (c : Int) : hexC c ≤ 15 := by unfold hexC; split <;> (try split) <;> (try split) <;> omega
theorem hexC_ge (c : Int) : -1 ≤ hexC c := by unfold hexC; split <;> (try split) <;> (try split) <;> omega
def hexV : List UInt8 → Nat → Option Nat
 | [], v => some v
 | c :: r, v => if hexC c.toNat < 0 then none else hexV r (v * 16 + (hexC c.toNat).toNat)
theorem hexV_lt : ∀ (l : List UInt8) (v w : Nat), hexV l v = some w → w < (v + 1) * 16 ^ l.length
 | [], v, w, h => by simp only [hexV, Option.some.injEq] at h; subst h; simp
 | c :: r, v, w, h => by
  simp only [hexV] at h
  split at h
  ·cases h
  ·have h1 := hexV_lt r _ w h
   have h2 := hexC_le c.toNat
   have h3 : v * 16 + (hexC c.toNat).toNat + 1 ≤ (v + 1) * 16 := by omega
   have h4 := Nat.mul_le_mul_right (16 ^ r.length) h3
   simp only [List.length_cons, Nat.pow_succ]
   calc w < _ := h1
    _ ≤ _ := h4
    _ = _ := by rw [Nat.mul_assoc, Nat.mul_comm 16]
def hexR : Option Nat → AV
 | none => .tup [.int .i64 0, .int .i64 3]
 | some v => .tup [.int .i64 v, .int .i64 0]
theorem Hex_ok (s : List UInt8) (hs : s.length = 4) (prot : Nat) (H : Heap) (hp : prot ≤ H.length) : aLim cfg prot 196 [.str s] H = some (hexR (hexV s 0), none) := by
 have hls : ∀ K, aLen Tryz.prog K 9 (.str s) = some (.int .i64 4) := fun K => by rw [str_len Tryz.underlying9 s K, hs]; rfl
 have hfz : ∀ (K : Heap) (x y : AV), still x = true → still y = true → Frz K H.length (packR [x, y]) (.tup [x, y]) := fun K x y h1 h2 => .tup (.cons (.still h1) (.cons (.still h2) .nil))
 refine pure_slim rfl (by kernel_rfl) Tryz.func196 s196 hp rfl (by simp [Tryz.f196]) fun fr hlen h => ?_
 simp only [Has] at h
 obtain ⟨a0, -⟩ := h
 simp only [Tryz.f196] at hlen ⊢
 unfold g196
 simp only [w9, simprocAttr, hlen, a0, hls]
 refine loop_rule (fun m fr K => ∃ (i v : Nat), m = 4 - i ∧ i ≤ 4 ∧ fr.length = 40 ∧ fget fr 0 = .str s ∧ fget fr 4 = .int .i64 v ∧ fget fr 5 = .bool false ∧ fget fr 9 = .int .i64 4 ∧ fget fr 10 = .int .i64 i ∧ K = H ∧ v < 16 ^ i ∧ hexV s 0 = hexV (s.drop i) v) ?_ 4 _ _ ⟨0, 0, by simp [w9, hlen, a0]⟩
 rintro m fr K ⟨i, v, rfl, hi, hlen, a0, a4, a5, a9, a10, rfl, hv, hc⟩ ih
 by_cases hlt : i < 4
 ·have hlt' : i < s.length := by omega
  have e1 := str_at (k := .i64) Tryz.underlying9 s hlt'
  have hd : s.drop i = s[i] :: s.drop (i + 1) := List.drop_eq_getElem_cons hlt'
  have hli : (i : Int) < 4 := by omega
  have hu8 : s[i].toNat < 256 := s[i].toNat_lt
  have n1 := hex_ok (s[i].toNat : Int) (by omega) (by omega) K.length K (Nat.le_refl _)
  have hh1 := hexC_le (s[i].toNat : Int)
  have hh2 := hexC_ge (s[i].toNat : Int)
  rw [hd, hexV] at hc
  generalize hexC (s[i].toNat : Int) = d at *
  have hww : IntKind.i64.wrap ((i : Int) + 1) = ((i + 1 : Nat) : Int) := by rw [wrap64 (by omega) (by omega)]; simp
  by_cases hd0 : d < 0
  ·rw [if_pos hd0] at hc
   rw [hc, hexR]
   simp only [w9, simprocAttr, hlen, a0, a9, a10, hli, e1, n1, hd0]
   exact Fin_pure (l := [.int .i64 0, .int .i64 3]) (by simp [w9, hlen]) (hfz _ _ _ rfl rfl) (by simp)
  ·rw [if_neg hd0] at hc
   have hv16 : v < 4096 := Nat.lt_of_lt_of_le hv (by
    have : (16 : Nat) ^ i ≤ 16 ^ 3 := Nat.pow_le_pow_right (by omega) (by omega)
    simpa using this)
   have w1 : IntKind.i64.wrap (2147483647 - d) = 2147483647 - d := by rw [wrap64 (by omega) (by omega)]
   have hq : (2147483647 - d).tdiv 16 = (2147483647 - d) / 16 := Int.tdiv_eq_ediv_of_nonneg (by omega)
   have w2 : IntKind.i64.wrap ((2147483647 - d).tdiv 16) = (2147483647 - d) / 16 := by rw [hq, wrap64 (by omega) (by omega)]
   have w3 : ¬ ((2147483647 - d) / 16 < (v : Int)) := by omega
   have w4 : IntKind.i64.wrap ((v : Int) * 16) = v * 16 := by rw [wrap64 (by omega) (by omega)]
   have w5 : IntKind.i64.wrap ((v : Int) * 16 + d) = ((v * 16 + d.toNat : Nat) : Int) := by rw [wrap64 (by omega) (by omega)]; omega
   have q1 := fun (t : TypeId) (xo yo : Operand) (a : Int) => bin_quo (P := Tryz.prog) (t := t) (xo := xo) (yo := yo) (k := .i64) (a := a) (b := 16) (by decide)
   simp only [w9, simprocAttr, hlen, a0, a4, a5, a9, a10, hli, e1, n1, hd0, w1, q1, w2, w3, w4, w5, hww]
   refine ih _ _ (4 - (i + 1)) (by omega) ⟨i + 1, v * 16 + d.toNat, rfl, by omega, ?_⟩
   rw [hc]
   simp [w9, hlen, a0, a9]
   rw [Nat.pow_succ]
   omega
 ·have hnl : ¬ ((i : Int) < 4) := by omega
  have hd : s.drop i = [] := by simp; omega
  rw [hd, hexV] at hc
  rw [hc, hexR]
  have hse : (s == []) = false := by cases s with
   | nil => simp at hs
   | cons a r => rfl
  simp only [w9, simprocAttr, hlen, a0, a4, a5, a9, a10, hnl, str_eql, hse]
  exact Fin_pure (l := [.int .i64 v, .int .i64 0]) (by simp [w9, hlen]) (hfz _ _ _ rfl rfl) (by simp)
def fourS (r : List UInt8) : Option Nat := if r.length < 4 then none else hexV (r.take 4) 0
def fourR : Option Nat → AV
 | none => .tup [.int .i32 0, .bool false]
 | some v => .tup [.int .i32 v, .bool true]
theorem wrap32 {n : Int} (h0 : 0 ≤ n) (h1 : n < 2147483648) : IntKind.i32.wrap n = n := by
 simp only [IntKind.wrap, IntKind.signed, IntKind.bits]; simp; omega
theorem four_ok (s : List UInt8) (hl : s.length < 1000000000000000000) (k : Nat) (hk : k ≤ s.length) (prot : Nat) (H : Heap) (hp : prot ≤ H.length) : aLim cfg prot 190 [.str s, .int .i64 k] H = some (fourR (fourS (s.drop k)), none) := by
 have hls : ∀ K, aLen Tryz.prog K 9 (.str s) = some (.int .i64 s.length) := fun K => str_len Tryz.underlying9 s K
 have hfz : ∀ (K : Heap) (x y : AV), still x = true → still y = true → Frz K H.length (packR [x, y]) (.tup [x, y]) := fun K x y h1 h2 => .tup (.cons (.still h1) (.cons (.still h2) .nil))
 have w1 : IntKind.i64.wrap ((s.length : Int) - k) = ((s.length : Int) - k) := by rw [wrap64 (by omega) (by omega)]
 have w2 : IntKind.i64.wrap ((k : Int) + 4) = ((k + 4 : Nat) : Int) := by rw [wrap64 (by omega) (by omega)]; simp
 refine pure_slim rfl (by kernel_rfl) Tryz.func190 s190 hp rfl (by simp [Tryz.f190]) fun fr hlen h => ?_
 simp only [Has, Nat.zero_add] at h
 obtain ⟨a0, a1, -⟩ := h
 simp only [Tryz.f190] at hlen ⊢
 unfold g190
 by_cases h4 : (s.length : Int) - k < 4
 ·have hd : fourS (s.drop k) = none := by unfold fourS; rw [if_pos (by simp; omega)]
  rw [hd, fourR]
  simp only [w9, simprocAttr, hlen, a0, a1, hls, w1, h4]
  exact Fin_pure (l := [.int .i32 0, .bool false]) (by simp [w9, hlen]) (hfz _ _ _ rfl rfl) (by simp)
 ·have hd : fourS (s.drop k) = hexV ((s.drop k).take 4) 0 := by unfold fourS; rw [if_neg (by simp; omega)]
  have e1 := str_mid (k := .i64) (k' := .i64) Tryz.underlying9 s (a := k) (b := k + 4) (by omega) (by omega)
  rw [show k + 4 - k = 4 by omega] at e1
  have n1 := Hex_ok ((s.drop k).take 4) (by simp; omega) H.length H (Nat.le_refl _)
  rw [hd]
  have hlt := hexV_lt ((s.drop k).take 4) 0
  generalize hexV ((s.drop k).take 4) 0 = o at *
  cases o with
  | none =>
   rw [hexR] at n1
   have w3 : IntKind.i32.wrap 0 = 0 := by rfl
   simp only [w9, simprocAttr, u204, hlen, a0, a1, hls, w1, h4, w2, e1, n1, w3]
   exact Fin_pure (l := [.int .i32 0, .bool false]) (by simp [w9, hlen]) (hfz _ _ _ rfl rfl) (by simp)
  | some v =>
   have hv := hlt v rfl
   rw [show ((s.drop k).take 4).length = 4 by simp; omega] at hv
   simp only [Nat.zero_add, Nat.one_mul] at hv
   have w3 : IntKind.i32.wrap v = v := wrap32 (by omega) (by omega)
   rw [hexR] at n1
   simp only [w9, simprocAttr, u204, hlen, a0, a1, hls, w1, h4, w2, e1, n1, w3]
   exact Fin_pure (l := [.int .i32 v, .bool true]) (by simp [w9, hlen]) (hfz _ _ _ rfl rfl) (by simp)
open Go Go.Abs AbsSeat Ty
def g78 : Code := .seq (mG 0 #[q 4 (.assign (mI false)) 4]) (.seq (mG 1 #[mA 5 0 9, mA 6 1 9, q 7 (cl 105 #[.tmp 5, .tmp 6] #[9, 9]) 4, mB 4 7 4]) .ret)
def s78 := sL Tryz.f78 g78 (by kernel_rfl)
def g105 : Code := .seq (mG 0 #[q 4 (.assign (mI false)) 4]) (.seq (mG 1 #[mA 5 0 9, q 6 (bi .len #[.tmp 5] #[9]) 3, mA 7 1 9, q 8 (bi .len #[.tmp 7] #[9]) 3, mF 9 .geq 3 6 (.tmp 8) 3 4, mA 10 9 4, qg 11 (.move (.tmp 0)) 9 5 true, qg 12 (.move (.tmp 1)) 9 5 true, qg 13 (bi .len #[.tmp 12] #[9]) 3 5 true, qg 14 (.slice 9 (.tmp 11) none (some (.tmp 13)) none) 9 5 true, qg 15 (.move (.tmp 1)) 9 5 true, qg 16 (.binOp .eql 9 (.tmp 14) (.tmp 15) 9) 4 5 true, q 17 (.pick (.tmp 10) (.tmp 16) (mI false)) 4, mB 4 17 4]) .ret)
def s105 := sL Tryz.f105 g105 (by kernel_rfl)
def g37 : Code := .seq (mG 0 #[q 4 (.assign mH) 9, q 5 (.assign (mI false)) 4]) (.seq (mG 1 #[mA 6 0 9, mA 7 1 9, q 8 (cl 69 #[.tmp 6, .tmp 7] #[9, 9]) 67, mE 9 8 0 9, mE 10 8 1 4, mB 4 9 9, mB 5 10 4]) .ret)
def s37 := sL Tryz.f37 g37 (by kernel_rfl)
def g69 : Code := .seq (mG 0 #[q 4 (.assign mH) 9, q 5 (.assign (mI false)) 4]) (.seq (.seq (mG 1 #[mA 6 0 9, mA 7 1 9, q 8 (cl 105 #[.tmp 6, .tmp 7] #[9, 9]) 4, q 9 (.unOp .not 4 (.tmp 8)) 4]) (.cond (.tmp 9) (.seq (mG 2 #[mA 10 0 9, mB 4 10 9, q 5 (.assign (mI false)) 4]) .ret) .skip)) (.seq (mG 3 #[mA 11 0 9, mA 12 1 9, q 13 (bi .len #[.tmp 12] #[9]) 3, q 14 (.slice 9 (.tmp 11) (some (.tmp 13)) none none) 9, mB 4 14 9, q 5 (.assign (mI true)) 4]) .ret))
def s69 := sL Tryz.f69 g69 (by kernel_rfl)
def hasPre (s p : List UInt8) : Bool := decide (p.length ≤ s.length) && (s.take p.length == p)
theorem hasPreL_ok (s p : List UInt8) (prot : Nat) (H : Heap) (hp : prot ≤ H.length) : aLim cfg prot 105 [.str s, .str p] H = some (.bool (hasPre s p), none) := by
 have hls : ∀ K s, aLen Tryz.prog K 9 (.str s) = some (.int .i64 s.length) := fun K s => str_len Tryz.underlying9 s K
 refine pure_slim rfl (by kernel_rfl) Tryz.func105 s105 hp rfl (by simp [Tryz.f105]) fun fr hlen h => ?_
 simp only [Has, Nat.zero_add] at h
 obtain ⟨a0, a1, -⟩ := h
 simp only [Tryz.f105] at hlen ⊢
 unfold g105
 by_cases h1 : (p.length : Int) ≤ s.length
 ·have e1 := str_upto (k := .i64) Tryz.underlying9 s (b := p.length) (by omega)
  rw [show hasPre s p = (s.take p.length == p) by unfold hasPre; rw [decide_eq_true (by omega)]; simp]
  simp only [w9, simprocAttr, hlen, a0, a1, hls, h1, e1, str_eql]
  exact Fin_pure (l := [.bool (s.take p.length == p)]) (by simp [w9, hlen]) (.still rfl) (by simp)
 ·rw [show hasPre s p = false by unfold hasPre; rw [decide_eq_false (by omega)]; simp]
  simp only [w9, simprocAttr, hlen, a0, a1, hls, h1]
  exact Fin_pure (l := [.bool false]) (by simp [w9, hlen]) (.still rfl) (by simp)
theorem hasPre_ok (s p : List UInt8) (prot : Nat) (H : Heap) (hp : prot ≤ H.length) : aLim cfg prot 78 [.str s, .str p] H = some (.bool (hasPre s p), none) := by
 have n1 := hasPreL_ok s p H.length H (Nat.le_refl _)
 refine pure_slim rfl (by kernel_rfl) Tryz.func78 s78 hp rfl (by simp [Tryz.f78]) fun fr hlen h => ?_
 simp only [Has, Nat.zero_add] at h
 obtain ⟨a0, a1, -⟩ := h
 simp only [Tryz.f78] at hlen ⊢
 unfold g78
 simp only [w9, simprocAttr, hlen, a0, a1, n1]
 exact Fin_pure (l := [.bool (hasPre s p)]) (by simp [w9, hlen]) (.still rfl) (by simp)
theorem slen (s : List UInt8) (K : Heap) : aLen Tryz.prog K 9 (.str s) = some (.int .i64 s.length) := str_len Tryz.underlying9 s K
theorem ff2 {K : Heap} {n : Nat} {x y : AV} (h1 : still x = true) (h2 : still y = true) : Frz K n (packR [x, y]) (.tup [x, y]) := .tup (.cons (.still h1) (.cons (.still h2) .nil))
theorem cutPreL_ok (s p : List UInt8) (prot : Nat) (H : Heap) (hp : prot ≤ H.length) :
  aLim cfg prot 69 [.str s, .str p] H = some (if hasPre s p then .tup [.str (s.drop p.length), .bool true] else .tup [.str s, .bool false], none) := by
 have n1 := hasPreL_ok s p H.length H (Nat.le_refl _)
 cases h : hasPre s p with
 | true =>
  rw [h] at n1
  have hl : p.length ≤ s.length := by
   simp only [hasPre, Bool.and_eq_true, decide_eq_true_eq] at h; exact h.1
  have e1 := str_from (k := .i64) Tryz.underlying9 s hl
  refine pure_slim rfl (by kernel_rfl) Tryz.func69 s69 hp rfl (by simp [Tryz.f69]) fun fr hlen h => ?_
  simp only [Has, Nat.zero_add] at h
  obtain ⟨a0, a1, -⟩ := h
  simp only [Tryz.f69] at hlen ⊢
  unfold g69
  simp only [w9, simprocAttr, hlen, a0, a1, n1, slen, e1]
  exact Fin_pure (l := [.str (s.drop p.length), .bool true]) (by simp [w9, hlen]) (ff2 rfl rfl) (by simp)
 | false =>
  rw [h] at n1
  refine pure_slim rfl (by kernel_rfl) Tryz.func69 s69 hp rfl (by simp [Tryz.f69]) fun fr hlen h => ?_
  simp only [Has, Nat.zero_add] at h
  obtain ⟨a0, a1, -⟩ := h
  simp only [Tryz.f69] at hlen ⊢
  unfold g69
  simp only [w9, simprocAttr, hlen, a0, a1, n1]
  exact Fin_pure (l := [.str s, .bool false]) (by simp [w9, hlen]) (ff2 rfl rfl) (by simp)
theorem cutPre_ok (s p : List UInt8) (prot : Nat) (H : Heap) (hp : prot ≤ H.length) :
  aLim cfg prot 37 [.str s, .str p] H = some (if hasPre s p then .tup [.str (s.drop p.length), .bool true] else .tup [.str s, .bool false], none) := by
 have n1 := cutPreL_ok s p H.length H (Nat.le_refl _)
 cases h : hasPre s p with
 | true =>
  rw [h] at n1
  simp only [if_true] at n1 ⊢
  refine pure_slim rfl (by kernel_rfl) Tryz.func37 s37 hp rfl (by simp [Tryz.f37]) fun fr hlen h => ?_
  simp only [Has, Nat.zero_add] at h
  obtain ⟨a0, a1, -⟩ := h
  simp only [Tryz.f37] at hlen ⊢
  unfold g37
  simp only [w9, simprocAttr, hlen, a0, a1, n1]
  exact Fin_pure (l := [.str (s.drop p.length), .bool true]) (by simp [w9, hlen]) (ff2 rfl rfl) (by simp)
 | false =>
  rw [h] at n1
  simp only [Bool.false_eq_true, if_false] at n1 ⊢
  refine pure_slim rfl (by kernel_rfl) Tryz.func37 s37 hp rfl (by simp [Tryz.f37]) fun fr hlen h => ?_
  simp only [Has, Nat.zero_add] at h
  obtain ⟨a0, a1, -⟩ := h
  simp only [Tryz.f37] at hlen ⊢
  unfold g37
  simp only [w9, simprocAttr, hlen, a0, a1, n1]
  exact Fin_pure (l := [.str s, .bool false]) (by simp [w9, hlen]) (ff2 rfl rfl) (by simp)
open Go Go.Abs AbsSeat Ty
def u197 := an (fun (K : Heap) (n : Int) => conv_int Tryz.underlying21 Tryz.underlying5 K n) (an ag3 (an sz3 (an by3 (an ze3 (an Tryz.underlying3 (an ag5 (an sz5 (an by5 (an ze5 (an Tryz.underlying5 (an ag21 (an sz21 (an by21 (an ze21 (an Tryz.underlying21 (an ag72 (an sz72 (an by72 (an se72 (an ze72 (an Tryz.underlying72 (an ag116 (an sz116 (an by116 (an ze116 Tryz.underlying116)))))))))))))))))))))))))
def g197 : Code := .seq (mG 0 #[q 2 (.assign (mI false)) 4]) (.seq (mG 1 #[mA 3 0 21, mF 4 .geq 21 3 (.const (.int .i32 0)) 21 4, mA 5 4 4, qg 6 (.move (.tmp 0)) 21 2 true, qg 7 (.binOp .leq 21 (.tmp 6) (.const (.int .i32 1114111)) 21) 4 2 true, q 8 (.pick (.tmp 5) (.tmp 7) (mI false)) 4, mA 9 8 4, qg 10 (.move (.tmp 0)) 21 6 true, qg 11 (.binOp .lss 21 (.tmp 10) (.const (.int .i32 55296)) 21) 4 6 true, qg 12 (.move (.tmp 11)) 4 6 true, qg 13 (.move (.tmp 0)) 21 9 false, qg 14 (.binOp .geq 21 (.tmp 13) (.const (.int .i32 57344)) 21) 4 9 false, qg 15 (.pick (.tmp 12) (mI true) (.tmp 14)) 4 6 true, q 16 (.pick (.tmp 9) (.tmp 15) (mI false)) 4, mB 2 16 4]) .ret)
def s197 := sL Tryz.f197 g197 (by kernel_rfl)
def g198 : Code := .seq (mG 0 #[q 2 (.assign (ik 0)) 3]) (.seq (mG 1 #[q 3 (.assign (ik 1)) 3]) (.seq (.block 0 (.seq (.block 3 (.seq (.block 2 (.seq (.block 1 (.seq (.seq (.seq (mG 2 #[mA 5 0 21, mF 6 .geq 21 5 (.const (.int .i32 65536)) 21 4, mB 4 6 4]) (.cond (.tmp 4) (.exit 1) .skip)) (.seq (.seq (mG 3 #[mA 8 0 21, mF 9 .geq 21 8 (.const (.int .i32 2048)) 21 4, mB 7 9 4]) (.cond (.tmp 7) (.exit 2) .skip)) (.seq (mG 4 #[mA 11 0 21, mF 12 .geq 21 11 (.const (.int .i32 128)) 21 4, mB 10 12 4]) (.cond (.tmp 10) (.exit 3) .skip)))) (.exit 0))) (mG 5 #[mA 13 3 3, mF 14 .add 3 13 (ik 1) 3 3, mB 3 14 3]))) (mG 6 #[mA 15 3 3, mF 16 .add 3 15 (ik 1) 3 3, mB 3 16 3]))) (.seq (mG 7 #[mA 17 3 3, mF 18 .add 3 17 (ik 1) 3 3, mB 3 18 3]) (.exit 0)))) (.seq (mG 8 #[mA 19 3 3, mB 2 19 3]) .ret)))
def s198 := sL Tryz.f198 g198 (by kernel_rfl)
def g192 : Code := .seq (mG 0 #[q 2 (.assign (.const (.slice none 0 0))) 72, q 3 (.assign (ik 0)) 28]) (.seq (.seq (mG 1 #[mA 7 0 21, q 8 (cl 197 #[.tmp 7] #[21]) 4, q 9 (.unOp .not 4 (.tmp 8)) 4]) (.cond (.tmp 9) (.seq (mG 2 #[q 2 (.assign (.const (.slice none 0 0))) 72, q 3 (.assign (ik 1)) 28]) .ret) .skip)) (.seq (mG 3 #[mA 10 0 21, q 11 (cl 198 #[.tmp 10] #[21]) 3, mB 4 11 3]) (.seq (mG 4 #[mA 12 4 3, q 13 (.makeSlice 72 (.tmp 12) (.tmp 12)) 72, mB 5 13 72]) (.seq (.seq (mG 5 #[mA 14 4 3, mF 15 .sub 3 14 (ik 1) 3 3, mB 6 15 3]) (.block 0 (.loop (.seq (.seq (mG 6 #[mA 16 6 3, mF 17 .gtr 3 16 (ik 0) 3 4]) (.cond (.tmp 17) .skip (.exit 0))) (.seq (.block 1 (.seq (mG 8 #[mA 20 5 72, mA 21 6 3, mA 22 0 21, mF 23 .and 21 22 (.const (.int .i32 63)) 21 21, q 24 (.binOp .or 21 (.const (.int .i32 128)) (.tmp 23) 21) 21, q 25 (.convert 21 5 (.tmp 24)) 5, q 26 (.indexAddr 72 (.tmp 20) (.tmp 21)) 0, mD 5 26 25]) (mG 9 #[mA 27 0 21, mF 28 .shr 21 27 (.const (.int .u64 6)) 116 21, mB 0 28 21]))) (mG 7 #[mA 18 6 3, mF 19 .sub 3 18 (ik 1) 3 3, mB 6 19 3])))))) (.seq (mG 10 #[mA 29 5 72, mA 30 4 3, q 31 (cl 135 #[.tmp 30] #[3]) 21, mA 32 0 21, mF 33 .or 21 31 (.tmp 32) 21 21, q 34 (.convert 21 5 (.tmp 33)) 5, q 35 (.indexAddr 72 (.tmp 29) (ik 0)) 0, mD 5 35 34]) (.seq (mG 11 #[mA 36 5 72, mB 2 36 72, q 3 (.assign (ik 0)) 28]) .ret))))))
def s192 := sL Tryz.f192 g192 (by kernel_rfl)
def g191 : Code := .seq (mG 0 #[q 4 (.assign (.const (.int .i32 0))) 21, q 5 (.assign (mI false)) 4]) (.seq (.seq (mG 1 #[mA 6 0 21, mF 7 .lss 21 6 (.const (.int .i32 55296)) 21 4, mA 8 7 4, qg 9 (.move (.tmp 0)) 21 2 false, qg 10 (.binOp .geq 21 (.tmp 9) (.const (.int .i32 56320)) 21) 4 2 false, q 11 (.pick (.tmp 8) (mI true) (.tmp 10)) 4, mA 12 11 4, qg 13 (.move (.tmp 1)) 21 6 false, qg 14 (.binOp .lss 21 (.tmp 13) (.const (.int .i32 56320)) 21) 4 6 false, q 15 (.pick (.tmp 12) (mI true) (.tmp 14)) 4, mA 16 15 4, qg 17 (.move (.tmp 1)) 21 10 false, qg 18 (.binOp .geq 21 (.tmp 17) (.const (.int .i32 57344)) 21) 4 10 false, q 19 (.pick (.tmp 16) (mI true) (.tmp 18)) 4]) (.cond (.tmp 19) (.seq (mG 2 #[q 4 (.assign (.const (.int .i32 0))) 21, q 5 (.assign (mI false)) 4]) .ret) .skip)) (.seq (mG 3 #[mA 20 0 21, mF 21 .sub 21 20 (.const (.int .i32 55296)) 21 21, mF 22 .shl 21 21 (.const (.int .u64 10)) 116 21, q 23 (.binOp .add 21 (.const (.int .i32 65536)) (.tmp 22) 21) 21, mA 24 1 21, mF 25 .sub 21 24 (.const (.int .i32 56320)) 21 21, mF 26 .add 21 23 (.tmp 25) 21 21, mB 4 26 21, q 5 (.assign (mI true)) 4]) .ret))
def s191 := sL Tryz.f191 g191 (by kernel_rfl)
def isU (r : Int) : Bool := decide (0 ≤ r) && decide (r ≤ 1114111) && (decide (r < 55296) || decide (57344 ≤ r))
theorem isU_ok (r : Int) (prot : Nat) (H : Heap) (hp : prot ≤ H.length) : aLim cfg prot 197 [.int .i32 r] H = some (.bool (isU r), none) := by
 have hv : isU r = (decide (0 ≤ r) && decide (r ≤ 1114111) && (decide (r < 55296) || decide (57344 ≤ r))) := rfl
 refine pure_slim rfl (by kernel_rfl) Tryz.func197 s197 hp rfl (by simp [Tryz.f197]) fun fr hlen h => ?_
 simp only [Has] at h
 obtain ⟨a0, -⟩ := h
 simp only [Tryz.f197] at hlen ⊢
 unfold g197
 cases h1 : decide (0 ≤ r) with
 | false =>
  rw [show isU r = false by rw [hv, h1]; rfl]
  simp only [w9, Nat.reduceEqDiff, Nat.reduceLT, reduceCtorEq, hlen, a0, h1, none_beq]
  exact Fin_pure (l := [.bool false]) (by simp [w9, hlen]) (.still rfl) (by simp)
 | true =>
  cases h2 : decide (r ≤ 1114111) with
  | false =>
   rw [show isU r = false by rw [hv, h1, h2]; rfl]
   simp only [w9, Nat.reduceEqDiff, Nat.reduceLT, reduceCtorEq, hlen, a0, h1, h2, none_beq]
   exact Fin_pure (l := [.bool false]) (by simp [w9, hlen]) (.still rfl) (by simp)
  | true =>
   cases h3 : decide (r < 55296) with
   | true =>
    rw [show isU r = true by rw [hv, h1, h2, h3]; rfl]
    simp only [w9, Nat.reduceEqDiff, Nat.reduceLT, reduceCtorEq, hlen, a0, h1, h2, h3]
    exact Fin_pure (l := [.bool true]) (by simp [w9, hlen]) (.still rfl) (by simp)
   | false =>
    rw [show isU r = decide (57344 ≤ r) by rw [hv, h1, h2, h3]; simp]
    simp only [w9, Nat.reduceEqDiff, Nat.reduceLT, reduceCtorEq, hlen, a0, h1, h2, h3]
    exact Fin_pure (l := [.bool (decide (57344 ≤ r))]) (by simp [w9, hlen]) (.still rfl) (by simp)
def widthU (r : Int) : Nat := if 65536 ≤ r then 4 else if 2048 ≤ r then 3 else if 128 ≤ r then 2 else 1
theorem wr2 : IntKind.i64.wrap (1 + 1) = 2 := by rfl
theorem wr3 : IntKind.i64.wrap (2 + 1) = 3 := by rfl
theorem wr4 : IntKind.i64.wrap (3 + 1) = 4 := by rfl
theorem width_ok (r : Int) (prot : Nat) (H : Heap) (hp : prot ≤ H.length) : aLim cfg prot 198 [.int .i32 r] H = some (.int .i64 (widthU r), none) := by
 unfold widthU
 refine pure_slim rfl (by kernel_rfl) Tryz.func198 s198 hp rfl (by simp [Tryz.f198]) fun fr hlen h => ?_
 simp only [Has] at h
 obtain ⟨a0, -⟩ := h
 simp only [Tryz.f198] at hlen ⊢
 unfold g198
 by_cases h1 : 65536 ≤ r
 ·rw [if_pos h1]
  simp only [w9, Nat.reduceEqDiff, Nat.reduceLT, reduceCtorEq, hlen, a0, h1, wr2, wr3, wr4]
  exact Fin_pure (l := [.int .i64 4]) (by simp [w9, hlen]) (.still rfl) (by simp)
 ·by_cases h2 : 2048 ≤ r
  ·rw [if_neg h1, if_pos h2]
   simp only [w9, Nat.reduceEqDiff, Nat.reduceLT, reduceCtorEq, hlen, a0, h1, h2, wr2, wr3]
   exact Fin_pure (l := [.int .i64 3]) (by simp [w9, hlen]) (.still rfl) (by simp)
  ·by_cases h3 : 128 ≤ r
   ·rw [if_neg h1, if_neg h2, if_pos h3]
    simp only [w9, Nat.reduceEqDiff, Nat.reduceLT, reduceCtorEq, hlen, a0, h1, h2, h3, wr2]
    exact Fin_pure (l := [.int .i64 2]) (by simp [w9, hlen]) (.still rfl) (by simp)
   ·rw [if_neg h1, if_neg h2, if_neg h3]
    simp only [w9, Nat.reduceEqDiff, Nat.reduceLT, reduceCtorEq, hlen, a0, h1, h2, h3]
    exact Fin_pure (l := [.int .i64 1]) (by simp [w9, hlen]) (.still rfl) (by simp)
theorem widthU_b (r : Int) : 1 ≤ widthU r ∧ widthU r ≤ 4 := by unfold widthU; split <;> (try split) <;> (try split) <;> omega
def lowI (r : Int) : Int := IntKind.u8.wrap (IntKind.i32.wrap (BitVec.ofInt IntKind.i32.bits 128 ||| BitVec.ofInt IntKind.i32.bits (IntKind.i32.wrap (BitVec.ofInt IntKind.i32.bits r &&& BitVec.ofInt IntKind.i32.bits 63).toNat)).toNat)
def firstI (n : Nat) (r : Int) : Int := IntKind.u8.wrap (IntKind.i32.wrap (BitVec.ofInt IntKind.i32.bits (leadU n) ||| BitVec.ofInt IntKind.i32.bits r).toNat)
def putT : Nat → Int → List UInt8 → Int × List UInt8
 | 0, r, t => (r, t)
 | k + 1, r, t => putT k (r.fdiv 64) ((lowI r).toNat.toUInt8 :: t)
def putU (r : Int) : List UInt8 := (firstI (widthU r) (putT (widthU r - 1) r []).1).toNat.toUInt8 :: (putT (widthU r - 1) r []).2
theorem u8_wrap_b (x : Int) : 0 ≤ IntKind.u8.wrap x ∧ IntKind.u8.wrap x < 256 := by
 simp only [IntKind.wrap, IntKind.signed, IntKind.bits]; simp; omega
theorem u8_back (x : Int) : (((IntKind.u8.wrap x).toNat.toUInt8.toNat : Nat) : Int) = IntKind.u8.wrap x := by
 have := u8_wrap_b x
 rw [show (IntKind.u8.wrap x).toNat.toUInt8.toNat = (IntKind.u8.wrap x).toNat % 256 from by simp]
 omega
theorem makeU (n : Nat) (h1 : 1 ≤ n) (hn : n ≤ 4) (H : Heap) : aMakeSlice Tryz.prog H 72 (.int .i64 (n : Nat)) (.int .i64 (n : Nat)) = some (.bs ⟨H.length, 0, 0, n, n, 1, false, true⟩, some (H ++ [Blk.cells 0 (List.replicate n (.int .u8 0))])) := by
 have hz : zrep n [AV.int .u8 0] = List.replicate n (.int .u8 0) := by
  have : n = 1 ∨ n = 2 ∨ n = 3 ∨ n = 4 := by omega
  rcases this with rfl | rfl | rfl | rfl <;> rfl
 have h2 : roomy n 1 = true := by simp [roomy]; omega
 simp [aMakeSlice, se72, sz5, by5, ag5, ze5, AV.cells, hz, h2, AV.leaf]
 omega
theorem spliceB (m : Nat) (t : List UInt8) (c : UInt8) : splice (List.replicate (m + 1) (AV.int .u8 0) ++ t.map encB) m [encB c] = List.replicate m (AV.int .u8 0) ++ (c :: t).map encB := by
 have h : List.replicate (m + 1) (AV.int .u8 0) ++ t.map encB = List.replicate m (AV.int .u8 0) ++ (AV.int .u8 0 :: t.map encB) := by rw [List.replicate_succ']; simp
 have h2 : List.drop (m + 1) (List.replicate (m + 1) (AV.int .u8 0) ++ t.map encB) = t.map encB := List.drop_left' (by simp)
 have h3 : List.take m (List.replicate (m + 1) (AV.int .u8 0) ++ t.map encB) = List.replicate m (AV.int .u8 0) := by rw [h]; exact List.take_left' (by simp)
 simp [splice, h2, h3]
theorem put_ok (r : Int) (prot : Nat) (H : Heap) (hp : prot ≤ H.length) : aLim cfg prot 192 [.int .i32 r] H = some (if isU r then .tup [.vs ((putU r).map encB) true, .int .i64 0] else .tup [.nilS, .int .i64 1], none) := by
 have n1 := isU_ok r H.length H (Nat.le_refl _)
 have n2 := width_ok r H.length H (Nat.le_refl _)
 have hfz : ∀ (K : Heap) (x y : AV), still x = true → still y = true → Frz K H.length (packR [x, y]) (.tup [x, y]) := fun K x y h1 h2 => .tup (.cons (.still h1) (.cons (.still h2) .nil))
 obtain ⟨hw1, hw4⟩ := widthU_b r
 have hpu : putU r = (firstI (widthU r) (putT (widthU r - 1) r []).1).toNat.toUInt8 :: (putT (widthU r - 1) r []).2 := rfl
 refine pure_slim rfl (by kernel_rfl) Tryz.func192 s192 hp rfl (by simp [Tryz.f192]) fun fr hlen h => ?_
 simp only [Has] at h
 obtain ⟨a0, -⟩ := h
 simp only [Tryz.f192] at hlen ⊢
 unfold g192
 generalize widthU r = n at *
 generalize isU r = g at *
 generalize putU r = pu at *
 cases g with
 | false =>
  simp only [w9, Nat.reduceLT, reduceCtorEq, hlen, a0, n1]
  exact Fin_pure (l := [.nilS, .int .i64 1]) (by simp [w9, hlen]) (hfz _ _ _ rfl rfl) (by simp)
 | true =>
  have mk := makeU n hw1 hw4
  have w1 : IntKind.i64.wrap ((n : Int) - 1) = ((n - 1 : Nat) : Int) := by rw [wrap64 (by omega) (by omega)]; omega
  simp only [w9, Nat.reduceEqDiff, Nat.reduceLT, reduceCtorEq, hlen, a0, n1, n2, mk, w1]
  refine loop_rule (fun m fr K => ∃ (x : Int) (t : List UInt8), m + t.length + 1 = n ∧ fr.length = 37 ∧ fget fr 0 = .int .i32 x ∧ fget fr 4 = .int .i64 n ∧ fget fr 5 = .bs ⟨H.length, 0, 0, n, n, 1, false, true⟩ ∧ fget fr 6 = .int .i64 m ∧
   K = H ++ [Blk.cells 0 (List.replicate (m + 1) (.int .u8 0) ++ t.map encB)] ∧ pu = (firstI n (putT m x t).1).toNat.toUInt8 :: (putT m x t).2) ?_ (n - 1) _ _ ⟨r, [], by simp [w9, hlen, a0]; rw [show n - 1 + 1 = n by omega]; exact ⟨rfl, rfl, hpu⟩⟩
  rintro m fr K ⟨x, t, hk, hlen, a0, a4, a5, a6, rfl, hc⟩ ih
  have hix : ∀ i : Nat, i < n → aIndexAddr Tryz.prog 72 (.bs ⟨H.length, 0, 0, n, n, 1, false, true⟩) (.int .i64 i) = some (.ptr H.length 0 i) := fun i hi => by simp [aIndexAddr, Tryz.underlying72, asNat, hi, sz5]
  simp only [w9, Nat.reduceLT, hlen, a6]
  refine RC_split (fun h => ?_) (fun h => ?_)
  ·have hk0 : 0 < m := by simpa using h
   have hi1 := hix m (by omega)
   have hlo : (IntKind.u8.wrap (IntKind.i32.wrap (BitVec.ofInt IntKind.i32.bits 128 ||| BitVec.ofInt IntKind.i32.bits (IntKind.i32.wrap (BitVec.ofInt IntKind.i32.bits x &&& BitVec.ofInt IntKind.i32.bits 63).toNat)).toNat)) = lowI x := rfl
   have hpt : hput H.length (H ++ [Blk.cells 0 (List.replicate (m + 1) (.int .u8 0) ++ t.map encB)]) H.length 0 m [.int .u8 (lowI x)] = some (H ++ [Blk.cells 0 (List.replicate m (.int .u8 0) ++ ((lowI x).toNat.toUInt8 :: t).map encB)]) := by
    rw [hput_new rfl (Nat.le_refl _) (by simp) rfl]
    have := spliceB m t (lowI x).toNat.toUInt8
    rw [encB, show (((lowI x).toNat.toUInt8.toNat : Nat) : Int) = lowI x from u8_back _] at this
    rw [this]
   have w2 : IntKind.i64.wrap ((m : Int) - 1) = ((m - 1 : Nat) : Int) := by rw [wrap64 (by omega) (by omega)]; omega
   have sh := fun (t : TypeId) (xo yo : Operand) => bin_shr (P := Tryz.prog) (t := t) (xo := xo) (yo := yo) (k := .i32) (k' := .u64) x 6 (by decide)
   simp only [w9, Nat.reduceEqDiff, Nat.reduceLT, reduceCtorEq, u197, hlen, a0, a5, a6, hi1, hlo, hpt, w2, sh]
   obtain ⟨k, rfl⟩ : ∃ k, m = k + 1 := ⟨m - 1, by omega⟩
   rw [putT] at hc
   refine ih _ _ k (by omega) ⟨x.fdiv 64, (lowI x).toNat.toUInt8 :: t, ?_⟩
   simp [w9, hlen, a4, a5]
   refine ⟨by omega, ?_, hc⟩
   rfl
  ·have hm0 : m = 0 := by simpa using h
   subst hm0
   have hlt : t.length + 1 = n := by omega
   have hi0 : aIndexAddr Tryz.prog 72 (.bs ⟨H.length, 0, 0, n, n, 1, false, true⟩) (.int .i64 0) = some (.ptr H.length 0 0) := hix 0 (by omega)
   have n3 := lead_ok n hw4 H.length (H ++ [Blk.cells 0 (List.replicate (0 + 1) (.int .u8 0) ++ t.map encB)]) (by simp)
   have hlo : IntKind.u8.wrap (IntKind.i32.wrap (BitVec.ofInt IntKind.i32.bits (leadU n) ||| BitVec.ofInt IntKind.i32.bits x).toNat) = firstI n x := rfl
   have hpt : hput H.length (H ++ [Blk.cells 0 (List.replicate (0 + 1) (.int .u8 0) ++ t.map encB)]) H.length 0 0 [.int .u8 (firstI n x)] = some (H ++ [Blk.cells 0 (((firstI n x).toNat.toUInt8 :: t).map encB)]) := by
    rw [hput_new rfl (Nat.le_refl _) (by simp) rfl]
    have := spliceB 0 t (firstI n x).toNat.toUInt8
    rw [encB, show (((firstI n x).toNat.toUInt8.toNat : Nat) : Int) = firstI n x from u8_back _] at this
    rw [this]
    rfl
   rw [putT] at hc
   simp only [w9, Nat.reduceEqDiff, Nat.reduceLT, reduceCtorEq, u197, hlen, a0, a4, a5, n3, hlo, hi0, hpt]
   rw [← hc]
   have hpl : pu.length = n := by rw [hc]; simp [hlt]
   have hfr : Frz (H ++ [Blk.cells 0 (pu.map encB)]) H.length (.bs ⟨H.length, 0, 0, n, n, 1, false, true⟩) (.vs (pu.map encB) true) := by
    have hw : win (cellsOf encB pu) 0 (n * 1) = some (cellsOf encB pu) := by
     have := cellsOf_drop encB_T pu 0 (by simp)
     rw [← hpl]
     simpa using this
    have hst : FrzL (H ++ [Blk.cells 0 (pu.map encB)]) H.length (cellsOf encB pu) (cellsOf encB pu) := .still fun c hc => by
     obtain ⟨x, _, hx⟩ := List.mem_flatMap.1 hc
     exact encB_T.still x c hx
    have hg : hget (H ++ [Blk.cells 0 (pu.map encB)]) H.length 0 = some (cellsOf encB pu) := by rw [hget_new rfl, if_pos rfl]; exact congrArg some (cellsB pu)
    have := Frz.bs (H := H ++ [Blk.cells 0 (pu.map encB)]) (base := H.length) (s := ⟨H.length, 0, 0, n, n, 1, false, true⟩) (Nat.le_refl _) (Nat.one_pos) rfl hg hw hst
    rw [show (⟨H.length, 0, 0, n, n, 1, false, true⟩ : BS).len = pu.length from hpl.symm, chunk_cellsOf encB_T (by decide)] at this
    simpa [hpl] using this
   exact Fin_pure (l := [.bs ⟨H.length, 0, 0, n, n, 1, false, true⟩, .int .i64 0]) (by simp [w9, hlen]) (.tup (.cons hfr (.cons (.still rfl) .nil))) (by simp)
def pairU (a b : Int) : Option Int := if a < 55296 ∨ 56320 ≤ a ∨ b < 56320 ∨ 57344 ≤ b then none else some (65536 + (a - 55296) * 1024 + (b - 56320))
def pairR : Option Int → AV
 | none => .tup [.int .i32 0, .bool false]
 | some v => .tup [.int .i32 v, .bool true]
theorem pair_ok (a b : Int) (prot : Nat) (H : Heap) (hp : prot ≤ H.length) : aLim cfg prot 191 [.int .i32 a, .int .i32 b] H = some (pairR (pairU a b), none) := by
 have hfz : ∀ (K : Heap) (x y : AV), still x = true → still y = true → Frz K H.length (packR [x, y]) (.tup [x, y]) := fun K x y h1 h2 => .tup (.cons (.still h1) (.cons (.still h2) .nil))
 refine pure_slim rfl (by kernel_rfl) Tryz.func191 s191 hp rfl (by simp [Tryz.f191]) fun fr hlen h => ?_
 simp only [Has, Nat.zero_add] at h
 obtain ⟨a0, a1, -⟩ := h
 simp only [Tryz.f191] at hlen ⊢
 unfold g191
 by_cases h1 : a < 55296
 ·rw [show pairU a b = none by unfold pairU; rw [if_pos (.inl h1)], pairR]
  simp only [w9, Nat.reduceEqDiff, Nat.reduceLT, reduceCtorEq, hlen, a0, h1]
  exact Fin_pure (l := [.int .i32 0, .bool false]) (by simp [w9, hlen]) (hfz _ _ _ rfl rfl) (by simp)
 ·by_cases h2 : 56320 ≤ a
  ·rw [show pairU a b = none by unfold pairU; rw [if_pos (.inr (.inl h2))], pairR]
   simp only [w9, Nat.reduceEqDiff, Nat.reduceLT, reduceCtorEq, hlen, a0, h1, h2]
   exact Fin_pure (l := [.int .i32 0, .bool false]) (by simp [w9, hlen]) (hfz _ _ _ rfl rfl) (by simp)
  ·by_cases h3 : b < 56320
   ·rw [show pairU a b = none by unfold pairU; rw [if_pos (.inr (.inr (.inl h3)))], pairR]
    simp only [w9, Nat.reduceEqDiff, Nat.reduceLT, reduceCtorEq, hlen, a0, a1, h1, h2, h3]
    exact Fin_pure (l := [.int .i32 0, .bool false]) (by simp [w9, hlen]) (hfz _ _ _ rfl rfl) (by simp)
   ·by_cases h4 : 57344 ≤ b
    ·rw [show pairU a b = none by unfold pairU; rw [if_pos (.inr (.inr (.inr h4)))], pairR]
     simp only [w9, Nat.reduceEqDiff, Nat.reduceLT, reduceCtorEq, hlen, a0, a1, h1, h2, h3, h4]
     exact Fin_pure (l := [.int .i32 0, .bool false]) (by simp [w9, hlen]) (hfz _ _ _ rfl rfl) (by simp)
    ·rw [show pairU a b = some (65536 + (a - 55296) * 1024 + (b - 56320)) by unfold pairU; rw [if_neg (by omega)], pairR]
     have w1 : IntKind.i32.wrap (a - 55296) = a - 55296 := wrap32 (by omega) (by omega)
     have w2 : IntKind.i32.wrap ((a - 55296) * 2 ^ min (10 : Int).toNat IntKind.i32.bits) = (a - 55296) * 1024 := wrap32 (n := (a - 55296) * 1024) (by omega) (by omega)
     have w3 : IntKind.i32.wrap (65536 + (a - 55296) * 1024) = 65536 + (a - 55296) * 1024 := wrap32 (by omega) (by omega)
     have w4 : IntKind.i32.wrap (b - 56320) = b - 56320 := wrap32 (by omega) (by omega)
     have w5 : IntKind.i32.wrap (65536 + (a - 55296) * 1024 + (b - 56320)) = 65536 + (a - 55296) * 1024 + (b - 56320) := wrap32 (by omega) (by omega)
     have sh := fun (t : TypeId) (xo yo : Operand) => bin_shl (P := Tryz.prog) (t := t) (xo := xo) (yo := yo) (k := .i32) (k' := .u64) (a := a - 55296) (b := 10) (by decide)
     simp only [w9, Nat.reduceEqDiff, Nat.reduceLT, reduceCtorEq, hlen, a0, a1, h1, h2, h3, h4, w1, sh, w2, w3, w4, w5]
     exact Fin_pure (l := [.int .i32 (65536 + (a - 55296) * 1024 + (b - 56320)), .bool true]) (by simp [w9, hlen]) (hfz _ _ _ rfl rfl) (by simp)
open Go Go.Abs AbsSeat Ty
def g181 : Code := .seq (mG 0 #[q 4 (.assign (.const (.slice none 0 0))) 72, q 5 (.assign (ik 0)) 3, q 6 (.assign (.const .nilIface)) 76]) (.seq (mG 1 #[mA 16 0 9, mA 17 1 3, q 18 (cl 190 #[.tmp 16, .tmp 17] #[9, 3]) 278, mA 15 18 278, mE 19 15 0 21, mE 20 15 1 4, mB 7 19 21, mB 8 20 4]) (.seq (.seq (mG 2 #[mA 21 8 4, q 22 (.unOp .not 4 (.tmp 21)) 4]) (.cond (.tmp 22) (.seq (mG 3 #[mA 23 1 3, mA 24 1 3, q 25 (cl 144 #[.tmp 24, ik 3] #[3, 28]) 76, q 4 (.assign (.const (.slice none 0 0))) 72, mB 5 23 3, mB 6 25 76]) .ret) .skip)) (.seq (mG 4 #[mA 26 1 3, mF 27 .add 3 26 (ik 4) 3 3, mB 1 27 3]) (.seq (.seq (.region 5 #[mA 28 0 9, mA 29 1 3, q 30 (.slice 9 (.tmp 28) (some (.tmp 29)) none none) 9, q 31 (cl 78 #[.tmp 30, .const (.string { data := #[92, 117] })] #[9, 9]) 4] false) (.cond (.tmp 31) (.seq (mG 6 #[mA 33 0 9, mA 34 1 3, mF 35 .add 3 34 (ik 2) 3 3, q 36 (cl 190 #[.tmp 33, .tmp 35] #[9, 3]) 278, mA 32 36 278, mE 37 32 0 21, mE 38 32 1 4, mB 9 37 21, mB 10 38 4]) (.seq (mG 7 #[mA 40 7 21, mA 41 9 21, q 42 (cl 191 #[.tmp 40, .tmp 41] #[21, 21]) 278, mA 39 42 278, mE 43 39 0 21, mE 44 39 1 4, mB 11 43 21, mB 12 44 4]) (.seq (mG 8 #[mA 45 10 4, mA 46 45 4, qg 47 (.move (.tmp 12)) 4 1 true, q 48 (.pick (.tmp 46) (.tmp 47) (mI false)) 4]) (.cond (.tmp 48) (.seq (mG 9 #[mA 49 11 21, mB 7 49 21]) (mG 10 #[mA 50 1 3, mF 51 .add 3 50 (ik 6) 3 3, mB 1 51 3])) .skip)))) .skip)) (.seq (mG 11 #[mA 53 7 21, q 54 (cl 192 #[.tmp 53] #[21]) 281, mA 52 54 281, mE 55 52 0 72, mE 56 52 1 28, mB 13 55 72, mB 14 56 28]) (.seq (.seq (mG 12 #[mA 57 14 28, mF 58 .neq 28 57 (ik 0) 28 4]) (.cond (.tmp 58) (.seq (mG 13 #[mA 59 1 3, mA 60 1 3, q 61 (cl 144 #[.tmp 60, ik 3] #[3, 28]) 76, q 4 (.assign (.const (.slice none 0 0))) 72, mB 5 59 3, mB 6 61 76]) .ret) .skip)) (.seq (mG 14 #[mA 62 13 72, mA 63 1 3, mB 4 62 72, mB 5 63 3, q 6 (.assign (.const .nilIface)) 76]) .ret)))))))
def s181 := sL Tryz.f181 g181 (by kernel_rfl)
def g167 : Code := .seq (mG 0 #[q 4 (.assign (.const (.slice none 0 0))) 72, q 5 (.assign (ik 0)) 3, q 6 (.assign (.const .nilIface)) 76]) (.seq (.seq (mG 1 #[mA 8 1 3, mA 9 0 9, q 10 (bi .len #[.tmp 9] #[9]) 3, mF 11 .geq 3 8 (.tmp 10) 3 4]) (.cond (.tmp 11) (.seq (mG 2 #[mA 12 1 3, mA 13 1 3, q 14 (cl 144 #[.tmp 13, ik 3] #[3, 28]) 76, q 4 (.assign (.const (.slice none 0 0))) 72, mB 5 12 3, mB 6 14 76]) .ret) .skip)) (.seq (mG 3 #[mA 15 0 9, mA 16 1 3, q 17 (.index 9 (.tmp 15) (.tmp 16)) 5, mB 7 17 5]) (.seq (.seq (mG 4 #[mA 18 7 5]) (.block 0 (.seq (mG 6 #[mF 23 .eql 5 18 (.const (.int .u8 98)) 5 4, mB 22 23 4]) (.cond (.tmp 22) (mG 7 #[q 7 (.assign (.const (.int .u8 8))) 5]) (.seq (mG 8 #[mF 25 .eql 5 18 (.const (.int .u8 102)) 5 4, mB 24 25 4]) (.cond (.tmp 24) (mG 9 #[q 7 (.assign (.const (.int .u8 12))) 5]) (.seq (mG 10 #[mF 27 .eql 5 18 (.const (.int .u8 110)) 5 4, mB 26 27 4]) (.cond (.tmp 26) (mG 11 #[q 7 (.assign (.const (.int .u8 10))) 5]) (.seq (mG 12 #[mF 29 .eql 5 18 (.const (.int .u8 114)) 5 4, mB 28 29 4]) (.cond (.tmp 28) (mG 13 #[q 7 (.assign (.const (.int .u8 13))) 5]) (.seq (mG 14 #[mF 31 .eql 5 18 (.const (.int .u8 116)) 5 4, mB 30 31 4]) (.cond (.tmp 30) (mG 15 #[q 7 (.assign (.const (.int .u8 9))) 5]) (.seq (.seq (mG 16 #[mF 33 .eql 5 18 (.const (.int .u8 34)) 5 4, mB 32 33 4]) (.cond (.tmp 32) .skip (.seq (mG 17 #[mF 34 .eql 5 18 (.const (.int .u8 92)) 5 4, mB 32 34 4]) (.cond (.tmp 32) .skip (mG 18 #[mF 35 .eql 5 18 (.const (.int .u8 47)) 5 4, mB 32 35 4]))))) (.cond (.tmp 32) .skip (.seq (mG 19 #[mF 37 .eql 5 18 (.const (.int .u8 117)) 5 4, mB 36 37 4]) (.cond (.tmp 36) (.seq (mG 20 #[mA 38 0 9, mA 39 1 3, mF 40 .add 3 39 (ik 1) 3 3, q 41 (cl 181 #[.tmp 38, .tmp 40] #[9, 3]) 235, mE 42 41 0 72, mE 43 41 1 3, mE 44 41 2 76, mB 4 42 72, mB 5 43 3, mB 6 44 76]) .ret) (.seq (mG 5 #[mA 19 1 3, mA 20 1 3, q 21 (cl 144 #[.tmp 20, ik 3] #[3, 28]) 76, q 4 (.assign (.const (.slice none 0 0))) 72, mB 5 19 3, mB 6 21 76]) .ret))))))))))))))))) (.seq (mG 21 #[mA 45 7 5, q 46 (.buildSlice 72 1 #[(0, .tmp 45)]) 72, mA 47 1 3, mF 48 .add 3 47 (ik 1) 3 3, mB 4 46 72, mB 5 48 3, q 6 (.assign (.const .nilIface)) 76]) .ret))))
def s167 := sL Tryz.f167 g167 (by kernel_rfl)
def g146 : Code := .seq (mG 0 #[q 2 (.assign (ik 0)) 3]) (.seq (.seq (mG 1 #[mA 3 0 9]) (.block 0 (.seq (mG 2 #[mF 5 .eql 9 3 (.const (.string { data := #[116, 114, 117, 101] })) 9 4, mB 4 5 4]) (.cond (.tmp 4) (.seq (mG 3 #[q 2 (.assign (ik 9)) 3]) .ret) (.seq (mG 4 #[mF 7 .eql 9 3 (.const (.string { data := #[102, 97, 108, 115, 101] })) 9 4, mB 6 7 4]) (.cond (.tmp 6) (.seq (mG 5 #[q 2 (.assign (ik 10)) 3]) .ret) (.seq (mG 6 #[mF 9 .eql 9 3 (.const (.string { data := #[110, 117, 108, 108] })) 9 4, mB 8 9 4]) (.cond (.tmp 8) (.seq (mG 7 #[q 2 (.assign (ik 11)) 3]) .ret) .skip)))))))) (.seq (mG 8 #[q 2 (.assign (ik 0)) 3]) .ret))
def s146 := sL Tryz.f146 g146 (by kernel_rfl)
def secondS (v : Nat) (r : List UInt8) : Option Int := if hasPre (r.drop 4) [92, 117] then (match fourS (r.drop 6) with | some w => pairU v w | none => none) else none
def codedS (r : List UInt8) : Option (List UInt8 × Nat) :=
 match fourS r with
 | none => none
 | some v => match secondS v r with
  | some p => if isU p then some (putU p, 10) else none
  | none => if isU v then some (putU v, 4) else none
def Lex (k : Nat) (x : Option (AV × Option Heap)) : Option (List UInt8 × Nat) → Prop
 | none => ∃ i, x = some (.tup [.nilS, .int .i64 i, troub i 3], none)
 | some (b, n) => x = some (.tup [.vs (b.map encB) true, .int .i64 (k + n : Nat), .nilI], none)
theorem fourS_len {r : List UInt8} {v : Nat} (h : fourS r = some v) : 4 ≤ r.length ∧ v < 65536 := by
 unfold fourS at h
 split at h
 ·cases h
 ·have := hexV_lt _ _ _ h
  rw [show (r.take 4).length = 4 by simp; omega] at this
  exact ⟨by omega, by omega⟩
theorem pairU_0 (v : Int) : pairU v 0 = none := by unfold pairU; rw [if_pos (.inr (.inr (.inl (by omega))))]
theorem coded_bad (s : List UInt8) (hl : s.length < 1000000000000000000) (k : Nat) (hk : k ≤ s.length) (prot : Nat) (H : Heap) (hp : prot ≤ H.length) (h : fourS (s.drop k) = none) :
  aLim cfg prot 181 [.str s, .int .i64 k] H = some (.tup [.nilS, .int .i64 k, troub k 3], none) := by
 have n1 := four_ok s hl k hk H.length H (Nat.le_refl _)
 have n2 := wrong_ok k 3 H.length H (Nat.le_refl _)
 rw [h, fourR] at n1
 refine pure_slim rfl (by kernel_rfl) Tryz.func181 s181 hp rfl (by simp [Tryz.f181]) fun fr hlen h => ?_
 simp only [Has, Nat.zero_add] at h
 obtain ⟨a0, a1, -⟩ := h
 simp only [Tryz.f181] at hlen ⊢
 unfold g181
 simp only [w9, simprocAttr, hlen, a0, a1, n1, n2]
 exact Fin_pure (l := [.nilS, .int .i64 k, troub k 3]) (by simp [w9, hlen]) (.tup (.cons (.still rfl) (.cons (.still rfl) (.cons (.iface (.still rfl)) .nil)))) (by simp)
theorem coded_ok (s : List UInt8) (hl : s.length < 1000000000000000000) (k : Nat) (hk : k ≤ s.length) (prot : Nat) (H : Heap) (hp : prot ≤ H.length) :
  Lex k (aLim cfg prot 181 [.str s, .int .i64 k] H) (codedS (s.drop k)) := by
 have n1 := four_ok s hl k hk H.length H (Nat.le_refl _)
 cases h4 : fourS (s.drop k) with
 | none =>
  rw [show codedS (s.drop k) = none by simp [codedS, h4]]
  exact ⟨k, coded_bad s hl k hk prot H hp h4⟩
 | some v =>
  obtain ⟨hlen4, hv⟩ := fourS_len h4
  simp only [List.length_drop] at hlen4
  rw [h4, fourR] at n1
  have w1 : IntKind.i64.wrap ((k : Int) + 4) = ((k + 4 : Nat) : Int) := by rw [wrap64 (by omega) (by omega)]; simp
  have e1 := str_from (k := .i64) Tryz.underlying9 s (a := k + 4) (by omega)
  have n2 := hasPre_ok (s.drop (k + 4)) [92, 117] H.length H (Nat.le_refl _)
  have n5 := wrong_ok (k + 4 : Nat) 3 H.length H (Nat.le_refl _)
  have n6 := wrong_ok (k + 10 : Nat) 3 H.length H (Nat.le_refl _)
  have hd4 : (s.drop k).drop 4 = s.drop (k + 4) := by rw [List.drop_drop]
  have hd6 : (s.drop k).drop 6 = s.drop (k + 6) := by rw [List.drop_drop]
  have hfz : ∀ (K : Heap) (b : List UInt8) (i : Int), Frz K H.length (packR [.vs (b.map encB) true, .int .i64 i, .nilI]) (.tup [.vs (b.map encB) true, .int .i64 i, .nilI]) := fun K b i => .tup (.cons (.still rfl) (.cons (.still rfl) (.cons (.still rfl) .nil)))
  have hfe : ∀ (K : Heap) (i : Int), Frz K H.length (packR [.nilS, .int .i64 i, troub i 3]) (.tup [.nilS, .int .i64 i, troub i 3]) := fun K i => .tup (.cons (.still rfl) (.cons (.still rfl) (.cons (.iface (.still rfl)) .nil)))
  cases hpre : hasPre (s.drop (k + 4)) [92, 117] with
  | false =>
   have hs2 : secondS v (s.drop k) = none := by unfold secondS; rw [hd4, hpre]; rfl
   have n3 := put_ok v H.length H (Nat.le_refl _)
   rw [hpre] at n2
   cases hu : isU v with
   | false =>
    rw [show codedS (s.drop k) = none by simp [codedS, h4, hs2, hu]]
    simp only [hu, Bool.false_eq_true, if_false] at n3
    refine ⟨(k + 4 : Nat), ?_⟩
    refine pure_slim rfl (by kernel_rfl) Tryz.func181 s181 hp rfl (by simp [Tryz.f181]) fun fr hlen h => ?_
    simp only [Has, Nat.zero_add] at h
    obtain ⟨a0, a1, -⟩ := h
    simp only [Tryz.f181] at hlen ⊢
    unfold g181
    simp only [w9, simprocAttr, hlen, a0, a1, n1, w1, e1, n2, n3, n5]
    exact Fin_pure (l := [.nilS, .int .i64 (k + 4 : Nat), troub (k + 4 : Nat) 3]) (by simp [w9, hlen]) (hfe _ _) (by simp)
   | true =>
    rw [show codedS (s.drop k) = some (putU v, 4) by simp [codedS, h4, hs2, hu]]
    simp only [hu, if_true] at n3
    show _ = _
    refine pure_slim rfl (by kernel_rfl) Tryz.func181 s181 hp rfl (by simp [Tryz.f181]) fun fr hlen h => ?_
    simp only [Has, Nat.zero_add] at h
    obtain ⟨a0, a1, -⟩ := h
    simp only [Tryz.f181] at hlen ⊢
    unfold g181
    simp only [w9, simprocAttr, hlen, a0, a1, n1, w1, e1, n2, n3]
    exact Fin_pure (l := [.vs ((putU v).map encB) true, .int .i64 (k + 4 : Nat), .nilI]) (by simp [w9, hlen]) (hfz _ _ _) (by simp)
  | true =>
   have hlen6 : k + 6 ≤ s.length := by
    simp only [hasPre, Bool.and_eq_true, decide_eq_true_eq, List.length_cons, List.length_nil, List.length_drop] at hpre
    omega
   rw [hpre] at n2
   have w2 : IntKind.i64.wrap (((k + 4 : Nat) : Int) + 2) = ((k + 6 : Nat) : Int) := by rw [wrap64 (by omega) (by omega)]; omega
   have w3 : IntKind.i64.wrap (((k + 4 : Nat) : Int) + 6) = ((k + 10 : Nat) : Int) := by rw [wrap64 (by omega) (by omega)]; omega
   have n4 := four_ok s hl (k + 6) hlen6 H.length H (Nat.le_refl _)
   have hs2 : secondS v (s.drop k) = (match fourS (s.drop (k + 6)) with | some w => pairU v w | none => none) := by unfold secondS; rw [hd4, hpre, hd6, if_pos rfl]
   cases h6 : fourS (s.drop (k + 6)) with
   | none =>
    rw [h6, fourR] at n4
    rw [h6] at hs2
    simp only at hs2
    have n7 := pair_ok v 0 H.length H (Nat.le_refl _)
    rw [pairU_0, pairR] at n7
    have n3 := put_ok v H.length H (Nat.le_refl _)
    cases hu : isU v with
    | false =>
     rw [show codedS (s.drop k) = none by simp [codedS, h4, hs2, hu]]
     simp only [hu, Bool.false_eq_true, if_false] at n3
     refine ⟨(k + 4 : Nat), ?_⟩
     refine pure_slim rfl (by kernel_rfl) Tryz.func181 s181 hp rfl (by simp [Tryz.f181]) fun fr hlen h => ?_
     simp only [Has, Nat.zero_add] at h
     obtain ⟨a0, a1, -⟩ := h
     simp only [Tryz.f181] at hlen ⊢
     unfold g181
     simp only [w9, simprocAttr, hlen, a0, a1, n1, w1, e1, n2, w2, n4, n7, n3, n5]
     exact Fin_pure (l := [.nilS, .int .i64 (k + 4 : Nat), troub (k + 4 : Nat) 3]) (by simp [w9, hlen]) (hfe _ _) (by simp)
    | true =>
     rw [show codedS (s.drop k) = some (putU v, 4) by simp [codedS, h4, hs2, hu]]
     simp only [hu, if_true] at n3
     show _ = _
     refine pure_slim rfl (by kernel_rfl) Tryz.func181 s181 hp rfl (by simp [Tryz.f181]) fun fr hlen h => ?_
     simp only [Has, Nat.zero_add] at h
     obtain ⟨a0, a1, -⟩ := h
     simp only [Tryz.f181] at hlen ⊢
     unfold g181
     simp only [w9, simprocAttr, hlen, a0, a1, n1, w1, e1, n2, w2, n4, n7, n3]
     exact Fin_pure (l := [.vs ((putU v).map encB) true, .int .i64 (k + 4 : Nat), .nilI]) (by simp [w9, hlen]) (hfz _ _ _) (by simp)
   | some w =>
    rw [h6, fourR] at n4
    rw [h6] at hs2
    simp only at hs2
    have n7 := pair_ok v w H.length H (Nat.le_refl _)
    cases hpr : pairU v w with
    | none =>
     rw [hpr] at hs2
     rw [hpr, pairR] at n7
     have n3 := put_ok v H.length H (Nat.le_refl _)
     cases hu : isU v with
     | false =>
      rw [show codedS (s.drop k) = none by simp [codedS, h4, hs2, hu]]
      simp only [hu, Bool.false_eq_true, if_false] at n3
      refine ⟨(k + 4 : Nat), ?_⟩
      refine pure_slim rfl (by kernel_rfl) Tryz.func181 s181 hp rfl (by simp [Tryz.f181]) fun fr hlen h => ?_
      simp only [Has, Nat.zero_add] at h
      obtain ⟨a0, a1, -⟩ := h
      simp only [Tryz.f181] at hlen ⊢
      unfold g181
      simp only [w9, simprocAttr, hlen, a0, a1, n1, w1, e1, n2, w2, n4, n7, n3, n5]
      exact Fin_pure (l := [.nilS, .int .i64 (k + 4 : Nat), troub (k + 4 : Nat) 3]) (by simp [w9, hlen]) (hfe _ _) (by simp)
     | true =>
      rw [show codedS (s.drop k) = some (putU v, 4) by simp [codedS, h4, hs2, hu]]
      simp only [hu, if_true] at n3
      show _ = _
      refine pure_slim rfl (by kernel_rfl) Tryz.func181 s181 hp rfl (by simp [Tryz.f181]) fun fr hlen h => ?_
      simp only [Has, Nat.zero_add] at h
      obtain ⟨a0, a1, -⟩ := h
      simp only [Tryz.f181] at hlen ⊢
      unfold g181
      simp only [w9, simprocAttr, hlen, a0, a1, n1, w1, e1, n2, w2, n4, n7, n3]
      exact Fin_pure (l := [.vs ((putU v).map encB) true, .int .i64 (k + 4 : Nat), .nilI]) (by simp [w9, hlen]) (hfz _ _ _) (by simp)
    | some p =>
     rw [hpr] at hs2
     rw [hpr, pairR] at n7
     have n3 := put_ok p H.length H (Nat.le_refl _)
     cases hu : isU p with
     | false =>
      rw [show codedS (s.drop k) = none by simp [codedS, h4, hs2, hu]]
      simp only [hu, Bool.false_eq_true, if_false] at n3
      refine ⟨(k + 10 : Nat), ?_⟩
      refine pure_slim rfl (by kernel_rfl) Tryz.func181 s181 hp rfl (by simp [Tryz.f181]) fun fr hlen h => ?_
      simp only [Has, Nat.zero_add] at h
      obtain ⟨a0, a1, -⟩ := h
      simp only [Tryz.f181] at hlen ⊢
      unfold g181
      simp only [w9, simprocAttr, hlen, a0, a1, n1, w1, e1, n2, w2, n4, n7, n3, n6, w3]
      exact Fin_pure (l := [.nilS, .int .i64 (k + 10 : Nat), troub (k + 10 : Nat) 3]) (by simp [w9, hlen]) (hfe _ _) (by simp)
     | true =>
      rw [show codedS (s.drop k) = some (putU p, 10) by simp [codedS, h4, hs2, hu]]
      simp only [hu, if_true] at n3
      show _ = _
      refine pure_slim rfl (by kernel_rfl) Tryz.func181 s181 hp rfl (by simp [Tryz.f181]) fun fr hlen h => ?_
      simp only [Has, Nat.zero_add] at h
      obtain ⟨a0, a1, -⟩ := h
      simp only [Tryz.f181] at hlen ⊢
      unfold g181
      simp only [w9, simprocAttr, hlen, a0, a1, n1, w1, e1, n2, w2, n4, n7, n3, w3]
      exact Fin_pure (l := [.vs ((putU p).map encB) true, .int .i64 (k + 10 : Nat), .nilI]) (by simp [w9, hlen]) (hfz _ _ _) (by simp)
theorem codedS_pos {r : List UInt8} {b : List UInt8} {n : Nat} (h : codedS r = some (b, n)) : 4 ≤ n ∧ n ≤ r.length ∧ b ≠ [] := by
 unfold codedS at h
 cases h4 : fourS r with
 | none => simp [h4] at h
 | some v =>
  obtain ⟨hl4, _⟩ := fourS_len h4
  simp only [h4] at h
  cases h2 : secondS v r with
  | none =>
   simp only [h2] at h
   split at h
   ·cases h; exact ⟨by omega, by omega, by simp [putU]⟩
   ·cases h
  | some p =>
   simp only [h2] at h
   split at h
   ·cases h
    refine ⟨by omega, ?_, by simp [putU]⟩
    unfold secondS at h2
    split at h2
    ·cases h6 : fourS (r.drop 6) with
     | none => simp [h6] at h2
     | some w =>
      obtain ⟨hl6, _⟩ := fourS_len h6
      simp only [List.length_drop] at hl6
      omega
    ·cases h2
   ·cases h
def escC (c : UInt8) : Option UInt8 := if c = 98 then some 8 else if c = 102 then some 12 else if c = 110 then some 10 else if c = 114 then some 13 else if c = 116 then some 9 else if c = 34 then some 34 else if c = 92 then some 92 else if c = 47 then some 47 else none
def escS : List UInt8 → Option (List UInt8 × Nat)
 | [] => none
 | c :: t => if c = 117 then (codedS t).map (fun x => (x.1, x.2 + 1)) else (escC c).map fun d => ([d], 1)
theorem litN (c : Int) (H : Heap) : aBuildSlice Tryz.prog H 72 1 [(0, .int .u8 c)] = some (.vs [.int .u8 c] true, none) := by
 simp [aBuildSlice, se72, sz5, ag5, ze5, AV.cells, fillA, zrep, splice, litOk, AV.scal, AV.plL, AV.pl, chunk, AV.leaf]
theorem esc_plain (s : List UInt8) (hl : s.length < 1000000000000000000) (k : Nat) (hk : k < s.length) (c d : UInt8) (hc : s[k] = c) (h : (c = 98 ∧ d = 8) ∨ (c = 102 ∧ d = 12) ∨ (c = 110 ∧ d = 10) ∨ (c = 114 ∧ d = 13) ∨ (c = 116 ∧ d = 9) ∨ (c = 34 ∧ d = 34) ∨ (c = 92 ∧ d = 92) ∨ (c = 47 ∧ d = 47))
  (prot : Nat) (H : Heap) (hp : prot ≤ H.length) : aLim cfg prot 167 [.str s, .int .i64 k] H = some (.tup [.vs ([d].map encB) true, .int .i64 (k + 1 : Nat), .nilI], none) := by
 have hls : ∀ K, aLen Tryz.prog K 9 (.str s) = some (.int .i64 s.length) := fun K => str_len Tryz.underlying9 s K
 have e1 := str_at (k := .i64) Tryz.underlying9 s hk
 have hnl : ¬ ((s.length : Int) ≤ k) := by omega
 have w1 : IntKind.i64.wrap ((k : Int) + 1) = ((k + 1 : Nat) : Int) := by rw [wrap64 (by omega) (by omega)]; simp
 have hfz : ∀ (K : Heap) (b : List UInt8) (i : Int), Frz K H.length (packR [.vs (b.map encB) true, .int .i64 i, .nilI]) (.tup [.vs (b.map encB) true, .int .i64 i, .nilI]) := fun K b i => .tup (.cons (.still rfl) (.cons (.still rfl) (.cons (.still rfl) .nil)))
 have lt := litN
 rw [hc] at e1
 rcases h with ⟨rfl, rfl⟩ | ⟨rfl, rfl⟩ | ⟨rfl, rfl⟩ | ⟨rfl, rfl⟩ | ⟨rfl, rfl⟩ | ⟨rfl, rfl⟩ | ⟨rfl, rfl⟩ | ⟨rfl, rfl⟩
 ·rw [show (((98 : UInt8).toNat : Nat) : Int) = 98 from rfl] at e1
  refine pure_slim rfl (by kernel_rfl) Tryz.func167 s167 hp rfl (by simp [Tryz.f167]) fun fr hlen h => ?_
  simp only [Has, Nat.zero_add] at h
  obtain ⟨a0, a1, -⟩ := h
  simp only [Tryz.f167] at hlen ⊢
  unfold g167
  simp only [w9, simprocAttr, hlen, a0, a1, hls, hnl, e1, lt, w1]
  exact Fin_pure (l := [.vs ([8].map encB) true, .int .i64 (k + 1 : Nat), .nilI]) (by simp [w9, hlen]; rfl) (hfz _ _ _) (by simp)
 ·rw [show (((102 : UInt8).toNat : Nat) : Int) = 102 from rfl] at e1
  refine pure_slim rfl (by kernel_rfl) Tryz.func167 s167 hp rfl (by simp [Tryz.f167]) fun fr hlen h => ?_
  simp only [Has, Nat.zero_add] at h
  obtain ⟨a0, a1, -⟩ := h
  simp only [Tryz.f167] at hlen ⊢
  unfold g167
  simp only [w9, simprocAttr, hlen, a0, a1, hls, hnl, e1, Int.reduceEq, lt, w1]
  exact Fin_pure (l := [.vs ([12].map encB) true, .int .i64 (k + 1 : Nat), .nilI]) (by simp [w9, hlen]; rfl) (hfz _ _ _) (by simp)
 ·rw [show (((110 : UInt8).toNat : Nat) : Int) = 110 from rfl] at e1
  refine pure_slim rfl (by kernel_rfl) Tryz.func167 s167 hp rfl (by simp [Tryz.f167]) fun fr hlen h => ?_
  simp only [Has, Nat.zero_add] at h
  obtain ⟨a0, a1, -⟩ := h
  simp only [Tryz.f167] at hlen ⊢
  unfold g167
  simp only [w9, simprocAttr, hlen, a0, a1, hls, hnl, e1, Int.reduceEq, lt, w1]
  exact Fin_pure (l := [.vs ([10].map encB) true, .int .i64 (k + 1 : Nat), .nilI]) (by simp [w9, hlen]; rfl) (hfz _ _ _) (by simp)
 ·rw [show (((114 : UInt8).toNat : Nat) : Int) = 114 from rfl] at e1
  refine pure_slim rfl (by kernel_rfl) Tryz.func167 s167 hp rfl (by simp [Tryz.f167]) fun fr hlen h => ?_
  simp only [Has, Nat.zero_add] at h
  obtain ⟨a0, a1, -⟩ := h
  simp only [Tryz.f167] at hlen ⊢
  unfold g167
  simp only [w9, simprocAttr, hlen, a0, a1, hls, hnl, e1, Int.reduceEq, lt, w1]
  exact Fin_pure (l := [.vs ([13].map encB) true, .int .i64 (k + 1 : Nat), .nilI]) (by simp [w9, hlen]; rfl) (hfz _ _ _) (by simp)
 ·rw [show (((116 : UInt8).toNat : Nat) : Int) = 116 from rfl] at e1
  refine pure_slim rfl (by kernel_rfl) Tryz.func167 s167 hp rfl (by simp [Tryz.f167]) fun fr hlen h => ?_
  simp only [Has, Nat.zero_add] at h
  obtain ⟨a0, a1, -⟩ := h
  simp only [Tryz.f167] at hlen ⊢
  unfold g167
  simp only [w9, simprocAttr, hlen, a0, a1, hls, hnl, e1, Int.reduceEq, lt, w1]
  exact Fin_pure (l := [.vs ([9].map encB) true, .int .i64 (k + 1 : Nat), .nilI]) (by simp [w9, hlen]; rfl) (hfz _ _ _) (by simp)
 ·rw [show (((34 : UInt8).toNat : Nat) : Int) = 34 from rfl] at e1
  refine pure_slim rfl (by kernel_rfl) Tryz.func167 s167 hp rfl (by simp [Tryz.f167]) fun fr hlen h => ?_
  simp only [Has, Nat.zero_add] at h
  obtain ⟨a0, a1, -⟩ := h
  simp only [Tryz.f167] at hlen ⊢
  unfold g167
  simp only [w9, simprocAttr, hlen, a0, a1, hls, hnl, e1, Int.reduceEq, lt, w1]
  exact Fin_pure (l := [.vs ([34].map encB) true, .int .i64 (k + 1 : Nat), .nilI]) (by simp [w9, hlen]; rfl) (hfz _ _ _) (by simp)
 ·rw [show (((92 : UInt8).toNat : Nat) : Int) = 92 from rfl] at e1
  refine pure_slim rfl (by kernel_rfl) Tryz.func167 s167 hp rfl (by simp [Tryz.f167]) fun fr hlen h => ?_
  simp only [Has, Nat.zero_add] at h
  obtain ⟨a0, a1, -⟩ := h
  simp only [Tryz.f167] at hlen ⊢
  unfold g167
  simp only [w9, simprocAttr, hlen, a0, a1, hls, hnl, e1, Int.reduceEq, lt, w1]
  exact Fin_pure (l := [.vs ([92].map encB) true, .int .i64 (k + 1 : Nat), .nilI]) (by simp [w9, hlen]; rfl) (hfz _ _ _) (by simp)
 ·rw [show (((47 : UInt8).toNat : Nat) : Int) = 47 from rfl] at e1
  refine pure_slim rfl (by kernel_rfl) Tryz.func167 s167 hp rfl (by simp [Tryz.f167]) fun fr hlen h => ?_
  simp only [Has, Nat.zero_add] at h
  obtain ⟨a0, a1, -⟩ := h
  simp only [Tryz.f167] at hlen ⊢
  unfold g167
  simp only [w9, simprocAttr, hlen, a0, a1, hls, hnl, e1, Int.reduceEq, lt, w1]
  exact Fin_pure (l := [.vs ([47].map encB) true, .int .i64 (k + 1 : Nat), .nilI]) (by simp [w9, hlen]; rfl) (hfz _ _ _) (by simp)
theorem esc_end (s : List UInt8) (k : Nat) (hk : s.length ≤ k) (prot : Nat) (H : Heap) (hp : prot ≤ H.length) : aLim cfg prot 167 [.str s, .int .i64 k] H = some (.tup [.nilS, .int .i64 k, troub k 3], none) := by
 have hls : ∀ K, aLen Tryz.prog K 9 (.str s) = some (.int .i64 s.length) := fun K => str_len Tryz.underlying9 s K
 have hnl : ((s.length : Int) ≤ k) := by omega
 have n2 := wrong_ok k 3 H.length H (Nat.le_refl _)
 refine pure_slim rfl (by kernel_rfl) Tryz.func167 s167 hp rfl (by simp [Tryz.f167]) fun fr hlen h => ?_
 simp only [Has, Nat.zero_add] at h
 obtain ⟨a0, a1, -⟩ := h
 simp only [Tryz.f167] at hlen ⊢
 unfold g167
 simp only [w9, simprocAttr, hlen, a0, a1, hls, hnl, n2]
 exact Fin_pure (l := [.nilS, .int .i64 k, troub k 3]) (by simp [w9, hlen]) (.tup (.cons (.still rfl) (.cons (.still rfl) (.cons (.iface (.still rfl)) .nil)))) (by simp)
theorem esc_bad (s : List UInt8) (k : Nat) (hk : k < s.length) (c : UInt8) (hc : s[k] = c) (h1 : ¬ c = 98) (h2 : ¬ c = 102) (h3 : ¬ c = 110) (h4 : ¬ c = 114) (h5 : ¬ c = 116) (h6 : ¬ c = 34) (h7 : ¬ c = 92) (h8 : ¬ c = 47) (h9 : ¬ c = 117)
  (prot : Nat) (H : Heap) (hp : prot ≤ H.length) : aLim cfg prot 167 [.str s, .int .i64 k] H = some (.tup [.nilS, .int .i64 k, troub k 3], none) := by
 have hls : ∀ K, aLen Tryz.prog K 9 (.str s) = some (.int .i64 s.length) := fun K => str_len Tryz.underlying9 s K
 have e1 := str_at (k := .i64) Tryz.underlying9 s hk
 have hnl : ¬ ((s.length : Int) ≤ k) := by omega
 have n2 := wrong_ok k 3 H.length H (Nat.le_refl _)
 have ne : ∀ d : UInt8, ¬ c = d → ¬ ((c.toNat : Int) = (d.toNat : Int)) := fun d hd h => hd (UInt8.toNat_inj.1 (by omega))
 have q1 : ¬ ((c.toNat : Int) = 98) := ne 98 h1
 have q2 : ¬ ((c.toNat : Int) = 102) := ne 102 h2
 have q3 : ¬ ((c.toNat : Int) = 110) := ne 110 h3
 have q4 : ¬ ((c.toNat : Int) = 114) := ne 114 h4
 have q5 : ¬ ((c.toNat : Int) = 116) := ne 116 h5
 have q6 : ¬ ((c.toNat : Int) = 34) := ne 34 h6
 have q7 : ¬ ((c.toNat : Int) = 92) := ne 92 h7
 have q8 : ¬ ((c.toNat : Int) = 47) := ne 47 h8
 have q9 : ¬ ((c.toNat : Int) = 117) := ne 117 h9
 rw [hc] at e1
 refine pure_slim rfl (by kernel_rfl) Tryz.func167 s167 hp rfl (by simp [Tryz.f167]) fun fr hlen h => ?_
 simp only [Has, Nat.zero_add] at h
 obtain ⟨a0, a1, -⟩ := h
 simp only [Tryz.f167] at hlen ⊢
 unfold g167
 simp only [w9, simprocAttr, hlen, a0, a1, hls, hnl, e1, q1, q2, q3, q4, q5, q6, q7, q8, q9, n2]
 exact Fin_pure (l := [.nilS, .int .i64 k, troub k 3]) (by simp [w9, hlen]) (.tup (.cons (.still rfl) (.cons (.still rfl) (.cons (.iface (.still rfl)) .nil)))) (by simp)
theorem esc_u (s : List UInt8) (hl : s.length < 1000000000000000000) (k : Nat) (hk : k < s.length) (hc : s[k] = 117) (prot : Nat) (H : Heap) (hp : prot ≤ H.length) :
  Lex (k + 1) (aLim cfg prot 167 [.str s, .int .i64 k] H) (codedS (s.drop (k + 1))) := by
 have hls : ∀ K, aLen Tryz.prog K 9 (.str s) = some (.int .i64 s.length) := fun K => str_len Tryz.underlying9 s K
 have e1 := str_at (k := .i64) Tryz.underlying9 s hk
 have hnl : ¬ ((s.length : Int) ≤ k) := by omega
 have w1 : IntKind.i64.wrap ((k : Int) + 1) = ((k + 1 : Nat) : Int) := by rw [wrap64 (by omega) (by omega)]; simp
 rw [hc, show (((117 : UInt8).toNat : Nat) : Int) = 117 from rfl] at e1
 have n1 := coded_ok s hl (k + 1) (by omega) H.length H (Nat.le_refl _)
 generalize codedS (s.drop (k + 1)) = o at *
 cases o with
 | none =>
  obtain ⟨i, n1⟩ := n1
  refine ⟨i, ?_⟩
  refine pure_slim rfl (by kernel_rfl) Tryz.func167 s167 hp rfl (by simp [Tryz.f167]) fun fr hlen h => ?_
  simp only [Has, Nat.zero_add] at h
  obtain ⟨a0, a1, -⟩ := h
  simp only [Tryz.f167] at hlen ⊢
  unfold g167
  simp only [w9, simprocAttr, hlen, a0, a1, hls, hnl, e1, Int.reduceEq, w1, n1]
  exact Fin_pure (l := [.nilS, .int .i64 i, troub i 3]) (by simp [w9, hlen]) (.tup (.cons (.still rfl) (.cons (.still rfl) (.cons (.iface (.still rfl)) .nil)))) (by simp)
 | some x =>
  obtain ⟨b, n⟩ := x
  have n1 : aLim cfg H.length 181 [.str s, .int .i64 (k + 1 : Nat)] H = some (.tup [.vs (b.map encB) true, .int .i64 (k + 1 + n : Nat), .nilI], none) := n1
  show _ = _
  refine pure_slim rfl (by kernel_rfl) Tryz.func167 s167 hp rfl (by simp [Tryz.f167]) fun fr hlen h => ?_
  simp only [Has, Nat.zero_add] at h
  obtain ⟨a0, a1, -⟩ := h
  simp only [Tryz.f167] at hlen ⊢
  unfold g167
  simp only [w9, simprocAttr, hlen, a0, a1, hls, hnl, e1, Int.reduceEq, w1, n1]
  exact Fin_pure (l := [.vs (b.map encB) true, .int .i64 (k + 1 + n : Nat), .nilI]) (by simp [w9, hlen]) (.tup (.cons (.still rfl) (.cons (.still rfl) (.cons (.still rfl) .nil)))) (by simp)
theorem escaped_ok (s : List UInt8) (hl : s.length < 1000000000000000000) (k : Nat) (prot : Nat) (H : Heap) (hp : prot ≤ H.length) :
  Lex k (aLim cfg prot 167 [.str s, .int .i64 k] H) (escS (s.drop k)) := by
 by_cases hk : k < s.length
 ·rw [List.drop_eq_getElem_cons hk]
  generalize hc : s[k] = c
  rw [escS]
  by_cases h9 : c = 117
  ·rw [if_pos h9]
   subst h9
   have := esc_u s hl k hk hc prot H hp
   generalize codedS (s.drop (k + 1)) = o at *
   cases o with
   | none => exact this
   | some x =>
    obtain ⟨b, n⟩ := x
    have h2 : aLim cfg prot 167 [.str s, .int .i64 k] H = some (.tup [.vs (b.map encB) true, .int .i64 (k + 1 + n : Nat), .nilI], none) := this
    show _ = some (AV.tup [.vs (b.map encB) true, .int .i64 (k + (n + 1) : Nat), .nilI], none)
    rw [h2, show k + 1 + n = k + (n + 1) by omega]
  ·rw [if_neg h9]
   have hd : (escC c = none ∧ ¬ c = 98 ∧ ¬ c = 102 ∧ ¬ c = 110 ∧ ¬ c = 114 ∧ ¬ c = 116 ∧ ¬ c = 34 ∧ ¬ c = 92 ∧ ¬ c = 47) ∨ ∃ d, escC c = some d ∧ ((c = 98 ∧ d = 8) ∨ (c = 102 ∧ d = 12) ∨ (c = 110 ∧ d = 10) ∨ (c = 114 ∧ d = 13) ∨ (c = 116 ∧ d = 9) ∨ (c = 34 ∧ d = 34) ∨ (c = 92 ∧ d = 92) ∨ (c = 47 ∧ d = 47)) := by
    by_cases h1 : c = 98
    ·subst h1; exact .inr ⟨8, rfl, .inl ⟨rfl, rfl⟩⟩
    ·by_cases h2 : c = 102
     ·subst h2; exact .inr ⟨12, rfl, .inr (.inl ⟨rfl, rfl⟩)⟩
     ·by_cases h3 : c = 110
      ·subst h3; exact .inr ⟨10, rfl, .inr (.inr (.inl ⟨rfl, rfl⟩))⟩
      ·by_cases h4 : c = 114
       ·subst h4; exact .inr ⟨13, rfl, .inr (.inr (.inr (.inl ⟨rfl, rfl⟩)))⟩
       ·by_cases h5 : c = 116
        ·subst h5; exact .inr ⟨9, rfl, .inr (.inr (.inr (.inr (.inl ⟨rfl, rfl⟩))))⟩
        ·by_cases h6 : c = 34
         ·subst h6; exact .inr ⟨34, rfl, .inr (.inr (.inr (.inr (.inr (.inl ⟨rfl, rfl⟩)))))⟩
         ·by_cases h7 : c = 92
          ·subst h7; exact .inr ⟨92, rfl, .inr (.inr (.inr (.inr (.inr (.inr (.inl ⟨rfl, rfl⟩))))))⟩
          ·by_cases h8 : c = 47
           ·subst h8; exact .inr ⟨47, rfl, .inr (.inr (.inr (.inr (.inr (.inr (.inr ⟨rfl, rfl⟩))))))⟩
           ·exact .inl ⟨by simp [escC, h1, h2, h3, h4, h5, h6, h7, h8], h1, h2, h3, h4, h5, h6, h7, h8⟩
   rcases hd with ⟨he, h1, h2, h3, h4, h5, h6, h7, h8⟩ | ⟨d, he, hcd⟩
   ·rw [he]
    exact ⟨k, esc_bad s k hk c hc h1 h2 h3 h4 h5 h6 h7 h8 h9 prot H hp⟩
   ·rw [he]
    exact esc_plain s hl k hk c d hc hcd prot H hp
 ·have hd : s.drop k = [] := by simp; omega
  rw [hd]
  exact ⟨k, esc_end s k (by omega) prot H hp⟩
theorem escS_pos {r : List UInt8} {b : List UInt8} {n : Nat} (h : escS r = some (b, n)) : 1 ≤ n ∧ n ≤ r.length ∧ b ≠ [] := by
 cases r with
 | nil => cases h
 | cons c t =>
  rw [escS] at h
  split at h
  ·cases hc : codedS t with
   | none => simp [hc] at h
   | some x =>
    obtain ⟨b', n'⟩ := x
    simp only [hc, Option.map_some, Option.some.injEq, Prod.mk.injEq] at h
    obtain ⟨rfl, rfl⟩ := h
    obtain ⟨h1, h2, h3⟩ := codedS_pos hc
    exact ⟨by omega, by simp; omega, h3⟩
  ·cases hc : escC c with
   | none => simp [hc] at h
   | some d =>
    simp only [hc, Option.map_some, Option.some.injEq, Prod.mk.injEq] at h
    obtain ⟨rfl, rfl⟩ := h
    exact ⟨by omega, by simp, by simp⟩
end Go.Proofs.YtnipaiklandliaaGreatDoor
namespace Go.Abs
open Go
theorem pure_slimE {C : Cfg} {prot : Nat} {f : FuncId} {args args' : List AV} {sn : Bool} {H : Heap} {fn : Func} {c : Code} {P : AV → Prop} (hok : C.ok f = true) (hp : C.pure f = true) (hfn : C.P.funcs[f]? = some fn) (hb : fn.body.map (slim C) = some c)
  (hpr : prot ≤ H.length) (hs : snap H args = some (args', sn)) (hl : args'.length ≤ fn.ntmps)
  (h : ∀ fr, fr.length = fn.ntmps → Has fr 0 args' → ∃ r, P r ∧ R ⟨C, H.length, fn.results.toList, .pure sn⟩ c [] fr H (r, none)) : ∃ r, P r ∧ aLim C prot f args H = some (r, none) := by
 rw [Option.map_eq_some_iff] at hb
 obtain ⟨c0, hb, rfl⟩ := hb
 have h := entered (Q := fun fr => ∃ r, P r ∧ R ⟨C, H.length, fn.results.toList, .pure sn⟩ (slim C c0) [] fr H (r, none)) hl h
 obtain ⟨r0, hP, h⟩ := h
 have h := R_slim (X := ⟨C, H.length, fn.results.toList, .pure sn⟩) h
 refine ⟨r0, hP, ?_⟩
 obtain ⟨e, fr', H', h1, h2⟩ := h
 have h1' := aCode_conv (aLim_conv C) _ h1
 have hfin : Fin ⟨C, H.length, fn.results.toList, .pure sn⟩ fr' H' (r0, none) ∧ ∀ id, e ≠ .exit id := by
  cases e with
  | normal => exact ⟨h2, fun _ h => by cases h⟩
  | ret => exact ⟨h2, fun _ h => by cases h⟩
  | exit id => exact h2.elim
 obtain ⟨⟨l, hr, r', hfz, hfl, he⟩, hex⟩ := hfin
 cases he
 refine aLim_of ?_
 obtain ⟨n0, h0⟩ := h1'.and hfz.ev
 refine ⟨n0 + 1, fun n hn => ?_⟩
 obtain ⟨n, rfl⟩ : ∃ j, n = j + 1 := ⟨n - 1, by omega⟩
 obtain ⟨h3, h4⟩ := h0 n (by omega)
 have e2 : sn = true → flat r0 = true := hfl
 cases e with
 | exit id => exact absurd rfl (hex id)
 | normal =>
  simp only [aCall, hok, Bool.true_eq_false, if_false, hfn, hb, hp, if_true, hpr, hs, Option.bind_some, aBody, h3, hr, Option.map_some, h4]
  cases sn with
  | true => simp only [if_true, e2 rfl]
  | false => rfl
 | ret =>
  simp only [aCall, hok, Bool.true_eq_false, if_false, hfn, hb, hp, if_true, hpr, hs, Option.bind_some, aBody, h3, hr, Option.map_some, h4]
  cases sn with
  | true => simp only [if_true, e2 rfl]
  | false => rfl
theorem loop_ruleP {X : Ctx} {c : Code} {κ : List K} {P : AV → Prop} (Inv : Nat → List AV → Heap → Prop)
  (step : ∀ m fr H, Inv m fr H → (∀ fr' H' m', m' < m → Inv m' fr' H' → ∃ r, P r ∧ U X (.loop c :: κ) .normal fr' H' (r, none)) → ∃ r, P r ∧ R X c (.loop c :: κ) fr H (r, none)) :
  ∀ (m : Nat) (fr : List AV) (H : Heap), Inv m fr H → ∃ r, P r ∧ R X (.loop c) κ fr H (r, none) := by
 intro m
 induction m using Nat.strongRecOn with
 | _ m ih =>
  intro fr H h
  simp only [R_loop]
  refine step m fr H h fun fr' H' m' hm h' => ?_
  have := ih m' hm fr' H' h'
  simp only [U_loop, ← R_loop]
  exact this
end Go.Abs
namespace Go.Proofs.YtnipaiklandliaaGreatDoor
open Go Go.Abs AbsSeat Ty
def g142 : Code := .seq (mG 0 #[q 4 (.assign mH) 9, q 5 (.assign (ik 0)) 3, q 6 (.assign (.const .nilIface)) 76]) (.seq (mG 1 #[q 7 (.assign (.const (.slice none 0 0))) 72]) (.seq (.block 0 (.loop (.seq (.seq (mG 2 #[mA 14 1 3, mA 15 0 9, q 16 (bi .len #[.tmp 15] #[9]) 3, mF 17 .lss 3 14 (.tmp 16) 3 4, mA 18 17 4, qg 19 (.move (.tmp 0)) 9 4 true, qg 20 (.move (.tmp 1)) 3 4 true, qg 21 (.index 9 (.tmp 19) (.tmp 20)) 5 4 true, qg 22 (.binOp .neq 5 (.tmp 21) (.const (.int .u8 34)) 5) 4 4 true, q 23 (.pick (.tmp 18) (.tmp 22) (mI false)) 4]) (.cond (.tmp 23) .skip (.exit 0))) (.block 1 (.block 2 (.seq (mG 8 #[mA 55 0 9, mA 56 1 3, q 57 (.index 9 (.tmp 55) (.tmp 56)) 5, mF 58 .lss 5 57 (.const (.int .u8 32)) 5 4, mB 54 58 4]) (.cond (.tmp 54) (.seq (mG 9 #[mA 59 1 3, mA 60 1 3, q 61 (cl 144 #[.tmp 60, ik 3] #[3, 28]) 76, q 4 (.assign mH) 9, mB 5 59 3, mB 6 61 76]) .ret) (.seq (mG 10 #[mA 63 0 9, mA 64 1 3, q 65 (.index 9 (.tmp 63) (.tmp 64)) 5, mF 66 .eql 5 65 (.const (.int .u8 92)) 5 4, mB 62 66 4]) (.cond (.tmp 62) (.seq (mG 11 #[mA 68 0 9, mA 69 1 3, mF 70 .add 3 69 (ik 1) 3 3, q 71 (cl 167 #[.tmp 68, .tmp 70] #[9, 3]) 235, mA 67 71 235, mE 72 67 0 72, mE 73 67 1 3, mE 74 67 2 76, mB 8 72 72, mB 9 73 3, mB 10 74 76]) (.seq (.seq (mG 12 #[mA 75 10 76, mF 76 .neq 76 75 (.const .nilIface) 76 4]) (.cond (.tmp 76) (.seq (mG 13 #[mA 77 1 3, mA 78 10 76, q 4 (.assign mH) 9, mB 5 77 3, mB 6 78 76]) .ret) .skip)) (.seq (mG 14 #[mA 79 7 72, mA 80 8 72, q 81 (bi .append #[.tmp 79, .tmp 80] #[72, 72]) 72, mB 7 81 72]) (mG 15 #[mA 82 9 3, mB 1 82 3])))) (.seq (mG 3 #[mA 25 0 9, mA 26 1 3, mA 27 1 3, mF 28 .add 3 27 (ik 4) 3 3, mA 29 0 9, q 30 (bi .len #[.tmp 29] #[9]) 3, q 31 (bi .min #[.tmp 28, .tmp 30] #[3, 3]) 3, q 32 (.slice 9 (.tmp 25) (some (.tmp 26)) (some (.tmp 31)) none) 9, q 33 (.convert 9 72 (.tmp 32)) 72, q 34 (cl 94 #[.tmp 33] #[72]) 147, mA 24 34 147, mE 35 24 0 21, mE 36 24 1 3, mE 37 24 2 28, mB 11 35 21, mB 12 36 3, mB 13 37 28]) (.seq (.seq (mG 4 #[mA 38 13 28, mF 39 .neq 28 38 (ik 0) 28 4]) (.cond (.tmp 39) (.seq (mG 5 #[mA 40 1 3, mA 41 1 3, q 42 (cl 144 #[.tmp 41, ik 3] #[3, 28]) 76, q 4 (.assign mH) 9, mB 5 40 3, mB 6 42 76]) .ret) .skip)) (.seq (mG 6 #[mA 43 7 72, mA 44 0 9, mA 45 1 3, mA 46 1 3, mA 47 12 3, mF 48 .add 3 46 (.tmp 47) 3 3, q 49 (.slice 9 (.tmp 44) (some (.tmp 45)) (some (.tmp 48)) none) 9, q 50 (bi .append #[.tmp 43, .tmp 49] #[72, 9]) 72, mB 7 50 72]) (mG 7 #[mA 51 1 3, mA 52 12 3, mF 53 .add 3 51 (.tmp 52) 3 3, mB 1 53 3]))))))))))))) (.seq (.seq (mG 16 #[mA 83 1 3, mA 84 0 9, q 85 (bi .len #[.tmp 84] #[9]) 3, mF 86 .geq 3 83 (.tmp 85) 3 4]) (.cond (.tmp 86) (.seq (mG 17 #[mA 87 1 3, mA 88 1 3, q 89 (cl 144 #[.tmp 88, ik 3] #[3, 28]) 76, q 4 (.assign mH) 9, mB 5 87 3, mB 6 89 76]) .ret) .skip)) (.seq (mG 18 #[mA 90 7 72, q 91 (.convert 72 9 (.tmp 90)) 9, mA 92 1 3, mF 93 .add 3 92 (ik 1) 3 3, mB 4 91 9, mB 5 93 3, q 6 (.assign (.const .nilIface)) 76]) .ret))))
def s142 := sL Tryz.f142 g142 (by kernel_rfl)
theorem putT_len : ∀ (k : Nat) (r : Int) (t : List UInt8), (putT k r t).2.length = k + t.length
 | 0, r, t => by simp [putT]
 | k + 1, r, t => by rw [putT, putT_len k]; simp; omega
theorem putU_len (r : Int) : (putU r).length ≤ 4 := by
 have := widthU_b r
 simp only [putU, List.length_cons, putT_len, List.length_nil]
 omega
theorem codedS_out {r : List UInt8} {b : List UInt8} {n : Nat} (h : codedS r = some (b, n)) : b.length ≤ n := by
 have hn := (codedS_pos h).1
 have : b.length ≤ 4 := by
  unfold codedS at h
  cases h4 : fourS r with
  | none => simp [h4] at h
  | some v =>
   simp only [h4] at h
   cases h2 : secondS v r with
   | none => simp only [h2] at h; split at h <;> cases h; exact putU_len _
   | some p => simp only [h2] at h; split at h <;> cases h; exact putU_len _
 omega
theorem escS_out {r : List UInt8} {b : List UInt8} {n : Nat} (h : escS r = some (b, n)) : b.length ≤ n := by
 cases r with
 | nil => cases h
 | cons c t =>
  rw [escS] at h
  split at h
  ·cases hc : codedS t with
   | none => simp [hc] at h
   | some x =>
    obtain ⟨b', n'⟩ := x
    simp only [hc, Option.map_some, Option.some.injEq, Prod.mk.injEq] at h
    obtain ⟨rfl, rfl⟩ := h
    have := codedS_out hc
    omega
  ·cases hc : escC c with
   | none => simp [hc] at h
   | some d =>
    simp only [hc, Option.map_some, Option.some.injEq, Prod.mk.injEq] at h
    obtain ⟨rfl, rfl⟩ := h
    simp
def textS (r : List UInt8) : Option (List UInt8 × Nat) :=
 match _hr : r with
 | [] => none
 | c :: t =>
  if c = 34 then some ([], 1)
  else if c.toNat < 32 then none
  else if c = 92 then
   match _h : escS t with
   | none => none
   | some (b, n) => (textS (t.drop n)).map fun x => (b ++ x.1, n + 1 + x.2)
  else if _h : (nextU ((c :: t).take 4)).2.2 = 0 then (textS ((c :: t).drop (nextU ((c :: t).take 4)).2.1)).map fun x => ((c :: t).take (nextU ((c :: t).take 4)).2.1 ++ x.1, (nextU ((c :: t).take 4)).2.1 + x.2)
  else none
termination_by r.length
decreasing_by
 ·simp; omega
 ·have := nextU_pos _h; simp only [List.length_drop, List.length_cons]; omega
theorem textS_nil : textS [] = none := by rw [textS]
theorem textS_end (t : List UInt8) : textS (34 :: t) = some ([], 1) := by rw [textS]; simp
theorem textS_low {c : UInt8} (t : List UInt8) (h1 : ¬ c = 34) (h2 : c.toNat < 32) : textS (c :: t) = none := by rw [textS]; simp only [if_neg h1, if_pos h2]
theorem textS_escE {t : List UInt8} (h : escS t = none) : textS (92 :: t) = none := by
 rw [textS, if_neg (by decide), if_neg (by decide), if_pos rfl]
 split
 ·rfl
 ·rename_i h2; rw [h] at h2; cases h2
theorem textS_esc {t b : List UInt8} {n : Nat} (h : escS t = some (b, n)) : textS (92 :: t) = (textS (t.drop n)).map fun x => (b ++ x.1, n + 1 + x.2) := by
 rw [textS, if_neg (by decide), if_neg (by decide), if_pos rfl]
 split
 ·rename_i h2; rw [h] at h2; cases h2
 ·rename_i h2; rw [h] at h2; cases h2; rfl
theorem textS_bad {c : UInt8} {t : List UInt8} (h1 : ¬ c = 34) (h2 : ¬ c.toNat < 32) (h3 : ¬ c = 92) (h4 : ¬ (nextU ((c :: t).take 4)).2.2 = 0) : textS (c :: t) = none := by
 rw [textS, if_neg h1, if_neg h2, if_neg h3, dif_neg h4]
theorem textS_rune {c : UInt8} {t : List UInt8} (h1 : ¬ c = 34) (h2 : ¬ c.toNat < 32) (h3 : ¬ c = 92) (h4 : (nextU ((c :: t).take 4)).2.2 = 0) :
  textS (c :: t) = (textS ((c :: t).drop (nextU ((c :: t).take 4)).2.1)).map fun x => ((c :: t).take (nextU ((c :: t).take 4)).2.1 ++ x.1, (nextU ((c :: t).take 4)).2.1 + x.2) := by
 rw [textS, if_neg h1, if_neg h2, if_neg h3, dif_pos h4]
theorem bytesB2 : ∀ s : List UInt8, bytesOk (cellsOf encB s) = true ∧ bytesOf (cellsOf encB s) = some s
 | [] => ⟨rfl, rfl⟩
 | c :: r => by
  obtain ⟨h1, h2⟩ := bytesB2 r
  have e : cellsOf encB (c :: r) = .int .u8 c.toNat :: cellsOf encB r := by simp [cellsOf, encB, AV.cells]
  rw [e]
  have := c.toNat_lt
  constructor
  ·simp [bytesOk, h1]; omega
  ·simp [bytesOf, h2]
theorem conv_tree {K : Heap} {o : AV} {b : List UInt8} (h : Sl encB o b) : aConvert Tryz.prog K 72 9 o = some (.str b, none) := by
 have h1 := h.elems encB_T K
 have h2 := (bytesB2 b).2
 cases h <;> simp [aConvert, Tryz.underlying72, Tryz.underlying9, Tryz.underlying5, h1, h2]
theorem elem_bs {K : Heap} {b ver : Nat} {s : List UInt8} (hg : hget K b ver = some (cellsOf encB s)) : elemCells K 1 (.bs ⟨b, ver, 0, s.length, 0, 1, false, false⟩) = some (s.length, cellsOf encB s) := by
 have hw : win (cellsOf encB s) 0 s.length = some (cellsOf encB s) := by
  have := cellsOf_drop encB_T s 0 (by simp)
  simpa using this
 simp [elemCells, hg, hw]
theorem conv_bs {K : Heap} {b ver : Nat} {s : List UInt8} (hg : hget K b ver = some (cellsOf encB s)) : aConvert Tryz.prog K 72 9 (.bs ⟨b, ver, 0, s.length, 0, 1, false, false⟩) = some (.str s, none) := by
 have h1 := elem_bs hg
 have h2 := (bytesB2 s).2
 simp [aConvert, Tryz.underlying72, Tryz.underlying9, Tryz.underlying5, h1, h2]
theorem snap_bs {K : Heap} {b ver : Nat} {s : List UInt8} (hg : hget K b ver = some (cellsOf encB s)) {r r' : List AV} (hr : snap K r = some (r', false)) : snap K (.bs ⟨b, ver, 0, s.length, 0, 1, false, false⟩ :: r) = some (.vs (s.map encB) false :: r', true) := by
 have hw : win (cellsOf encB s) 0 s.length = some (cellsOf encB s) := by
  have := cellsOf_drop encB_T s 0 (by simp)
  simpa using this
 have hc := chunk_cellsOf encB_T (by decide) s
 simp [snap, hg, hw, plB, hr, hc]
def Bt (p : Nat) (K : Heap) (v : AV) (o : List UInt8) : Prop := (v = .nilS ∧ o = []) ∨ ∃ c ver, v = .bs ⟨c, ver, 0, o.length, 0, 1, false, false⟩ ∧ 0 < o.length ∧ p ≤ c ∧ ver % 4 = 2 ∧ hget K c ver = some (cellsOf encB o)
theorem Bt.more {p : Nat} {K : Heap} {v : AV} {o : List UInt8} (h : Bt p K v o) (l : List Blk) : Bt p (K ++ l) v o := by
 rcases h with h | ⟨c, ver, h1, h2, h3, h4, h5⟩
 ·exact .inl h
 ·exact .inr ⟨c, ver, h1, h2, h3, h4, hget_mono h5 _⟩
theorem Bt.conv {p : Nat} {K : Heap} {v : AV} {o : List UInt8} (h : Bt p K v o) : aConvert Tryz.prog K 72 9 v = some (.str o, none) := by
 rcases h with ⟨rfl, rfl⟩ | ⟨c, ver, rfl, h2, h3, h4, h5⟩
 ·exact conv_tree .nil
 ·exact conv_bs h5
theorem Bt.app {prot : Nat} {H : Heap} {buf : AV} {s : List UInt8} (h : Bt prot H buf s)
  {x : AV} {m : List UInt8} {xt : TypeId} (hxt : xt = 72 ∨ xt = 9) (hx : elemCells H 1 x = some (m.length, cellsOf encB m)) (hm : 0 < m.length) (hr : s.length + m.length ≤ 140737488355328) (hp : prot ≤ H.length) :
  ∃ v' H', aAppend Tryz.prog prot H #[72, xt] buf x = some (v', some H') ∧ Bt prot H' v' (s ++ m) ∧ H.length ≤ H'.length ∧ ∀ b' v cs, hget H b' v = some cs → v % 4 ≠ 2 → hget H' b' v = some cs := by
 have hl : (cellsOf encB m).all AV.leaf = true := cellsOf_leaf encB_T m
 have hm0 : ¬ m.length = 0 := by omega
 have hl' : ∀ y ∈ cellsOf encB m, y.leaf = true := List.all_eq_true.1 hl
 rcases h with ⟨rfl, rfl⟩ | ⟨c, ver, rfl, k1, k2, k3, k4⟩
 ·refine ⟨_, H ++ [Blk.cells 2 (cellsOf encB m)], ?_, .inr ⟨H.length, 2, rfl, by simpa using hm, hp, rfl, by rw [hget_new rfl]; rfl⟩, by simp, fun b' v cs h _ => hget_mono h _⟩
  have hro : roomy m.length 1 = true := by simp [roomy] at hr ⊢; omega
  rcases hxt with rfl | rfl <;> simp [aAppend, Tryz.underlying72, Tryz.underlying9, se72, sz5, by5, ag5, ze5, AV.cells, hx, hm0, hro, rowV] <;> exact hl'
 ·have hlt := hget_lt k4
  have hw : win (cellsOf encB s) 0 s.length = some (cellsOf encB s) := by
   have := cellsOf_drop encB_T s 0 (by simp)
   simpa using this
  have hro : roomy (s.length + m.length) 1 = true := by simp [roomy]; omega
  have hok : rowOk ver 0 5 = true := by
   have h1 : ver % 2 = 0 := by omega
   simp [rowOk, h1]
  refine ⟨.bs ⟨c, ver + 4, 0, (s ++ m).length, 0, 1, false, false⟩, H.set c (.cells (ver + 4) (cellsOf encB s ++ cellsOf encB m)), ?_, .inr ⟨c, ver + 4, rfl, by simp; omega, k2, by omega, ?_⟩, by simp, ?_⟩
  ·rcases hxt with rfl | rfl <;> simp [aAppend, Tryz.underlying72, Tryz.underlying9, se72, sz5, by5, ag5, ze5, AV.cells, hx, hm0, hro, k4, hw, k2, hok] <;> exact hl'
  ·rw [hget_set_same hlt, if_pos rfl, cellsOf_append]
  ·intro b' v cs h hv
   have : b' ≠ c := fun e => by
    subst e
    have e1 := alive_of_hget h
    have e2 := alive_of_hget k4
    rw [e1] at e2
    injection (Option.some.inj e2) with e3 _
    omega
   rw [hget_set_ne this]; exact h
def TextR (k : Nat) (r : AV) : Option (List UInt8 × Nat) → Prop
 | none => ∃ i j, r = .tup [.str [], .int .i64 i, troub j 3]
 | some (b, n) => r = .tup [.str b, .int .i64 (k + n : Nat), .nilI]
theorem errNe (t : Nat) (v : AV) (xo yo : Operand) : aBin Tryz.prog .neq 76 xo yo (.iface t v) .nilI = some (.bool true) := iface_nil_ne Tryz.underlying76 _ _
theorem text_ok (s : List UInt8) (hl : s.length < 100000000000000) (k : Nat) (hk : k ≤ s.length) (prot : Nat) (H : Heap) (hp : prot ≤ H.length) :
  ∃ r, TextR k r (textS (s.drop k)) ∧ aLim cfg prot 142 [.str s, .int .i64 k] H = some (r, none) := by
 have hls : ∀ K, aLen Tryz.prog K 9 (.str s) = some (.int .i64 s.length) := fun K => str_len Tryz.underlying9 s K
 have hfe : ∀ (K : Heap) (i j : Int), Frz K H.length (packR [.str [], .int .i64 i, troub j 3]) (.tup [.str [], .int .i64 i, troub j 3]) := fun K i j => .tup (.cons (.still rfl) (.cons (.still rfl) (.cons (.iface (.still rfl)) .nil)))
 generalize hT : textS (s.drop k) = T
 refine pure_slimE rfl (by kernel_rfl) Tryz.func142 s142 hp rfl (by simp [Tryz.f142]) fun fr hlen h => ?_
 simp only [Has, Nat.zero_add] at h
 obtain ⟨a0, a1, -⟩ := h
 simp only [Tryz.f142] at hlen ⊢
 unfold g142
 simp only [w9, simprocAttr]
 refine loop_ruleP (fun m fr K => ∃ (i : Nat) (o : List UInt8) (v : AV), m = s.length - i ∧ k ≤ i ∧ i ≤ s.length ∧ o.length ≤ i - k ∧ fr.length = 94 ∧ fget fr 0 = .str s ∧ fget fr 1 = .int .i64 i ∧ fget fr 7 = v ∧ H.length ≤ K.length ∧ Bt H.length K v o ∧
  T = (textS (s.drop i)).map fun x => (o ++ x.1, i - k + x.2)) ?_ (s.length - k) _ _ ⟨k, [], .nilS, by simp [w9, hlen, a0, a1]; exact ⟨hk, .inl ⟨rfl, rfl⟩, hT.symm⟩⟩
 rintro m fr K ⟨i, o, v, rfl, hki, hi, hol, hlen, a0, a1, a7, hK, hB, hc⟩ ih
 by_cases hlt : i < s.length
 ·have e1 := str_at (k := .i64) Tryz.underlying9 s hlt
  have hd : s.drop i = s[i] :: s.drop (i + 1) := List.drop_eq_getElem_cons hlt
  have hli : (i : Int) < (s.length : Nat) := by omega
  have hnl : ¬ (((s.length : Nat) : Int) ≤ i) := by omega
  have w1 : IntKind.i64.wrap ((i : Int) + 1) = ((i + 1 : Nat) : Int) := by rw [wrap64 (by omega) (by omega)]; simp
  have nw := wrong_ok i 3 H.length K hK
  rw [hd] at hc
  generalize s[i] = c at *
  by_cases c34 : c = 34
  ·subst c34
   rw [show (((34 : UInt8).toNat : Nat) : Int) = 34 from rfl] at e1
   rw [textS_end] at hc
   simp only [Option.map_some, List.append_nil] at hc
   rw [hc]
   simp only [w9, simprocAttr, hlen, a0, a1, a7, hls, hli, hnl, e1, hB.conv, w1]
   refine ⟨_, show _ = _ from rfl, ?_⟩
   rw [show k + (i - k + 1) = i + 1 by omega]
   exact Fin_pure (l := [.str o, .int .i64 (i + 1 : Nat), .nilI]) (by simp [w9, hlen]) (.tup (.cons (.still rfl) (.cons (.still rfl) (.cons (.still rfl) .nil)))) (by simp)
  ·have ne : ∀ d : UInt8, ¬ c = d → ¬ ((c.toNat : Int) = (d.toNat : Int)) := fun d hd h => hd (UInt8.toNat_inj.1 (by omega))
   have n34 : ¬ ((c.toNat : Int) = 34) := ne 34 c34
   have d34 : decide (¬ ((c.toNat : Int) = 34)) = true := decide_eq_true n34
   by_cases c32 : c.toNat < 32
   ·rw [textS_low _ c34 c32] at hc
    simp only [Option.map_none] at hc
    rw [hc]
    have hlow : (c.toNat : Int) < 32 := by omega
    simp only [w9, simprocAttr, hlen, a0, a1, hls, hli, e1, d34, hlow, nw]
    exact ⟨_, ⟨i, i, rfl⟩, Fin_pure (l := [.str [], .int .i64 i, troub i 3]) (by simp [w9, hlen]) (hfe _ _ _) (by simp)⟩
   ·have hnlow : ¬ ((c.toNat : Int) < 32) := by omega
    by_cases c92 : c = 92
    ·subst c92
     rw [show (((92 : UInt8).toNat : Nat) : Int) = 92 from rfl] at e1
     have dd : decide (¬ (92 : Int) = 34) = true := by decide
     have d2 : decide ((92 : Int) < 32) = false := by decide
     have ne1 := escaped_ok s (by omega) (i + 1) H.length K hK
     cases hes : escS (s.drop (i + 1)) with
     | none =>
      rw [hes] at ne1
      obtain ⟨j, ne1⟩ := ne1
      rw [textS_escE hes] at hc
      simp only [Option.map_none] at hc
      rw [hc]
      simp only [w9, simprocAttr, hlen, a0, a1, hls, hli, e1, w1, ne1, troub, errNe]
      exact ⟨_, ⟨i, j, rfl⟩, Fin_pure (l := [.str [], .int .i64 i, troub j 3]) (by simp [w9, hlen, troub]) (hfe _ _ _) (by simp)⟩
     | some x =>
      obtain ⟨b, n⟩ := x
      rw [hes] at ne1
      have ne1 : aLim cfg H.length 167 [.str s, .int .i64 (i + 1 : Nat)] K = some (.tup [.vs (b.map encB) true, .int .i64 (i + 1 + n : Nat), .nilI], none) := ne1
      obtain ⟨hn1, hnl2, hbne⟩ := escS_pos hes
      simp only [List.length_drop] at hnl2
      have hbo := escS_out hes
      have hb0 : 0 < b.length := List.length_pos_iff.2 hbne
      rw [textS_esc hes, Option.map_map, List.drop_drop] at hc
      obtain ⟨v', K', ha, hB', hK', _⟩ := hB.app (x := .vs (b.map encB) true) (xt := 72) (.inl rfl) (elem_vs encB_T b true) hb0 (by omega) hK
      simp only [w9, simprocAttr, hlen, a0, a1, a7, hls, hli, e1, w1, ne1, nilNe, ha]
      refine ih _ _ (s.length - (i + 1 + n)) (by omega) ⟨i + 1 + n, o ++ b, v', rfl, by omega, by omega, ?_⟩
      simp [w9, hlen, a0]
      refine ⟨by omega, by omega, hB', ?_⟩
      rw [hc]
      have hf : ((fun x : List UInt8 × Nat => (o ++ x.1, i - k + x.2)) ∘ fun x : List UInt8 × Nat => (b ++ x.1, n + 1 + x.2)) = fun x => (o ++ b ++ x.1, i + 1 + n - k + x.2) := by
       funext x
       simp only [Function.comp, List.append_assoc, Prod.mk.injEq, true_and]
       omega
      rw [hf]
      simp only [List.append_assoc]
    ·have n92 : ¬ ((c.toNat : Int) = 92) := ne 92 c92
     have w4 : IntKind.i64.wrap ((i : Int) + 4) = ((i + 4 : Nat) : Int) := by rw [wrap64 (by omega) (by omega)]; simp
     have hmin : ((min ((i + 4 : Nat) : Int) ((s.length : Nat) : Int)) : Int) = ((min (i + 4) s.length : Nat) : Int) := by omega
     have e2 := str_mid (k := .i64) (k' := .i64) Tryz.underlying9 s (a := i) (b := min (i + 4) s.length) (by omega) (by omega)
     have hq : (s.drop i).take (min (i + 4) s.length - i) = (s.drop i).take 4 := by
      by_cases h4 : i + 4 ≤ s.length
      ·rw [show min (i + 4) s.length - i = 4 by omega]
      ·rw [List.take_of_length_le (by simp; omega), List.take_of_length_le (by simp; omega)]
     rw [hq] at e2
     rw [← hd] at hc
     have hrune := fun h => textS_rune (c := c) (t := s.drop (i + 1)) c34 c32 c92 h
     have hbad := fun h => textS_bad (c := c) (t := s.drop (i + 1)) c34 c32 c92 h
     rw [← hd] at hrune hbad
     have cv := conv_sb Tryz.underlying9 Tryz.underlying72 Tryz.underlying5 K ((s.drop i).take 4)
     have hg : hget (K ++ [Blk.cells 0 (cellsOf encB ((s.drop i).take 4))]) K.length 0 = some (cellsOf encB ((s.drop i).take 4)) := by rw [hget_new rfl, if_pos rfl]
     have n3 := next_ok ((s.drop i).take 4) _ _ true (.vs _ _) (by simp; omega) H.length (K ++ [Blk.cells 0 (cellsOf encB ((s.drop i).take 4))]) (by simp; omega) (snap_bs hg (r := []) (r' := []) rfl)
     have hpos := nextU_pos (b := (s.drop i).take 4)
     have hl4 : ((s.drop i).take 4).length ≤ s.length - i := by simp; omega
     have hB2 := hB.more [Blk.cells 0 (cellsOf encB ((s.drop i).take 4))]
     have hlK : (K ++ [Blk.cells 0 (cellsOf encB ((s.drop i).take 4))]).length = K.length + 1 := by simp
     generalize K ++ [Blk.cells 0 (cellsOf encB ((s.drop i).take 4))] = K2 at *
     generalize nextU ((s.drop i).take 4) = q at *
     obtain ⟨ru, w, e⟩ := q
     simp only at hpos n3 hrune hbad
     have nw2 := wrong_ok i 3 H.length K2 (by omega)
     by_cases he : e = 0
     ·subst he
      obtain ⟨hw0, hwl⟩ := hpos rfl
      have ww : IntKind.i64.wrap ((i : Int) + (w : Int)) = ((i + w : Nat) : Int) := by rw [wrap64 (by omega) (by omega)]; simp
      have e3 := str_mid (k := .i64) (k' := .i64) Tryz.underlying9 s (a := i) (b := i + w) (by omega) (by omega)
      rw [show i + w - i = w by omega] at e3
      have hml : ((s.drop i).take w).length = w := by simp; omega
      rw [hrune rfl, Option.map_map, List.drop_drop] at hc
      obtain ⟨v', K', ha, hB', hK', _⟩ := hB2.app (x := .str ((s.drop i).take w)) (m := (s.drop i).take w) (xt := 9) (.inr rfl) (by simp only [elemCells, cellsB, if_true]) (by omega) (by omega) (by omega : H.length ≤ K2.length)
      simp only [w9, simprocAttr, hlen, a0, a1, a7, hls, hli, e1, d34, n92, hnlow, w4, hmin, e2, cv, n3, ww, e3, ha]
      refine ih _ _ (s.length - (i + w)) (by omega) ⟨i + w, o ++ (s.drop i).take w, v', rfl, by omega, by omega, ?_⟩
      simp [w9, hlen, a0]
      refine ⟨by omega, by omega, hB', ?_⟩
      rw [hc]
      have hf : ((fun x : List UInt8 × Nat => (o ++ x.1, i - k + x.2)) ∘ fun x : List UInt8 × Nat => ((s.drop i).take w ++ x.1, w + x.2)) = fun x => (o ++ (s.drop i).take w ++ x.1, i + w - k + x.2) := by
       funext x
       simp only [Function.comp, List.append_assoc, Prod.mk.injEq, true_and]
       omega
      rw [hf]
      simp only [List.append_assoc]
     ·have hne0 : decide (¬ e = 0) = true := decide_eq_true he
      rw [hbad he, Option.map_none] at hc
      rw [hc]
      simp only [w9, simprocAttr, hlen, a0, a1, hls, hli, e1, d34, n92, hnlow, w4, hmin, e2, cv, n3, hne0, nw2]
      exact ⟨_, ⟨i, i, rfl⟩, Fin_pure (l := [.str [], .int .i64 i, troub i 3]) (by simp [w9, hlen]) (hfe _ _ _) (by simp)⟩
 ·have hd : s.drop i = [] := by simp; omega
  have hnli : ¬ ((i : Int) < (s.length : Nat)) := by omega
  have hge : (((s.length : Nat) : Int) ≤ i) := by omega
  have nw := wrong_ok i 3 H.length K hK
  rw [hd, textS_nil, Option.map_none] at hc
  rw [hc]
  simp only [w9, simprocAttr, hlen, a0, a1, hls, hnli, hge, nw]
  exact ⟨_, ⟨i, i, rfl⟩, Fin_pure (l := [.str [], .int .i64 i, troub i 3]) (by simp [w9, hlen]) (hfe _ _ _) (by simp)⟩
set_option maxRecDepth 100000
open Go Go.Abs AbsSeat Ty
def g113 : Code := .seq (mG 0 #[q 4 (.assign (ik 0)) 3]) (.seq (mG 1 #[mA 5 0 9, mA 6 1 5, q 7 (cl 148 #[.tmp 5, .tmp 6] #[9, 5]) 3, mB 4 7 3]) .ret)
def s113 := sL Tryz.f113 g113 (by kernel_rfl)
def g74 : Code := .seq (mG 0 #[q 4 (.assign (ik 0)) 3]) (.seq (mG 1 #[mA 5 0 9, mA 6 1 5, q 7 (cl 113 #[.tmp 5, .tmp 6] #[9, 5]) 3, mB 4 7 3]) .ret)
def s74 := sL Tryz.f74 g74 (by kernel_rfl)
theorem idxX_ok (s : List UInt8) (c : Int) (prot : Nat) (H : Heap) : aLim cfg prot 148 [.str s, .int .u8 c] H = some (.int .i64 (idxByte s c.toNat.toUInt8), none) :=
 lim_ext (by kernel_rfl) Tryz.func148 (by kernel_rfl) (by kernel_rfl) prot H (by kernel_rfl)
theorem idxL_ok (s : List UInt8) (c : UInt8) (prot : Nat) (H : Heap) (hp : prot ≤ H.length) : aLim cfg prot 113 [.str s, .int .u8 c.toNat] H = some (.int .i64 (idxByte s c), none) := by
 have n1 := idxX_ok s (c.toNat : Int) H.length H
 have e : ((c.toNat : Int)).toNat.toUInt8 = c := by simp
 rw [e] at n1
 refine pure_slim rfl (by kernel_rfl) Tryz.func113 s113 hp rfl (by simp [Tryz.f113]) fun fr hlen h => ?_
 simp only [Has, Nat.zero_add] at h
 obtain ⟨a0, a1, -⟩ := h
 simp only [Tryz.f113] at hlen ⊢
 unfold g113
 simp only [w9, simprocAttr, hlen, a0, a1, n1]
 exact Fin_pure (l := [.int .i64 (idxByte s c)]) (by simp [w9, hlen]) (.still rfl) (by simp)
theorem idxS_ok (s : List UInt8) (c : UInt8) (prot : Nat) (H : Heap) (hp : prot ≤ H.length) : aLim cfg prot 74 [.str s, .int .u8 c.toNat] H = some (.int .i64 (idxByte s c), none) := by
 have n1 := idxL_ok s c H.length H (Nat.le_refl _)
 refine pure_slim rfl (by kernel_rfl) Tryz.func74 s74 hp rfl (by simp [Tryz.f74]) fun fr hlen h => ?_
 simp only [Has, Nat.zero_add] at h
 obtain ⟨a0, a1, -⟩ := h
 simp only [Tryz.f74] at hlen ⊢
 unfold g74
 simp only [w9, simprocAttr, hlen, a0, a1, n1]
 exact Fin_pure (l := [.int .i64 (idxByte s c)]) (by simp [w9, hlen]) (.still rfl) (by simp)
end Go.Proofs.YtnipaiklandliaaGreatDoor
