import Derived.Test.YtimbhlbkidmplaaDoorAbsSeat
import Derived.Test.YtimbhlbkidmplaaDoorAbsTy
import Derived.Test.YtimbhlbkidmplaaDoorAbsSet
import Derived.Test.YtimbhlbkidmplaaDoorAbsMore
/-! Part 1 of the proof of JvalShape: the texts Utf Utf2p E1 E2 E3 CharD ChDig Jt1 Jt2 Jt3 Jt4. -/
set_option linter.unusedSimpArgs false
/- Chapter 2: runes as bytes: the program's, walked. -/
namespace Go.Proofs.YtimbhlbkidmplaaDoor
open Go Go.Abs AbsSeat Ty
theorem cfgP : cfg.P = Tryd.prog := rfl
theorem none_beq (b : Bool) : ((none : Option Bool) == some b) = false := by cases b <;> rfl

theorem u64 : type_of% (And.intro (fun (K : Heap) (n : Int) => conv_int Tryd.underlying5 Tryd.underlying21 K n) (And.intro ag3 (And.intro sz3 (And.intro by3 (And.intro ze3 (And.intro Tryd.underlying3 (And.intro ag5 (And.intro sz5 (And.intro by5 (And.intro ze5 (And.intro Tryd.underlying5 (And.intro ag21 (And.intro sz21 (And.intro by21 (And.intro ze21 (And.intro Tryd.underlying21 (And.intro ag97 (And.intro sz97 (And.intro by97 (And.intro se97 (And.intro ze97 (And.intro Tryd.underlying97 (And.intro ag133 (And.intro sz133 (And.intro by133 (And.intro ze133 (And.intro Tryd.underlying133 (And.intro ag145 (And.intro sz145 (And.intro by145 (And.intro ze145 Tryd.underlying145))))))))))))))))))))))))))))))) := And.intro (fun (K : Heap) (n : Int) => conv_int Tryd.underlying5 Tryd.underlying21 K n) (And.intro ag3 (And.intro sz3 (And.intro by3 (And.intro ze3 (And.intro Tryd.underlying3 (And.intro ag5 (And.intro sz5 (And.intro by5 (And.intro ze5 (And.intro Tryd.underlying5 (And.intro ag21 (And.intro sz21 (And.intro by21 (And.intro ze21 (And.intro Tryd.underlying21 (And.intro ag97 (And.intro sz97 (And.intro by97 (And.intro se97 (And.intro ze97 (And.intro Tryd.underlying97 (And.intro ag133 (And.intro sz133 (And.intro by133 (And.intro ze133 (And.intro Tryd.underlying133 (And.intro ag145 (And.intro sz145 (And.intro by145 (And.intro ze145 Tryd.underlying145))))))))))))))))))))))))))))))
def g64 : Code :=
  .seq (.region 0 #[q 2 (.assign (ik 0)) 3] false) (.seq (.block 0 (.seq (.region 1 #[q 4 (.move (.tmp 0)) 5, q 5 (.binOp .lss 5 (.tmp 4) (.const (.int .u8 128)) 5) 4, q 3 (.assign (.tmp 5)) 4] false) (.cond (.tmp 3) (.seq (.region 2 #[q 2 (.assign (ik 1)) 3] false) .ret) (.seq (.region 3 #[q 7 (.move (.tmp 0)) 5, q 8 (.binOp .geq 5 (.tmp 7) (.const (.int .u8 194)) 5) 4, q 9 (.move (.tmp 8)) 4, qg 10 (.move (.tmp 0)) 5 2 true, qg 11 (.binOp .lss 5 (.tmp 10) (.const (.int .u8 224)) 5) 4 2 true, q 12 (.pick (.tmp 9) (.tmp 11) (.const (.bool false))) 4, q 6 (.assign (.tmp 12)) 4] false) (.cond (.tmp 6) (.seq (.region 4 #[q 2 (.assign (ik 2)) 3] false) .ret) (.seq (.region 5 #[q 14 (.move (.tmp 0)) 5, q 15 (.binOp .geq 5 (.tmp 14) (.const (.int .u8 224)) 5) 4, q 16 (.move (.tmp 15)) 4, qg 17 (.move (.tmp 0)) 5 2 true, qg 18 (.binOp .lss 5 (.tmp 17) (.const (.int .u8 240)) 5) 4 2 true, q 19 (.pick (.tmp 16) (.tmp 18) (.const (.bool false))) 4, q 13 (.assign (.tmp 19)) 4] false) (.cond (.tmp 13) (.seq (.region 6 #[q 2 (.assign (ik 3)) 3] false) .ret) (.seq (.region 7 #[q 21 (.move (.tmp 0)) 5, q 22 (.binOp .geq 5 (.tmp 21) (.const (.int .u8 240)) 5) 4, q 23 (.move (.tmp 22)) 4, qg 24 (.move (.tmp 0)) 5 2 true, qg 25 (.binOp .lss 5 (.tmp 24) (.const (.int .u8 245)) 5) 4 2 true, q 26 (.pick (.tmp 23) (.tmp 25) (.const (.bool false))) 4, q 20 (.assign (.tmp 26)) 4] false) (.cond (.tmp 20) (.seq (.region 8 #[q 2 (.assign (ik 4)) 3] false) .ret) .skip))))))))) (.seq (.region 9 #[q 2 (.assign (ik 0)) 3] false) .ret))
theorem s64 : Tryd.f64.body.map (slim cfg) = some g64 := by kernel_rfl
def g65 : Code :=
  .seq (.region 0 #[q 4 (.assign (.const (.bool false))) 4] false) (.seq (.region 1 #[q 5 (.assign (.const (.int .u8 128))) 5, q 6 (.assign (.const (.int .u8 191))) 5] false) (.seq (.seq (.region 2 #[q 8 (.move (.tmp 0)) 97, q 9 (.indexAddr 97 (.tmp 8) (ik 0)) 0, q 10 (.load 5 (.tmp 9)) 5] false) (.block 0 (.seq (.region 3 #[q 12 (.binOp .eql 5 (.tmp 10) (.const (.int .u8 224)) 5) 4, q 11 (.assign (.tmp 12)) 4] false) (.cond (.tmp 11) (.region 4 #[q 5 (.assign (.const (.int .u8 160))) 5] false) (.seq (.region 5 #[q 14 (.binOp .eql 5 (.tmp 10) (.const (.int .u8 237)) 5) 4, q 13 (.assign (.tmp 14)) 4] false) (.cond (.tmp 13) (.region 6 #[q 6 (.assign (.const (.int .u8 159))) 5] false) (.seq (.region 7 #[q 16 (.binOp .eql 5 (.tmp 10) (.const (.int .u8 240)) 5) 4, q 15 (.assign (.tmp 16)) 4] false) (.cond (.tmp 15) (.region 8 #[q 5 (.assign (.const (.int .u8 144))) 5] false) (.seq (.region 9 #[q 18 (.binOp .eql 5 (.tmp 10) (.const (.int .u8 244)) 5) 4, q 17 (.assign (.tmp 18)) 4] false) (.cond (.tmp 17) (.region 10 #[q 6 (.assign (.const (.int .u8 143))) 5] false) .skip)))))))))) (.seq (.seq (.region 11 #[q 7 (.assign (ik 1)) 3] false) (.block 1 (.loop (.seq (.seq (.region 12 #[q 19 (.move (.tmp 7)) 3, q 20 (.move (.tmp 1)) 3, q 21 (.move (.tmp 0)) 97, q 22 (bi .len #[.tmp 21] #[97]) 3, q 23 (bi .min #[.tmp 20, .tmp 22] #[3, 3]) 3, q 24 (.binOp .lss 3 (.tmp 19) (.tmp 23) 3) 4] false) (.cond (.tmp 24) .skip (.exit 1))) (.seq (.block 2 (.seq (.seq (.region 14 #[q 27 (.move (.tmp 0)) 97, q 28 (.move (.tmp 7)) 3, q 29 (.indexAddr 97 (.tmp 27) (.tmp 28)) 0, q 30 (.load 5 (.tmp 29)) 5, q 31 (.move (.tmp 5)) 5, q 32 (.binOp .lss 5 (.tmp 30) (.tmp 31) 5) 4, q 33 (.move (.tmp 32)) 4, qg 34 (.move (.tmp 0)) 97 6 false, qg 35 (.move (.tmp 7)) 3 6 false, qg 36 (.indexAddr 97 (.tmp 34) (.tmp 35)) 0 6 false, qg 37 (.load 5 (.tmp 36)) 5 6 false, qg 38 (.move (.tmp 6)) 5 6 false, qg 39 (.binOp .gtr 5 (.tmp 37) (.tmp 38) 5) 4 6 false, q 40 (.pick (.tmp 33) (.const (.bool true)) (.tmp 39)) 4] false) (.cond (.tmp 40) (.seq (.region 15 #[q 4 (.assign (.const (.bool false))) 4] false) .ret) .skip)) (.region 16 #[q 5 (.assign (.const (.int .u8 128))) 5, q 6 (.assign (.const (.int .u8 191))) 5] false))) (.region 13 #[q 25 (.move (.tmp 7)) 3, q 26 (.binOp .add 3 (.tmp 25) (ik 1) 3) 3, q 7 (.assign (.tmp 26)) 3] false)))))) (.seq (.region 17 #[q 4 (.assign (.const (.bool true))) 4] false) .ret))))
theorem s65 : Tryd.f65.body.map (slim cfg) = some g65 := by kernel_rfl
def g66 : Code :=
  .seq (.region 0 #[q 2 (.assign (.const (.int .i32 0))) 21] false) (.seq (.region 1 #[q 3 (.build 145 #[(0, .const (.int .i32 0)), (1, .const (.int .i32 0)), (2, .const (.int .i32 192)), (3, .const (.int .i32 224)), (4, .const (.int .i32 240))]) 145, q 4 (.move (.tmp 0)) 3, q 5 (.index 145 (.tmp 3) (.tmp 4)) 21, q 2 (.assign (.tmp 5)) 21] false) .ret)
theorem s66 : Tryd.f66.body.map (slim cfg) = some g66 := by kernel_rfl
def g54 : Code :=
  .seq (.region 0 #[q 2 (.assign (.const (.int .i32 0))) 21, q 3 (.assign (ik 0)) 3, q 4 (.assign (ik 0)) 33] false) (.seq (.seq (.region 1 #[q 9 (.move (.tmp 0)) 97, q 10 (bi .len #[.tmp 9] #[97]) 3, q 11 (.binOp .eql 3 (.tmp 10) (ik 0) 3) 4] false) (.cond (.tmp 11) (.seq (.region 2 #[q 2 (.assign (.const (.int .i32 0))) 21, q 3 (.assign (ik 0)) 3, q 4 (.assign (ik 6)) 33] false) .ret) .skip)) (.seq (.region 3 #[q 12 (.move (.tmp 0)) 97, q 13 (.indexAddr 97 (.tmp 12) (ik 0)) 0, q 14 (.load 5 (.tmp 13)) 5, q 15 (cl 64 #[.tmp 14] #[5]) 3, q 5 (.assign (.tmp 15)) 3] false) (.seq (.block 0 (.seq (.region 4 #[q 17 (.move (.tmp 5)) 3, q 18 (.binOp .eql 3 (.tmp 17) (ik 0) 3) 4, q 19 (.move (.tmp 18)) 4, qg 20 (.move (.tmp 0)) 97 2 false, qg 21 (.move (.tmp 5)) 3 2 false, qg 22 (cl 65 #[.tmp 20, .tmp 21] #[97, 3]) 4 2 false, qg 23 (.unOp .not 4 (.tmp 22)) 4 2 false, q 24 (.pick (.tmp 19) (.const (.bool true)) (.tmp 23)) 4, q 16 (.assign (.tmp 24)) 4] false) (.cond (.tmp 16) (.seq (.region 5 #[q 2 (.assign (.const (.int .i32 0))) 21, q 3 (.assign (ik 0)) 3, q 4 (.assign (ik 3)) 33] false) .ret) (.seq (.region 6 #[q 26 (.move (.tmp 0)) 97, q 27 (bi .len #[.tmp 26] #[97]) 3, q 28 (.move (.tmp 5)) 3, q 29 (.binOp .lss 3 (.tmp 27) (.tmp 28) 3) 4, q 25 (.assign (.tmp 29)) 4] false) (.cond (.tmp 25) (.seq (.region 7 #[q 2 (.assign (.const (.int .i32 0))) 21, q 3 (.assign (ik 0)) 3, q 4 (.assign (ik 11)) 33] false) .ret) .skip))))) (.seq (.region 8 #[q 30 (.move (.tmp 0)) 97, q 31 (.indexAddr 97 (.tmp 30) (ik 0)) 0, q 32 (.load 5 (.tmp 31)) 5, q 33 (.convert 5 21 (.tmp 32)) 21, q 34 (.move (.tmp 5)) 3, q 35 (cl 66 #[.tmp 34] #[3]) 21, q 36 (.binOp .andNot 21 (.tmp 33) (.tmp 35) 21) 21, q 6 (.assign (.tmp 36)) 21] false) (.seq (.seq (.region 9 #[q 37 (.move (.tmp 0)) 97, q 38 (.move (.tmp 5)) 3, q 39 (.slice 97 (.tmp 37) (some (ik 1)) (some (.tmp 38)) none) 97, q 40 (bi .len #[.tmp 39] #[97]) 3, q 41 (.move (ik 0)) 3] false) (.block 1 (.loop (.seq (.region 10 #[q 42 (.binOp .lss 3 (.tmp 41) (.tmp 40) 3) 0] false) (.seq (.cond (.tmp 42) .skip (.exit 1)) (.seq (.block 2 (.seq (.region 11 #[q 43 (.indexAddr 97 (.tmp 39) (.tmp 41)) 0, q 44 (.load 5 (.tmp 43)) 5, q 8 (.assign (.tmp 44)) 5] false) (.region 12 #[q 45 (.move (.tmp 6)) 21, q 46 (.binOp .shl 21 (.tmp 45) (.const (.int .u64 6)) 133) 21, q 47 (.move (.tmp 8)) 5, q 48 (.convert 5 21 (.tmp 47)) 21, q 49 (.binOp .and 21 (.tmp 48) (.const (.int .i32 63)) 21) 21, q 50 (.binOp .or 21 (.tmp 46) (.tmp 49) 21) 21, q 6 (.assign (.tmp 50)) 21] false))) (.region 13 #[q 51 (.binOp .add 3 (.tmp 41) (ik 1) 3) 3, q 41 (.move (.tmp 51)) 3] false))))))) (.seq (.region 14 #[q 52 (.move (.tmp 6)) 21, q 53 (.move (.tmp 5)) 3, q 2 (.assign (.tmp 52)) 21, q 3 (.assign (.tmp 53)) 3, q 4 (.assign (ik 0)) 33] false) .ret))))))
theorem s54 : Tryd.f54.body.map (slim cfg) = some g54 := by kernel_rfl

def wantedU (c : Int) : Nat := if c < 128 then 1 else if 194 ≤ c ∧ c < 224 then 2 else if 224 ≤ c ∧ c < 240 then 3 else if 240 ≤ c ∧ c < 245 then 4 else 0

theorem wanted_ok (c : Int) (prot : Nat) (H : Heap) (hp : prot ≤ H.length) : aLim cfg prot 64 [.int .u8 c] H = some (.int .i64 (wantedU c), none) := by
  have hsnap : snap H [.int .u8 c] = some ([.int .u8 c], false) := rfl
  unfold wantedU
  refine pure_slim rfl (by kernel_rfl) Tryd.func64 s64 hp hsnap (by simp [Tryd.f64]) fun fr hlen h => ?_
  simp only [Has, Nat.zero_add] at h
  obtain ⟨a0, -⟩ := h
  simp only [Tryd.f64] at hlen ⊢
  unfold g64
  by_cases h1 : c < 128
  · simp only [wk, aBuiltin, AV.cells, AV.leaf, Nat.reduceEqDiff, Nat.reduceLT, Nat.reduceAdd, Nat.reduceLeDiff, reduceCtorEq, Nat.reduceMul, Nat.reduceMod, cfgP, u64, hlen, a0, h1]
    exact Fin_pure (l := [.int .i64 1]) (by simp [wk, aBuiltin, AV.cells, AV.leaf, Nat.reduceEqDiff, Nat.reduceLT, Nat.reduceAdd, Nat.reduceLeDiff, reduceCtorEq, Nat.reduceMul, Nat.reduceMod, cfgP, u64, aResults, aResult, hlen]) (.still rfl) (by simp)
  · by_cases h2 : 194 ≤ c
    · by_cases h3 : c < 224
      · simp only [wk, aBuiltin, AV.cells, AV.leaf, Nat.reduceEqDiff, Nat.reduceLT, Nat.reduceAdd, Nat.reduceLeDiff, reduceCtorEq, Nat.reduceMul, Nat.reduceMod, cfgP, u64, hlen, a0, h1, h2, h3, none_beq]
        exact Fin_pure (l := [.int .i64 2]) (by simp [wk, aBuiltin, AV.cells, AV.leaf, Nat.reduceEqDiff, Nat.reduceLT, Nat.reduceAdd, Nat.reduceLeDiff, reduceCtorEq, Nat.reduceMul, Nat.reduceMod, cfgP, u64, aResults, aResult, hlen]) (.still rfl) (by simp)
      · have h4 : 224 ≤ c := by omega
        by_cases h5 : c < 240
        · simp only [wk, aBuiltin, AV.cells, AV.leaf, Nat.reduceEqDiff, Nat.reduceLT, Nat.reduceAdd, Nat.reduceLeDiff, reduceCtorEq, Nat.reduceMul, Nat.reduceMod, cfgP, u64, hlen, a0, h1, h2, h3, h4, h5, none_beq]
          exact Fin_pure (l := [.int .i64 3]) (by simp [wk, aBuiltin, AV.cells, AV.leaf, Nat.reduceEqDiff, Nat.reduceLT, Nat.reduceAdd, Nat.reduceLeDiff, reduceCtorEq, Nat.reduceMul, Nat.reduceMod, cfgP, u64, aResults, aResult, hlen]) (.still rfl) (by simp)
        · have h6 : 240 ≤ c := by omega
          by_cases h7 : c < 245
          · simp only [wk, aBuiltin, AV.cells, AV.leaf, Nat.reduceEqDiff, Nat.reduceLT, Nat.reduceAdd, Nat.reduceLeDiff, reduceCtorEq, Nat.reduceMul, Nat.reduceMod, cfgP, u64, hlen, a0, h1, h2, h3, h4, h5, h6, h7, none_beq]
            exact Fin_pure (l := [.int .i64 4]) (by simp [wk, aBuiltin, AV.cells, AV.leaf, Nat.reduceEqDiff, Nat.reduceLT, Nat.reduceAdd, Nat.reduceLeDiff, reduceCtorEq, Nat.reduceMul, Nat.reduceMod, cfgP, u64, aResults, aResult, hlen]) (.still rfl) (by simp)
          · simp only [wk, aBuiltin, AV.cells, AV.leaf, Nat.reduceEqDiff, Nat.reduceLT, Nat.reduceAdd, Nat.reduceLeDiff, reduceCtorEq, Nat.reduceMul, Nat.reduceMod, cfgP, u64, hlen, a0, h1, h2, h3, h4, h5, h6, h7, none_beq]
            exact Fin_pure (l := [.int .i64 0]) (by simp [wk, aBuiltin, AV.cells, AV.leaf, Nat.reduceEqDiff, Nat.reduceLT, Nat.reduceAdd, Nat.reduceLeDiff, reduceCtorEq, Nat.reduceMul, Nat.reduceMod, cfgP, u64, aResults, aResult, hlen]) (.still rfl) (by simp)
    · have h4 : ¬ 224 ≤ c := by omega
      have h6 : ¬ 240 ≤ c := by omega
      simp only [wk, aBuiltin, AV.cells, AV.leaf, Nat.reduceEqDiff, Nat.reduceLT, Nat.reduceAdd, Nat.reduceLeDiff, reduceCtorEq, Nat.reduceMul, Nat.reduceMod, cfgP, u64, hlen, a0, h1, h2, h4, h6, none_beq]
      exact Fin_pure (l := [.int .i64 0]) (by simp [wk, aBuiltin, AV.cells, AV.leaf, Nat.reduceEqDiff, Nat.reduceLT, Nat.reduceAdd, Nat.reduceLeDiff, reduceCtorEq, Nat.reduceMul, Nat.reduceMod, cfgP, u64, aResults, aResult, hlen]) (.still rfl) (by simp)

def leadU (n : Nat) : Int := if n = 2 then 192 else if n = 3 then 224 else if n = 4 then 240 else 0

theorem lead_ok (n : Nat) (hn : n ≤ 4) (prot : Nat) (H : Heap) (hp : prot ≤ H.length) : aLim cfg prot 66 [.int .i64 n] H = some (.int .i32 (leadU n), none) := by
  have hsnap : snap H [.int .i64 n] = some ([.int .i64 n], false) := rfl
  have bu : aBuild Tryd.prog 145 [(0, .int .i32 0), (1, .int .i32 0), (2, .int .i32 192), (3, .int .i32 224), (4, .int .i32 240)] = some (.agg [.int .i32 0, .int .i32 0, .int .i32 192, .int .i32 224, .int .i32 240]) := by kernel_rfl
  have i0 : aIndex Tryd.prog 145 (.agg [.int .i32 0, .int .i32 0, .int .i32 192, .int .i32 224, .int .i32 240]) (.int .i64 0) = some (.int .i32 0) := by kernel_rfl
  have i1 : aIndex Tryd.prog 145 (.agg [.int .i32 0, .int .i32 0, .int .i32 192, .int .i32 224, .int .i32 240]) (.int .i64 1) = some (.int .i32 0) := by kernel_rfl
  have i2 : aIndex Tryd.prog 145 (.agg [.int .i32 0, .int .i32 0, .int .i32 192, .int .i32 224, .int .i32 240]) (.int .i64 2) = some (.int .i32 192) := by kernel_rfl
  have i3 : aIndex Tryd.prog 145 (.agg [.int .i32 0, .int .i32 0, .int .i32 192, .int .i32 224, .int .i32 240]) (.int .i64 3) = some (.int .i32 224) := by kernel_rfl
  have i4 : aIndex Tryd.prog 145 (.agg [.int .i32 0, .int .i32 0, .int .i32 192, .int .i32 224, .int .i32 240]) (.int .i64 4) = some (.int .i32 240) := by kernel_rfl
  have ix : aIndex Tryd.prog 145 (.agg [.int .i32 0, .int .i32 0, .int .i32 192, .int .i32 224, .int .i32 240]) (.int .i64 n) = some (.int .i32 (leadU n)) := by
    have : n = 0 ∨ n = 1 ∨ n = 2 ∨ n = 3 ∨ n = 4 := by omega
    rcases this with rfl | rfl | rfl | rfl | rfl
    · exact i0
    · exact i1
    · exact i2
    · exact i3
    · exact i4
  refine pure_slim rfl (by kernel_rfl) Tryd.func66 s66 hp hsnap (by simp [Tryd.f66]) fun fr hlen h => ?_
  simp only [Has, Nat.zero_add] at h
  obtain ⟨a0, -⟩ := h
  simp only [Tryd.f66] at hlen ⊢
  unfold g66
  simp only [wk, aBuiltin, AV.cells, AV.leaf, Nat.reduceEqDiff, Nat.reduceLT, Nat.reduceAdd, Nat.reduceLeDiff, reduceCtorEq, Nat.reduceMul, Nat.reduceMod, cfgP, u64, hlen, a0, bu, ix]
  exact Fin_pure (l := [.int .i32 (leadU n)]) (by simp [wk, aBuiltin, AV.cells, AV.leaf, Nat.reduceEqDiff, Nat.reduceLT, Nat.reduceAdd, Nat.reduceLeDiff, reduceCtorEq, Nat.reduceMul, Nat.reduceMod, cfgP, u64, aResults, aResult, hlen]) (.still rfl) (by simp)

def fitsGo : Int → Int → List UInt8 → Bool
  | _, _, [] => true
  | lo, hi, c :: r => if (c.toNat : Int) < lo ∨ hi < (c.toNat : Int) then false else fitsGo 128 191 r
def lowU (c : Int) : Int := if c = 224 then 160 else if c = 240 then 144 else 128
def highU (c : Int) : Int := if c = 237 then 159 else if c = 244 then 143 else 191
def fitsU (c : UInt8) (b : List UInt8) (n : Nat) : Bool := fitsGo (lowU c.toNat) (highU c.toNat) ((b.take n).drop 1)


theorem fits_ok (c : UInt8) (r : List UInt8) (n : Nat) (hn : n ≤ 4) (v : AV) (hv : Sl encB v (c :: r)) (hl : (c :: r).length ≤ 9223372036854775807) (prot : Nat) (H : Heap) (hp : prot ≤ H.length) :
    aLim cfg prot 65 [v, .int .i64 n] H = some (.bool (fitsU c (c :: r) n), none) := by
  have hsnap : snap H [v, .int .i64 n] = some ([v, .int .i64 n], false) := by cases hv <;> rfl
  have e0 : aIndexAddr Tryd.prog 97 v (.int .i64 0) = some (.vptr [.int .u8 (c.toNat : Int)] 0) := hv.at (k := .i64) (i := 0) Tryd.underlying97 sz5 encB_len (by simp)
  generalize hb : c :: r = b at *
  have hpos : 0 < b.length := by rw [← hb]; simp
  unfold fitsU
  generalize hc : (c.toNat : Int) = cn at *
  have hmin : ((min (n : Int) (b.length : Int)) : Int) = ((min n b.length : Nat) : Int) := by omega
  have hlen2 : (b.take n).length = min n b.length := by simp
  refine pure_slim rfl (by kernel_rfl) Tryd.func65 s65 hp hsnap (by simp [Tryd.f65]) fun fr hlen h => ?_
  simp only [Has, Nat.zero_add] at h
  obtain ⟨a0, a1, -⟩ := h
  simp only [Tryd.f65] at hlen ⊢
  unfold g65
  have hcase : (decide (cn = 224) = true ∧ decide (cn = 237) = false ∧ decide (cn = 240) = false ∧ decide (cn = 244) = false ∧ lowU cn = 160 ∧ highU cn = 191) ∨
      (decide (cn = 224) = false ∧ decide (cn = 237) = true ∧ decide (cn = 240) = false ∧ decide (cn = 244) = false ∧ lowU cn = 128 ∧ highU cn = 159) ∨
      (decide (cn = 224) = false ∧ decide (cn = 237) = false ∧ decide (cn = 240) = true ∧ decide (cn = 244) = false ∧ lowU cn = 144 ∧ highU cn = 191) ∨
      (decide (cn = 224) = false ∧ decide (cn = 237) = false ∧ decide (cn = 240) = false ∧ decide (cn = 244) = true ∧ lowU cn = 128 ∧ highU cn = 143) ∨
      (decide (cn = 224) = false ∧ decide (cn = 237) = false ∧ decide (cn = 240) = false ∧ decide (cn = 244) = false ∧ lowU cn = 128 ∧ highU cn = 191) := by
    unfold lowU highU
    by_cases k1 : cn = 224
    · subst k1; decide
    · by_cases k2 : cn = 237
      · subst k2; decide
      · by_cases k3 : cn = 240
        · subst k3; decide
        · by_cases k4 : cn = 244
          · subst k4; decide
          · simp [k1, k2, k3, k4]
  generalize lowU cn = lo0 at *
  generalize highU cn = hi0 at *
  generalize hg : fitsGo lo0 hi0 ((b.take n).drop 1) = g
  rcases hcase with ⟨d1, d2, d3, d4, hl0, hh0⟩ | ⟨d1, d2, d3, d4, hl0, hh0⟩ | ⟨d1, d2, d3, d4, hl0, hh0⟩ | ⟨d1, d2, d3, d4, hl0, hh0⟩ | ⟨d1, d2, d3, d4, hl0, hh0⟩
  all_goals
    simp only [wk, aBuiltin, AV.cells, AV.leaf, Nat.reduceEqDiff, Nat.reduceLT, Nat.reduceAdd, Nat.reduceLeDiff, reduceCtorEq, Nat.reduceMul, Nat.reduceMod, cfgP, u64, hlen, a0, a1, e0, d1, d2, d3, d4]
    refine loop_rule (fun m fr H' => ∃ (i : Nat) (lo hi : Int), m = b.length - i ∧ 1 ≤ i ∧ i ≤ b.length ∧ fr.length = 41 ∧ fget fr 0 = v ∧ fget fr 1 = .int .i64 n ∧ fget fr 5 = .int .u8 lo ∧ fget fr 6 = .int .u8 hi ∧ fget fr 7 = .int .i64 i
      ∧ H' = H ∧ g = fitsGo lo hi ((b.take n).drop i)) ?_ (b.length - 1) _ _ ⟨1, lo0, hi0, by simp [wk, aBuiltin, AV.cells, AV.leaf, Nat.reduceEqDiff, Nat.reduceLT, Nat.reduceAdd, Nat.reduceLeDiff, reduceCtorEq, Nat.reduceMul, Nat.reduceMod, cfgP, u64, hlen, a0, a1, hl0, hh0]; refine ⟨by omega, ?_⟩; rw [← hg, hl0, hh0]; simp⟩
    rintro m fr H' ⟨i, lo, hi, rfl, h1i, hi', hlen, a0, a1, a5, a6, a7, hHe, hc⟩ ih
    subst hHe
    simp only [wk, aBuiltin, AV.cells, AV.leaf, Nat.reduceEqDiff, Nat.reduceLT, Nat.reduceAdd, Nat.reduceLeDiff, reduceCtorEq, Nat.reduceMul, Nat.reduceMod, cfgP, u64, hlen, a0, a1, a5, a6, a7, hv.len Tryd.underlying97, hmin]
    refine RC_split (fun h => ?_) (fun h => ?_)
    · have hlt : i < min n b.length := by simpa using h
      have hw : IntKind.i64.wrap ((i : Int) + 1) = ((i + 1 : Nat) : Int) := by rw [wrap64 (by omega) (by omega)]; simp
      have hib : i < b.length := by omega
      have e1 := hv.at (k := .i64) Tryd.underlying97 sz5 encB_len hib
      have hit : i < (b.take n).length := by omega
      have hd : (b.take n).drop i = b[i] :: (b.take n).drop (i + 1) := by
        rw [List.drop_eq_getElem_cons hit]; simp
      rw [hd] at hc
      generalize b[i] = x at *
      rw [fitsGo] at hc
      simp only [encB, AV.cells] at e1
      by_cases q1 : (x.toNat : Int) < lo
      · simp only [wk, aBuiltin, AV.cells, AV.leaf, Nat.reduceEqDiff, Nat.reduceLT, Nat.reduceAdd, Nat.reduceLeDiff, reduceCtorEq, Nat.reduceMul, Nat.reduceMod, cfgP, u64, hlen, a0, a1, a5, a6, a7, e1, q1, none_beq]
        rw [hc, if_pos (.inl q1)]
        exact Fin_pure (l := [.bool false]) (by simp [wk, aBuiltin, AV.cells, AV.leaf, Nat.reduceEqDiff, Nat.reduceLT, Nat.reduceAdd, Nat.reduceLeDiff, reduceCtorEq, Nat.reduceMul, Nat.reduceMod, cfgP, u64, aResults, aResult, hlen]) (.still rfl) (by simp)
      · by_cases q2 : hi < (x.toNat : Int)
        · simp only [wk, aBuiltin, AV.cells, AV.leaf, Nat.reduceEqDiff, Nat.reduceLT, Nat.reduceAdd, Nat.reduceLeDiff, reduceCtorEq, Nat.reduceMul, Nat.reduceMod, cfgP, u64, hlen, a0, a1, a5, a6, a7, e1, q1, q2, none_beq]
          rw [hc, if_pos (.inr q2)]
          exact Fin_pure (l := [.bool false]) (by simp [wk, aBuiltin, AV.cells, AV.leaf, Nat.reduceEqDiff, Nat.reduceLT, Nat.reduceAdd, Nat.reduceLeDiff, reduceCtorEq, Nat.reduceMul, Nat.reduceMod, cfgP, u64, aResults, aResult, hlen]) (.still rfl) (by simp)
        · simp only [wk, aBuiltin, AV.cells, AV.leaf, Nat.reduceEqDiff, Nat.reduceLT, Nat.reduceAdd, Nat.reduceLeDiff, reduceCtorEq, Nat.reduceMul, Nat.reduceMod, cfgP, u64, hlen, a0, a1, a5, a6, a7, e1, q1, q2, none_beq, hw]
          rw [if_neg (by omega)] at hc
          refine ih _ _ (b.length - (i + 1)) (by omega) ⟨i + 1, 128, 191, rfl, by omega, by omega, ?_⟩
          simp [wk, aBuiltin, AV.cells, AV.leaf, Nat.reduceEqDiff, Nat.reduceLT, Nat.reduceAdd, Nat.reduceLeDiff, reduceCtorEq, Nat.reduceMul, Nat.reduceMod, cfgP, u64, hlen, a0, a1, hc]
    · have hnl : ¬ i < min n b.length := by simpa using h
      have he : (b.take n).drop i = [] := by rw [List.drop_eq_nil_iff]; omega
      rw [he, fitsGo] at hc
      rw [hc]
      simp only [wk, aBuiltin, AV.cells, AV.leaf, Nat.reduceEqDiff, Nat.reduceLT, Nat.reduceAdd, Nat.reduceLeDiff, reduceCtorEq, Nat.reduceMul, Nat.reduceMod, cfgP, u64, hlen, a0, a1]
      exact Fin_pure (l := [.bool true]) (by simp [wk, aBuiltin, AV.cells, AV.leaf, Nat.reduceEqDiff, Nat.reduceLT, Nat.reduceAdd, Nat.reduceLeDiff, reduceCtorEq, Nat.reduceMul, Nat.reduceMod, cfgP, u64, aResults, aResult, hlen]) (.still rfl) (by simp)

theorem Sl_mid {α : Type} {enc : α → AV} {v : AV} {l : List α} (h : Sl enc v l) {P : Program} {t e : TypeId} {sz lo hi : Nat} (hu : P.underlying t = some (.slice e)) (hsz : sizeT P e = some sz)
    (he : ∀ x, (enc x).cells.length = sz) (h1 : lo ≤ hi) (h2 : hi ≤ l.length) : ∃ v', aSlice P t v (some (.int .i64 (lo : Nat))) (some (.int .i64 (hi : Nat))) none = some v' ∧ Sl enc v' ((l.drop lo).take (hi - lo)) := by
  cases h with
  | nil =>
    have : hi = 0 := by simpa using h2
    subst this
    have : lo = 0 := by omega
    subst this
    exact ⟨.nilS, by simp [aSlice, hu, hsz, aBounds, asNat, optInt], .nil⟩
  | vs l full =>
    have h3 : ((l.map enc).all fun v => v.cells.length == sz) = true := by simp [he]
    refine ⟨.vs (((l.drop lo).take (hi - lo)).map enc) (fullOf full hi l.length none), ?_, .vs _ _⟩
    simp only [aSlice, hu, hsz, Option.bind_some, h3, if_true]
    simp [aBounds, asNat, optInt, h1, h2, List.map_take, List.map_drop]

def shl6 (r : Int) : Int := IntKind.i32.wrap (r * 2 ^ min (6 : Int).toNat IntKind.i32.bits)
def runeStep (r : Int) (c : Int) : Int := IntKind.i32.wrap (BitVec.ofInt IntKind.i32.bits (shl6 r) ||| BitVec.ofInt IntKind.i32.bits (IntKind.i32.wrap (BitVec.ofInt IntKind.i32.bits (IntKind.i32.wrap c) &&& BitVec.ofInt IntKind.i32.bits 63).toNat)).toNat
def runeFirst (c : Int) (n : Nat) : Int := IntKind.i32.wrap (BitVec.ofInt IntKind.i32.bits (IntKind.i32.wrap c) &&& ~~~ BitVec.ofInt IntKind.i32.bits (leadU n)).toNat
def runeGo : Int → List UInt8 → Int
  | r, [] => r
  | r, c :: m => runeGo (runeStep r c.toNat) m
/-- the rune at the beginning of bytes, how many they are, or why there is none. -/
def nextU : List UInt8 → Int × Nat × Int
  | [] => (0, 0, 6)
  | c :: r =>
    let n := wantedU c.toNat
    if n = 0 ∨ fitsU c (c :: r) n = false then (0, 0, 3)
    else if (c :: r).length < n then (0, 0, 11)
    else (runeGo (runeFirst c.toNat n) (((c :: r).drop 1).take (n - 1)), n, 0)
theorem nextU_eq {b : List UInt8} {c : UInt8} {r : List UInt8} (hb : b = c :: r) : nextU b = if wantedU c.toNat = 0 ∨ fitsU c b (wantedU c.toNat) = false then (0, 0, 3) else if b.length < wantedU c.toNat then (0, 0, 11)
    else (runeGo (runeFirst c.toNat (wantedU c.toNat)) ((b.drop 1).take (wantedU c.toNat - 1)), wantedU c.toNat, 0) := by subst hb; rfl
theorem wantedU_le (c : Int) : wantedU c ≤ 4 := by unfold wantedU; split <;> (try split) <;> (try split) <;> (try split) <;> omega


theorem next_ok (b : List UInt8) (o v : AV) (sn : Bool) (hv : Sl encB v b) (hl : b.length ≤ 9223372036854775807) (prot : Nat) (H : Heap) (hp : prot ≤ H.length) (hsnap : snap H [o] = some ([v], sn)) :
    aLim cfg prot 54 [o] H = some (.tup [.int .i32 (nextU b).1, .int .i64 (nextU b).2.1, .int .i64 (nextU b).2.2], none) := by
  refine pure_slim rfl (by kernel_rfl) Tryd.func54 s54 hp hsnap (by simp [Tryd.f54]) fun fr hlen h => ?_
  simp only [Has, Nat.zero_add] at h
  obtain ⟨a0, -⟩ := h
  simp only [Tryd.f54] at hlen ⊢
  unfold g54
  have hfz : ∀ (K : Heap) (x y z : AV), still x = true → still y = true → still z = true → Frz K H.length (packR [x, y, z]) (.tup [x, y, z]) := fun K x y z h1 h2 h3 => .tup (.cons (.still h1) (.cons (.still h2) (.cons (.still h3) .nil)))
  by_cases hb : b = []
  · subst hb
    have hn : ∀ K, aLen Tryd.prog K 97 v = some (.int .i64 0) := fun K => hv.len Tryd.underlying97
    simp only [wk, aBuiltin, AV.cells, AV.leaf, Nat.reduceEqDiff, Nat.reduceLT, Nat.reduceAdd, Nat.reduceLeDiff, reduceCtorEq, Nat.reduceMul, Nat.reduceMod, cfgP, u64, hlen, a0, hn]
    exact Fin_pure (l := [.int .i32 0, .int .i64 0, .int .i64 6]) (by simp [wk, aBuiltin, AV.cells, AV.leaf, Nat.reduceEqDiff, Nat.reduceLT, Nat.reduceAdd, Nat.reduceLeDiff, reduceCtorEq, Nat.reduceMul, Nat.reduceMod, cfgP, u64, hlen, aResults, aResult]) (hfz _ _ _ _ rfl rfl rfl) (by intro _; rfl)
  · obtain ⟨c, r, hb⟩ := List.exists_cons_of_ne_nil hb
    have hz : decide ((b.length : Int) = 0) = false := by rw [hb]; simp; omega
    have e0 : aIndexAddr Tryd.prog 97 v (.int .i64 0) = some (.vptr [.int .u8 (c.toNat : Int)] 0) := by
      subst hb
      exact hv.at (k := .i64) (i := 0) Tryd.underlying97 sz5 encB_len (by simp)
    have hw := fun K (hK : H.length ≤ K.length) => wanted_ok (c.toNat : Int) H.length K hK
    have hn4 := wantedU_le (c.toNat : Int)
    have hf := fun K (hK : H.length ≤ K.length) => fits_ok c r (wantedU (c.toNat : Int)) hn4 v (by rw [← hb]; exact hv) (by rw [← hb]; exact hl) H.length K hK
    have hld := fun K (hK : H.length ≤ K.length) => lead_ok (wantedU (c.toNat : Int)) hn4 H.length K hK
    rw [nextU_eq hb]
    rw [← hb] at hf
    generalize hn : wantedU (c.toNat : Int) = n at *
    by_cases hn0 : n = 0
    · subst hn0
      have hw : ∀ K, H.length ≤ K.length → aLim cfg H.length 64 [.int .u8 (c.toNat : Int)] K = some (.int .i64 0, none) := hw
      simp only [true_or, if_true]
      simp only [wk, aBuiltin, AV.cells, AV.leaf, Nat.reduceEqDiff, Nat.reduceLT, Nat.reduceAdd, Nat.reduceLeDiff, reduceCtorEq, Nat.reduceMul, Nat.reduceMod, cfgP, u64, hlen, a0, hv.len Tryd.underlying97, hz, e0, hw, none_beq]
      exact Fin_pure (l := [.int .i32 0, .int .i64 0, .int .i64 3]) (by simp [wk, aBuiltin, AV.cells, AV.leaf, Nat.reduceEqDiff, Nat.reduceLT, Nat.reduceAdd, Nat.reduceLeDiff, reduceCtorEq, Nat.reduceMul, Nat.reduceMod, cfgP, u64, hlen, aResults, aResult]) (hfz _ _ _ _ rfl rfl rfl) (by intro _; rfl)
    · have hnd : decide ((n : Int) = 0) = false := by simp; omega
      cases hfit : fitsU c b n with
      | false =>
        rw [hfit] at hf
        simp only [or_true, if_true]
        simp only [wk, aBuiltin, AV.cells, AV.leaf, Nat.reduceEqDiff, Nat.reduceLT, Nat.reduceAdd, Nat.reduceLeDiff, reduceCtorEq, Nat.reduceMul, Nat.reduceMod, cfgP, u64, hlen, a0, hv.len Tryd.underlying97, hz, e0, hw, hnd, hf, none_beq]
        exact Fin_pure (l := [.int .i32 0, .int .i64 0, .int .i64 3]) (by simp [wk, aBuiltin, AV.cells, AV.leaf, Nat.reduceEqDiff, Nat.reduceLT, Nat.reduceAdd, Nat.reduceLeDiff, reduceCtorEq, Nat.reduceMul, Nat.reduceMod, cfgP, u64, hlen, aResults, aResult]) (hfz _ _ _ _ rfl rfl rfl) (by intro _; rfl)
      | true =>
        rw [hfit] at hf
        rw [if_neg (by simp [hn0])]
        by_cases hlt : (b.length : Int) < n
        · rw [if_pos (by omega)]
          simp only [wk, aBuiltin, AV.cells, AV.leaf, Nat.reduceEqDiff, Nat.reduceLT, Nat.reduceAdd, Nat.reduceLeDiff, reduceCtorEq, Nat.reduceMul, Nat.reduceMod, cfgP, u64, hlen, a0, hv.len Tryd.underlying97, hz, e0, hw, hnd, hf, none_beq, hlt]
          exact Fin_pure (l := [.int .i32 0, .int .i64 0, .int .i64 11]) (by simp [wk, aBuiltin, AV.cells, AV.leaf, Nat.reduceEqDiff, Nat.reduceLT, Nat.reduceAdd, Nat.reduceLeDiff, reduceCtorEq, Nat.reduceMul, Nat.reduceMod, cfgP, u64, hlen, aResults, aResult]) (hfz _ _ _ _ rfl rfl rfl) (by intro _; rfl)
        · rw [if_neg (by omega)]
          obtain ⟨v2, e2, hv2⟩ := Sl_mid hv (lo := 1) (hi := n) Tryd.underlying97 sz5 encB_len (by omega) (by omega)
          have e2 : aSlice Tryd.prog 97 v (some (.int .i64 1)) (some (.int .i64 n)) none = some v2 := e2
          have hm : ((b.drop 1).take (n - 1)).length = n - 1 := by simp; omega
          generalize (b.drop 1).take (n - 1) = m at *
          simp only [wk, aBuiltin, AV.cells, AV.leaf, Nat.reduceEqDiff, Nat.reduceLT, Nat.reduceAdd, Nat.reduceLeDiff, reduceCtorEq, Nat.reduceMul, Nat.reduceMod, cfgP, u64, hlen, a0, hv.len Tryd.underlying97, hz, e0, hw, hnd, hf, none_beq, hlt, hld, e2, hv2.len Tryd.underlying97]
          refine loop_rule (fun k fr H' => ∃ (i : Nat) (x : Int), k = m.length - i ∧ i ≤ m.length ∧ fr.length = 54 ∧ fget fr 39 = v2 ∧ fget fr 40 = .int .i64 m.length ∧ fget fr 41 = .int .i64 i ∧ fget fr 6 = .int .i32 x ∧ fget fr 5 = .int .i64 n
            ∧ runeGo (runeFirst c.toNat n) m = runeGo x (m.drop i)) ?_ m.length _ _ ⟨0, runeFirst c.toNat n, by simp [wk, aBuiltin, AV.cells, AV.leaf, Nat.reduceEqDiff, Nat.reduceLT, Nat.reduceAdd, Nat.reduceLeDiff, reduceCtorEq, Nat.reduceMul, Nat.reduceMod, cfgP, u64, hlen, a0, runeFirst]⟩
          rintro k fr H' ⟨i, x, rfl, hi, hlen, a39, a40, a41, a6, a5, hc⟩ ih
          simp only [wk, aBuiltin, AV.cells, AV.leaf, Nat.reduceEqDiff, Nat.reduceLT, Nat.reduceAdd, Nat.reduceLeDiff, reduceCtorEq, Nat.reduceMul, Nat.reduceMod, cfgP, u64, hlen, a39, a40, a41, a6, a5]
          refine RC_split (fun h => ?_) (fun h => ?_)
          · have hlt : i < m.length := by simpa using h
            have hw : IntKind.i64.wrap ((i : Int) + 1) = ((i + 1 : Nat) : Int) := by rw [wrap64 (by omega) (by omega)]; simp
            have e1 := hv2.at (k := .i64) Tryd.underlying97 sz5 encB_len hlt
            have hd : m.drop i = m[i] :: m.drop (i + 1) := by simp
            have hs := fun (xo yo : Operand) => bin_shl (P := Tryd.prog) (t := 21) (xo := xo) (yo := yo) (k := .i32) (k' := .u64) (a := x) (b := 6) (by decide)
            rw [hd] at hc
            generalize m[i] = y at *
            simp only [encB, AV.cells] at e1
            simp only [wk, aBuiltin, AV.cells, AV.leaf, Nat.reduceEqDiff, Nat.reduceLT, Nat.reduceAdd, Nat.reduceLeDiff, reduceCtorEq, Nat.reduceMul, Nat.reduceMod, cfgP, u64, hlen, a39, a40, a41, a6, a5, e1, hs, hw]
            refine ih _ _ (m.length - (i + 1)) (by omega) ⟨i + 1, runeStep x y.toNat, rfl, hlt, ?_⟩
            rw [hc, runeGo]
            simp [wk, aBuiltin, AV.cells, AV.leaf, Nat.reduceEqDiff, Nat.reduceLT, Nat.reduceAdd, Nat.reduceLeDiff, reduceCtorEq, Nat.reduceMul, Nat.reduceMod, cfgP, u64, hlen, a39, a40, a5, runeStep, shl6]
          · have hnl : ¬ i < m.length := by simpa using h
            have he : m.drop i = [] := by simp; omega
            rw [he, runeGo] at hc
            rw [hc]
            simp only [wk, aBuiltin, AV.cells, AV.leaf, Nat.reduceEqDiff, Nat.reduceLT, Nat.reduceAdd, Nat.reduceLeDiff, reduceCtorEq, Nat.reduceMul, Nat.reduceMod, cfgP, u64, hlen, a6, a5]
            exact Fin_pure (l := [.int .i32 x, .int .i64 n, .int .i64 0]) (by simp [wk, aBuiltin, AV.cells, AV.leaf, Nat.reduceEqDiff, Nat.reduceLT, Nat.reduceAdd, Nat.reduceLeDiff, reduceCtorEq, Nat.reduceMul, Nat.reduceMod, cfgP, u64, hlen, aResults, aResult]) (hfz _ _ _ _ rfl rfl rfl) (by intro _; rfl)
end Go.Proofs.YtimbhlbkidmplaaDoor
/- Chapter 2: what a rune's reading tells. -/
namespace Go.Proofs.YtimbhlbkidmplaaDoor
open Go Go.Abs AbsSeat Ty

theorem nextU_pos {b : List UInt8} (h : (nextU b).2.2 = 0) : 0 < (nextU b).2.1 ∧ (nextU b).2.1 ≤ b.length := by
  by_cases hb : b = []
  · subst hb; simp [nextU] at h
  · obtain ⟨c, r, hb⟩ := List.exists_cons_of_ne_nil hb
    rw [nextU_eq hb] at h ⊢
    by_cases h1 : wantedU c.toNat = 0 ∨ fitsU c b (wantedU c.toNat) = false
    · rw [if_pos h1] at h; simp at h
    · rw [if_neg h1] at h ⊢
      by_cases h2 : b.length < wantedU c.toNat
      · rw [if_pos h2] at h; simp at h
      · rw [if_neg h2] at h ⊢
        simp only [not_or] at h1
        simp only
        omega
theorem nextU_err (b : List UInt8) : (nextU b).2.2 = 0 ∨ (nextU b).2.2 = 3 ∨ (nextU b).2.2 = 6 ∨ (nextU b).2.2 = 11 := by
  by_cases hb : b = []
  · subst hb; simp [nextU]
  · obtain ⟨c, r, hb⟩ := List.exists_cons_of_ne_nil hb
    rw [nextU_eq hb]
    split
    · simp
    · split <;> simp

/-- how many runes stand at the beginning of bytes, and how many bytes these are. -/
theorem conv_sb {P : Program} {s d e : TypeId} (h1 : P.underlying s = some .string) (h2 : P.underlying d = some (.slice e)) (h3 : P.underlying e = some (.int .u8)) (H : Heap) (x : List UInt8) :
    aConvert P H s d (.str x) = some (.bs ⟨H.length, 0, 0, x.length, 0, 1, false, false⟩, some (H ++ [Blk.cells 0 (cellsOf encB x)])) := by
  simp only [aConvert, h1, h2, h3, ← cellsB]
end Go.Proofs.YtimbhlbkidmplaaDoor
/- errors.As, errors.Is at errors of the program's, walked. -/
namespace Go.Proofs.YtimbhlbkidmplaaDoor
open Go Go.Abs AbsSeat Ty

theorem u48 : type_of% (And.intro (show tagT Tryd.prog 112 = 0 from by kernel_rfl) (And.intro ag3 (And.intro sz3 (And.intro by3 (And.intro ze3 (And.intro Tryd.underlying3 (And.intro ag4 (And.intro sz4 (And.intro by4 (And.intro ze4 (And.intro Tryd.underlying4 (And.intro ag20 (And.intro sz20 (And.intro by20 (And.intro ze20 (And.intro Tryd.underlying20 (And.intro ag77 (And.intro sz77 (And.intro by77 (And.intro ze77 (And.intro Tryd.underlying77 (And.intro ag94 (And.intro sz94 (And.intro by94 (And.intro ze94 (And.intro Tryd.underlying94 (And.intro ag112 (And.intro sz112 (And.intro by112 (And.intro ze112 (And.intro bu112 (And.intro Tryd.underlying112 (And.intro ag115 (And.intro sz115 (And.intro by115 (And.intro ze115 (And.intro Tryd.underlying115 (And.intro ag128 (And.intro sz128 (And.intro by128 (And.intro se128 (And.intro ze128 Tryd.underlying128)))))))))))))))))))))))))))))))))))))))))) := And.intro (show tagT Tryd.prog 112 = 0 from by kernel_rfl) (And.intro ag3 (And.intro sz3 (And.intro by3 (And.intro ze3 (And.intro Tryd.underlying3 (And.intro ag4 (And.intro sz4 (And.intro by4 (And.intro ze4 (And.intro Tryd.underlying4 (And.intro ag20 (And.intro sz20 (And.intro by20 (And.intro ze20 (And.intro Tryd.underlying20 (And.intro ag77 (And.intro sz77 (And.intro by77 (And.intro ze77 (And.intro Tryd.underlying77 (And.intro ag94 (And.intro sz94 (And.intro by94 (And.intro ze94 (And.intro Tryd.underlying94 (And.intro ag112 (And.intro sz112 (And.intro by112 (And.intro ze112 (And.intro bu112 (And.intro Tryd.underlying112 (And.intro ag115 (And.intro sz115 (And.intro by115 (And.intro ze115 (And.intro Tryd.underlying115 (And.intro ag128 (And.intro sz128 (And.intro by128 (And.intro se128 (And.intro ze128 Tryd.underlying128)))))))))))))))))))))))))))))))))))))))))
def g48 : Code :=
  .seq (.region 0 #[q 4 (.assign (.const (.bool false))) 4] false) (.seq (.seq (.region 1 #[q 8 (.move (.tmp 0)) 77, q 9 (.binOp .eql 77 (.tmp 8) (.const .nilIface) 77) 4] false) (.cond (.tmp 9) (.seq (.region 2 #[q 4 (.assign (.const (.bool false))) 4] false) .ret) .skip)) (.seq (.seq (.region 3 #[q 10 (.move (.tmp 1)) 20, q 11 (.binOp .eql 20 (.tmp 10) (.const .nilIface) 20) 4] false) (.cond (.tmp 11) (.region 4 #[q 12 (.makeInterface 9 (.const (.string { data := #[101, 114, 114, 111, 114, 115, 58, 32, 116, 97, 114, 103, 101, 116, 32, 99, 97, 110, 110, 111, 116, 32, 98, 101, 32, 110, 105, 108] }))) 20, qn (.panic (.tmp 12)) 0] false) .skip)) (.seq (.region 5 #[q 13 (.move (.tmp 1)) 20, q 14 (cl 58 #[.tmp 13] #[20]) 112, q 5 (.alloc 112) 0, qn (.store 112 (.tmp 5) (.tmp 14)) 0] false) (.seq (.region 6 #[q 15 (.load 112 (.tmp 5)) 112, q 16 (cl 59 #[.tmp 15] #[112]) 94, q 6 (.assign (.tmp 16)) 94] false) (.seq (.seq (.region 7 #[q 17 (.move (.tmp 6)) 94, q 18 (.call { callee := .invoke (.tmp 17) "Kind", args := #[], argTypes := #[] }) 115, q 19 (.binOp .neq 115 (.tmp 18) (.const (.int .u8 22)) 115) 4, q 20 (.move (.tmp 19)) 4, qg 21 (.load 112 (.tmp 5)) 112 3 false, qg 22 (cl 60 #[.tmp 21] #[112]) 4 3 false, q 23 (.pick (.tmp 20) (.const (.bool true)) (.tmp 22)) 4] false) (.cond (.tmp 23) (.region 8 #[q 24 (.makeInterface 9 (.const (.string { data := #[101, 114, 114, 111, 114, 115, 58, 32, 116, 97, 114, 103, 101, 116, 32, 109, 117, 115, 116, 32, 98, 101, 32, 97, 32, 110, 111, 110, 45, 110, 105, 108, 32, 112, 111, 105, 110, 116, 101, 114] }))) 20, qn (.panic (.tmp 24)) 0] false) .skip)) (.seq (.region 9 #[q 25 (.move (.tmp 6)) 94, q 26 (.call { callee := .invoke (.tmp 25) "Elem", args := #[], argTypes := #[] }) 94, q 7 (.assign (.tmp 26)) 94] false) (.seq (.seq (.region 10 #[q 27 (.move (.tmp 7)) 94, q 28 (.call { callee := .invoke (.tmp 27) "Kind", args := #[], argTypes := #[] }) 115, q 29 (.binOp .neq 115 (.tmp 28) (.const (.int .u8 20)) 115) 4, q 30 (.move (.tmp 29)) 4, qg 31 (.move (.tmp 7)) 94 3 true, qg 32 (.load 94 (.global 0)) 94 3 true, qg 33 (.call { callee := .invoke (.tmp 31) "Implements", args := #[.tmp 32], argTypes := #[94] }) 4 3 true, qg 34 (.unOp .not 4 (.tmp 33)) 4 3 true, q 35 (.pick (.tmp 30) (.tmp 34) (.const (.bool false))) 4] false) (.cond (.tmp 35) (.region 11 #[q 36 (.makeInterface 9 (.const (.string { data := #[101, 114, 114, 111, 114, 115, 58, 32, 42, 116, 97, 114, 103, 101, 116, 32, 109, 117, 115, 116, 32, 98, 101, 32, 105, 110, 116, 101, 114, 102, 97, 99, 101, 32, 111, 114, 32, 105, 109, 112, 108, 101, 109, 101, 110, 116, 32, 101, 114, 114, 111, 114] }))) 20, qn (.panic (.tmp 36)) 0] false) .skip)) (.seq (.region 12 #[q 37 (.move (.tmp 0)) 77, q 38 (.move (.tmp 1)) 20, q 39 (.load 112 (.tmp 5)) 112, q 40 (.move (.tmp 7)) 94, q 41 (cl 61 #[.tmp 37, .tmp 38, .tmp 39, .tmp 40] #[77, 20, 112, 94]) 4, q 4 (.assign (.tmp 41)) 4] false) .ret))))))))
theorem s48 : Tryd.f48.body.map (slim cfg) = some g48 := by kernel_rfl
def g61 : Code :=
  .seq (.region 0 #[q 6 (.box 112 (.tmp 2)) 0, q 8 (.assign (.const (.bool false))) 4] false) (.block 0 (.loop (.block 1 (.seq (.seq (.region 1 #[q 16 (.move (.tmp 0)) 77, q 17 (cl 50 #[.tmp 16] #[20]) 94, q 18 (.move (.tmp 3)) 94, q 19 (.call { callee := .invoke (.tmp 17) "AssignableTo", args := #[.tmp 18], argTypes := #[94] }) 4] false) (.cond (.tmp 19) (.seq (.region 2 #[q 20 (.load 112 (.tmp 6)) 112, q 21 (cl 68 #[.tmp 20] #[112]) 112, q 22 (.move (.tmp 0)) 77, q 23 (cl 58 #[.tmp 22] #[20]) 112, q 24 (cl 69 #[.tmp 21, .tmp 23] #[112, 112]) 0] false) (.seq (.region 3 #[q 8 (.assign (.const (.bool true))) 4] false) .ret)) .skip)) (.seq (.seq (.region 4 #[q 26 (.move (.tmp 0)) 77, q 27 (.typeAssert (.tmp 26) 77 136 true) 137, q 25 (.move (.tmp 27)) 137, q 28 (.extract (.tmp 25) 0) 136, q 29 (.extract (.tmp 25) 1) 4, q 9 (.assign (.tmp 28)) 136, q 10 (.assign (.tmp 29)) 4] false) (.seq (.region 5 #[q 30 (.move (.tmp 10)) 4, q 31 (.move (.tmp 30)) 4, qg 32 (.move (.tmp 9)) 136 1 true, qg 33 (.move (.tmp 1)) 20 1 true, qg 34 (.call { callee := .invoke (.tmp 32) "As", args := #[.tmp 33], argTypes := #[20] }) 4 1 true, q 35 (.pick (.tmp 31) (.tmp 34) (.const (.bool false))) 4] false) (.cond (.tmp 35) (.seq (.region 6 #[q 8 (.assign (.const (.bool true))) 4] false) .ret) .skip))) (.seq (.region 7 #[q 36 (.move (.tmp 0)) 77] false) (.block 2 (.seq (.region 10 #[q 37 (.typeAssert (.tmp 36) 77 125 true) 0, q 38 (.extract (.tmp 37) 1) 4, q 39 (.extract (.tmp 37) 0) 125] false) (.cond (.tmp 38) (.seq (.region 11 #[q 11 (.assign (.tmp 39)) 125] false) (.seq (.region 12 #[q 40 (.move (.tmp 11)) 125, q 41 (.call { callee := .invoke (.tmp 40) "Unwrap", args := #[], argTypes := #[] }) 77, q 0 (.assign (.tmp 41)) 77] false) (.seq (.region 13 #[q 42 (.move (.tmp 0)) 77, q 43 (.binOp .eql 77 (.tmp 42) (.const .nilIface) 77) 4] false) (.cond (.tmp 43) (.seq (.region 14 #[q 8 (.assign (.const (.bool false))) 4] false) .ret) .skip)))) (.seq (.region 15 #[q 44 (.typeAssert (.tmp 36) 77 127 true) 0, q 45 (.extract (.tmp 44) 1) 4, q 46 (.extract (.tmp 44) 0) 127] false) (.cond (.tmp 45) (.seq (.region 16 #[q 12 (.assign (.tmp 46)) 127] false) (.seq (.seq (.region 17 #[q 47 (.move (.tmp 12)) 127, q 48 (.call { callee := .invoke (.tmp 47) "Unwrap", args := #[], argTypes := #[] }) 128, q 49 (bi .len #[.tmp 48] #[128]) 3, q 50 (.move (ik 0)) 3] false) (.block 3 (.loop (.seq (.region 18 #[q 51 (.binOp .lss 3 (.tmp 50) (.tmp 49) 3) 0] false) (.seq (.cond (.tmp 51) .skip (.exit 3)) (.seq (.block 4 (.seq (.region 19 #[q 52 (.indexAddr 128 (.tmp 48) (.tmp 50)) 0, q 53 (.load 77 (.tmp 52)) 77, q 14 (.assign (.tmp 53)) 77] false) (.seq (.seq (.region 20 #[q 54 (.move (.tmp 14)) 77, q 55 (.binOp .eql 77 (.tmp 54) (.const .nilIface) 77) 4] false) (.cond (.tmp 55) (.exit 4) .skip)) (.seq (.region 21 #[q 56 (.move (.tmp 14)) 77, q 57 (.move (.tmp 1)) 20, q 58 (.load 112 (.tmp 6)) 112, q 59 (.move (.tmp 3)) 94, q 60 (cl 61 #[.tmp 56, .tmp 57, .tmp 58, .tmp 59] #[77, 20, 112, 94]) 4] false) (.cond (.tmp 60) (.seq (.region 22 #[q 8 (.assign (.const (.bool true))) 4] false) .ret) .skip))))) (.region 23 #[q 61 (.binOp .add 3 (.tmp 50) (ik 1) 3) 3, q 50 (.move (.tmp 61)) 3] false))))))) (.seq (.region 24 #[q 8 (.assign (.const (.bool false))) 4] false) .ret))) (.seq (.region 8 #[q 15 (.assign (.tmp 36)) 77] false) (.seq (.region 9 #[q 8 (.assign (.const (.bool false))) 4] false) .ret)))))))))))))
theorem s61 : Tryd.f61.body.map (slim cfg) = some g61 := by kernel_rfl
def g39 : Code :=
  .seq (.region 0 #[q 4 (.assign (.const (.bool false))) 4] false) (.seq (.seq (.region 1 #[q 6 (.move (.tmp 0)) 77, q 7 (.binOp .eql 77 (.tmp 6) (.const .nilIface) 77) 4, q 8 (.move (.tmp 7)) 4, qg 9 (.move (.tmp 1)) 77 2 false, qg 10 (.binOp .eql 77 (.tmp 9) (.const .nilIface) 77) 4 2 false, q 11 (.pick (.tmp 8) (.const (.bool true)) (.tmp 10)) 4] false) (.cond (.tmp 11) (.seq (.region 2 #[q 12 (.move (.tmp 0)) 77, q 13 (.move (.tmp 1)) 77, q 14 (.binOp .eql 77 (.tmp 12) (.tmp 13) 77) 4, q 4 (.assign (.tmp 14)) 4] false) .ret) .skip)) (.seq (.region 3 #[q 15 (.move (.tmp 1)) 77, q 16 (cl 50 #[.tmp 15] #[20]) 94, q 17 (.call { callee := .invoke (.tmp 16) "Comparable", args := #[], argTypes := #[] }) 4, q 5 (.assign (.tmp 17)) 4] false) (.seq (.region 4 #[q 18 (.move (.tmp 0)) 77, q 19 (.move (.tmp 1)) 77, q 20 (.move (.tmp 5)) 4, q 21 (cl 51 #[.tmp 18, .tmp 19, .tmp 20] #[77, 77, 4]) 4, q 4 (.assign (.tmp 21)) 4] false) .ret)))
theorem s39 : Tryd.f39.body.map (slim cfg) = some g39 := by kernel_rfl
def g51 : Code :=
  .seq (.region 0 #[q 6 (.assign (.const (.bool false))) 4] false) (.block 0 (.loop (.block 1 (.seq (.seq (.region 1 #[q 14 (.move (.tmp 2)) 4, q 15 (.move (.tmp 14)) 4, qg 16 (.move (.tmp 0)) 77 1 true, qg 17 (.move (.tmp 1)) 77 1 true, qg 18 (.binOp .eql 77 (.tmp 16) (.tmp 17) 77) 4 1 true, q 19 (.pick (.tmp 15) (.tmp 18) (.const (.bool false))) 4] false) (.cond (.tmp 19) (.seq (.region 2 #[q 6 (.assign (.const (.bool true))) 4] false) .ret) .skip)) (.seq (.seq (.region 3 #[q 21 (.move (.tmp 0)) 77, q 22 (.typeAssert (.tmp 21) 77 122 true) 123, q 20 (.move (.tmp 22)) 123, q 23 (.extract (.tmp 20) 0) 122, q 24 (.extract (.tmp 20) 1) 4, q 7 (.assign (.tmp 23)) 122, q 8 (.assign (.tmp 24)) 4] false) (.seq (.region 4 #[q 25 (.move (.tmp 8)) 4, q 26 (.move (.tmp 25)) 4, qg 27 (.move (.tmp 7)) 122 1 true, qg 28 (.move (.tmp 1)) 77 1 true, qg 29 (.call { callee := .invoke (.tmp 27) "Is", args := #[.tmp 28], argTypes := #[77] }) 4 1 true, q 30 (.pick (.tmp 26) (.tmp 29) (.const (.bool false))) 4] false) (.cond (.tmp 30) (.seq (.region 5 #[q 6 (.assign (.const (.bool true))) 4] false) .ret) .skip))) (.seq (.region 6 #[q 31 (.move (.tmp 0)) 77] false) (.block 2 (.seq (.region 9 #[q 32 (.typeAssert (.tmp 31) 77 125 true) 0, q 33 (.extract (.tmp 32) 1) 4, q 34 (.extract (.tmp 32) 0) 125] false) (.cond (.tmp 33) (.seq (.region 10 #[q 9 (.assign (.tmp 34)) 125] false) (.seq (.region 11 #[q 35 (.move (.tmp 9)) 125, q 36 (.call { callee := .invoke (.tmp 35) "Unwrap", args := #[], argTypes := #[] }) 77, q 0 (.assign (.tmp 36)) 77] false) (.seq (.region 12 #[q 37 (.move (.tmp 0)) 77, q 38 (.binOp .eql 77 (.tmp 37) (.const .nilIface) 77) 4] false) (.cond (.tmp 38) (.seq (.region 13 #[q 6 (.assign (.const (.bool false))) 4] false) .ret) .skip)))) (.seq (.region 14 #[q 39 (.typeAssert (.tmp 31) 77 127 true) 0, q 40 (.extract (.tmp 39) 1) 4, q 41 (.extract (.tmp 39) 0) 127] false) (.cond (.tmp 40) (.seq (.region 15 #[q 10 (.assign (.tmp 41)) 127] false) (.seq (.seq (.region 16 #[q 42 (.move (.tmp 10)) 127, q 43 (.call { callee := .invoke (.tmp 42) "Unwrap", args := #[], argTypes := #[] }) 128, q 44 (bi .len #[.tmp 43] #[128]) 3, q 45 (.move (ik 0)) 3] false) (.block 3 (.loop (.seq (.region 17 #[q 46 (.binOp .lss 3 (.tmp 45) (.tmp 44) 3) 0] false) (.seq (.cond (.tmp 46) .skip (.exit 3)) (.seq (.block 4 (.seq (.region 18 #[q 47 (.indexAddr 128 (.tmp 43) (.tmp 45)) 0, q 48 (.load 77 (.tmp 47)) 77, q 12 (.assign (.tmp 48)) 77] false) (.seq (.region 19 #[q 49 (.move (.tmp 12)) 77, q 50 (.move (.tmp 1)) 77, q 51 (.move (.tmp 2)) 4, q 52 (cl 51 #[.tmp 49, .tmp 50, .tmp 51] #[77, 77, 4]) 4] false) (.cond (.tmp 52) (.seq (.region 20 #[q 6 (.assign (.const (.bool true))) 4] false) .ret) .skip)))) (.region 21 #[q 53 (.binOp .add 3 (.tmp 45) (ik 1) 3) 3, q 45 (.move (.tmp 53)) 3] false))))))) (.seq (.region 22 #[q 6 (.assign (.const (.bool false))) 4] false) .ret))) (.seq (.region 7 #[q 13 (.assign (.tmp 31)) 77] false) (.seq (.region 8 #[q 6 (.assign (.const (.bool false))) 4] false) .ret)))))))))))))
theorem s51 : Tryd.f51.body.map (slim cfg) = some g51 := by kernel_rfl
theorem xTypeOf (t : Nat) (v : AV) (r : AV) (hr : rtypeV Tryd.prog t = some r) (prot : Nat) (H : Heap) : aLim cfg prot 50 [.iface t v] H = some (r, none) :=
  lim_ext (by kernel_rfl) Tryd.func50 (by kernel_rfl) (by kernel_rfl) prot H (by
    have h1 : aExt Tryd.prog prot H Tryd.f50 [.iface t v] = (rtypeV Tryd.prog t).map fun r => (r, none) := by kernel_rfl
    show aExt Tryd.prog prot H Tryd.f50 [.iface t v] = _
    rw [h1, hr]; rfl)
theorem rtE : rtypeV Tryd.prog 33 = some (.iface 120 (.agg [hnd Tryd.prog 33])) := by kernel_rfl
theorem xComparable (t : Nat) (c : Bool) (hx : aExt Tryd.prog 0 [] Tryd.f104 [.agg [hnd Tryd.prog t]] = some (.bool c, none)) (prot : Nat) (H : Heap) : aLim cfg prot 104 [.agg [hnd Tryd.prog t]] H = some (.bool c, none) :=
  lim_ext (by kernel_rfl) Tryd.func104 (by kernel_rfl) (by kernel_rfl) prot H (by
    have h1 : ∀ prot H, aExt Tryd.prog prot H Tryd.f104 [.agg [hnd Tryd.prog t]] = aExt Tryd.prog 0 [] Tryd.f104 [.agg [hnd Tryd.prog t]] := fun _ _ => by kernel_rfl
    show aExt Tryd.prog prot H Tryd.f104 [.agg [hnd Tryd.prog t]] = _
    rw [h1, hx])
section
variable {P : Program} {t : TypeId} {xo yo : Operand}
theorem iface_nil_eq {ms : Array (String × TypeId)} (hu : P.underlying t = some (.interface ms)) (s : Nat) (v : AV) : aBin P .eql t xo yo (.iface s v) .nilI = some (.bool false) := by simp [aBin, aNilNe, hu]
theorem iface_nil_ne {ms : Array (String × TypeId)} (hu : P.underlying t = some (.interface ms)) (s : Nat) (v : AV) : aBin P .neq t xo yo (.iface s v) .nilI = some (.bool true) := by simp [aBin, aNilNe, hu]
theorem pureOf_info {i : TypeInfo} (h : P.info? t = some i) : pureOf P (typeInfo t) = some i := by
  have : typeInfo t = (do let p ← program; match p.info? t with | some i => pure i | none => stuck "no such type") := rfl
  rw [this, pureOf_bind]
  show ((pureOf P program).bind _) = _
  have hp : pureOf P program = some P := rfl
  rw [hp]
  simp [h, pureOf_pure]
end
theorem errnoEq (a b : Int) (xo yo : Operand) : aBin Tryd.prog .eql 77 xo yo (.iface 33 (.int .i64 a)) (.iface 33 (.int .i64 b)) = some (.bool (decide (a = b))) := by
  have h0 : aNilNe Tryd.prog 77 (.iface 33 (.int .i64 a)) (.iface 33 (.int .i64 b)) = false := by
    unfold aNilNe; rw [Tryd.underlying77]
  have h1 : pureOf Tryd.prog (Op.equalIn 9999 33 (.int .i64 a) (.int .i64 b)) = some (a == b) := equalIn_int Tryd.underlying33 9998 a b
  obtain ⟨i, hi, hc⟩ : ∃ i, Tryd.prog.info? 33 = some i ∧ i.comparable = true := by
    have : (Tryd.prog.info? 33).map (·.comparable) = some true := by kernel_rfl
    simpa using this
  have h2 : pureOf Tryd.prog (Op.equal 77 (.iface 33 (.int .i64 a)) (.iface 33 (.int .i64 b))) = some (a == b) := by
    unfold Op.equal Op.maxDepth
    rw [show (10000 : Nat) = 9999 + 1 from rfl, Op.equalIn, pureOf_bind, pureOf_underlying Tryd.underlying77]
    simp only [Option.bind_some, ne_eq, not_true_eq_false, if_false]
    rw [pureOf_bind, pureOf_info hi]
    simp [hc, h1]
  unfold aBin
  simp only [h0, Bool.false_eq_true, if_false, toV, toV1, toV0, Option.map_some, Option.bind_some]
  have h3 : pureOf Tryd.prog (do eqGuard .eql 77 xo yo (.iface 33 (.int .i64 a)) (.iface 33 (.int .i64 b)); binOp .eql 77 (.iface 33 (.int .i64 a)) (.iface 33 (.int .i64 b))) = some (.bool (a == b)) := by
    have e1 : eqGuard .eql 77 xo yo (.iface 33 (.int .i64 a)) (.iface 33 (.int .i64 b)) = pure () := rfl
    have e2 : binOp .eql 77 (.iface 33 (.int .i64 a)) (.iface 33 (.int .i64 b)) = (do pure (.bool (← Op.equal 77 (.iface 33 (.int .i64 a)) (.iface 33 (.int .i64 b))))) := rfl
    rw [e1, e2, pureOf_bind, pureOf_pure, Option.bind_some, pureOf_bind, h2]
    rfl
  rw [h3]
  rfl

theorem erris_ok (a b : Int) (prot : Nat) (H : Heap) (hp : prot ≤ H.length) : aLim cfg prot 51 [.iface 33 (.int .i64 a), .iface 33 (.int .i64 b), .bool true] H = some (.bool (decide (a = b)), none) := by
  have hsnap : snap H [.iface 33 (.int .i64 a), .iface 33 (.int .i64 b), .bool true] = some ([.iface 33 (.int .i64 a), .iface 33 (.int .i64 b), .bool true], false) := rfl
  have s1 : aAssert Tryd.prog (.iface 33 (.int .i64 a)) 122 true = some (.tup [.nilI, .bool false]) := by kernel_rfl
  have s2 : aAssert Tryd.prog (.iface 33 (.int .i64 a)) 125 true = some (.tup [.nilI, .bool false]) := by kernel_rfl
  have s3 : aAssert Tryd.prog (.iface 33 (.int .i64 a)) 127 true = some (.tup [.nilI, .bool false]) := by kernel_rfl
  have q1 := errnoEq a b
  refine pure_slim rfl (by kernel_rfl) Tryd.func51 s51 hp hsnap (by simp [Tryd.f51]) fun fr hlen h => ?_
  simp only [Has, Nat.zero_add] at h
  obtain ⟨a0, a1, a2, -⟩ := h
  simp only [Tryd.f51] at hlen ⊢
  unfold g51
  simp only [wk, aBuiltin, AV.cells, AV.leaf, Nat.reduceEqDiff, Nat.reduceLT, Nat.reduceAdd, Nat.reduceLeDiff, reduceCtorEq, Nat.reduceMul, Nat.reduceMod, cfgP, u48, hlen, a0, a1, a2]
  refine loop_rule (fun m fr K => m = 0 ∧ fr.length = 54 ∧ fget fr 0 = .iface 33 (.int .i64 a) ∧ fget fr 1 = .iface 33 (.int .i64 b) ∧ fget fr 2 = .bool true ∧ K = H) ?_ 0 _ _ (by simp [wk, aBuiltin, AV.cells, AV.leaf, Nat.reduceEqDiff, Nat.reduceLT, Nat.reduceAdd, Nat.reduceLeDiff, reduceCtorEq, Nat.reduceMul, Nat.reduceMod, cfgP, u48, hlen, a0, a1, a2])
  rintro m fr K ⟨rfl, hlen, a0, a1, a2, rfl⟩ ih
  by_cases hab : a = b
  · have q1 : ∀ xo yo, aBin Tryd.prog .eql 77 xo yo (.iface 33 (.int .i64 a)) (.iface 33 (.int .i64 b)) = some (.bool true) := fun xo yo => by rw [errnoEq, decide_eq_true hab]
    rw [decide_eq_true hab]
    simp only [wk, aBuiltin, AV.cells, AV.leaf, Nat.reduceEqDiff, Nat.reduceLT, Nat.reduceAdd, Nat.reduceLeDiff, reduceCtorEq, Nat.reduceMul, Nat.reduceMod, cfgP, u48, hlen, a0, a1, a2, q1]
    exact Fin_pure (l := [.bool true]) (by simp [wk, aBuiltin, AV.cells, AV.leaf, Nat.reduceEqDiff, Nat.reduceLT, Nat.reduceAdd, Nat.reduceLeDiff, reduceCtorEq, Nat.reduceMul, Nat.reduceMod, cfgP, u48, aResults, aResult, hlen]) (.still rfl) (by simp)
  · simp only [wk, aBuiltin, AV.cells, AV.leaf, Nat.reduceEqDiff, Nat.reduceLT, Nat.reduceAdd, Nat.reduceLeDiff, reduceCtorEq, Nat.reduceMul, Nat.reduceMod, cfgP, u48, hlen, a0, a1, a2, q1, hab, s1, s2, s3, none_beq]
    exact Fin_pure (l := [.bool false]) (by simp [wk, aBuiltin, AV.cells, AV.leaf, Nat.reduceEqDiff, Nat.reduceLT, Nat.reduceAdd, Nat.reduceLeDiff, reduceCtorEq, Nat.reduceMul, Nat.reduceMod, cfgP, u48, aResults, aResult, hlen]) (.still rfl) (by simp)

theorem errIs_ok (a b : Int) (prot : Nat) (H : Heap) (hp : prot ≤ H.length) : aLim cfg prot 39 [.iface 33 (.int .i64 a), .iface 33 (.int .i64 b)] H = some (.bool (decide (a = b)), none) := by
  have hsnap : snap H [.iface 33 (.int .i64 a), .iface 33 (.int .i64 b)] = some ([.iface 33 (.int .i64 a), .iface 33 (.int .i64 b)], false) := rfl
  have n1 := fun (K : Heap) => xTypeOf 33 (.int .i64 b) _ rtE H.length K
  have m1 : aMethod Tryd.prog 120 (.agg [hnd Tryd.prog 33]) "Comparable" = some (104, .agg [hnd Tryd.prog 33]) := by kernel_rfl
  have n2 := fun (K : Heap) => xComparable 33 true (by kernel_rfl) H.length K
  have n3 := erris_ok a b H.length H (Nat.le_refl _)
  have i1 : ∀ xo yo, aBin Tryd.prog .eql 77 xo yo (.iface 33 (.int .i64 a)) .nilI = some (.bool false) := fun xo yo => iface_nil_eq Tryd.underlying77 _ _
  have i2 : ∀ xo yo, aBin Tryd.prog .eql 77 xo yo (.iface 33 (.int .i64 b)) .nilI = some (.bool false) := fun xo yo => iface_nil_eq Tryd.underlying77 _ _
  refine pure_slim rfl (by kernel_rfl) Tryd.func39 s39 hp hsnap (by simp [Tryd.f39]) fun fr hlen h => ?_
  simp only [Has, Nat.zero_add] at h
  obtain ⟨a0, a1, -⟩ := h
  simp only [Tryd.f39] at hlen ⊢
  unfold g39
  simp only [wk, aBuiltin, AV.cells, AV.leaf, Nat.reduceEqDiff, Nat.reduceLT, Nat.reduceAdd, Nat.reduceLeDiff, reduceCtorEq, Nat.reduceMul, Nat.reduceMod, cfgP, u48, hlen, a0, a1, n1, m1, n2, n3, i1, i2, none_beq]
  exact Fin_pure (l := [.bool (decide (a = b))]) (by simp [wk, aBuiltin, AV.cells, AV.leaf, Nat.reduceEqDiff, Nat.reduceLT, Nat.reduceAdd, Nat.reduceLeDiff, reduceCtorEq, Nat.reduceMul, Nat.reduceMod, cfgP, u48, aResults, aResult, hlen]) (.still rfl) (by simp)
end Go.Proofs.YtimbhlbkidmplaaDoor
/- errors.As for an Errno, walked. -/
namespace Go.Proofs.YtimbhlbkidmplaaDoor
open Go Go.Abs AbsSeat Ty

theorem hndE : hnd Tryd.prog 77 = .adr ⟨Tryd.prog.globals.size, 77, none⟩ := rfl
theorem xExt {f : Nat} {fn : Func} {args : List AV} {r : AV} (hok : cfg.ok f = true) (hfn : cfg.P.funcs[f]? = some fn) (hb : fn.body = none) (hs : cfg.shut f = false) (h : ∀ prot H, aExt cfg.P prot H fn args = some (r, none)) (prot : Nat) (H : Heap) : aLim cfg prot f args H = some (r, none) :=
  lim_ext hok hfn hb hs prot H (h prot H)
/-- a variable's value, as reflectlite has it. -/
noncomputable def rval (t : Nat) (p : AV) (f : Int) : AV := .agg [hnd Tryd.prog t, p, .int .u64 f]
noncomputable def rtyp (t : Nat) : AV := .iface 120 (.agg [hnd Tryd.prog t])
theorem xValueOfP (b : Nat) (prot : Nat) (H : Heap) : aLim cfg prot 58 [.iface 91 (.ptr b 0 0)] H = some (rval 91 (.ptr H.length 0 0) 150, some (H ++ [Blk.cells 0 [.ptr b 0 0]])) :=
  lim_extL (by kernel_rfl) Tryd.func58 (by kernel_rfl) (by kernel_rfl) (by kernel_rfl) prot H (by kernel_rfl)
theorem xValueOfE (e : Int) (prot : Nat) (H : Heap) : aLim cfg prot 58 [.iface 33 (.int .i64 e)] H = some (rval 33 (.ptr H.length 0 0) 130, some (H ++ [Blk.cells 0 [.int .i64 e]])) :=
  lim_extL (by kernel_rfl) Tryd.func58 (by kernel_rfl) (by kernel_rfl) (by kernel_rfl) prot H (by kernel_rfl)
theorem xType (b : Nat) (prot : Nat) (H : Heap) : aLim cfg prot 59 [rval 91 (.ptr b 0 0) 150] H = some (rtyp 91, none) :=
  xExt (by kernel_rfl) Tryd.func59 (by kernel_rfl) (by kernel_rfl) (fun prot H => by kernel_rfl) prot H
theorem xKindP (prot : Nat) (H : Heap) : aLim cfg prot 93 [hnd Tryd.prog 91] H = some (.int .u8 22, none) :=
  xExt (by kernel_rfl) Tryd.func93 (by kernel_rfl) (by kernel_rfl) (fun prot H => by kernel_rfl) prot H
theorem xKindE (prot : Nat) (H : Heap) : aLim cfg prot 93 [hnd Tryd.prog 33] H = some (.int .u8 2, none) :=
  xExt (by kernel_rfl) Tryd.func93 (by kernel_rfl) (by kernel_rfl) (fun prot H => by kernel_rfl) prot H
theorem xElem (prot : Nat) (H : Heap) : aLim cfg prot 105 [.agg [hnd Tryd.prog 91]] H = some (rtyp 33, none) :=
  xExt (by kernel_rfl) Tryd.func105 (by kernel_rfl) (by kernel_rfl) (fun prot H => by kernel_rfl) prot H
theorem xImpl (prot : Nat) (H : Heap) : aLim cfg prot 106 [.agg [hnd Tryd.prog 33], ET] H = some (.bool true, none) :=
  xExt (by kernel_rfl) Tryd.func106 (by kernel_rfl) (by kernel_rfl) (fun prot H => by kernel_rfl) prot H
theorem xAssE (prot : Nat) (H : Heap) : aLim cfg prot 103 [.agg [hnd Tryd.prog 33], rtyp 33] H = some (.bool true, none) :=
  xExt (by kernel_rfl) Tryd.func103 (by kernel_rfl) (by kernel_rfl) (fun prot H => by kernel_rfl) prot H
theorem xNilP {b d : Nat} {H : Heap} (hg : hget H d 0 = some [.ptr b 0 0]) (prot : Nat) : aLim cfg prot 60 [rval 91 (.ptr d 0 0) 150] H = some (.bool false, none) :=
  lim_ext (by kernel_rfl) Tryd.func60 (by kernel_rfl) (by kernel_rfl) prot H (by
    have h1 : aExt Tryd.prog prot H Tryd.f60 [rval 91 (.ptr d 0 0) 150] = (isNilB Tryd.prog 91 H (.ptr d 0 0)).map fun r => (r, none) := by kernel_rfl
    show aExt Tryd.prog prot H Tryd.f60 [rval 91 (.ptr d 0 0) 150] = _
    rw [h1]
    simp [isNilB, aLoad, hg, rd, ag91])
theorem xElemV {b d : Nat} {H : Heap} (hg : hget H d 0 = some [.ptr b 0 0]) (prot : Nat) : aLim cfg prot 68 [rval 91 (.ptr d 0 0) 150] H = some (rval 33 (.ptr b 0 0) 386, none) :=
  lim_ext (by kernel_rfl) Tryd.func68 (by kernel_rfl) (by kernel_rfl) prot H (by
    have h1 : aExt Tryd.prog prot H Tryd.f68 [rval 91 (.ptr d 0 0) 150] = (elemB Tryd.prog 91 H (.ptr d 0 0)).map fun r => (r, none) := by kernel_rfl
    show aExt Tryd.prog prot H Tryd.f68 [rval 91 (.ptr d 0 0) 150] = _
    have h2 : pureOf Tryd.prog (Extern.Rtype.elem? 91) = some (some 33) := by kernel_rfl
    have h3 : valueV Tryd.prog 33 (.ptr b 0 0) 256 = some (rval 33 (.ptr b 0 0) 386) := by kernel_rfl
    rw [h1]
    simp [elemB, aLoad, hg, rd, ag91, h2, h3])
theorem xSet {b c : Nat} {e x : Int} {H : Heap} (hg : hget H c 0 = some [.int .i64 e]) (hb : hget H b 0 = some [.int .i64 x]) (prot : Nat) (hp : prot ≤ b) : aLim cfg prot 69 [rval 33 (.ptr b 0 0) 386, rval 33 (.ptr c 0 0) 130] H = some (.tup [], some (H.set b (.cells 0 [.int .i64 e]))) :=
  lim_extL (by kernel_rfl) Tryd.func69 (by kernel_rfl) (by kernel_rfl) (by kernel_rfl) prot H (by
    have h1 : aExt Tryd.prog prot H Tryd.f69 [rval 33 (.ptr b 0 0) 386, rval 33 (.ptr c 0 0) 130] = (aLoad Tryd.prog 33 H (.ptr c 0 0)).bind fun v => loud (aStore Tryd.prog 33 prot H (.ptr b 0 0) v) := by kernel_rfl
    show aExt Tryd.prog prot H Tryd.f69 [rval 33 (.ptr b 0 0) 386, rval 33 (.ptr c 0 0) 130] = _
    rw [h1]
    have h2 := hput_eq (xs := [.int .i64 e]) (off := 0) hb hp (by simp) (by simp [AV.leaf])
    simp [aLoad, hg, rd, ag33, aStore, sz33, AV.cells, h2, loud, splice])
end Go.Proofs.YtimbhlbkidmplaaDoor
/- errors.As for an Errno in a trouble, walked. -/
namespace Go.Proofs.YtimbhlbkidmplaaDoor
open Go Go.Abs AbsSeat Ty

theorem u45 : type_of% (And.intro (show tagT Tryd.prog 108 = 0 from by kernel_rfl) (And.intro (show tagT Tryd.prog 33 = 0 from by kernel_rfl) (And.intro ag20 (And.intro sz20 (And.intro by20 (And.intro ze20 (And.intro Tryd.underlying20 (And.intro ag33 (And.intro sz33 (And.intro by33 (And.intro ze33 (And.intro Tryd.underlying33 (And.intro ag77 (And.intro sz77 (And.intro by77 (And.intro ze77 (And.intro Tryd.underlying77 (And.intro ag91 (And.intro sz91 (And.intro by91 (And.intro ze91 (And.intro Tryd.underlying91 (And.intro ag106 (And.intro sz106 (And.intro by106 (And.intro ze106 (And.intro Tryd.underlying106 (And.intro ag108 (And.intro sz108 (And.intro by108 (And.intro ze108 (And.intro bu108 (And.intro Tryd.underlying108 (And.intro fa108_1 fd108_1)))))))))))))))))))))))))))))))))) := And.intro (show tagT Tryd.prog 108 = 0 from by kernel_rfl) (And.intro (show tagT Tryd.prog 33 = 0 from by kernel_rfl) (And.intro ag20 (And.intro sz20 (And.intro by20 (And.intro ze20 (And.intro Tryd.underlying20 (And.intro ag33 (And.intro sz33 (And.intro by33 (And.intro ze33 (And.intro Tryd.underlying33 (And.intro ag77 (And.intro sz77 (And.intro by77 (And.intro ze77 (And.intro Tryd.underlying77 (And.intro ag91 (And.intro sz91 (And.intro by91 (And.intro ze91 (And.intro Tryd.underlying91 (And.intro ag106 (And.intro sz106 (And.intro by106 (And.intro ze106 (And.intro Tryd.underlying106 (And.intro ag108 (And.intro sz108 (And.intro by108 (And.intro ze108 (And.intro bu108 (And.intro Tryd.underlying108 (And.intro fa108_1 fd108_1)))))))))))))))))))))))))))))))))
def g45 : Code :=
  .seq (.region 0 #[q 4 (.assign (.const .nilIface)) 77] false) (.seq (.region 1 #[q 5 (.move (.tmp 0)) 3, q 6 (.move (.tmp 1)) 33, q 7 (.makeInterface 33 (.tmp 6)) 77, q 8 (.build 108 #[(0, .tmp 5), (1, .tmp 7)]) 108, q 9 (.box 108 (.tmp 8)) 106, q 10 (.makeInterface 106 (.tmp 9)) 77, q 4 (.assign (.tmp 10)) 77] false) .ret)
theorem s45 : Tryd.f45.body.map (slim cfg) = some g45 := by kernel_rfl
def g37 : Code :=
  .seq (.region 0 #[q 2 (.assign (ik 0)) 33] false) (.seq (.region 1 #[q 3 (.alloc 33) 0] false) (.seq (.seq (.region 2 #[q 4 (.move (.tmp 0)) 77, q 5 (.binOp .eql 77 (.tmp 4) (.const .nilIface) 77) 4] false) (.cond (.tmp 5) (.seq (.region 3 #[q 2 (.assign (ik 0)) 33] false) .ret) .skip)) (.seq (.seq (.region 4 #[q 6 (.move (.tmp 0)) 77, q 7 (.makeInterface 91 (.tmp 3)) 20, q 8 (cl 48 #[.tmp 6, .tmp 7] #[77, 20]) 4] false) (.cond (.tmp 8) (.seq (.region 5 #[q 9 (.load 33 (.tmp 3)) 33, q 2 (.assign (.tmp 9)) 33] false) .ret) .skip)) (.seq (.region 6 #[q 2 (.assign (ik 3)) 33] false) .ret))))
theorem s37 : Tryd.f37.body.map (slim cfg) = some g37 := by kernel_rfl
def g98 : Code :=
  .seq (.region 0 #[q 2 (.assign (.const .nilIface)) 77] false) (.seq (.region 1 #[q 3 (.move (.tmp 0)) 106, q 4 (.nilCheck (.tmp 3)) 0, q 5 (.fieldAddr 108 (.tmp 4) 1) 0, q 6 (.load 77 (.tmp 5)) 77, q 2 (.assign (.tmp 6)) 77] false) .ret)
theorem s98 : Tryd.f98.body.map (slim cfg) = some g98 := by kernel_rfl
/-- what went wrong, at a place. -/
def troub (at_ e : Int) : AV := .iface 106 (.vptr [.int .i64 at_, .iface 33 (.int .i64 e)] 0)
theorem xAssT (prot : Nat) (H : Heap) : aLim cfg prot 103 [.agg [hnd Tryd.prog 106], rtyp 33] H = some (.bool false, none) :=
  xExt (by kernel_rfl) Tryd.func103 (by kernel_rfl) (by kernel_rfl) (fun prot H => by kernel_rfl) prot H
theorem rtT : rtypeV Tryd.prog 106 = some (rtyp 106) := by kernel_rfl
theorem rtE' : rtypeV Tryd.prog 33 = some (rtyp 33) := by kernel_rfl

theorem unwrapT_ok (i e : Int) (prot : Nat) (H : Heap) (hp : prot ≤ H.length) : aLim cfg prot 98 [.vptr [.int .i64 i, .iface 33 (.int .i64 e)] 0] H = some (.iface 33 (.int .i64 e), none) := by
  have hsnap : snap H [.vptr [.int .i64 i, .iface 33 (.int .i64 e)] 0] = some ([.vptr [.int .i64 i, .iface 33 (.int .i64 e)] 0], false) := rfl
  refine pure_slim rfl (by kernel_rfl) Tryd.func98 s98 hp hsnap (by simp [Tryd.f98]) fun fr hlen h => ?_
  simp only [Has, Nat.zero_add] at h
  obtain ⟨a0, -⟩ := h
  simp only [Tryd.f98] at hlen ⊢
  unfold g98
  simp only [wk, aBuiltin, AV.cells, AV.leaf, Nat.reduceEqDiff, Nat.reduceLT, Nat.reduceAdd, Nat.reduceLeDiff, reduceCtorEq, Nat.reduceMul, Nat.reduceMod, cfgP, u45, hlen, a0]
  exact Fin_pure (l := [.iface 33 (.int .i64 e)]) (by simp [wk, aBuiltin, AV.cells, AV.leaf, Nat.reduceEqDiff, Nat.reduceLT, Nat.reduceAdd, Nat.reduceLeDiff, reduceCtorEq, Nat.reduceMul, Nat.reduceMod, cfgP, u45, hlen, aResults, aResult]) (.iface (.still rfl)) (by simp)

theorem wrong_ok (i e : Int) (prot : Nat) (H : Heap) (hp : prot ≤ H.length) : aLim cfg prot 45 [.int .i64 i, .int .i64 e] H = some (troub i e, none) := by
  have hsnap : snap H [.int .i64 i, .int .i64 e] = some ([.int .i64 i, .int .i64 e], false) := rfl
  refine pure_slim rfl (by kernel_rfl) Tryd.func45 s45 hp hsnap (by simp [Tryd.f45]) fun fr hlen h => ?_
  simp only [Has, Nat.zero_add] at h
  obtain ⟨a0, a1, -⟩ := h
  simp only [Tryd.f45] at hlen ⊢
  unfold g45
  simp only [wk, aBuiltin, AV.cells, AV.leaf, Nat.reduceEqDiff, Nat.reduceLT, Nat.reduceAdd, Nat.reduceLeDiff, reduceCtorEq, Nat.reduceMul, Nat.reduceMod, cfgP, u45, hlen, a0, a1]
  exact Fin_pure (l := [.iface 106 (.ptr H.length 0 0)]) (by simp [wk, aBuiltin, AV.cells, AV.leaf, Nat.reduceEqDiff, Nat.reduceLT, Nat.reduceAdd, Nat.reduceLeDiff, reduceCtorEq, Nat.reduceMul, Nat.reduceMod, cfgP, u45, hlen, aResults, aResult]) (.iface (.ptr (by omega) (by rw [hget_new rfl]; rfl) (.cons (.still rfl) (.cons (.iface (.still rfl)) .nil)))) (by simp)

theorem as_ok (i e x : Int) (b vb prot : Nat) (H : Heap) (hb : hget H b 0 = some [.int .i64 x]) (hv : hget H vb 0 = some [.ptr b 0 0]) (hp : prot ≤ b) :
    aLim cfg prot 61 [troub i e, .iface 91 (.ptr b 0 0), rval 91 (.ptr vb 0 0) 150, rtyp 33] H = some (.bool true, some (H.set b (.cells 0 [.int .i64 e]))) := by
  have s1 : aAssert Tryd.prog (troub i e) 136 true = some (.tup [.nilI, .bool false]) := by kernel_rfl
  have s2 : aAssert Tryd.prog (troub i e) 125 true = some (.tup [troub i e, .bool true]) := by kernel_rfl
  have m1 : ∀ t, aMethod Tryd.prog 120 (.agg [hnd Tryd.prog t]) "AssignableTo" = some (103, .agg [hnd Tryd.prog t]) := fun t => by kernel_rfl
  have m2 : ∀ v, aMethod Tryd.prog 106 v "Unwrap" = some (98, v) := fun v => by kernel_rfl
  have m3 : ∀ v, aMethod Tryd.prog 120 v "AssignableTo" = some (103, v) := fun v => by kernel_rfl
  have hlb := hget_lt hb
  have hlv := hget_lt hv
  obtain ⟨K, hK⟩ : ∃ K, K = H ++ [Blk.cells 0 [hnd Tryd.prog 91, .ptr vb 0 0, .int .u64 150]] := ⟨_, rfl⟩
  have hKp : Kp H b [.int .i64 x] K := by rw [hK]; exact (Kp.start hb).app _
  have hKl : K.length = H.length + 1 := by rw [hK]; simp
  have hKv : hget K vb 0 = some [.ptr b 0 0] := by rw [hK]; exact hget_mono hv _
  have hKr : hget K H.length 0 = some [hnd Tryd.prog 91, .ptr vb 0 0, .int .u64 150] := by rw [hK, hget_new rfl, if_pos rfl]
  have hKb := hKp.get
  have t1 := fun v => xTypeOf 106 v _ rtT prot K
  have t2 := fun v => xTypeOf 33 v _ rtE' prot K
  have a1' := xAssT prot K
  have a2' := xAssE prot K
  have v1 := xElemV hKv prot
  have v2 := xValueOfE e prot K
  have v3 := xSet (H := K ++ [Blk.cells 0 [.int .i64 e]]) (c := K.length) (e := e) (by rw [hget_new rfl, if_pos rfl]) (hget_mono hKb _) prot hp
  have u1 := unwrapT_ok i e prot K (by omega)
  have hnn : ∀ xo yo, aBin Tryd.prog .eql 77 xo yo (.iface 33 (.int .i64 e)) .nilI = some (.bool false) := fun xo yo => iface_nil_eq Tryd.underlying77 _ _
  have hh : ∀ t, hnd Tryd.prog t = .adr ⟨Tryd.prog.globals.size, t, none⟩ := fun t => rfl
  simp only [troub, rval, rtyp, hh] at s1 s2 t1 t2 a1' a2' v1 v2 v3 hKr hK ⊢
  refine trim_slim rfl (by kernel_rfl) (by kernel_rfl) (by kernel_rfl) Tryd.func61 s61 (by simp [Tryd.f61]) fun fr hlen h => ?_
  simp only [Has, Nat.zero_add] at h
  obtain ⟨a0, a1, a2, a3, -⟩ := h
  simp only [Tryd.f61] at hlen ⊢
  unfold g61
  simp only [wk, aBuiltin, AV.cells, AV.leaf, Nat.reduceEqDiff, Nat.reduceLT, Nat.reduceAdd, Nat.reduceLeDiff, reduceCtorEq, Nat.reduceMul, Nat.reduceMod, cfgP, u48, hlen, a0, a1, a2, a3]
  rw [← hK]
  refine loop_rule (fun m fr K' => fr.length = 62 ∧ (m = 1 ∧ fget fr 0 = .iface 106 (.vptr [.int .i64 i, .iface 33 (.int .i64 e)] 0) ∨ m = 0 ∧ fget fr 0 = .iface 33 (.int .i64 e)) ∧ fget fr 1 = .iface 91 (.ptr b 0 0) ∧ fget fr 3 = .iface 120 (.agg [.adr ⟨Tryd.prog.globals.size, 33, none⟩]) ∧ fget fr 6 = .ptr H.length 0 0 ∧ K' = K) ?_ 1 _ _ (by simp [wk, aBuiltin, AV.cells, AV.leaf, Nat.reduceEqDiff, Nat.reduceLT, Nat.reduceAdd, Nat.reduceLeDiff, reduceCtorEq, Nat.reduceMul, Nat.reduceMod, cfgP, u48, hlen, a0, a1, a3])
  rintro m fr K' ⟨hlen, h01, a1, a3, a6, rfl⟩ ih
  rcases h01 with ⟨rfl, a0⟩ | ⟨rfl, a0⟩
  · simp only [wk, aBuiltin, AV.cells, AV.leaf, Nat.reduceEqDiff, Nat.reduceLT, Nat.reduceAdd, Nat.reduceLeDiff, reduceCtorEq, Nat.reduceMul, Nat.reduceMod, cfgP, u48, hlen, a0, a1, a3, a6, t1, m3, a1', s1, s2, m2, u1, hnn, none_beq]
    refine ih _ _ 0 (by omega) ?_
    simp [wk, aBuiltin, AV.cells, AV.leaf, Nat.reduceEqDiff, Nat.reduceLT, Nat.reduceAdd, Nat.reduceLeDiff, reduceCtorEq, Nat.reduceMul, Nat.reduceMod, cfgP, u48, hlen, a1, a3, a6]
  · simp only [wk, aBuiltin, AV.cells, AV.leaf, Nat.reduceEqDiff, Nat.reduceLT, Nat.reduceAdd, Nat.reduceLeDiff, reduceCtorEq, Nat.reduceMul, Nat.reduceMod, cfgP, u48, hlen, a0, a1, a3, a6, t2, m3, a2', hKr, v1, v2, v3]
    refine Kp.fin ((hKp.app [Blk.cells 0 [.int .i64 e]]).put (by rfl)) (l := [.bool true]) (by simp [wk, aBuiltin, AV.cells, AV.leaf, Nat.reduceEqDiff, Nat.reduceLT, Nat.reduceAdd, Nat.reduceLeDiff, reduceCtorEq, Nat.reduceMul, Nat.reduceMod, cfgP, u48, hlen, aResults, aResult]) (.still rfl)

theorem As_ok (i e x : Int) (b prot : Nat) (H : Heap) (hb : hget H b 0 = some [.int .i64 x]) (hg0 : hget H 0 (gver 0) = some [ET]) (hp : prot ≤ b) :
    aLim cfg prot 48 [troub i e, .iface 91 (.ptr b 0 0)] H = some (.bool true, some (H.set b (.cells 0 [.int .i64 e]))) := by
  have hlb := hget_lt hb
  have n1 := xValueOfP b prot H
  have hh : ∀ t, hnd Tryd.prog t = .adr ⟨Tryd.prog.globals.size, t, none⟩ := fun t => rfl
  obtain ⟨K, hK⟩ : ∃ K, K = (H ++ [Blk.cells 0 [.ptr b 0 0]]) ++ [Blk.cells 0 [hnd Tryd.prog 91, .ptr H.length 0 0, .int .u64 150]] := ⟨_, rfl⟩
  have hKp : Kp H b [.int .i64 x] K := by rw [hK]; exact ((Kp.start hb).app _).app _
  have hKb := hKp.get
  have hKl : K.length = H.length + 2 := by rw [hK]; simp
  have hKv : hget K H.length 0 = some [.ptr b 0 0] := by rw [hK]; exact hget_mono (by rw [hget_new rfl, if_pos rfl]) _
  have hKr : hget K (H.length + 1) 0 = some [hnd Tryd.prog 91, .ptr H.length 0 0, .int .u64 150] := by
    rw [hK, hget_new (by simp), if_pos rfl]
  have hKg : hget K 0 (gver 0) = some [ET] := by rw [hK]; exact hget_mono (hget_mono hg0 _) _
  have x1 := xType H.length prot K
  have m1 : ∀ v, aMethod Tryd.prog 120 (.agg [v]) "Kind" = some (93, v) := fun v => by kernel_rfl
  have m2 : ∀ v, aMethod Tryd.prog 120 v "Elem" = some (105, v) := fun v => by kernel_rfl
  have m3 : ∀ v, aMethod Tryd.prog 120 v "Implements" = some (106, v) := fun v => by kernel_rfl
  have x2 := xKindP prot K
  have x3 := xKindE prot K
  have x4 := xNilP hKv prot
  have x5 := xElem prot K
  have x6 := xImpl prot K
  have x7 := as_ok i e x b H.length prot K hKb hKv hp
  have i1 : ∀ xo yo v, aBin Tryd.prog .eql 77 xo yo (.iface 106 v) .nilI = some (.bool false) := fun xo yo v => iface_nil_eq Tryd.underlying77 _ _
  have i2 : ∀ xo yo v, aBin Tryd.prog .eql 20 xo yo (.iface 91 v) .nilI = some (.bool false) := fun xo yo v => iface_nil_eq Tryd.underlying20 _ _
  simp only [troub, rval, rtyp, hh] at n1 hK hKr x1 x2 x3 x4 x5 x6 x7 ⊢
  have hpl : prot ≤ (H ++ [Blk.cells 0 [AV.ptr b 0 0]]).length := by simp; omega
  refine trim_slim rfl (by kernel_rfl) (by kernel_rfl) (by kernel_rfl) Tryd.func48 s48 (by simp [Tryd.f48]) fun fr hlen h => ?_
  simp only [Has, Nat.zero_add] at h
  obtain ⟨a0, a1, -⟩ := h
  simp only [Tryd.f48] at hlen ⊢
  unfold g48
  simp only [wk, aBuiltin, AV.cells, AV.leaf, Nat.reduceEqDiff, Nat.reduceLT, Nat.reduceAdd, Nat.reduceLeDiff, reduceCtorEq, Nat.reduceMul, Nat.reduceMod, cfgP, u48, hlen, a0, a1, n1, i1, i2, hpl]
  rw [← hK]
  have d1 : decide (¬ (2 : Int) = 20) = true := by decide
  have hln : (H ++ [Blk.cells 0 [AV.ptr b 0 0]]).length = H.length + 1 := by simp
  simp only [wk, aBuiltin, AV.cells, AV.leaf, Nat.reduceEqDiff, Nat.reduceLT, Nat.reduceAdd, Nat.reduceLeDiff, reduceCtorEq, Nat.reduceMul, Nat.reduceMod, cfgP, u48, hlen, hln, hKr, x1, x2, x3, x4, x5, x6, x7, m1, m2, m3, gload, hKg, a0, a1, d1]
  refine Kp.fin (hKp.put (by rfl)) (l := [.bool true]) (by simp [wk, aBuiltin, AV.cells, AV.leaf, Nat.reduceEqDiff, Nat.reduceLT, Nat.reduceAdd, Nat.reduceLeDiff, reduceCtorEq, Nat.reduceMul, Nat.reduceMod, cfgP, u48, hlen, aResults, aResult]) (.still rfl)
theorem nilEq (xo : Operand) (c : Value) : aBin Tryd.prog .eql 77 xo (.const c) .nilI .nilI = some (.bool true) := by cases xo <;> kernel_rfl
theorem nilNe (xo : Operand) (c : Value) : aBin Tryd.prog .neq 77 xo (.const c) .nilI .nilI = some (.bool false) := by cases xo <;> kernel_rfl

theorem number_ok (i e : Int) (prot : Nat) (H : Heap) (hg0 : hget H 0 (gver 0) = some [ET]) (hp : prot ≤ H.length) :
    aLim cfg prot 37 [troub i e] H = some (.int .i64 e, none) := by
  have hl0 := hget_lt hg0
  have hsnap : snap H [troub i e] = some ([troub i e], false) := rfl
  have i1 : ∀ xo yo v, aBin Tryd.prog .eql 77 xo yo (.iface 106 v) .nilI = some (.bool false) := fun xo yo v => iface_nil_eq Tryd.underlying77 _ _
  have n1 := As_ok i e 0 H.length H.length (H ++ [Blk.cells 0 [.int .i64 0]]) (by rw [hget_new rfl, if_pos rfl]) (hget_mono hg0 _) (Nat.le_refl _)
  simp only [troub] at n1 hsnap ⊢
  refine pure_slim rfl (by kernel_rfl) Tryd.func37 s37 hp hsnap (by simp [Tryd.f37]) fun fr hlen h => ?_
  simp only [Has, Nat.zero_add] at h
  obtain ⟨a0, -⟩ := h
  simp only [Tryd.f37] at hlen ⊢
  unfold g37
  have hs := hget_set_at (b := H.length) (v := 0) (H := H ++ [Blk.cells 0 [AV.int .i64 0]]) (cs := [AV.int .i64 e]) (by simp)
  simp only [wk, aBuiltin, AV.cells, AV.leaf, Nat.reduceEqDiff, Nat.reduceLT, Nat.reduceAdd, Nat.reduceLeDiff, reduceCtorEq, Nat.reduceMul, Nat.reduceMod, cfgP, u45, hlen, a0, i1, n1, hs]
  exact Fin_pure (l := [.int .i64 e]) (by simp [wk, aBuiltin, AV.cells, AV.leaf, Nat.reduceEqDiff, Nat.reduceLT, Nat.reduceAdd, Nat.reduceLeDiff, reduceCtorEq, Nat.reduceMul, Nat.reduceMod, cfgP, u45, aResults, aResult, hlen]) (.still rfl) (by simp)
theorem number_nil (prot : Nat) (H : Heap) (hp : prot ≤ H.length) : aLim cfg prot 37 [.nilI] H = some (.int .i64 0, none) := by
  have hsnap : snap H [.nilI] = some ([.nilI], false) := rfl
  refine pure_slim rfl (by kernel_rfl) Tryd.func37 s37 hp hsnap (by simp [Tryd.f37]) fun fr hlen h => ?_
  simp only [Has, Nat.zero_add] at h
  obtain ⟨a0, -⟩ := h
  simp only [Tryd.f37] at hlen ⊢
  unfold g37
  have i1 := nilEq
  simp only [wk, aBuiltin, AV.cells, AV.leaf, Nat.reduceEqDiff, Nat.reduceLT, Nat.reduceAdd, Nat.reduceLeDiff, reduceCtorEq, Nat.reduceMul, Nat.reduceMod, cfgP, u45, hlen, a0, i1]
  exact Fin_pure (l := [.int .i64 0]) (by simp [wk, aBuiltin, AV.cells, AV.leaf, Nat.reduceEqDiff, Nat.reduceLT, Nat.reduceAdd, Nat.reduceLeDiff, reduceCtorEq, Nat.reduceMul, Nat.reduceMod, cfgP, u45, aResults, aResult, hlen]) (.still rfl) (by simp)
end Go.Proofs.YtimbhlbkidmplaaDoor
/- Letters, digits. -/
namespace Go.Proofs.YtimbhlbkidmplaaDoor
open Go Go.Abs
def digitC (c : Int) : Bool := decide (48 ≤ c) && decide (c ≤ 57)
def greatC (c : Int) : Bool := decide (65 ≤ c) && decide (c ≤ 90)
def letterC (c : Int) : Bool := greatC c || (decide (97 ≤ c) && decide (c ≤ 122))
end Go.Proofs.YtimbhlbkidmplaaDoor
/- chars.Digit, walked. -/
namespace Go.Proofs.YtimbhlbkidmplaaDoor
open Go Go.Abs AbsSeat Ty

theorem u42 : type_of% (And.intro ag5 (And.intro sz5 (And.intro by5 (And.intro ze5 Tryd.underlying5)))) := And.intro ag5 (And.intro sz5 (And.intro by5 (And.intro ze5 Tryd.underlying5)))
def g42 : Code :=
  .seq (.region 0 #[q 2 (.assign (.const (.bool false))) 4] false) (.seq (.region 1 #[q 3 (.move (.tmp 0)) 5, q 4 (.binOp .geq 5 (.tmp 3) (.const (.int .u8 48)) 5) 4, q 5 (.move (.tmp 4)) 4, qg 6 (.move (.tmp 0)) 5 2 true, qg 7 (.binOp .leq 5 (.tmp 6) (.const (.int .u8 57)) 5) 4 2 true, q 8 (.pick (.tmp 5) (.tmp 7) (.const (.bool false))) 4, q 2 (.assign (.tmp 8)) 4] false) .ret)
theorem s42 : Tryd.f42.body.map (slim cfg) = some g42 := by kernel_rfl


theorem digit_ok (c : Int) (prot : Nat) (H : Heap) (hp : prot ≤ H.length) : aLim cfg prot 42 [.int .u8 c] H = some (.bool (digitC c), none) := by
  have hsnap : snap H [.int .u8 c] = some ([.int .u8 c], false) := rfl
  unfold digitC
  refine pure_slim rfl (by kernel_rfl) Tryd.func42 s42 hp hsnap (by simp [Tryd.f42]) fun fr hlen h => ?_
  simp only [Has, Nat.zero_add] at h
  obtain ⟨a0, -⟩ := h
  simp only [Tryd.f42] at hlen ⊢
  unfold g42
  by_cases h1 : 48 ≤ c
  · simp only [wk, aBuiltin, AV.cells, AV.leaf, Nat.reduceEqDiff, Nat.reduceLT, Nat.reduceAdd, Nat.reduceLeDiff, reduceCtorEq, Nat.reduceMul, Nat.reduceMod, cfgP, u42, hlen, a0, h1]
    simp only [Bool.true_and, decide_true]
    exact Fin_pure (l := [.bool (decide (c ≤ 57))]) (by simp [wk, aBuiltin, AV.cells, AV.leaf, Nat.reduceEqDiff, Nat.reduceLT, Nat.reduceAdd, Nat.reduceLeDiff, reduceCtorEq, Nat.reduceMul, Nat.reduceMod, cfgP, u42, aResults, aResult, hlen]) (.still rfl) (by simp)
  · simp only [wk, aBuiltin, AV.cells, AV.leaf, Nat.reduceEqDiff, Nat.reduceLT, Nat.reduceAdd, Nat.reduceLeDiff, reduceCtorEq, Nat.reduceMul, Nat.reduceMod, cfgP, u42, hlen, a0, h1, none_beq]
    simp only [Bool.false_and, decide_false]
    exact Fin_pure (l := [.bool false]) (by simp [wk, aBuiltin, AV.cells, AV.leaf, Nat.reduceEqDiff, Nat.reduceLT, Nat.reduceAdd, Nat.reduceLeDiff, reduceCtorEq, Nat.reduceMul, Nat.reduceMod, cfgP, u42, aResults, aResult, hlen]) (.still rfl) (by simp)
end Go.Proofs.YtimbhlbkidmplaaDoor
/- jtok: bytes of tokens, rows of them, walked. -/
namespace Go.Proofs.YtimbhlbkidmplaaDoor
open Go Go.Abs AbsSeat Ty

theorem u67 : type_of% (And.intro ag3 (And.intro sz3 (And.intro by3 (And.intro ze3 (And.intro Tryd.underlying3 (And.intro ag5 (And.intro sz5 (And.intro by5 (And.intro ze5 (And.intro Tryd.underlying5 (And.intro ag9 (And.intro sz9 (And.intro by9 (And.intro ze9 Tryd.underlying9)))))))))))))) := And.intro ag3 (And.intro sz3 (And.intro by3 (And.intro ze3 (And.intro Tryd.underlying3 (And.intro ag5 (And.intro sz5 (And.intro by5 (And.intro ze5 (And.intro Tryd.underlying5 (And.intro ag9 (And.intro sz9 (And.intro by9 (And.intro ze9 Tryd.underlying9)))))))))))))
def g67 : Code :=
  .seq (.region 0 #[q 2 (.assign (.const (.bool false))) 4] false) (.seq (.region 1 #[q 3 (.move (.tmp 0)) 5, q 4 (.binOp .geq 5 (.tmp 3) (.const (.int .u8 65)) 5) 4, q 5 (.move (.tmp 4)) 4, qg 6 (.move (.tmp 0)) 5 2 true, qg 7 (.binOp .leq 5 (.tmp 6) (.const (.int .u8 90)) 5) 4 2 true, q 8 (.pick (.tmp 5) (.tmp 7) (.const (.bool false))) 4, q 2 (.assign (.tmp 8)) 4] false) .ret)
theorem s67 : Tryd.f67.body.map (slim cfg) = some g67 := by kernel_rfl
def g57 : Code :=
  .seq (.region 0 #[q 2 (.assign (.const (.bool false))) 4] false) (.seq (.region 1 #[q 3 (.move (.tmp 0)) 5, q 4 (cl 67 #[.tmp 3] #[5]) 4, q 5 (.move (.tmp 4)) 4, qg 6 (.move (.tmp 0)) 5 2 false, qg 7 (.binOp .geq 5 (.tmp 6) (.const (.int .u8 97)) 5) 4 2 false, qg 8 (.move (.tmp 7)) 4 2 false, qg 9 (.move (.tmp 0)) 5 5 true, qg 10 (.binOp .leq 5 (.tmp 9) (.const (.int .u8 122)) 5) 4 5 true, qg 11 (.pick (.tmp 8) (.tmp 10) (.const (.bool false))) 4 2 false, q 12 (.pick (.tmp 5) (.const (.bool true)) (.tmp 11)) 4, q 2 (.assign (.tmp 12)) 4] false) .ret)
theorem s57 : Tryd.f57.body.map (slim cfg) = some g57 := by kernel_rfl
def g46 : Code :=
  .seq (.region 0 #[q 2 (.assign (.const (.bool false))) 4] false) (.seq (.region 1 #[q 3 (.move (.tmp 0)) 5, q 4 (cl 57 #[.tmp 3] #[5]) 4, q 5 (.move (.tmp 4)) 4, qg 6 (.move (.tmp 0)) 5 2 false, qg 7 (cl 42 #[.tmp 6] #[5]) 4 2 false, q 8 (.pick (.tmp 5) (.const (.bool true)) (.tmp 7)) 4, q 2 (.assign (.tmp 8)) 4] false) .ret)
theorem s46 : Tryd.f46.body.map (slim cfg) = some g46 := by kernel_rfl
def g43 : Code :=
  .seq (.region 0 #[q 2 (.assign (.const (.bool false))) 4] false) (.seq (.region 1 #[q 3 (.move (.tmp 0)) 5, q 4 (cl 46 #[.tmp 3] #[5]) 4, q 5 (.move (.tmp 4)) 4, qg 6 (.move (.tmp 0)) 5 2 false, qg 7 (.binOp .eql 5 (.tmp 6) (.const (.int .u8 43)) 5) 4 2 false, q 8 (.pick (.tmp 5) (.const (.bool true)) (.tmp 7)) 4, q 9 (.move (.tmp 8)) 4, qg 10 (.move (.tmp 0)) 5 6 false, qg 11 (.binOp .eql 5 (.tmp 10) (.const (.int .u8 45)) 5) 4 6 false, q 12 (.pick (.tmp 9) (.const (.bool true)) (.tmp 11)) 4, q 13 (.move (.tmp 12)) 4, qg 14 (.move (.tmp 0)) 5 10 false, qg 15 (.binOp .eql 5 (.tmp 14) (.const (.int .u8 46)) 5) 4 10 false, q 16 (.pick (.tmp 13) (.const (.bool true)) (.tmp 15)) 4, q 2 (.assign (.tmp 16)) 4] false) .ret)
theorem s43 : Tryd.f43.body.map (slim cfg) = some g43 := by kernel_rfl
def g35 : Code :=
  .seq (.region 0 #[q 2 (.assign (.const (.bool false))) 4] false) (.seq (.seq (.region 1 #[q 3 (.move (.tmp 0)) 5] false) (.block 0 (.seq (.block 2 (.block 1 (.seq (.seq (.seq (.seq (.region 2 #[q 5 (.binOp .eql 5 (.tmp 3) (.const (.int .u8 10)) 5) 4, q 4 (.assign (.tmp 5)) 4] false) (.cond (.tmp 4) .skip (.region 3 #[q 6 (.binOp .eql 5 (.tmp 3) (.const (.int .u8 13)) 5) 4, q 4 (.assign (.tmp 6)) 4] false))) (.cond (.tmp 4) (.exit 1) .skip)) (.seq (.seq (.region 4 #[q 8 (.binOp .eql 5 (.tmp 3) (.const (.int .u8 32)) 5) 4, q 7 (.assign (.tmp 8)) 4] false) (.cond (.tmp 7) .skip (.region 5 #[q 9 (.binOp .eql 5 (.tmp 3) (.const (.int .u8 9)) 5) 4, q 7 (.assign (.tmp 9)) 4] false))) (.cond (.tmp 7) (.exit 2) .skip))) (.exit 0)))) (.seq (.seq (.region 6 #[q 2 (.assign (.const (.bool true))) 4] false) .ret) (.exit 0))))) (.seq (.region 7 #[q 2 (.assign (.const (.bool false))) 4] false) .ret))
theorem s35 : Tryd.f35.body.map (slim cfg) = some g35 := by kernel_rfl
def g34 : Code :=
  .seq (.region 0 #[q 6 (.assign (ik 0)) 3] false) (.seq (.block 0 (.loop (.seq (.seq (.region 1 #[q 7 (.move (.tmp 1)) 3, q 8 (.move (.tmp 0)) 9, q 9 (bi .len #[.tmp 8] #[9]) 3, q 10 (.binOp .lss 3 (.tmp 7) (.tmp 9) 3) 4, q 11 (.move (.tmp 10)) 4, qg 12 (.move (.tmp 2)) 75 4 true, qg 13 (.move (.tmp 0)) 9 4 true, qg 14 (.move (.tmp 1)) 3 4 true, qg 15 (.index 9 (.tmp 13) (.tmp 14)) 5 4 true, qg 16 (cv (.tmp 12) #[.tmp 15] #[5]) 4 4 true, q 17 (.pick (.tmp 11) (.tmp 16) (.const (.bool false))) 4] false) (.cond (.tmp 17) .skip (.exit 0))) (.block 1 (.region 2 #[q 18 (.move (.tmp 1)) 3, q 19 (.binOp .add 3 (.tmp 18) (ik 1) 3) 3, q 1 (.assign (.tmp 19)) 3] false))))) (.seq (.region 3 #[q 20 (.move (.tmp 1)) 3, q 6 (.assign (.tmp 20)) 3] false) .ret))
theorem s34 : Tryd.f34.body.map (slim cfg) = some g34 := by kernel_rfl

theorem great_ok (c : Int) (prot : Nat) (H : Heap) (hp : prot ≤ H.length) : aLim cfg prot 67 [.int .u8 c] H = some (.bool (greatC c), none) := by
  have hsnap : snap H [.int .u8 c] = some ([.int .u8 c], false) := rfl
  unfold greatC
  refine pure_slim rfl (by kernel_rfl) Tryd.func67 s67 hp hsnap (by simp [Tryd.f67]) fun fr hlen h => ?_
  simp only [Has, Nat.zero_add] at h
  obtain ⟨a0, -⟩ := h
  simp only [Tryd.f67] at hlen ⊢
  unfold g67
  by_cases h1 : 65 ≤ c
  · simp only [wk, aBuiltin, AV.cells, AV.leaf, Nat.reduceEqDiff, Nat.reduceLT, Nat.reduceAdd, Nat.reduceLeDiff, reduceCtorEq, Nat.reduceMul, Nat.reduceMod, cfgP, u67, hlen, a0, h1]
    simp only [Bool.true_and, decide_true]
    exact Fin_pure (l := [.bool (decide (c ≤ 90))]) (by simp [wk, aBuiltin, AV.cells, AV.leaf, Nat.reduceEqDiff, Nat.reduceLT, Nat.reduceAdd, Nat.reduceLeDiff, reduceCtorEq, Nat.reduceMul, Nat.reduceMod, cfgP, u67, aResults, aResult, hlen]) (.still rfl) (by simp)
  · simp only [wk, aBuiltin, AV.cells, AV.leaf, Nat.reduceEqDiff, Nat.reduceLT, Nat.reduceAdd, Nat.reduceLeDiff, reduceCtorEq, Nat.reduceMul, Nat.reduceMod, cfgP, u67, hlen, a0, h1, none_beq]
    simp only [Bool.false_and, decide_false]
    exact Fin_pure (l := [.bool false]) (by simp [wk, aBuiltin, AV.cells, AV.leaf, Nat.reduceEqDiff, Nat.reduceLT, Nat.reduceAdd, Nat.reduceLeDiff, reduceCtorEq, Nat.reduceMul, Nat.reduceMod, cfgP, u67, aResults, aResult, hlen]) (.still rfl) (by simp)

theorem letter_ok (c : Int) (prot : Nat) (H : Heap) (hp : prot ≤ H.length) : aLim cfg prot 57 [.int .u8 c] H = some (.bool (letterC c), none) := by
  have hsnap : snap H [.int .u8 c] = some ([.int .u8 c], false) := rfl
  have n1 := great_ok c H.length H (Nat.le_refl _)
  unfold letterC
  refine pure_slim rfl (by kernel_rfl) Tryd.func57 s57 hp hsnap (by simp [Tryd.f57]) fun fr hlen h => ?_
  simp only [Has, Nat.zero_add] at h
  obtain ⟨a0, -⟩ := h
  simp only [Tryd.f57] at hlen ⊢
  unfold g57
  generalize greatC c = g at *
  cases g with
  | true =>
    simp only [wk, aBuiltin, AV.cells, AV.leaf, Nat.reduceEqDiff, Nat.reduceLT, Nat.reduceAdd, Nat.reduceLeDiff, reduceCtorEq, Nat.reduceMul, Nat.reduceMod, cfgP, u67, hlen, a0, n1, none_beq]
    simp only [Bool.true_or]
    exact Fin_pure (l := [.bool true]) (by simp [wk, aBuiltin, AV.cells, AV.leaf, Nat.reduceEqDiff, Nat.reduceLT, Nat.reduceAdd, Nat.reduceLeDiff, reduceCtorEq, Nat.reduceMul, Nat.reduceMod, cfgP, u67, aResults, aResult, hlen]) (.still rfl) (by simp)
  | false =>
    simp only [Bool.false_or]
    by_cases h1 : 97 ≤ c
    · simp only [wk, aBuiltin, AV.cells, AV.leaf, Nat.reduceEqDiff, Nat.reduceLT, Nat.reduceAdd, Nat.reduceLeDiff, reduceCtorEq, Nat.reduceMul, Nat.reduceMod, cfgP, u67, hlen, a0, n1, h1, none_beq]
      simp only [Bool.true_and, decide_true]
      exact Fin_pure (l := [.bool (decide (c ≤ 122))]) (by simp [wk, aBuiltin, AV.cells, AV.leaf, Nat.reduceEqDiff, Nat.reduceLT, Nat.reduceAdd, Nat.reduceLeDiff, reduceCtorEq, Nat.reduceMul, Nat.reduceMod, cfgP, u67, aResults, aResult, hlen]) (.still rfl) (by simp)
    · simp only [wk, aBuiltin, AV.cells, AV.leaf, Nat.reduceEqDiff, Nat.reduceLT, Nat.reduceAdd, Nat.reduceLeDiff, reduceCtorEq, Nat.reduceMul, Nat.reduceMod, cfgP, u67, hlen, a0, n1, h1, none_beq]
      simp only [Bool.false_and, decide_false]
      exact Fin_pure (l := [.bool false]) (by simp [wk, aBuiltin, AV.cells, AV.leaf, Nat.reduceEqDiff, Nat.reduceLT, Nat.reduceAdd, Nat.reduceLeDiff, reduceCtorEq, Nat.reduceMul, Nat.reduceMod, cfgP, u67, aResults, aResult, hlen]) (.still rfl) (by simp)
def wordyC (c : Int) : Bool := letterC c || digitC c

theorem wordy_ok (c : Int) (prot : Nat) (H : Heap) (hp : prot ≤ H.length) : aLim cfg prot 46 [.int .u8 c] H = some (.bool (wordyC c), none) := by
  have hsnap : snap H [.int .u8 c] = some ([.int .u8 c], false) := rfl
  have n1 := letter_ok c H.length H (Nat.le_refl _)
  have n2 := digit_ok c H.length H (Nat.le_refl _)
  unfold wordyC
  refine pure_slim rfl (by kernel_rfl) Tryd.func46 s46 hp hsnap (by simp [Tryd.f46]) fun fr hlen h => ?_
  simp only [Has, Nat.zero_add] at h
  obtain ⟨a0, -⟩ := h
  simp only [Tryd.f46] at hlen ⊢
  unfold g46
  generalize letterC c = g at *
  cases g with
  | true =>
    simp only [wk, aBuiltin, AV.cells, AV.leaf, Nat.reduceEqDiff, Nat.reduceLT, Nat.reduceAdd, Nat.reduceLeDiff, reduceCtorEq, Nat.reduceMul, Nat.reduceMod, cfgP, u67, hlen, a0, n1, none_beq]
    simp only [Bool.true_or]
    exact Fin_pure (l := [.bool true]) (by simp [wk, aBuiltin, AV.cells, AV.leaf, Nat.reduceEqDiff, Nat.reduceLT, Nat.reduceAdd, Nat.reduceLeDiff, reduceCtorEq, Nat.reduceMul, Nat.reduceMod, cfgP, u67, aResults, aResult, hlen]) (.still rfl) (by simp)
  | false =>
    simp only [wk, aBuiltin, AV.cells, AV.leaf, Nat.reduceEqDiff, Nat.reduceLT, Nat.reduceAdd, Nat.reduceLeDiff, reduceCtorEq, Nat.reduceMul, Nat.reduceMod, cfgP, u67, hlen, a0, n1, n2, none_beq]
    simp only [Bool.false_or]
    exact Fin_pure (l := [.bool (digitC c)]) (by simp [wk, aBuiltin, AV.cells, AV.leaf, Nat.reduceEqDiff, Nat.reduceLT, Nat.reduceAdd, Nat.reduceLeDiff, reduceCtorEq, Nat.reduceMul, Nat.reduceMod, cfgP, u67, aResults, aResult, hlen]) (.still rfl) (by simp)
def numericC (c : Int) : Bool := wordyC c || decide (c = 43) || decide (c = 45) || decide (c = 46)
theorem i1310 : ((13 : Int) = 10) = False := by simp
theorem i3210 : ((32 : Int) = 10) = False := by simp
theorem i3213 : ((32 : Int) = 13) = False := by simp
theorem i910 : ((9 : Int) = 10) = False := by simp
theorem i913 : ((9 : Int) = 13) = False := by simp
theorem i932 : ((9 : Int) = 32) = False := by simp
theorem i4543 : ((45 : Int) = 43) = False := by simp

theorem numeric_ok (c : Int) (prot : Nat) (H : Heap) (hp : prot ≤ H.length) : aLim cfg prot 43 [.int .u8 c] H = some (.bool (numericC c), none) := by
  have hsnap : snap H [.int .u8 c] = some ([.int .u8 c], false) := rfl
  have n1 := wordy_ok c H.length H (Nat.le_refl _)
  have hv : numericC c = (wordyC c || decide (c = 43) || decide (c = 45) || decide (c = 46)) := rfl
  refine pure_slim rfl (by kernel_rfl) Tryd.func43 s43 hp hsnap (by simp [Tryd.f43]) fun fr hlen h => ?_
  simp only [Has, Nat.zero_add] at h
  obtain ⟨a0, -⟩ := h
  simp only [Tryd.f43] at hlen ⊢
  unfold g43
  generalize wordyC c = g at *
  generalize numericC c = v at *
  cases g with
  | true =>
    rw [hv, Bool.true_or, Bool.true_or, Bool.true_or]
    simp only [wk, aBuiltin, AV.cells, AV.leaf, Nat.reduceEqDiff, Nat.reduceLT, Nat.reduceAdd, Nat.reduceLeDiff, reduceCtorEq, Nat.reduceMul, Nat.reduceMod, cfgP, u67, hlen, a0, n1, none_beq]
    exact Fin_pure (l := [.bool true]) (by simp [wk, aBuiltin, AV.cells, AV.leaf, Nat.reduceEqDiff, Nat.reduceLT, Nat.reduceAdd, Nat.reduceLeDiff, reduceCtorEq, Nat.reduceMul, Nat.reduceMod, cfgP, u67, aResults, aResult, hlen]) (.still rfl) (by simp)
  | false =>
    by_cases h1 : c = 43
    · rw [show v = true by simp [hv, h1]]
      have d1 : decide (c = 43) = true := by simp [h1]
      simp only [wk, aBuiltin, AV.cells, AV.leaf, Nat.reduceEqDiff, Nat.reduceLT, Nat.reduceAdd, Nat.reduceLeDiff, reduceCtorEq, Nat.reduceMul, Nat.reduceMod, cfgP, u67, hlen, a0, n1, d1, none_beq]
      exact Fin_pure (l := [.bool true]) (by simp [wk, aBuiltin, AV.cells, AV.leaf, Nat.reduceEqDiff, Nat.reduceLT, Nat.reduceAdd, Nat.reduceLeDiff, reduceCtorEq, Nat.reduceMul, Nat.reduceMod, cfgP, u67, aResults, aResult, hlen]) (.still rfl) (by simp)
    · by_cases h2 : c = 45
      · rw [show v = true by simp [hv, h2]]
        have d1 : decide (c = 43) = false := by simp [h1]
        have d2 : decide (c = 45) = true := by simp [h2]
        simp only [wk, aBuiltin, AV.cells, AV.leaf, Nat.reduceEqDiff, Nat.reduceLT, Nat.reduceAdd, Nat.reduceLeDiff, reduceCtorEq, Nat.reduceMul, Nat.reduceMod, cfgP, u67, hlen, a0, n1, d1, d2, none_beq]
        exact Fin_pure (l := [.bool true]) (by simp [wk, aBuiltin, AV.cells, AV.leaf, Nat.reduceEqDiff, Nat.reduceLT, Nat.reduceAdd, Nat.reduceLeDiff, reduceCtorEq, Nat.reduceMul, Nat.reduceMod, cfgP, u67, aResults, aResult, hlen]) (.still rfl) (by simp)
      · rw [show v = decide (c = 46) by simp [hv, h1, h2]]
        simp only [wk, aBuiltin, AV.cells, AV.leaf, Nat.reduceEqDiff, Nat.reduceLT, Nat.reduceAdd, Nat.reduceLeDiff, reduceCtorEq, Nat.reduceMul, Nat.reduceMod, cfgP, u67, hlen, a0, n1, h1, h2, none_beq]
        exact Fin_pure (l := [.bool (decide (c = 46))]) (by simp [wk, aBuiltin, AV.cells, AV.leaf, Nat.reduceEqDiff, Nat.reduceLT, Nat.reduceAdd, Nat.reduceLeDiff, reduceCtorEq, Nat.reduceMul, Nat.reduceMod, cfgP, u67, aResults, aResult, hlen]) (.still rfl) (by simp)
def blankC (c : Int) : Bool := decide (c = 10) || decide (c = 13) || decide (c = 32) || decide (c = 9)

theorem blank_ok (c : Int) (prot : Nat) (H : Heap) (hp : prot ≤ H.length) : aLim cfg prot 35 [.int .u8 c] H = some (.bool (blankC c), none) := by
  have hsnap : snap H [.int .u8 c] = some ([.int .u8 c], false) := rfl
  refine pure_slim rfl (by kernel_rfl) Tryd.func35 s35 hp hsnap (by simp [Tryd.f35]) fun fr hlen h => ?_
  simp only [Has, Nat.zero_add] at h
  obtain ⟨a0, -⟩ := h
  simp only [Tryd.f35] at hlen ⊢
  unfold g35
  by_cases h1 : c = 10
  · rw [show blankC c = true by simp [blankC, h1]]
    simp only [wk, aBuiltin, AV.cells, AV.leaf, Nat.reduceEqDiff, Nat.reduceLT, Nat.reduceAdd, Nat.reduceLeDiff, reduceCtorEq, Nat.reduceMul, Nat.reduceMod, cfgP, u67, hlen, a0, h1]
    exact Fin_pure (l := [.bool true]) (by simp [wk, aBuiltin, AV.cells, AV.leaf, Nat.reduceEqDiff, Nat.reduceLT, Nat.reduceAdd, Nat.reduceLeDiff, reduceCtorEq, Nat.reduceMul, Nat.reduceMod, cfgP, u67, aResults, aResult, hlen]) (.still rfl) (by simp)
  · by_cases h2 : c = 13
    · rw [show blankC c = true by simp [blankC, h2]]
      simp only [wk, aBuiltin, AV.cells, AV.leaf, Nat.reduceEqDiff, Nat.reduceLT, Nat.reduceAdd, Nat.reduceLeDiff, reduceCtorEq, Nat.reduceMul, Nat.reduceMod, cfgP, u67, hlen, a0, h1, h2, i1310]
      exact Fin_pure (l := [.bool true]) (by simp [wk, aBuiltin, AV.cells, AV.leaf, Nat.reduceEqDiff, Nat.reduceLT, Nat.reduceAdd, Nat.reduceLeDiff, reduceCtorEq, Nat.reduceMul, Nat.reduceMod, cfgP, u67, aResults, aResult, hlen]) (.still rfl) (by simp)
    · by_cases h3 : c = 32
      · rw [show blankC c = true by simp [blankC, h3]]
        simp only [wk, aBuiltin, AV.cells, AV.leaf, Nat.reduceEqDiff, Nat.reduceLT, Nat.reduceAdd, Nat.reduceLeDiff, reduceCtorEq, Nat.reduceMul, Nat.reduceMod, cfgP, u67, hlen, a0, h1, h2, h3, i3210, i3213]
        exact Fin_pure (l := [.bool true]) (by simp [wk, aBuiltin, AV.cells, AV.leaf, Nat.reduceEqDiff, Nat.reduceLT, Nat.reduceAdd, Nat.reduceLeDiff, reduceCtorEq, Nat.reduceMul, Nat.reduceMod, cfgP, u67, aResults, aResult, hlen]) (.still rfl) (by simp)
      · by_cases h4 : c = 9
        · rw [show blankC c = true by simp [blankC, h4]]
          simp only [wk, aBuiltin, AV.cells, AV.leaf, Nat.reduceEqDiff, Nat.reduceLT, Nat.reduceAdd, Nat.reduceLeDiff, reduceCtorEq, Nat.reduceMul, Nat.reduceMod, cfgP, u67, hlen, a0, h1, h2, h3, h4, i910, i913, i932]
          exact Fin_pure (l := [.bool true]) (by simp [wk, aBuiltin, AV.cells, AV.leaf, Nat.reduceEqDiff, Nat.reduceLT, Nat.reduceAdd, Nat.reduceLeDiff, reduceCtorEq, Nat.reduceMul, Nat.reduceMod, cfgP, u67, aResults, aResult, hlen]) (.still rfl) (by simp)
        · rw [show blankC c = false by simp [blankC, h1, h2, h3, h4]]
          simp only [wk, aBuiltin, AV.cells, AV.leaf, Nat.reduceEqDiff, Nat.reduceLT, Nat.reduceAdd, Nat.reduceLeDiff, reduceCtorEq, Nat.reduceMul, Nat.reduceMod, cfgP, u67, hlen, a0, h1, h2, h3, h4]
          exact Fin_pure (l := [.bool false]) (by simp [wk, aBuiltin, AV.cells, AV.leaf, Nat.reduceEqDiff, Nat.reduceLT, Nat.reduceAdd, Nat.reduceLeDiff, reduceCtorEq, Nat.reduceMul, Nat.reduceMod, cfgP, u67, aResults, aResult, hlen]) (.still rfl) (by simp)
/-- how many bytes at the beginning are so. -/
def runS (p : Int → Bool) : List UInt8 → Nat
  | [] => 0
  | c :: r => if p c.toNat then runS p r + 1 else 0
theorem runS_le (p : Int → Bool) : ∀ l : List UInt8, runS p l ≤ l.length
  | [] => Nat.le_refl _
  | c :: r => by have := runS_le p r; simp only [runS, List.length_cons]; split <;> omega

theorem run_ok (f : Nat) (p : Int → Bool) (hf : ∀ (c : Int) (prot : Nat) (H : Heap), prot ≤ H.length → aLim cfg prot f [.int .u8 c] H = some (.bool (p c), none)) (s : List UInt8) (hl : s.length < 1000000000000000000) (k : Nat) (hk : k ≤ s.length)
    (prot : Nat) (H : Heap) (hp : prot ≤ H.length) : aLim cfg prot 34 [.str s, .int .i64 k, .func f [] []] H = some (.int .i64 (k + runS p (s.drop k) : Nat), none) := by
  have hsnap : snap H [.str s, .int .i64 k, .func f [] []] = some ([.str s, .int .i64 k, .func f [] []], false) := rfl
  have hls : ∀ K, aLen Tryd.prog K 9 (.str s) = some (.int .i64 s.length) := fun K => str_len Tryd.underlying9 s K
  refine pure_slim rfl (by kernel_rfl) Tryd.func34 s34 hp hsnap (by simp [Tryd.f34]) fun fr hlen h => ?_
  simp only [Has, Nat.zero_add] at h
  obtain ⟨a0, a1, a2, -⟩ := h
  simp only [Tryd.f34] at hlen ⊢
  unfold g34
  simp only [wk, aBuiltin, AV.cells, AV.leaf, Nat.reduceEqDiff, Nat.reduceLT, Nat.reduceAdd, Nat.reduceLeDiff, reduceCtorEq, Nat.reduceMul, Nat.reduceMod, cfgP, u67, hlen, a0, a1, a2]
  refine loop_rule (fun m fr K => ∃ (i : Nat), m = s.length - i ∧ i ≤ s.length ∧ fr.length = 21 ∧ fget fr 0 = .str s ∧ fget fr 1 = .int .i64 i ∧ fget fr 2 = .func f [] [] ∧ K = H ∧ k + runS p (s.drop k) = i + runS p (s.drop i)) ?_ (s.length - k) _ _ ⟨k, by simp [wk, aBuiltin, AV.cells, AV.leaf, Nat.reduceEqDiff, Nat.reduceLT, Nat.reduceAdd, Nat.reduceLeDiff, reduceCtorEq, Nat.reduceMul, Nat.reduceMod, cfgP, u67, hlen, a0, a1, a2, hk]⟩
  rintro m fr K ⟨i, rfl, hi, hlen, a0, a1, a2, rfl, hc⟩ ih
  by_cases hlt : i < s.length
  · have e1 := str_at (k := .i64) Tryd.underlying9 s hlt
    have hd : s.drop i = s[i] :: s.drop (i + 1) := List.drop_eq_getElem_cons hlt
    have hli : (i : Int) < (s.length : Nat) := by omega
    have n1 := hf (s[i].toNat : Int) K.length K (Nat.le_refl _)
    rw [hd, runS] at hc
    have hww : IntKind.i64.wrap ((i : Int) + 1) = ((i + 1 : Nat) : Int) := by rw [wrap64 (by omega) (by omega)]; simp
    cases hb : p s[i].toNat with
    | true =>
      rw [hb] at n1
      simp only [wk, aBuiltin, AV.cells, AV.leaf, Nat.reduceEqDiff, Nat.reduceLT, Nat.reduceAdd, Nat.reduceLeDiff, reduceCtorEq, Nat.reduceMul, Nat.reduceMod, cfgP, u67, hlen, a0, a1, a2, hls, hli, e1, n1, none_beq, hww]
      refine ih _ _ (s.length - (i + 1)) (by omega) ⟨i + 1, rfl, by omega, ?_⟩
      rw [hb, if_pos rfl] at hc
      rw [hc]
      simp [wk, aBuiltin, AV.cells, AV.leaf, Nat.reduceEqDiff, Nat.reduceLT, Nat.reduceAdd, Nat.reduceLeDiff, reduceCtorEq, Nat.reduceMul, Nat.reduceMod, cfgP, u67, hlen, a0, a1, a2]
      omega
    | false =>
      rw [hb] at n1 hc
      simp only [Bool.false_eq_true, if_false, Nat.add_zero] at hc
      rw [hc]
      simp only [wk, aBuiltin, AV.cells, AV.leaf, Nat.reduceEqDiff, Nat.reduceLT, Nat.reduceAdd, Nat.reduceLeDiff, reduceCtorEq, Nat.reduceMul, Nat.reduceMod, cfgP, u67, hlen, a0, a1, a2, hls, hli, e1, n1, none_beq]
      exact Fin_pure (l := [.int .i64 i]) (by simp [wk, aBuiltin, AV.cells, AV.leaf, Nat.reduceEqDiff, Nat.reduceLT, Nat.reduceAdd, Nat.reduceLeDiff, reduceCtorEq, Nat.reduceMul, Nat.reduceMod, cfgP, u67, aResults, aResult, hlen]) (.still rfl) (by simp)
  · have hnl : ¬ ((i : Int) < (s.length : Nat)) := by omega
    have hd : s.drop i = [] := by simp; omega
    rw [hd, runS] at hc
    rw [hc, Nat.add_zero]
    simp only [wk, aBuiltin, AV.cells, AV.leaf, Nat.reduceEqDiff, Nat.reduceLT, Nat.reduceAdd, Nat.reduceLeDiff, reduceCtorEq, Nat.reduceMul, Nat.reduceMod, cfgP, u67, hlen, a0, a1, a2, hls, hnl, none_beq]
    exact Fin_pure (l := [.int .i64 i]) (by simp [wk, aBuiltin, AV.cells, AV.leaf, Nat.reduceEqDiff, Nat.reduceLT, Nat.reduceAdd, Nat.reduceLeDiff, reduceCtorEq, Nat.reduceMul, Nat.reduceMod, cfgP, u67, aResults, aResult, hlen]) (.still rfl) (by simp)
end Go.Proofs.YtimbhlbkidmplaaDoor
/- num.Hex of four digits, walked. -/
namespace Go.Proofs.YtimbhlbkidmplaaDoor
open Go Go.Abs AbsSeat Ty

theorem u78 : type_of% (And.intro (fun (K : Heap) (n : Int) => conv_int Tryd.underlying5 Tryd.underlying3 K n) (And.intro (fun (K : Heap) (n : Int) => conv_int Tryd.underlying3 Tryd.underlying21 K n) (And.intro ag3 (And.intro sz3 (And.intro by3 (And.intro ze3 (And.intro Tryd.underlying3 (And.intro ag5 (And.intro sz5 (And.intro by5 (And.intro ze5 (And.intro Tryd.underlying5 (And.intro ag9 (And.intro sz9 (And.intro by9 (And.intro ze9 (And.intro Tryd.underlying9 (And.intro ag21 (And.intro sz21 (And.intro by21 (And.intro ze21 (And.intro Tryd.underlying21 (And.intro ag33 (And.intro sz33 (And.intro by33 (And.intro ze33 Tryd.underlying33)))))))))))))))))))))))))) := And.intro (fun (K : Heap) (n : Int) => conv_int Tryd.underlying5 Tryd.underlying3 K n) (And.intro (fun (K : Heap) (n : Int) => conv_int Tryd.underlying3 Tryd.underlying21 K n) (And.intro ag3 (And.intro sz3 (And.intro by3 (And.intro ze3 (And.intro Tryd.underlying3 (And.intro ag5 (And.intro sz5 (And.intro by5 (And.intro ze5 (And.intro Tryd.underlying5 (And.intro ag9 (And.intro sz9 (And.intro by9 (And.intro ze9 (And.intro Tryd.underlying9 (And.intro ag21 (And.intro sz21 (And.intro by21 (And.intro ze21 (And.intro Tryd.underlying21 (And.intro ag33 (And.intro sz33 (And.intro by33 (And.intro ze33 Tryd.underlying33)))))))))))))))))))))))))
def g78 : Code :=
  .seq (.region 0 #[q 2 (.assign (ik 0)) 3] false) (.seq (.region 1 #[q 3 (.assign (ik 0)) 3] false) (.seq (.block 0 (.seq (.block 3 (.seq (.block 2 (.seq (.block 1 (.seq (.seq (.seq (.region 2 #[q 5 (.move (.tmp 0)) 5, q 6 (.binOp .geq 5 (.tmp 5) (.const (.int .u8 65)) 5) 4, q 7 (.move (.tmp 6)) 4, qg 8 (.move (.tmp 0)) 5 2 true, qg 9 (.binOp .leq 5 (.tmp 8) (.const (.int .u8 70)) 5) 4 2 true, q 10 (.pick (.tmp 7) (.tmp 9) (.const (.bool false))) 4, q 4 (.assign (.tmp 10)) 4] false) (.cond (.tmp 4) (.exit 1) .skip)) (.seq (.seq (.region 3 #[q 12 (.move (.tmp 0)) 5, q 13 (.binOp .geq 5 (.tmp 12) (.const (.int .u8 97)) 5) 4, q 14 (.move (.tmp 13)) 4, qg 15 (.move (.tmp 0)) 5 2 true, qg 16 (.binOp .leq 5 (.tmp 15) (.const (.int .u8 102)) 5) 4 2 true, q 17 (.pick (.tmp 14) (.tmp 16) (.const (.bool false))) 4, q 11 (.assign (.tmp 17)) 4] false) (.cond (.tmp 11) (.exit 2) .skip)) (.seq (.region 4 #[q 19 (.move (.tmp 0)) 5, q 20 (cl 42 #[.tmp 19] #[5]) 4, q 18 (.assign (.tmp 20)) 4] false) (.cond (.tmp 18) (.exit 3) .skip)))) (.exit 0))) (.region 5 #[q 21 (.move (.tmp 0)) 5, q 22 (.binOp .add 5 (.tmp 21) (.const (.int .u8 32)) 5) 5, q 0 (.assign (.tmp 22)) 5] false))) (.seq (.region 6 #[q 3 (.assign (ik 10)) 3] false) (.region 7 #[q 23 (.move (.tmp 0)) 5, q 24 (.binOp .sub 5 (.tmp 23) (.const (.int .u8 49)) 5) 5, q 0 (.assign (.tmp 24)) 5] false)))) (.seq (.seq (.region 8 #[q 25 (.move (.tmp 3)) 3, q 26 (.move (.tmp 0)) 5, q 27 (.binOp .sub 5 (.tmp 26) (.const (.int .u8 48)) 5) 5, q 28 (.convert 5 3 (.tmp 27)) 3, q 29 (.binOp .add 3 (.tmp 25) (.tmp 28) 3) 3, q 2 (.assign (.tmp 29)) 3] false) .ret) (.exit 0)))) (.seq (.region 9 #[q 2 (.assign (ik (-1))) 3] false) .ret)))
theorem s78 : Tryd.f78.body.map (slim cfg) = some g78 := by kernel_rfl
def g74 : Code :=
  .seq (.region 0 #[q 2 (.assign (ik 0)) 3, q 3 (.assign (ik 0)) 33] false) (.seq (.region 1 #[q 4 (.assign (ik 0)) 3, q 5 (.assign (.const (.bool false))) 4] false) (.seq (.seq (.region 2 #[q 8 (.move (.tmp 0)) 9, q 9 (bi .len #[.tmp 8] #[9]) 3, q 10 (.move (ik 0)) 3] false) (.block 0 (.loop (.seq (.region 3 #[q 11 (.binOp .lss 3 (.tmp 10) (.tmp 9) 3) 4] false) (.seq (.cond (.tmp 11) .skip (.exit 0)) (.seq (.block 1 (.seq (.region 4 #[q 12 (.move (.tmp 10)) 3, q 6 (.assign (.tmp 12)) 3] false) (.seq (.region 5 #[q 13 (.move (.tmp 0)) 9, q 14 (.move (.tmp 6)) 3, q 15 (.index 9 (.tmp 13) (.tmp 14)) 5, q 16 (cl 78 #[.tmp 15] #[5]) 3, q 7 (.assign (.tmp 16)) 3] false) (.seq (.seq (.region 6 #[q 17 (.move (.tmp 7)) 3, q 18 (.binOp .lss 3 (.tmp 17) (ik 0) 3) 4] false) (.cond (.tmp 18) (.seq (.region 7 #[q 2 (.assign (ik 0)) 3, q 3 (.assign (ik 3)) 33] false) .ret) .skip)) (.seq (.region 8 #[q 19 (.move (.tmp 5)) 4, q 20 (.move (.tmp 19)) 4, qg 21 (.move (.tmp 4)) 3 1 false, qg 22 (.move (.tmp 7)) 3 1 false, qg 23 (.binOp .sub 3 (ik 2147483647) (.tmp 22) 3) 3 1 false, qg 24 (.binOp .quo 3 (.tmp 23) (ik 16) 3) 3 1 false, qg 25 (.binOp .gtr 3 (.tmp 21) (.tmp 24) 3) 4 1 false, q 26 (.pick (.tmp 20) (.const (.bool true)) (.tmp 25)) 4, q 5 (.assign (.tmp 26)) 4] false) (.seq (.region 9 #[q 27 (.move (.tmp 5)) 4, q 28 (.unOp .not 4 (.tmp 27)) 4] false) (.cond (.tmp 28) (.region 10 #[q 29 (.move (.tmp 4)) 3, q 30 (.binOp .mul 3 (.tmp 29) (ik 16) 3) 3, q 31 (.move (.tmp 7)) 3, q 32 (.binOp .add 3 (.tmp 30) (.tmp 31) 3) 3, q 4 (.assign (.tmp 32)) 3] false) .skip))))))) (.region 11 #[q 33 (.binOp .add 3 (.tmp 10) (ik 1) 3) 3, q 10 (.move (.tmp 33)) 3] false))))))) (.seq (.block 2 (.seq (.region 12 #[q 35 (.move (.tmp 0)) 9, q 36 (.binOp .eql 9 (.tmp 35) (.const (.string { data := #[] })) 9) 4, q 34 (.assign (.tmp 36)) 4] false) (.cond (.tmp 34) (.seq (.region 13 #[q 2 (.assign (ik 0)) 3, q 3 (.assign (ik 3)) 33] false) .ret) (.seq (.region 14 #[q 38 (.move (.tmp 5)) 4, q 37 (.assign (.tmp 38)) 4] false) (.cond (.tmp 37) (.seq (.region 15 #[q 2 (.assign (ik 0)) 3, q 3 (.assign (ik 5)) 33] false) .ret) .skip))))) (.seq (.region 16 #[q 39 (.move (.tmp 4)) 3, q 2 (.assign (.tmp 39)) 3, q 3 (.assign (ik 0)) 33] false) .ret))))
theorem s74 : Tryd.f74.body.map (slim cfg) = some g74 := by kernel_rfl
def g70 : Code :=
  .seq (.region 0 #[q 4 (.assign (.const (.int .i32 0))) 21, q 5 (.assign (.const (.bool false))) 4] false) (.seq (.seq (.region 1 #[q 8 (.move (.tmp 0)) 9, q 9 (bi .len #[.tmp 8] #[9]) 3, q 10 (.move (.tmp 1)) 3, q 11 (.binOp .sub 3 (.tmp 9) (.tmp 10) 3) 3, q 12 (.binOp .lss 3 (.tmp 11) (ik 4) 3) 4] false) (.cond (.tmp 12) (.seq (.region 2 #[q 4 (.assign (.const (.int .i32 0))) 21, q 5 (.assign (.const (.bool false))) 4] false) .ret) .skip)) (.seq (.region 3 #[q 14 (.move (.tmp 0)) 9, q 15 (.move (.tmp 1)) 3, q 16 (.move (.tmp 1)) 3, q 17 (.binOp .add 3 (.tmp 16) (ik 4) 3) 3, q 18 (.slice 9 (.tmp 14) (some (.tmp 15)) (some (.tmp 17)) none) 9, q 19 (cl 74 #[.tmp 18] #[9]) 146, q 13 (.move (.tmp 19)) 146, q 20 (.extract (.tmp 13) 0) 3, q 21 (.extract (.tmp 13) 1) 33, q 6 (.assign (.tmp 20)) 3, q 7 (.assign (.tmp 21)) 33] false) (.seq (.region 4 #[q 22 (.move (.tmp 6)) 3, q 23 (.convert 3 21 (.tmp 22)) 21, q 24 (.move (.tmp 7)) 33, q 25 (.binOp .eql 33 (.tmp 24) (ik 0) 33) 4, q 4 (.assign (.tmp 23)) 21, q 5 (.assign (.tmp 25)) 4] false) .ret)))
theorem s70 : Tryd.f70.body.map (slim cfg) = some g70 := by kernel_rfl
/-- the worth of a digit by sixteen. -/
def hexC (c : Int) : Int := if 65 ≤ c ∧ c ≤ 70 then c - 55 else if 97 ≤ c ∧ c ≤ 102 then c - 87 else if 48 ≤ c ∧ c ≤ 57 then c - 48 else -1
theorem wrap8 {n : Int} (h0 : 0 ≤ n) (h1 : n < 256) : IntKind.u8.wrap n = n := by
  simp only [IntKind.wrap, IntKind.signed, IntKind.bits]; simp; omega

theorem hex_ok (c : Int) (hc0 : 0 ≤ c) (hc1 : c < 256) (prot : Nat) (H : Heap) (hp : prot ≤ H.length) : aLim cfg prot 78 [.int .u8 c] H = some (.int .i64 (hexC c), none) := by
  have hsnap : snap H [.int .u8 c] = some ([.int .u8 c], false) := rfl
  have n1 := digit_ok c H.length H (Nat.le_refl _)
  refine pure_slim rfl (by kernel_rfl) Tryd.func78 s78 hp hsnap (by simp [Tryd.f78]) fun fr hlen h => ?_
  simp only [Has, Nat.zero_add] at h
  obtain ⟨a0, -⟩ := h
  simp only [Tryd.f78] at hlen ⊢
  unfold g78
  by_cases h1 : 65 ≤ c ∧ c ≤ 70
  · obtain ⟨h1, h2⟩ := h1
    rw [show hexC c = c - 55 by simp [hexC, h1, h2]]
    have w1 : IntKind.u8.wrap (c + 32) = c + 32 := wrap8 (by omega) (by omega)
    have w2 : IntKind.u8.wrap (c + 32 - 49) = c - 17 := by rw [wrap8 (by omega) (by omega)]; omega
    have w3 : IntKind.u8.wrap (c - 17 - 48) = c - 65 := by rw [wrap8 (by omega) (by omega)]; omega
    have w4 : IntKind.i64.wrap (c - 65) = c - 65 := by rw [wrap64 (by omega) (by omega)]
    have w5 : IntKind.i64.wrap (10 + (c - 65)) = c - 55 := by rw [wrap64 (by omega) (by omega)]; omega
    simp only [wk, aBuiltin, AV.cells, AV.leaf, Nat.reduceEqDiff, Nat.reduceLT, Nat.reduceAdd, Nat.reduceLeDiff, reduceCtorEq, Nat.reduceMul, Nat.reduceMod, cfgP, u78, hlen, a0, h1, h2, none_beq, w1, w2, w3, w4, w5]
    exact Fin_pure (l := [.int .i64 (c - 55)]) (by simp [wk, aBuiltin, AV.cells, AV.leaf, Nat.reduceEqDiff, Nat.reduceLT, Nat.reduceAdd, Nat.reduceLeDiff, reduceCtorEq, Nat.reduceMul, Nat.reduceMod, cfgP, u78, aResults, aResult, hlen]) (.still rfl) (by simp)
  · by_cases h2 : 97 ≤ c ∧ c ≤ 102
    · obtain ⟨h3, h4⟩ := h2
      rw [show hexC c = c - 87 by unfold hexC; rw [if_neg h1, if_pos ⟨h3, h4⟩]]
      have h5 : 65 ≤ c := by omega
      have h6 : ¬ c ≤ 70 := by omega
      have w2 : IntKind.u8.wrap (c - 49) = c - 49 := wrap8 (by omega) (by omega)
      have w3 : IntKind.u8.wrap (c - 49 - 48) = c - 97 := by rw [wrap8 (by omega) (by omega)]; omega
      have w4 : IntKind.i64.wrap (c - 97) = c - 97 := by rw [wrap64 (by omega) (by omega)]
      have w5 : IntKind.i64.wrap (10 + (c - 97)) = c - 87 := by rw [wrap64 (by omega) (by omega)]; omega
      simp only [wk, aBuiltin, AV.cells, AV.leaf, Nat.reduceEqDiff, Nat.reduceLT, Nat.reduceAdd, Nat.reduceLeDiff, reduceCtorEq, Nat.reduceMul, Nat.reduceMod, cfgP, u78, hlen, a0, h3, h4, h5, h6, none_beq, w2, w3, w4, w5]
      exact Fin_pure (l := [.int .i64 (c - 87)]) (by simp [wk, aBuiltin, AV.cells, AV.leaf, Nat.reduceEqDiff, Nat.reduceLT, Nat.reduceAdd, Nat.reduceLeDiff, reduceCtorEq, Nat.reduceMul, Nat.reduceMod, cfgP, u78, aResults, aResult, hlen]) (.still rfl) (by simp)
    · have hd1 : decide (65 ≤ c) = false ∨ decide (65 ≤ c) = true ∧ decide (c ≤ 70) = false := by
        by_cases h : 65 ≤ c
        · right; simp; omega
        · left; simpa using h
      have hd2 : decide (97 ≤ c) = false ∨ decide (97 ≤ c) = true ∧ decide (c ≤ 102) = false := by
        by_cases h : 97 ≤ c
        · right; simp; omega
        · left; simpa using h
      by_cases h3 : 48 ≤ c ∧ c ≤ 57
      · rw [show hexC c = c - 48 by unfold hexC; rw [if_neg h1, if_neg h2, if_pos h3]]
        have hdg : digitC c = true := by simp [digitC, h3]
        rw [hdg] at n1
        have w3 : IntKind.u8.wrap (c - 48) = c - 48 := wrap8 (by omega) (by omega)
        have w4 : IntKind.i64.wrap (c - 48) = c - 48 := by rw [wrap64 (by omega) (by omega)]
        have w5 : IntKind.i64.wrap (0 + (c - 48)) = c - 48 := by rw [wrap64 (by omega) (by omega)]; omega
        rcases hd1 with d1 | ⟨d1, d2⟩ <;> rcases hd2 with d3 | ⟨d3, d4⟩
        · simp only [wk, aBuiltin, AV.cells, AV.leaf, Nat.reduceEqDiff, Nat.reduceLT, Nat.reduceAdd, Nat.reduceLeDiff, reduceCtorEq, Nat.reduceMul, Nat.reduceMod, cfgP, u78, hlen, a0, d1, d3, n1, none_beq, w3, w4, w5]
          exact Fin_pure (l := [.int .i64 (c - 48)]) (by simp [wk, aBuiltin, AV.cells, AV.leaf, Nat.reduceEqDiff, Nat.reduceLT, Nat.reduceAdd, Nat.reduceLeDiff, reduceCtorEq, Nat.reduceMul, Nat.reduceMod, cfgP, u78, aResults, aResult, hlen]) (.still rfl) (by simp)
        · simp only [wk, aBuiltin, AV.cells, AV.leaf, Nat.reduceEqDiff, Nat.reduceLT, Nat.reduceAdd, Nat.reduceLeDiff, reduceCtorEq, Nat.reduceMul, Nat.reduceMod, cfgP, u78, hlen, a0, d1, d3, d4, n1, none_beq, w3, w4, w5]
          exact Fin_pure (l := [.int .i64 (c - 48)]) (by simp [wk, aBuiltin, AV.cells, AV.leaf, Nat.reduceEqDiff, Nat.reduceLT, Nat.reduceAdd, Nat.reduceLeDiff, reduceCtorEq, Nat.reduceMul, Nat.reduceMod, cfgP, u78, aResults, aResult, hlen]) (.still rfl) (by simp)
        · simp only [wk, aBuiltin, AV.cells, AV.leaf, Nat.reduceEqDiff, Nat.reduceLT, Nat.reduceAdd, Nat.reduceLeDiff, reduceCtorEq, Nat.reduceMul, Nat.reduceMod, cfgP, u78, hlen, a0, d1, d2, d3, n1, none_beq, w3, w4, w5]
          exact Fin_pure (l := [.int .i64 (c - 48)]) (by simp [wk, aBuiltin, AV.cells, AV.leaf, Nat.reduceEqDiff, Nat.reduceLT, Nat.reduceAdd, Nat.reduceLeDiff, reduceCtorEq, Nat.reduceMul, Nat.reduceMod, cfgP, u78, aResults, aResult, hlen]) (.still rfl) (by simp)
        · simp only [wk, aBuiltin, AV.cells, AV.leaf, Nat.reduceEqDiff, Nat.reduceLT, Nat.reduceAdd, Nat.reduceLeDiff, reduceCtorEq, Nat.reduceMul, Nat.reduceMod, cfgP, u78, hlen, a0, d1, d2, d3, d4, n1, none_beq, w3, w4, w5]
          exact Fin_pure (l := [.int .i64 (c - 48)]) (by simp [wk, aBuiltin, AV.cells, AV.leaf, Nat.reduceEqDiff, Nat.reduceLT, Nat.reduceAdd, Nat.reduceLeDiff, reduceCtorEq, Nat.reduceMul, Nat.reduceMod, cfgP, u78, aResults, aResult, hlen]) (.still rfl) (by simp)
      · rw [show hexC c = -1 by unfold hexC; rw [if_neg h1, if_neg h2, if_neg h3]]
        have hdg : digitC c = false := by
          by_cases h : 48 ≤ c
          · have : ¬ c ≤ 57 := by omega
            simp [digitC, this]
          · simp [digitC, h]
        rw [hdg] at n1
        rcases hd1 with d1 | ⟨d1, d2⟩ <;> rcases hd2 with d3 | ⟨d3, d4⟩
        · simp only [wk, aBuiltin, AV.cells, AV.leaf, Nat.reduceEqDiff, Nat.reduceLT, Nat.reduceAdd, Nat.reduceLeDiff, reduceCtorEq, Nat.reduceMul, Nat.reduceMod, cfgP, u78, hlen, a0, d1, d3, n1, none_beq]
          exact Fin_pure (l := [.int .i64 (-1)]) (by simp [wk, aBuiltin, AV.cells, AV.leaf, Nat.reduceEqDiff, Nat.reduceLT, Nat.reduceAdd, Nat.reduceLeDiff, reduceCtorEq, Nat.reduceMul, Nat.reduceMod, cfgP, u78, aResults, aResult, hlen]) (.still rfl) (by simp)
        · simp only [wk, aBuiltin, AV.cells, AV.leaf, Nat.reduceEqDiff, Nat.reduceLT, Nat.reduceAdd, Nat.reduceLeDiff, reduceCtorEq, Nat.reduceMul, Nat.reduceMod, cfgP, u78, hlen, a0, d1, d3, d4, n1, none_beq]
          exact Fin_pure (l := [.int .i64 (-1)]) (by simp [wk, aBuiltin, AV.cells, AV.leaf, Nat.reduceEqDiff, Nat.reduceLT, Nat.reduceAdd, Nat.reduceLeDiff, reduceCtorEq, Nat.reduceMul, Nat.reduceMod, cfgP, u78, aResults, aResult, hlen]) (.still rfl) (by simp)
        · simp only [wk, aBuiltin, AV.cells, AV.leaf, Nat.reduceEqDiff, Nat.reduceLT, Nat.reduceAdd, Nat.reduceLeDiff, reduceCtorEq, Nat.reduceMul, Nat.reduceMod, cfgP, u78, hlen, a0, d1, d2, d3, n1, none_beq]
          exact Fin_pure (l := [.int .i64 (-1)]) (by simp [wk, aBuiltin, AV.cells, AV.leaf, Nat.reduceEqDiff, Nat.reduceLT, Nat.reduceAdd, Nat.reduceLeDiff, reduceCtorEq, Nat.reduceMul, Nat.reduceMod, cfgP, u78, aResults, aResult, hlen]) (.still rfl) (by simp)
        · simp only [wk, aBuiltin, AV.cells, AV.leaf, Nat.reduceEqDiff, Nat.reduceLT, Nat.reduceAdd, Nat.reduceLeDiff, reduceCtorEq, Nat.reduceMul, Nat.reduceMod, cfgP, u78, hlen, a0, d1, d2, d3, d4, n1, none_beq]
          exact Fin_pure (l := [.int .i64 (-1)]) (by simp [wk, aBuiltin, AV.cells, AV.leaf, Nat.reduceEqDiff, Nat.reduceLT, Nat.reduceAdd, Nat.reduceLeDiff, reduceCtorEq, Nat.reduceMul, Nat.reduceMod, cfgP, u78, aResults, aResult, hlen]) (.still rfl) (by simp)
theorem hexC_le (c : Int) : hexC c ≤ 15 := by unfold hexC; split <;> (try split) <;> (try split) <;> omega
theorem hexC_ge (c : Int) : -1 ≤ hexC c := by unfold hexC; split <;> (try split) <;> (try split) <;> omega

/-- a number by sixteen. -/
def hexV : List UInt8 → Nat → Option Nat
  | [], v => some v
  | c :: r, v => if hexC c.toNat < 0 then none else hexV r (v * 16 + (hexC c.toNat).toNat)
theorem hexV_lt : ∀ (l : List UInt8) (v w : Nat), hexV l v = some w → w < (v + 1) * 16 ^ l.length
  | [], v, w, h => by simp only [hexV, Option.some.injEq] at h; subst h; simp
  | c :: r, v, w, h => by
    simp only [hexV] at h
    split at h
    · cases h
    · have h1 := hexV_lt r _ w h
      have h2 := hexC_le c.toNat
      have h3 : v * 16 + (hexC c.toNat).toNat + 1 ≤ (v + 1) * 16 := by omega
      have h4 := Nat.mul_le_mul_right (16 ^ r.length) h3
      simp only [List.length_cons, Nat.pow_succ]
      calc w < _ := h1
        _ ≤ _ := h4
        _ = _ := by rw [Nat.mul_assoc, Nat.mul_comm 16]
def hexR : Option Nat → AV
  | none => .tup [.int .i64 0, .int .i64 3]
  | some v => .tup [.int .i64 v, .int .i64 0]

theorem Hex_ok (s : List UInt8) (hs : s.length = 4) (prot : Nat) (H : Heap) (hp : prot ≤ H.length) : aLim cfg prot 74 [.str s] H = some (hexR (hexV s 0), none) := by
  have hsnap : snap H [.str s] = some ([.str s], false) := rfl
  have hls : ∀ K, aLen Tryd.prog K 9 (.str s) = some (.int .i64 4) := fun K => by rw [str_len Tryd.underlying9 s K, hs]; rfl
  have hfz : ∀ (K : Heap) (x y : AV), still x = true → still y = true → Frz K H.length (packR [x, y]) (.tup [x, y]) := fun K x y h1 h2 => .tup (.cons (.still h1) (.cons (.still h2) .nil))
  refine pure_slim rfl (by kernel_rfl) Tryd.func74 s74 hp hsnap (by simp [Tryd.f74]) fun fr hlen h => ?_
  simp only [Has, Nat.zero_add] at h
  obtain ⟨a0, -⟩ := h
  simp only [Tryd.f74] at hlen ⊢
  unfold g74
  simp only [wk, aBuiltin, AV.cells, AV.leaf, Nat.reduceEqDiff, Nat.reduceLT, Nat.reduceAdd, Nat.reduceLeDiff, reduceCtorEq, Nat.reduceMul, Nat.reduceMod, cfgP, u78, hlen, a0, hls]
  refine loop_rule (fun m fr K => ∃ (i v : Nat), m = 4 - i ∧ i ≤ 4 ∧ fr.length = 40 ∧ fget fr 0 = .str s ∧ fget fr 4 = .int .i64 v ∧ fget fr 5 = .bool false ∧ fget fr 9 = .int .i64 4 ∧ fget fr 10 = .int .i64 i ∧ K = H ∧ v < 16 ^ i ∧ hexV s 0 = hexV (s.drop i) v) ?_ 4 _ _ ⟨0, 0, by simp [wk, aBuiltin, AV.cells, AV.leaf, Nat.reduceEqDiff, Nat.reduceLT, Nat.reduceAdd, Nat.reduceLeDiff, reduceCtorEq, Nat.reduceMul, Nat.reduceMod, cfgP, u78, hlen, a0]⟩
  rintro m fr K ⟨i, v, rfl, hi, hlen, a0, a4, a5, a9, a10, rfl, hv, hc⟩ ih
  by_cases hlt : i < 4
  · have hlt' : i < s.length := by omega
    have e1 := str_at (k := .i64) Tryd.underlying9 s hlt'
    have hd : s.drop i = s[i] :: s.drop (i + 1) := List.drop_eq_getElem_cons hlt'
    have hli : (i : Int) < 4 := by omega
    have hu8 : s[i].toNat < 256 := s[i].toNat_lt
    have n1 := hex_ok (s[i].toNat : Int) (by omega) (by omega) K.length K (Nat.le_refl _)
    have hh1 := hexC_le (s[i].toNat : Int)
    have hh2 := hexC_ge (s[i].toNat : Int)
    rw [hd, hexV] at hc
    generalize hexC (s[i].toNat : Int) = d at *
    have hww : IntKind.i64.wrap ((i : Int) + 1) = ((i + 1 : Nat) : Int) := by rw [wrap64 (by omega) (by omega)]; simp
    by_cases hd0 : d < 0
    · rw [if_pos hd0] at hc
      rw [hc, hexR]
      simp only [wk, aBuiltin, AV.cells, AV.leaf, Nat.reduceEqDiff, Nat.reduceLT, Nat.reduceAdd, Nat.reduceLeDiff, reduceCtorEq, Nat.reduceMul, Nat.reduceMod, cfgP, u78, hlen, a0, a4, a5, a9, a10, hli, e1, n1, hd0, none_beq]
      exact Fin_pure (l := [.int .i64 0, .int .i64 3]) (by simp [wk, aBuiltin, AV.cells, AV.leaf, Nat.reduceEqDiff, Nat.reduceLT, Nat.reduceAdd, Nat.reduceLeDiff, reduceCtorEq, Nat.reduceMul, Nat.reduceMod, cfgP, u78, hlen, aResults, aResult]) (hfz _ _ _ rfl rfl) (by simp)
    · rw [if_neg hd0] at hc
      have hv16 : v < 4096 := Nat.lt_of_lt_of_le hv (by
        have : (16 : Nat) ^ i ≤ 16 ^ 3 := Nat.pow_le_pow_right (by omega) (by omega)
        simpa using this)
      have w1 : IntKind.i64.wrap (2147483647 - d) = 2147483647 - d := by rw [wrap64 (by omega) (by omega)]
      have hq : (2147483647 - d).tdiv 16 = (2147483647 - d) / 16 := Int.tdiv_eq_ediv_of_nonneg (by omega)
      have w2 : IntKind.i64.wrap ((2147483647 - d).tdiv 16) = (2147483647 - d) / 16 := by rw [hq, wrap64 (by omega) (by omega)]
      have w3 : ¬ ((2147483647 - d) / 16 < (v : Int)) := by omega
      have w4 : IntKind.i64.wrap ((v : Int) * 16) = v * 16 := by rw [wrap64 (by omega) (by omega)]
      have w5 : IntKind.i64.wrap ((v : Int) * 16 + d) = ((v * 16 + d.toNat : Nat) : Int) := by rw [wrap64 (by omega) (by omega)]; omega
      have q1 := fun (t : TypeId) (xo yo : Operand) (a : Int) => bin_quo (P := Tryd.prog) (t := t) (xo := xo) (yo := yo) (k := .i64) (a := a) (b := 16) (by decide)
      simp only [wk, aBuiltin, AV.cells, AV.leaf, Nat.reduceEqDiff, Nat.reduceLT, Nat.reduceAdd, Nat.reduceLeDiff, reduceCtorEq, Nat.reduceMul, Nat.reduceMod, cfgP, u78, hlen, a0, a4, a5, a9, a10, hli, e1, n1, hd0, none_beq, w1, q1, w2, w3, w4, w5, hww]
      refine ih _ _ (4 - (i + 1)) (by omega) ⟨i + 1, v * 16 + d.toNat, rfl, by omega, ?_⟩
      rw [hc]
      simp [wk, aBuiltin, AV.cells, AV.leaf, Nat.reduceEqDiff, Nat.reduceLT, Nat.reduceAdd, Nat.reduceLeDiff, reduceCtorEq, Nat.reduceMul, Nat.reduceMod, cfgP, u78, hlen, a0, a9]
      rw [Nat.pow_succ]
      omega
  · have hnl : ¬ ((i : Int) < 4) := by omega
    have hd : s.drop i = [] := by simp; omega
    rw [hd, hexV] at hc
    rw [hc, hexR]
    have hse : (s == []) = false := by cases s with
      | nil => simp at hs
      | cons a r => rfl
    simp only [wk, aBuiltin, AV.cells, AV.leaf, Nat.reduceEqDiff, Nat.reduceLT, Nat.reduceAdd, Nat.reduceLeDiff, reduceCtorEq, Nat.reduceMul, Nat.reduceMod, cfgP, u78, hlen, a0, a4, a5, a9, a10, hnl, none_beq, str_eql, hse]
    exact Fin_pure (l := [.int .i64 v, .int .i64 0]) (by simp [wk, aBuiltin, AV.cells, AV.leaf, Nat.reduceEqDiff, Nat.reduceLT, Nat.reduceAdd, Nat.reduceLeDiff, reduceCtorEq, Nat.reduceMul, Nat.reduceMod, cfgP, u78, hlen, aResults, aResult]) (hfz _ _ _ rfl rfl) (by simp)
/-- the number of four digits. -/
def fourS (r : List UInt8) : Option Nat := if r.length < 4 then none else hexV (r.take 4) 0
def fourR : Option Nat → AV
  | none => .tup [.int .i32 0, .bool false]
  | some v => .tup [.int .i32 v, .bool true]
theorem wrap32 {n : Int} (h0 : 0 ≤ n) (h1 : n < 2147483648) : IntKind.i32.wrap n = n := by
  simp only [IntKind.wrap, IntKind.signed, IntKind.bits]; simp; omega

theorem four_ok (s : List UInt8) (hl : s.length < 1000000000000000000) (k : Nat) (hk : k ≤ s.length) (prot : Nat) (H : Heap) (hp : prot ≤ H.length) : aLim cfg prot 70 [.str s, .int .i64 k] H = some (fourR (fourS (s.drop k)), none) := by
  have hsnap : snap H [.str s, .int .i64 k] = some ([.str s, .int .i64 k], false) := rfl
  have hls : ∀ K, aLen Tryd.prog K 9 (.str s) = some (.int .i64 s.length) := fun K => str_len Tryd.underlying9 s K
  have hfz : ∀ (K : Heap) (x y : AV), still x = true → still y = true → Frz K H.length (packR [x, y]) (.tup [x, y]) := fun K x y h1 h2 => .tup (.cons (.still h1) (.cons (.still h2) .nil))
  have w1 : IntKind.i64.wrap ((s.length : Int) - k) = ((s.length : Int) - k) := by rw [wrap64 (by omega) (by omega)]
  have w2 : IntKind.i64.wrap ((k : Int) + 4) = ((k + 4 : Nat) : Int) := by rw [wrap64 (by omega) (by omega)]; simp
  refine pure_slim rfl (by kernel_rfl) Tryd.func70 s70 hp hsnap (by simp [Tryd.f70]) fun fr hlen h => ?_
  simp only [Has, Nat.zero_add] at h
  obtain ⟨a0, a1, -⟩ := h
  simp only [Tryd.f70] at hlen ⊢
  unfold g70
  by_cases h4 : (s.length : Int) - k < 4
  · have hd : fourS (s.drop k) = none := by unfold fourS; rw [if_pos (by simp; omega)]
    rw [hd, fourR]
    simp only [wk, aBuiltin, AV.cells, AV.leaf, Nat.reduceEqDiff, Nat.reduceLT, Nat.reduceAdd, Nat.reduceLeDiff, reduceCtorEq, Nat.reduceMul, Nat.reduceMod, cfgP, u78, hlen, a0, a1, hls, w1, h4]
    exact Fin_pure (l := [.int .i32 0, .bool false]) (by simp [wk, aBuiltin, AV.cells, AV.leaf, Nat.reduceEqDiff, Nat.reduceLT, Nat.reduceAdd, Nat.reduceLeDiff, reduceCtorEq, Nat.reduceMul, Nat.reduceMod, cfgP, u78, hlen, aResults, aResult]) (hfz _ _ _ rfl rfl) (by simp)
  · have hd : fourS (s.drop k) = hexV ((s.drop k).take 4) 0 := by unfold fourS; rw [if_neg (by simp; omega)]
    have e1 := str_mid (k := .i64) (k' := .i64) Tryd.underlying9 s (a := k) (b := k + 4) (by omega) (by omega)
    rw [show k + 4 - k = 4 by omega] at e1
    have n1 := Hex_ok ((s.drop k).take 4) (by simp; omega) H.length H (Nat.le_refl _)
    rw [hd]
    have hlt := hexV_lt ((s.drop k).take 4) 0
    generalize hexV ((s.drop k).take 4) 0 = o at *
    cases o with
    | none =>
      rw [hexR] at n1
      have w3 : IntKind.i32.wrap 0 = 0 := by rfl
      simp only [wk, aBuiltin, AV.cells, AV.leaf, Nat.reduceEqDiff, Nat.reduceLT, Nat.reduceAdd, Nat.reduceLeDiff, reduceCtorEq, Nat.reduceMul, Nat.reduceMod, cfgP, u78, hlen, a0, a1, hls, w1, h4, w2, e1, n1, w3]
      exact Fin_pure (l := [.int .i32 0, .bool false]) (by simp [wk, aBuiltin, AV.cells, AV.leaf, Nat.reduceEqDiff, Nat.reduceLT, Nat.reduceAdd, Nat.reduceLeDiff, reduceCtorEq, Nat.reduceMul, Nat.reduceMod, cfgP, u78, hlen, aResults, aResult]) (hfz _ _ _ rfl rfl) (by simp)
    | some v =>
      have hv := hlt v rfl
      rw [show ((s.drop k).take 4).length = 4 by simp; omega] at hv
      simp only [Nat.zero_add, Nat.one_mul] at hv
      have w3 : IntKind.i32.wrap v = v := wrap32 (by omega) (by omega)
      rw [hexR] at n1
      simp only [wk, aBuiltin, AV.cells, AV.leaf, Nat.reduceEqDiff, Nat.reduceLT, Nat.reduceAdd, Nat.reduceLeDiff, reduceCtorEq, Nat.reduceMul, Nat.reduceMod, cfgP, u78, hlen, a0, a1, hls, w1, h4, w2, e1, n1, w3]
      exact Fin_pure (l := [.int .i32 v, .bool true]) (by simp [wk, aBuiltin, AV.cells, AV.leaf, Nat.reduceEqDiff, Nat.reduceLT, Nat.reduceAdd, Nat.reduceLeDiff, reduceCtorEq, Nat.reduceMul, Nat.reduceMod, cfgP, u78, hlen, aResults, aResult]) (hfz _ _ _ rfl rfl) (by simp)
end Go.Proofs.YtimbhlbkidmplaaDoor
/- utf.Put, utf.Pair, HasPrefix, walked. -/
namespace Go.Proofs.YtimbhlbkidmplaaDoor
open Go Go.Abs AbsSeat Ty

theorem u76 : type_of% (And.intro (fun (K : Heap) (n : Int) => conv_int Tryd.underlying21 Tryd.underlying5 K n) (And.intro ag3 (And.intro sz3 (And.intro by3 (And.intro ze3 (And.intro Tryd.underlying3 (And.intro ag5 (And.intro sz5 (And.intro by5 (And.intro ze5 (And.intro Tryd.underlying5 (And.intro ag9 (And.intro sz9 (And.intro by9 (And.intro ze9 (And.intro Tryd.underlying9 (And.intro ag21 (And.intro sz21 (And.intro by21 (And.intro ze21 (And.intro Tryd.underlying21 (And.intro ag97 (And.intro sz97 (And.intro by97 (And.intro se97 (And.intro ze97 (And.intro Tryd.underlying97 (And.intro ag133 (And.intro sz133 (And.intro by133 (And.intro ze133 Tryd.underlying133))))))))))))))))))))))))))))))) := And.intro (fun (K : Heap) (n : Int) => conv_int Tryd.underlying21 Tryd.underlying5 K n) (And.intro ag3 (And.intro sz3 (And.intro by3 (And.intro ze3 (And.intro Tryd.underlying3 (And.intro ag5 (And.intro sz5 (And.intro by5 (And.intro ze5 (And.intro Tryd.underlying5 (And.intro ag9 (And.intro sz9 (And.intro by9 (And.intro ze9 (And.intro Tryd.underlying9 (And.intro ag21 (And.intro sz21 (And.intro by21 (And.intro ze21 (And.intro Tryd.underlying21 (And.intro ag97 (And.intro sz97 (And.intro by97 (And.intro se97 (And.intro ze97 (And.intro Tryd.underlying97 (And.intro ag133 (And.intro sz133 (And.intro by133 (And.intro ze133 Tryd.underlying133))))))))))))))))))))))))))))))
def g76 : Code :=
  .seq (.region 0 #[q 2 (.assign (.const (.bool false))) 4] false) (.seq (.region 1 #[q 3 (.move (.tmp 0)) 21, q 4 (.binOp .geq 21 (.tmp 3) (.const (.int .i32 0)) 21) 4, q 5 (.move (.tmp 4)) 4, qg 6 (.move (.tmp 0)) 21 2 true, qg 7 (.binOp .leq 21 (.tmp 6) (.const (.int .i32 1114111)) 21) 4 2 true, q 8 (.pick (.tmp 5) (.tmp 7) (.const (.bool false))) 4, q 9 (.move (.tmp 8)) 4, qg 10 (.move (.tmp 0)) 21 6 true, qg 11 (.binOp .lss 21 (.tmp 10) (.const (.int .i32 55296)) 21) 4 6 true, qg 12 (.move (.tmp 11)) 4 6 true, qg 13 (.move (.tmp 0)) 21 9 false, qg 14 (.binOp .geq 21 (.tmp 13) (.const (.int .i32 57344)) 21) 4 9 false, qg 15 (.pick (.tmp 12) (.const (.bool true)) (.tmp 14)) 4 6 true, q 16 (.pick (.tmp 9) (.tmp 15) (.const (.bool false))) 4, q 2 (.assign (.tmp 16)) 4] false) .ret)
theorem s76 : Tryd.f76.body.map (slim cfg) = some g76 := by kernel_rfl
def g77 : Code :=
  .seq (.region 0 #[q 2 (.assign (ik 0)) 3] false) (.seq (.region 1 #[q 3 (.assign (ik 1)) 3] false) (.seq (.block 0 (.seq (.block 3 (.seq (.block 2 (.seq (.block 1 (.seq (.seq (.seq (.region 2 #[q 5 (.move (.tmp 0)) 21, q 6 (.binOp .geq 21 (.tmp 5) (.const (.int .i32 65536)) 21) 4, q 4 (.assign (.tmp 6)) 4] false) (.cond (.tmp 4) (.exit 1) .skip)) (.seq (.seq (.region 3 #[q 8 (.move (.tmp 0)) 21, q 9 (.binOp .geq 21 (.tmp 8) (.const (.int .i32 2048)) 21) 4, q 7 (.assign (.tmp 9)) 4] false) (.cond (.tmp 7) (.exit 2) .skip)) (.seq (.region 4 #[q 11 (.move (.tmp 0)) 21, q 12 (.binOp .geq 21 (.tmp 11) (.const (.int .i32 128)) 21) 4, q 10 (.assign (.tmp 12)) 4] false) (.cond (.tmp 10) (.exit 3) .skip)))) (.exit 0))) (.region 5 #[q 13 (.move (.tmp 3)) 3, q 14 (.binOp .add 3 (.tmp 13) (ik 1) 3) 3, q 3 (.assign (.tmp 14)) 3] false))) (.region 6 #[q 15 (.move (.tmp 3)) 3, q 16 (.binOp .add 3 (.tmp 15) (ik 1) 3) 3, q 3 (.assign (.tmp 16)) 3] false))) (.seq (.region 7 #[q 17 (.move (.tmp 3)) 3, q 18 (.binOp .add 3 (.tmp 17) (ik 1) 3) 3, q 3 (.assign (.tmp 18)) 3] false) (.exit 0)))) (.seq (.region 8 #[q 19 (.move (.tmp 3)) 3, q 2 (.assign (.tmp 19)) 3] false) .ret)))
theorem s77 : Tryd.f77.body.map (slim cfg) = some g77 := by kernel_rfl
def g73 : Code :=
  .seq (.region 0 #[q 2 (.assign (.const (.slice none 0 0))) 97, q 3 (.assign (ik 0)) 33] false) (.seq (.seq (.region 1 #[q 7 (.move (.tmp 0)) 21, q 8 (cl 76 #[.tmp 7] #[21]) 4, q 9 (.unOp .not 4 (.tmp 8)) 4] false) (.cond (.tmp 9) (.seq (.region 2 #[q 2 (.assign (.const (.slice none 0 0))) 97, q 3 (.assign (ik 1)) 33] false) .ret) .skip)) (.seq (.region 3 #[q 10 (.move (.tmp 0)) 21, q 11 (cl 77 #[.tmp 10] #[21]) 3, q 4 (.assign (.tmp 11)) 3] false) (.seq (.region 4 #[q 12 (.move (.tmp 4)) 3, q 13 (.makeSlice 97 (.tmp 12) (.tmp 12)) 97, q 5 (.assign (.tmp 13)) 97] false) (.seq (.seq (.region 5 #[q 14 (.move (.tmp 4)) 3, q 15 (.binOp .sub 3 (.tmp 14) (ik 1) 3) 3, q 6 (.assign (.tmp 15)) 3] false) (.block 0 (.loop (.seq (.seq (.region 6 #[q 16 (.move (.tmp 6)) 3, q 17 (.binOp .gtr 3 (.tmp 16) (ik 0) 3) 4] false) (.cond (.tmp 17) .skip (.exit 0))) (.seq (.block 1 (.seq (.region 8 #[q 20 (.move (.tmp 5)) 97, q 21 (.move (.tmp 6)) 3, q 22 (.move (.tmp 0)) 21, q 23 (.binOp .and 21 (.tmp 22) (.const (.int .i32 63)) 21) 21, q 24 (.binOp .or 21 (.const (.int .i32 128)) (.tmp 23) 21) 21, q 25 (.convert 21 5 (.tmp 24)) 5, q 26 (.indexAddr 97 (.tmp 20) (.tmp 21)) 0, qn (.store 5 (.tmp 26) (.tmp 25)) 0] false) (.region 9 #[q 27 (.move (.tmp 0)) 21, q 28 (.binOp .shr 21 (.tmp 27) (.const (.int .u64 6)) 133) 21, q 0 (.assign (.tmp 28)) 21] false))) (.region 7 #[q 18 (.move (.tmp 6)) 3, q 19 (.binOp .sub 3 (.tmp 18) (ik 1) 3) 3, q 6 (.assign (.tmp 19)) 3] false)))))) (.seq (.region 10 #[q 29 (.move (.tmp 5)) 97, q 30 (.move (.tmp 4)) 3, q 31 (cl 66 #[.tmp 30] #[3]) 21, q 32 (.move (.tmp 0)) 21, q 33 (.binOp .or 21 (.tmp 31) (.tmp 32) 21) 21, q 34 (.convert 21 5 (.tmp 33)) 5, q 35 (.indexAddr 97 (.tmp 29) (ik 0)) 0, qn (.store 5 (.tmp 35) (.tmp 34)) 0] false) (.seq (.region 11 #[q 36 (.move (.tmp 5)) 97, q 2 (.assign (.tmp 36)) 97, q 3 (.assign (ik 0)) 33] false) .ret))))))
theorem s73 : Tryd.f73.body.map (slim cfg) = some g73 := by kernel_rfl
def g72 : Code :=
  .seq (.region 0 #[q 4 (.assign (.const (.int .i32 0))) 21, q 5 (.assign (.const (.bool false))) 4] false) (.seq (.seq (.region 1 #[q 6 (.move (.tmp 0)) 21, q 7 (.binOp .lss 21 (.tmp 6) (.const (.int .i32 55296)) 21) 4, q 8 (.move (.tmp 7)) 4, qg 9 (.move (.tmp 0)) 21 2 false, qg 10 (.binOp .geq 21 (.tmp 9) (.const (.int .i32 56320)) 21) 4 2 false, q 11 (.pick (.tmp 8) (.const (.bool true)) (.tmp 10)) 4, q 12 (.move (.tmp 11)) 4, qg 13 (.move (.tmp 1)) 21 6 false, qg 14 (.binOp .lss 21 (.tmp 13) (.const (.int .i32 56320)) 21) 4 6 false, q 15 (.pick (.tmp 12) (.const (.bool true)) (.tmp 14)) 4, q 16 (.move (.tmp 15)) 4, qg 17 (.move (.tmp 1)) 21 10 false, qg 18 (.binOp .geq 21 (.tmp 17) (.const (.int .i32 57344)) 21) 4 10 false, q 19 (.pick (.tmp 16) (.const (.bool true)) (.tmp 18)) 4] false) (.cond (.tmp 19) (.seq (.region 2 #[q 4 (.assign (.const (.int .i32 0))) 21, q 5 (.assign (.const (.bool false))) 4] false) .ret) .skip)) (.seq (.region 3 #[q 20 (.move (.tmp 0)) 21, q 21 (.binOp .sub 21 (.tmp 20) (.const (.int .i32 55296)) 21) 21, q 22 (.binOp .shl 21 (.tmp 21) (.const (.int .u64 10)) 133) 21, q 23 (.binOp .add 21 (.const (.int .i32 65536)) (.tmp 22) 21) 21, q 24 (.move (.tmp 1)) 21, q 25 (.binOp .sub 21 (.tmp 24) (.const (.int .i32 56320)) 21) 21, q 26 (.binOp .add 21 (.tmp 23) (.tmp 25) 21) 21, q 4 (.assign (.tmp 26)) 21, q 5 (.assign (.const (.bool true))) 4] false) .ret))
theorem s72 : Tryd.f72.body.map (slim cfg) = some g72 := by kernel_rfl
def g71 : Code :=
  .seq (.region 0 #[q 4 (.assign (.const (.bool false))) 4] false) (.seq (.region 1 #[q 5 (.move (.tmp 0)) 9, q 6 (.move (.tmp 1)) 9, q 7 (cl 75 #[.tmp 5, .tmp 6] #[9, 9]) 4, q 4 (.assign (.tmp 7)) 4] false) .ret)
theorem s71 : Tryd.f71.body.map (slim cfg) = some g71 := by kernel_rfl
def g75 : Code :=
  .seq (.region 0 #[q 4 (.assign (.const (.bool false))) 4] false) (.seq (.region 1 #[q 5 (.move (.tmp 0)) 9, q 6 (bi .len #[.tmp 5] #[9]) 3, q 7 (.move (.tmp 1)) 9, q 8 (bi .len #[.tmp 7] #[9]) 3, q 9 (.binOp .geq 3 (.tmp 6) (.tmp 8) 3) 4, q 10 (.move (.tmp 9)) 4, qg 11 (.move (.tmp 0)) 9 5 true, qg 12 (.move (.tmp 1)) 9 5 true, qg 13 (bi .len #[.tmp 12] #[9]) 3 5 true, qg 14 (.slice 9 (.tmp 11) none (some (.tmp 13)) none) 9 5 true, qg 15 (.move (.tmp 1)) 9 5 true, qg 16 (.binOp .eql 9 (.tmp 14) (.tmp 15) 9) 4 5 true, q 17 (.pick (.tmp 10) (.tmp 16) (.const (.bool false))) 4, q 4 (.assign (.tmp 17)) 4] false) .ret)
theorem s75 : Tryd.f75.body.map (slim cfg) = some g75 := by kernel_rfl
def isU (r : Int) : Bool := decide (0 ≤ r) && decide (r ≤ 1114111) && (decide (r < 55296) || decide (57344 ≤ r))

theorem isU_ok (r : Int) (prot : Nat) (H : Heap) (hp : prot ≤ H.length) : aLim cfg prot 76 [.int .i32 r] H = some (.bool (isU r), none) := by
  have hsnap : snap H [.int .i32 r] = some ([.int .i32 r], false) := rfl
  have hv : isU r = (decide (0 ≤ r) && decide (r ≤ 1114111) && (decide (r < 55296) || decide (57344 ≤ r))) := rfl
  refine pure_slim rfl (by kernel_rfl) Tryd.func76 s76 hp hsnap (by simp [Tryd.f76]) fun fr hlen h => ?_
  simp only [Has, Nat.zero_add] at h
  obtain ⟨a0, -⟩ := h
  simp only [Tryd.f76] at hlen ⊢
  unfold g76
  cases h1 : decide (0 ≤ r) with
  | false =>
    rw [show isU r = false by rw [hv, h1]; rfl]
    simp only [wk, aBuiltin, AV.cells, AV.leaf, Nat.reduceEqDiff, Nat.reduceLT, Nat.reduceAdd, Nat.reduceLeDiff, reduceCtorEq, Nat.reduceMul, Nat.reduceMod, cfgP, u76, hlen, a0, h1, none_beq]
    exact Fin_pure (l := [.bool false]) (by simp [wk, aBuiltin, AV.cells, AV.leaf, Nat.reduceEqDiff, Nat.reduceLT, Nat.reduceAdd, Nat.reduceLeDiff, reduceCtorEq, Nat.reduceMul, Nat.reduceMod, cfgP, u76, aResults, aResult, hlen]) (.still rfl) (by simp)
  | true =>
    cases h2 : decide (r ≤ 1114111) with
    | false =>
      rw [show isU r = false by rw [hv, h1, h2]; rfl]
      simp only [wk, aBuiltin, AV.cells, AV.leaf, Nat.reduceEqDiff, Nat.reduceLT, Nat.reduceAdd, Nat.reduceLeDiff, reduceCtorEq, Nat.reduceMul, Nat.reduceMod, cfgP, u76, hlen, a0, h1, h2, none_beq]
      exact Fin_pure (l := [.bool false]) (by simp [wk, aBuiltin, AV.cells, AV.leaf, Nat.reduceEqDiff, Nat.reduceLT, Nat.reduceAdd, Nat.reduceLeDiff, reduceCtorEq, Nat.reduceMul, Nat.reduceMod, cfgP, u76, aResults, aResult, hlen]) (.still rfl) (by simp)
    | true =>
      cases h3 : decide (r < 55296) with
      | true =>
        rw [show isU r = true by rw [hv, h1, h2, h3]; rfl]
        simp only [wk, aBuiltin, AV.cells, AV.leaf, Nat.reduceEqDiff, Nat.reduceLT, Nat.reduceAdd, Nat.reduceLeDiff, reduceCtorEq, Nat.reduceMul, Nat.reduceMod, cfgP, u76, hlen, a0, h1, h2, h3, none_beq]
        exact Fin_pure (l := [.bool true]) (by simp [wk, aBuiltin, AV.cells, AV.leaf, Nat.reduceEqDiff, Nat.reduceLT, Nat.reduceAdd, Nat.reduceLeDiff, reduceCtorEq, Nat.reduceMul, Nat.reduceMod, cfgP, u76, aResults, aResult, hlen]) (.still rfl) (by simp)
      | false =>
        rw [show isU r = decide (57344 ≤ r) by rw [hv, h1, h2, h3]; simp]
        simp only [wk, aBuiltin, AV.cells, AV.leaf, Nat.reduceEqDiff, Nat.reduceLT, Nat.reduceAdd, Nat.reduceLeDiff, reduceCtorEq, Nat.reduceMul, Nat.reduceMod, cfgP, u76, hlen, a0, h1, h2, h3, none_beq]
        exact Fin_pure (l := [.bool (decide (57344 ≤ r))]) (by simp [wk, aBuiltin, AV.cells, AV.leaf, Nat.reduceEqDiff, Nat.reduceLT, Nat.reduceAdd, Nat.reduceLeDiff, reduceCtorEq, Nat.reduceMul, Nat.reduceMod, cfgP, u76, aResults, aResult, hlen]) (.still rfl) (by simp)
def widthU (r : Int) : Nat := if 65536 ≤ r then 4 else if 2048 ≤ r then 3 else if 128 ≤ r then 2 else 1
theorem wr2 : IntKind.i64.wrap (1 + 1) = 2 := by rfl
theorem wr3 : IntKind.i64.wrap (2 + 1) = 3 := by rfl
theorem wr4 : IntKind.i64.wrap (3 + 1) = 4 := by rfl

theorem width_ok (r : Int) (prot : Nat) (H : Heap) (hp : prot ≤ H.length) : aLim cfg prot 77 [.int .i32 r] H = some (.int .i64 (widthU r), none) := by
  have hsnap : snap H [.int .i32 r] = some ([.int .i32 r], false) := rfl
  unfold widthU
  refine pure_slim rfl (by kernel_rfl) Tryd.func77 s77 hp hsnap (by simp [Tryd.f77]) fun fr hlen h => ?_
  simp only [Has, Nat.zero_add] at h
  obtain ⟨a0, -⟩ := h
  simp only [Tryd.f77] at hlen ⊢
  unfold g77
  by_cases h1 : 65536 ≤ r
  · rw [if_pos h1]
    simp only [wk, aBuiltin, AV.cells, AV.leaf, Nat.reduceEqDiff, Nat.reduceLT, Nat.reduceAdd, Nat.reduceLeDiff, reduceCtorEq, Nat.reduceMul, Nat.reduceMod, cfgP, u76, hlen, a0, h1, wr2, wr3, wr4]
    exact Fin_pure (l := [.int .i64 4]) (by simp [wk, aBuiltin, AV.cells, AV.leaf, Nat.reduceEqDiff, Nat.reduceLT, Nat.reduceAdd, Nat.reduceLeDiff, reduceCtorEq, Nat.reduceMul, Nat.reduceMod, cfgP, u76, aResults, aResult, hlen]) (.still rfl) (by simp)
  · by_cases h2 : 2048 ≤ r
    · rw [if_neg h1, if_pos h2]
      simp only [wk, aBuiltin, AV.cells, AV.leaf, Nat.reduceEqDiff, Nat.reduceLT, Nat.reduceAdd, Nat.reduceLeDiff, reduceCtorEq, Nat.reduceMul, Nat.reduceMod, cfgP, u76, hlen, a0, h1, h2, wr2, wr3, wr4]
      exact Fin_pure (l := [.int .i64 3]) (by simp [wk, aBuiltin, AV.cells, AV.leaf, Nat.reduceEqDiff, Nat.reduceLT, Nat.reduceAdd, Nat.reduceLeDiff, reduceCtorEq, Nat.reduceMul, Nat.reduceMod, cfgP, u76, aResults, aResult, hlen]) (.still rfl) (by simp)
    · by_cases h3 : 128 ≤ r
      · rw [if_neg h1, if_neg h2, if_pos h3]
        simp only [wk, aBuiltin, AV.cells, AV.leaf, Nat.reduceEqDiff, Nat.reduceLT, Nat.reduceAdd, Nat.reduceLeDiff, reduceCtorEq, Nat.reduceMul, Nat.reduceMod, cfgP, u76, hlen, a0, h1, h2, h3, wr2, wr3, wr4]
        exact Fin_pure (l := [.int .i64 2]) (by simp [wk, aBuiltin, AV.cells, AV.leaf, Nat.reduceEqDiff, Nat.reduceLT, Nat.reduceAdd, Nat.reduceLeDiff, reduceCtorEq, Nat.reduceMul, Nat.reduceMod, cfgP, u76, aResults, aResult, hlen]) (.still rfl) (by simp)
      · rw [if_neg h1, if_neg h2, if_neg h3]
        simp only [wk, aBuiltin, AV.cells, AV.leaf, Nat.reduceEqDiff, Nat.reduceLT, Nat.reduceAdd, Nat.reduceLeDiff, reduceCtorEq, Nat.reduceMul, Nat.reduceMod, cfgP, u76, hlen, a0, h1, h2, h3, wr2, wr3, wr4]
        exact Fin_pure (l := [.int .i64 1]) (by simp [wk, aBuiltin, AV.cells, AV.leaf, Nat.reduceEqDiff, Nat.reduceLT, Nat.reduceAdd, Nat.reduceLeDiff, reduceCtorEq, Nat.reduceMul, Nat.reduceMod, cfgP, u76, aResults, aResult, hlen]) (.still rfl) (by simp)
theorem widthU_b (r : Int) : 1 ≤ widthU r ∧ widthU r ≤ 4 := by unfold widthU; split <;> (try split) <;> (try split) <;> omega
def lowI (r : Int) : Int := IntKind.u8.wrap (IntKind.i32.wrap (BitVec.ofInt IntKind.i32.bits 128 ||| BitVec.ofInt IntKind.i32.bits (IntKind.i32.wrap (BitVec.ofInt IntKind.i32.bits r &&& BitVec.ofInt IntKind.i32.bits 63).toNat)).toNat)
def firstI (n : Nat) (r : Int) : Int := IntKind.u8.wrap (IntKind.i32.wrap (BitVec.ofInt IntKind.i32.bits (leadU n) ||| BitVec.ofInt IntKind.i32.bits r).toNat)
def putT : Nat → Int → List UInt8 → Int × List UInt8
  | 0, r, t => (r, t)
  | k + 1, r, t => putT k (r.fdiv 64) ((lowI r).toNat.toUInt8 :: t)
def putU (r : Int) : List UInt8 := (firstI (widthU r) (putT (widthU r - 1) r []).1).toNat.toUInt8 :: (putT (widthU r - 1) r []).2
theorem u8_wrap_b (x : Int) : 0 ≤ IntKind.u8.wrap x ∧ IntKind.u8.wrap x < 256 := by
  simp only [IntKind.wrap, IntKind.signed, IntKind.bits]; simp; omega
theorem u8_back (x : Int) : (((IntKind.u8.wrap x).toNat.toUInt8.toNat : Nat) : Int) = IntKind.u8.wrap x := by
  have := u8_wrap_b x
  rw [show (IntKind.u8.wrap x).toNat.toUInt8.toNat = (IntKind.u8.wrap x).toNat % 256 from by simp]
  omega
theorem makeU (n : Nat) (h1 : 1 ≤ n) (hn : n ≤ 4) (H : Heap) : aMakeSlice Tryd.prog H 97 (.int .i64 (n : Nat)) (.int .i64 (n : Nat)) = some (.bs ⟨H.length, 0, 0, n, n, 1, false, true⟩, some (H ++ [Blk.cells 0 (List.replicate n (.int .u8 0))])) := by
  have hz : zrep n [AV.int .u8 0] = List.replicate n (.int .u8 0) := by
    have : n = 1 ∨ n = 2 ∨ n = 3 ∨ n = 4 := by omega
    rcases this with rfl | rfl | rfl | rfl <;> rfl
  have h2 : roomy n 1 = true := by simp [roomy]; omega
  simp [aMakeSlice, se97, sz5, by5, ag5, ze5, AV.cells, hz, h2, AV.leaf]
  omega
theorem leafB (m : Nat) (t : List UInt8) : (List.replicate m (AV.int .u8 0) ++ t.map encB).all AV.leaf = true := by
  rw [List.all_eq_true]; intro y hy
  rcases List.mem_append.1 hy with h | h
  · rw [(List.mem_replicate.1 h).2]; rfl
  · obtain ⟨c, _, rfl⟩ := List.mem_map.1 h; rfl
theorem spliceB (m : Nat) (t : List UInt8) (c : UInt8) : splice (List.replicate (m + 1) (AV.int .u8 0) ++ t.map encB) m [encB c] = List.replicate m (AV.int .u8 0) ++ (c :: t).map encB := by
  have h : List.replicate (m + 1) (AV.int .u8 0) ++ t.map encB = List.replicate m (AV.int .u8 0) ++ (AV.int .u8 0 :: t.map encB) := by rw [List.replicate_succ']; simp
  have h2 : List.drop (m + 1) (List.replicate (m + 1) (AV.int .u8 0) ++ t.map encB) = t.map encB := List.drop_left' (by simp)
  have h3 : List.take m (List.replicate (m + 1) (AV.int .u8 0) ++ t.map encB) = List.replicate m (AV.int .u8 0) := by rw [h]; exact List.take_left' (by simp)
  simp [splice, h2, h3]

theorem put_ok (r : Int) (prot : Nat) (H : Heap) (hp : prot ≤ H.length) : aLim cfg prot 73 [.int .i32 r] H = some (if isU r then .tup [.vs ((putU r).map encB) true, .int .i64 0] else .tup [.nilS, .int .i64 1], none) := by
  have hsnap : snap H [.int .i32 r] = some ([.int .i32 r], false) := rfl
  have n1 := isU_ok r H.length H (Nat.le_refl _)
  have n2 := width_ok r H.length H (Nat.le_refl _)
  have hfz : ∀ (K : Heap) (x y : AV), still x = true → still y = true → Frz K H.length (packR [x, y]) (.tup [x, y]) := fun K x y h1 h2 => .tup (.cons (.still h1) (.cons (.still h2) .nil))
  obtain ⟨hw1, hw4⟩ := widthU_b r
  have hpu : putU r = (firstI (widthU r) (putT (widthU r - 1) r []).1).toNat.toUInt8 :: (putT (widthU r - 1) r []).2 := rfl
  refine pure_slim rfl (by kernel_rfl) Tryd.func73 s73 hp hsnap (by simp [Tryd.f73]) fun fr hlen h => ?_
  simp only [Has, Nat.zero_add] at h
  obtain ⟨a0, -⟩ := h
  simp only [Tryd.f73] at hlen ⊢
  unfold g73
  generalize widthU r = n at *
  generalize isU r = g at *
  generalize putU r = pu at *
  cases g with
  | false =>
    simp only [wk, aBuiltin, AV.cells, AV.leaf, Nat.reduceEqDiff, Nat.reduceLT, Nat.reduceAdd, Nat.reduceLeDiff, reduceCtorEq, Nat.reduceMul, Nat.reduceMod, cfgP, u76, hlen, a0, n1]
    exact Fin_pure (l := [.nilS, .int .i64 1]) (by simp [wk, aBuiltin, AV.cells, AV.leaf, Nat.reduceEqDiff, Nat.reduceLT, Nat.reduceAdd, Nat.reduceLeDiff, reduceCtorEq, Nat.reduceMul, Nat.reduceMod, cfgP, u76, hlen, aResults, aResult]) (hfz _ _ _ rfl rfl) (by simp)
  | true =>
    have mk := makeU n hw1 hw4
    have w1 : IntKind.i64.wrap ((n : Int) - 1) = ((n - 1 : Nat) : Int) := by rw [wrap64 (by omega) (by omega)]; omega
    simp only [wk, aBuiltin, AV.cells, AV.leaf, Nat.reduceEqDiff, Nat.reduceLT, Nat.reduceAdd, Nat.reduceLeDiff, reduceCtorEq, Nat.reduceMul, Nat.reduceMod, cfgP, u76, hlen, a0, n1, n2, mk, w1]
    refine loop_rule (fun m fr K => ∃ (x : Int) (t : List UInt8), m + t.length + 1 = n ∧ fr.length = 37 ∧ fget fr 0 = .int .i32 x ∧ fget fr 4 = .int .i64 n ∧ fget fr 5 = .bs ⟨H.length, 0, 0, n, n, 1, false, true⟩ ∧ fget fr 6 = .int .i64 m ∧
      K = H ++ [Blk.cells 0 (List.replicate (m + 1) (.int .u8 0) ++ t.map encB)] ∧ pu = (firstI n (putT m x t).1).toNat.toUInt8 :: (putT m x t).2) ?_ (n - 1) _ _ ⟨r, [], by simp [wk, aBuiltin, AV.cells, AV.leaf, Nat.reduceEqDiff, Nat.reduceLT, Nat.reduceAdd, Nat.reduceLeDiff, reduceCtorEq, Nat.reduceMul, Nat.reduceMod, cfgP, u76, hlen, a0]; rw [show n - 1 + 1 = n by omega]; exact ⟨rfl, rfl, hpu⟩⟩
    rintro m fr K ⟨x, t, hk, hlen, a0, a4, a5, a6, rfl, hc⟩ ih
    have hix : ∀ i : Nat, i < n → aIndexAddr Tryd.prog 97 (.bs ⟨H.length, 0, 0, n, n, 1, false, true⟩) (.int .i64 i) = some (.ptr H.length 0 i) := fun i hi => by simp [aIndexAddr, Tryd.underlying97, asNat, hi, sz5]
    simp only [wk, aBuiltin, AV.cells, AV.leaf, Nat.reduceEqDiff, Nat.reduceLT, Nat.reduceAdd, Nat.reduceLeDiff, reduceCtorEq, Nat.reduceMul, Nat.reduceMod, cfgP, u76, hlen, a0, a4, a5, a6]
    refine RC_split (fun h => ?_) (fun h => ?_)
    · have hk0 : 0 < m := by simpa using h
      have hi1 := hix m (by omega)
      have hlo : (IntKind.u8.wrap (IntKind.i32.wrap (BitVec.ofInt IntKind.i32.bits 128 ||| BitVec.ofInt IntKind.i32.bits (IntKind.i32.wrap (BitVec.ofInt IntKind.i32.bits x &&& BitVec.ofInt IntKind.i32.bits 63).toNat)).toNat)) = lowI x := rfl
      have hpt : hput H.length (H ++ [Blk.cells 0 (List.replicate (m + 1) (.int .u8 0) ++ t.map encB)]) H.length 0 m [.int .u8 (lowI x)] = some (H ++ [Blk.cells 0 (List.replicate m (.int .u8 0) ++ ((lowI x).toNat.toUInt8 :: t).map encB)]) := by
        rw [hput_new rfl (Nat.le_refl _) (by simp) rfl]
        have := spliceB m t (lowI x).toNat.toUInt8
        rw [encB, show (((lowI x).toNat.toUInt8.toNat : Nat) : Int) = lowI x from u8_back _] at this
        rw [this]
      have w2 : IntKind.i64.wrap ((m : Int) - 1) = ((m - 1 : Nat) : Int) := by rw [wrap64 (by omega) (by omega)]; omega
      have sh := fun (t : TypeId) (xo yo : Operand) => bin_shr (P := Tryd.prog) (t := t) (xo := xo) (yo := yo) (k := .i32) (k' := .u64) x 6 (by decide)
      simp only [wk, aBuiltin, AV.cells, AV.leaf, Nat.reduceEqDiff, Nat.reduceLT, Nat.reduceAdd, Nat.reduceLeDiff, reduceCtorEq, Nat.reduceMul, Nat.reduceMod, cfgP, u76, hlen, a0, a4, a5, a6, hi1, hlo, hpt, w2, sh]
      obtain ⟨k, rfl⟩ : ∃ k, m = k + 1 := ⟨m - 1, by omega⟩
      rw [putT] at hc
      refine ih _ _ k (by omega) ⟨x.fdiv 64, (lowI x).toNat.toUInt8 :: t, ?_⟩
      simp [wk, aBuiltin, AV.cells, AV.leaf, Nat.reduceEqDiff, Nat.reduceLT, Nat.reduceAdd, Nat.reduceLeDiff, reduceCtorEq, Nat.reduceMul, Nat.reduceMod, cfgP, u76, hlen, a4, a5]
      refine ⟨by omega, ?_, hc⟩
      rfl
    · have hm0 : m = 0 := by simpa using h
      subst hm0
      have hlt : t.length + 1 = n := by omega
      have hi0 : aIndexAddr Tryd.prog 97 (.bs ⟨H.length, 0, 0, n, n, 1, false, true⟩) (.int .i64 0) = some (.ptr H.length 0 0) := hix 0 (by omega)
      have n3 := lead_ok n hw4 H.length (H ++ [Blk.cells 0 (List.replicate (0 + 1) (.int .u8 0) ++ t.map encB)]) (by simp)
      have hlo : IntKind.u8.wrap (IntKind.i32.wrap (BitVec.ofInt IntKind.i32.bits (leadU n) ||| BitVec.ofInt IntKind.i32.bits x).toNat) = firstI n x := rfl
      have hpt : hput H.length (H ++ [Blk.cells 0 (List.replicate (0 + 1) (.int .u8 0) ++ t.map encB)]) H.length 0 0 [.int .u8 (firstI n x)] = some (H ++ [Blk.cells 0 (((firstI n x).toNat.toUInt8 :: t).map encB)]) := by
        rw [hput_new rfl (Nat.le_refl _) (by simp) rfl]
        have := spliceB 0 t (firstI n x).toNat.toUInt8
        rw [encB, show (((firstI n x).toNat.toUInt8.toNat : Nat) : Int) = firstI n x from u8_back _] at this
        rw [this]
        rfl
      rw [putT] at hc
      simp only [wk, aBuiltin, AV.cells, AV.leaf, Nat.reduceEqDiff, Nat.reduceLT, Nat.reduceAdd, Nat.reduceLeDiff, reduceCtorEq, Nat.reduceMul, Nat.reduceMod, cfgP, u76, hlen, a0, a4, a5, a6, n3, hlo, hi0, hpt]
      rw [← hc]
      have hpl : pu.length = n := by rw [hc]; simp [hlt]
      have hfr : Frz (H ++ [Blk.cells 0 (pu.map encB)]) H.length (.bs ⟨H.length, 0, 0, n, n, 1, false, true⟩) (.vs (pu.map encB) true) := by
        have hw : win (cellsOf encB pu) 0 (n * 1) = some (cellsOf encB pu) := by
          have := cellsOf_drop encB_T pu 0 (by simp)
          rw [← hpl]
          simpa using this
        have hst : FrzL (H ++ [Blk.cells 0 (pu.map encB)]) H.length (cellsOf encB pu) (cellsOf encB pu) := .still fun c hc => by
          obtain ⟨x, _, hx⟩ := List.mem_flatMap.1 hc
          exact encB_T.still x c hx
        have hg : hget (H ++ [Blk.cells 0 (pu.map encB)]) H.length 0 = some (cellsOf encB pu) := by rw [hget_new rfl, if_pos rfl]; exact congrArg some (cellsB pu)
        have := Frz.bs (H := H ++ [Blk.cells 0 (pu.map encB)]) (base := H.length) (s := ⟨H.length, 0, 0, n, n, 1, false, true⟩) (Nat.le_refl _) (Nat.one_pos) rfl hg hw hst
        rw [show (⟨H.length, 0, 0, n, n, 1, false, true⟩ : BS).len = pu.length from hpl.symm, chunk_cellsOf encB_T (by decide)] at this
        simpa [hpl] using this
      exact Fin_pure (l := [.bs ⟨H.length, 0, 0, n, n, 1, false, true⟩, .int .i64 0]) (by simp [wk, aBuiltin, AV.cells, AV.leaf, Nat.reduceEqDiff, Nat.reduceLT, Nat.reduceAdd, Nat.reduceLeDiff, reduceCtorEq, Nat.reduceMul, Nat.reduceMod, cfgP, u76, hlen, aResults, aResult]) (.tup (.cons hfr (.cons (.still rfl) .nil))) (by simp)
def pairU (a b : Int) : Option Int := if a < 55296 ∨ 56320 ≤ a ∨ b < 56320 ∨ 57344 ≤ b then none else some (65536 + (a - 55296) * 1024 + (b - 56320))
def pairR : Option Int → AV
  | none => .tup [.int .i32 0, .bool false]
  | some v => .tup [.int .i32 v, .bool true]

theorem pair_ok (a b : Int) (prot : Nat) (H : Heap) (hp : prot ≤ H.length) : aLim cfg prot 72 [.int .i32 a, .int .i32 b] H = some (pairR (pairU a b), none) := by
  have hsnap : snap H [.int .i32 a, .int .i32 b] = some ([.int .i32 a, .int .i32 b], false) := rfl
  have hfz : ∀ (K : Heap) (x y : AV), still x = true → still y = true → Frz K H.length (packR [x, y]) (.tup [x, y]) := fun K x y h1 h2 => .tup (.cons (.still h1) (.cons (.still h2) .nil))
  refine pure_slim rfl (by kernel_rfl) Tryd.func72 s72 hp hsnap (by simp [Tryd.f72]) fun fr hlen h => ?_
  simp only [Has, Nat.zero_add] at h
  obtain ⟨a0, a1, -⟩ := h
  simp only [Tryd.f72] at hlen ⊢
  unfold g72
  by_cases h1 : a < 55296
  · rw [show pairU a b = none by unfold pairU; rw [if_pos (.inl h1)], pairR]
    simp only [wk, aBuiltin, AV.cells, AV.leaf, Nat.reduceEqDiff, Nat.reduceLT, Nat.reduceAdd, Nat.reduceLeDiff, reduceCtorEq, Nat.reduceMul, Nat.reduceMod, cfgP, u76, hlen, a0, a1, h1, none_beq]
    exact Fin_pure (l := [.int .i32 0, .bool false]) (by simp [wk, aBuiltin, AV.cells, AV.leaf, Nat.reduceEqDiff, Nat.reduceLT, Nat.reduceAdd, Nat.reduceLeDiff, reduceCtorEq, Nat.reduceMul, Nat.reduceMod, cfgP, u76, hlen, aResults, aResult]) (hfz _ _ _ rfl rfl) (by simp)
  · by_cases h2 : 56320 ≤ a
    · rw [show pairU a b = none by unfold pairU; rw [if_pos (.inr (.inl h2))], pairR]
      simp only [wk, aBuiltin, AV.cells, AV.leaf, Nat.reduceEqDiff, Nat.reduceLT, Nat.reduceAdd, Nat.reduceLeDiff, reduceCtorEq, Nat.reduceMul, Nat.reduceMod, cfgP, u76, hlen, a0, a1, h1, h2, none_beq]
      exact Fin_pure (l := [.int .i32 0, .bool false]) (by simp [wk, aBuiltin, AV.cells, AV.leaf, Nat.reduceEqDiff, Nat.reduceLT, Nat.reduceAdd, Nat.reduceLeDiff, reduceCtorEq, Nat.reduceMul, Nat.reduceMod, cfgP, u76, hlen, aResults, aResult]) (hfz _ _ _ rfl rfl) (by simp)
    · by_cases h3 : b < 56320
      · rw [show pairU a b = none by unfold pairU; rw [if_pos (.inr (.inr (.inl h3)))], pairR]
        simp only [wk, aBuiltin, AV.cells, AV.leaf, Nat.reduceEqDiff, Nat.reduceLT, Nat.reduceAdd, Nat.reduceLeDiff, reduceCtorEq, Nat.reduceMul, Nat.reduceMod, cfgP, u76, hlen, a0, a1, h1, h2, h3, none_beq]
        exact Fin_pure (l := [.int .i32 0, .bool false]) (by simp [wk, aBuiltin, AV.cells, AV.leaf, Nat.reduceEqDiff, Nat.reduceLT, Nat.reduceAdd, Nat.reduceLeDiff, reduceCtorEq, Nat.reduceMul, Nat.reduceMod, cfgP, u76, hlen, aResults, aResult]) (hfz _ _ _ rfl rfl) (by simp)
      · by_cases h4 : 57344 ≤ b
        · rw [show pairU a b = none by unfold pairU; rw [if_pos (.inr (.inr (.inr h4)))], pairR]
          simp only [wk, aBuiltin, AV.cells, AV.leaf, Nat.reduceEqDiff, Nat.reduceLT, Nat.reduceAdd, Nat.reduceLeDiff, reduceCtorEq, Nat.reduceMul, Nat.reduceMod, cfgP, u76, hlen, a0, a1, h1, h2, h3, h4, none_beq]
          exact Fin_pure (l := [.int .i32 0, .bool false]) (by simp [wk, aBuiltin, AV.cells, AV.leaf, Nat.reduceEqDiff, Nat.reduceLT, Nat.reduceAdd, Nat.reduceLeDiff, reduceCtorEq, Nat.reduceMul, Nat.reduceMod, cfgP, u76, hlen, aResults, aResult]) (hfz _ _ _ rfl rfl) (by simp)
        · rw [show pairU a b = some (65536 + (a - 55296) * 1024 + (b - 56320)) by unfold pairU; rw [if_neg (by omega)], pairR]
          have w1 : IntKind.i32.wrap (a - 55296) = a - 55296 := wrap32 (by omega) (by omega)
          have w2 : IntKind.i32.wrap ((a - 55296) * 2 ^ min (10 : Int).toNat IntKind.i32.bits) = (a - 55296) * 1024 := wrap32 (n := (a - 55296) * 1024) (by omega) (by omega)
          have w3 : IntKind.i32.wrap (65536 + (a - 55296) * 1024) = 65536 + (a - 55296) * 1024 := wrap32 (by omega) (by omega)
          have w4 : IntKind.i32.wrap (b - 56320) = b - 56320 := wrap32 (by omega) (by omega)
          have w5 : IntKind.i32.wrap (65536 + (a - 55296) * 1024 + (b - 56320)) = 65536 + (a - 55296) * 1024 + (b - 56320) := wrap32 (by omega) (by omega)
          have sh := fun (t : TypeId) (xo yo : Operand) => bin_shl (P := Tryd.prog) (t := t) (xo := xo) (yo := yo) (k := .i32) (k' := .u64) (a := a - 55296) (b := 10) (by decide)
          simp only [wk, aBuiltin, AV.cells, AV.leaf, Nat.reduceEqDiff, Nat.reduceLT, Nat.reduceAdd, Nat.reduceLeDiff, reduceCtorEq, Nat.reduceMul, Nat.reduceMod, cfgP, u76, hlen, a0, a1, h1, h2, h3, h4, none_beq, w1, sh, w2, w3, w4, w5]
          exact Fin_pure (l := [.int .i32 (65536 + (a - 55296) * 1024 + (b - 56320)), .bool true]) (by simp [wk, aBuiltin, AV.cells, AV.leaf, Nat.reduceEqDiff, Nat.reduceLT, Nat.reduceAdd, Nat.reduceLeDiff, reduceCtorEq, Nat.reduceMul, Nat.reduceMod, cfgP, u76, hlen, aResults, aResult]) (hfz _ _ _ rfl rfl) (by simp)
def hasPre (s p : List UInt8) : Bool := decide (p.length ≤ s.length) && (s.take p.length == p)

theorem hasPreL_ok (s p : List UInt8) (prot : Nat) (H : Heap) (hp : prot ≤ H.length) : aLim cfg prot 75 [.str s, .str p] H = some (.bool (hasPre s p), none) := by
  have hsnap : snap H [.str s, .str p] = some ([.str s, .str p], false) := rfl
  have hls : ∀ K s, aLen Tryd.prog K 9 (.str s) = some (.int .i64 s.length) := fun K s => str_len Tryd.underlying9 s K
  refine pure_slim rfl (by kernel_rfl) Tryd.func75 s75 hp hsnap (by simp [Tryd.f75]) fun fr hlen h => ?_
  simp only [Has, Nat.zero_add] at h
  obtain ⟨a0, a1, -⟩ := h
  simp only [Tryd.f75] at hlen ⊢
  unfold g75
  by_cases h1 : (p.length : Int) ≤ s.length
  · have e1 := str_upto (k := .i64) Tryd.underlying9 s (b := p.length) (by omega)
    rw [show hasPre s p = (s.take p.length == p) by unfold hasPre; rw [decide_eq_true (by omega)]; simp]
    simp only [wk, aBuiltin, AV.cells, AV.leaf, Nat.reduceEqDiff, Nat.reduceLT, Nat.reduceAdd, Nat.reduceLeDiff, reduceCtorEq, Nat.reduceMul, Nat.reduceMod, cfgP, u76, hlen, a0, a1, hls, h1, e1, none_beq, str_eql]
    exact Fin_pure (l := [.bool (s.take p.length == p)]) (by simp [wk, aBuiltin, AV.cells, AV.leaf, Nat.reduceEqDiff, Nat.reduceLT, Nat.reduceAdd, Nat.reduceLeDiff, reduceCtorEq, Nat.reduceMul, Nat.reduceMod, cfgP, u76, aResults, aResult, hlen]) (.still rfl) (by simp)
  · rw [show hasPre s p = false by unfold hasPre; rw [decide_eq_false (by omega)]; simp]
    simp only [wk, aBuiltin, AV.cells, AV.leaf, Nat.reduceEqDiff, Nat.reduceLT, Nat.reduceAdd, Nat.reduceLeDiff, reduceCtorEq, Nat.reduceMul, Nat.reduceMod, cfgP, u76, hlen, a0, a1, hls, h1, none_beq]
    exact Fin_pure (l := [.bool false]) (by simp [wk, aBuiltin, AV.cells, AV.leaf, Nat.reduceEqDiff, Nat.reduceLT, Nat.reduceAdd, Nat.reduceLeDiff, reduceCtorEq, Nat.reduceMul, Nat.reduceMod, cfgP, u76, aResults, aResult, hlen]) (.still rfl) (by simp)

theorem hasPre_ok (s p : List UInt8) (prot : Nat) (H : Heap) (hp : prot ≤ H.length) : aLim cfg prot 71 [.str s, .str p] H = some (.bool (hasPre s p), none) := by
  have hsnap : snap H [.str s, .str p] = some ([.str s, .str p], false) := rfl
  have n1 := hasPreL_ok s p H.length H (Nat.le_refl _)
  refine pure_slim rfl (by kernel_rfl) Tryd.func71 s71 hp hsnap (by simp [Tryd.f71]) fun fr hlen h => ?_
  simp only [Has, Nat.zero_add] at h
  obtain ⟨a0, a1, -⟩ := h
  simp only [Tryd.f71] at hlen ⊢
  unfold g71
  simp only [wk, aBuiltin, AV.cells, AV.leaf, Nat.reduceEqDiff, Nat.reduceLT, Nat.reduceAdd, Nat.reduceLeDiff, reduceCtorEq, Nat.reduceMul, Nat.reduceMod, cfgP, u76, hlen, a0, a1, n1]
  exact Fin_pure (l := [.bool (hasPre s p)]) (by simp [wk, aBuiltin, AV.cells, AV.leaf, Nat.reduceEqDiff, Nat.reduceLT, Nat.reduceAdd, Nat.reduceLeDiff, reduceCtorEq, Nat.reduceMul, Nat.reduceMod, cfgP, u76, aResults, aResult, hlen]) (.still rfl) (by simp)
end Go.Proofs.YtimbhlbkidmplaaDoor
/- jtok.coded, jtok.escaped, walked. -/
namespace Go.Proofs.YtimbhlbkidmplaaDoor
open Go Go.Abs AbsSeat Ty

theorem u63 : type_of% (And.intro ag1 (And.intro sz1 (And.intro by1 (And.intro ze1 (And.intro Tryd.underlying1 (And.intro ag3 (And.intro sz3 (And.intro by3 (And.intro ze3 (And.intro Tryd.underlying3 (And.intro ag5 (And.intro sz5 (And.intro by5 (And.intro ze5 (And.intro Tryd.underlying5 (And.intro ag9 (And.intro sz9 (And.intro by9 (And.intro ze9 (And.intro Tryd.underlying9 (And.intro ag21 (And.intro sz21 (And.intro by21 (And.intro ze21 (And.intro Tryd.underlying21 (And.intro ag33 (And.intro sz33 (And.intro by33 (And.intro ze33 (And.intro Tryd.underlying33 (And.intro ag97 (And.intro sz97 (And.intro by97 (And.intro se97 (And.intro ze97 Tryd.underlying97))))))))))))))))))))))))))))))))))) := And.intro ag1 (And.intro sz1 (And.intro by1 (And.intro ze1 (And.intro Tryd.underlying1 (And.intro ag3 (And.intro sz3 (And.intro by3 (And.intro ze3 (And.intro Tryd.underlying3 (And.intro ag5 (And.intro sz5 (And.intro by5 (And.intro ze5 (And.intro Tryd.underlying5 (And.intro ag9 (And.intro sz9 (And.intro by9 (And.intro ze9 (And.intro Tryd.underlying9 (And.intro ag21 (And.intro sz21 (And.intro by21 (And.intro ze21 (And.intro Tryd.underlying21 (And.intro ag33 (And.intro sz33 (And.intro by33 (And.intro ze33 (And.intro Tryd.underlying33 (And.intro ag97 (And.intro sz97 (And.intro by97 (And.intro se97 (And.intro ze97 Tryd.underlying97))))))))))))))))))))))))))))))))))
def g63 : Code :=
  .seq (.region 0 #[q 4 (.assign (.const (.slice none 0 0))) 97, q 5 (.assign (ik 0)) 3, q 6 (.assign (.const .nilIface)) 77] false) (.seq (.region 1 #[q 16 (.move (.tmp 0)) 9, q 17 (.move (.tmp 1)) 3, q 18 (cl 70 #[.tmp 16, .tmp 17] #[9, 3]) 139, q 15 (.move (.tmp 18)) 139, q 19 (.extract (.tmp 15) 0) 21, q 20 (.extract (.tmp 15) 1) 4, q 7 (.assign (.tmp 19)) 21, q 8 (.assign (.tmp 20)) 4] false) (.seq (.seq (.region 2 #[q 21 (.move (.tmp 8)) 4, q 22 (.unOp .not 4 (.tmp 21)) 4] false) (.cond (.tmp 22) (.seq (.region 3 #[q 23 (.move (.tmp 1)) 3, q 24 (.move (.tmp 1)) 3, q 25 (cl 45 #[.tmp 24, ik 3] #[3, 33]) 77, q 4 (.assign (.const (.slice none 0 0))) 97, q 5 (.assign (.tmp 23)) 3, q 6 (.assign (.tmp 25)) 77] false) .ret) .skip)) (.seq (.region 4 #[q 26 (.move (.tmp 1)) 3, q 27 (.binOp .add 3 (.tmp 26) (ik 4) 3) 3, q 1 (.assign (.tmp 27)) 3] false) (.seq (.seq (.region 5 #[q 28 (.move (.tmp 0)) 9, q 29 (.move (.tmp 1)) 3, q 30 (.slice 9 (.tmp 28) (some (.tmp 29)) none none) 9, q 31 (cl 71 #[.tmp 30, .const (.string { data := #[92, 117] })] #[9, 9]) 4] false) (.cond (.tmp 31) (.seq (.region 6 #[q 33 (.move (.tmp 0)) 9, q 34 (.move (.tmp 1)) 3, q 35 (.binOp .add 3 (.tmp 34) (ik 2) 3) 3, q 36 (cl 70 #[.tmp 33, .tmp 35] #[9, 3]) 139, q 32 (.move (.tmp 36)) 139, q 37 (.extract (.tmp 32) 0) 21, q 38 (.extract (.tmp 32) 1) 4, q 9 (.assign (.tmp 37)) 21, q 10 (.assign (.tmp 38)) 4] false) (.seq (.region 7 #[q 40 (.move (.tmp 7)) 21, q 41 (.move (.tmp 9)) 21, q 42 (cl 72 #[.tmp 40, .tmp 41] #[21, 21]) 139, q 39 (.move (.tmp 42)) 139, q 43 (.extract (.tmp 39) 0) 21, q 44 (.extract (.tmp 39) 1) 4, q 11 (.assign (.tmp 43)) 21, q 12 (.assign (.tmp 44)) 4] false) (.seq (.region 8 #[q 45 (.move (.tmp 10)) 4, q 46 (.move (.tmp 45)) 4, qg 47 (.move (.tmp 12)) 4 1 true, q 48 (.pick (.tmp 46) (.tmp 47) (.const (.bool false))) 4] false) (.cond (.tmp 48) (.seq (.region 9 #[q 49 (.move (.tmp 11)) 21, q 7 (.assign (.tmp 49)) 21] false) (.region 10 #[q 50 (.move (.tmp 1)) 3, q 51 (.binOp .add 3 (.tmp 50) (ik 6) 3) 3, q 1 (.assign (.tmp 51)) 3] false)) .skip)))) .skip)) (.seq (.region 11 #[q 53 (.move (.tmp 7)) 21, q 54 (cl 73 #[.tmp 53] #[21]) 143, q 52 (.move (.tmp 54)) 143, q 55 (.extract (.tmp 52) 0) 97, q 56 (.extract (.tmp 52) 1) 33, q 13 (.assign (.tmp 55)) 97, q 14 (.assign (.tmp 56)) 33] false) (.seq (.seq (.region 12 #[q 57 (.move (.tmp 14)) 33, q 58 (.binOp .neq 33 (.tmp 57) (ik 0) 33) 4] false) (.cond (.tmp 58) (.seq (.region 13 #[q 59 (.move (.tmp 1)) 3, q 60 (.move (.tmp 1)) 3, q 61 (cl 45 #[.tmp 60, ik 3] #[3, 33]) 77, q 4 (.assign (.const (.slice none 0 0))) 97, q 5 (.assign (.tmp 59)) 3, q 6 (.assign (.tmp 61)) 77] false) .ret) .skip)) (.seq (.region 14 #[q 62 (.move (.tmp 13)) 97, q 63 (.move (.tmp 1)) 3, q 4 (.assign (.tmp 62)) 97, q 5 (.assign (.tmp 63)) 3, q 6 (.assign (.const .nilIface)) 77] false) .ret)))))))
theorem s63 : Tryd.f63.body.map (slim cfg) = some g63 := by kernel_rfl
def g53 : Code :=
  .seq (.region 0 #[q 4 (.assign (.const (.slice none 0 0))) 97, q 5 (.assign (ik 0)) 3, q 6 (.assign (.const .nilIface)) 77] false) (.seq (.seq (.region 1 #[q 8 (.move (.tmp 1)) 3, q 9 (.move (.tmp 0)) 9, q 10 (bi .len #[.tmp 9] #[9]) 3, q 11 (.binOp .geq 3 (.tmp 8) (.tmp 10) 3) 4] false) (.cond (.tmp 11) (.seq (.region 2 #[q 12 (.move (.tmp 1)) 3, q 13 (.move (.tmp 1)) 3, q 14 (cl 45 #[.tmp 13, ik 3] #[3, 33]) 77, q 4 (.assign (.const (.slice none 0 0))) 97, q 5 (.assign (.tmp 12)) 3, q 6 (.assign (.tmp 14)) 77] false) .ret) .skip)) (.seq (.region 3 #[q 15 (.move (.tmp 0)) 9, q 16 (.move (.tmp 1)) 3, q 17 (.index 9 (.tmp 15) (.tmp 16)) 5, q 7 (.assign (.tmp 17)) 5] false) (.seq (.seq (.region 4 #[q 18 (.move (.tmp 7)) 5] false) (.block 0 (.seq (.region 6 #[q 23 (.binOp .eql 5 (.tmp 18) (.const (.int .u8 98)) 5) 4, q 22 (.assign (.tmp 23)) 4] false) (.cond (.tmp 22) (.region 7 #[q 7 (.assign (.const (.int .u8 8))) 5] false) (.seq (.region 8 #[q 25 (.binOp .eql 5 (.tmp 18) (.const (.int .u8 102)) 5) 4, q 24 (.assign (.tmp 25)) 4] false) (.cond (.tmp 24) (.region 9 #[q 7 (.assign (.const (.int .u8 12))) 5] false) (.seq (.region 10 #[q 27 (.binOp .eql 5 (.tmp 18) (.const (.int .u8 110)) 5) 4, q 26 (.assign (.tmp 27)) 4] false) (.cond (.tmp 26) (.region 11 #[q 7 (.assign (.const (.int .u8 10))) 5] false) (.seq (.region 12 #[q 29 (.binOp .eql 5 (.tmp 18) (.const (.int .u8 114)) 5) 4, q 28 (.assign (.tmp 29)) 4] false) (.cond (.tmp 28) (.region 13 #[q 7 (.assign (.const (.int .u8 13))) 5] false) (.seq (.region 14 #[q 31 (.binOp .eql 5 (.tmp 18) (.const (.int .u8 116)) 5) 4, q 30 (.assign (.tmp 31)) 4] false) (.cond (.tmp 30) (.region 15 #[q 7 (.assign (.const (.int .u8 9))) 5] false) (.seq (.seq (.region 16 #[q 33 (.binOp .eql 5 (.tmp 18) (.const (.int .u8 34)) 5) 4, q 32 (.assign (.tmp 33)) 4] false) (.cond (.tmp 32) .skip (.seq (.region 17 #[q 34 (.binOp .eql 5 (.tmp 18) (.const (.int .u8 92)) 5) 4, q 32 (.assign (.tmp 34)) 4] false) (.cond (.tmp 32) .skip (.region 18 #[q 35 (.binOp .eql 5 (.tmp 18) (.const (.int .u8 47)) 5) 4, q 32 (.assign (.tmp 35)) 4] false))))) (.cond (.tmp 32) .skip (.seq (.region 19 #[q 37 (.binOp .eql 5 (.tmp 18) (.const (.int .u8 117)) 5) 4, q 36 (.assign (.tmp 37)) 4] false) (.cond (.tmp 36) (.seq (.region 20 #[q 38 (.move (.tmp 0)) 9, q 39 (.move (.tmp 1)) 3, q 40 (.binOp .add 3 (.tmp 39) (ik 1) 3) 3, q 41 (cl 63 #[.tmp 38, .tmp 40] #[9, 3]) 98, q 42 (.extract (.tmp 41) 0) 97, q 43 (.extract (.tmp 41) 1) 3, q 44 (.extract (.tmp 41) 2) 77, q 4 (.assign (.tmp 42)) 97, q 5 (.assign (.tmp 43)) 3, q 6 (.assign (.tmp 44)) 77] false) .ret) (.seq (.region 5 #[q 19 (.move (.tmp 1)) 3, q 20 (.move (.tmp 1)) 3, q 21 (cl 45 #[.tmp 20, ik 3] #[3, 33]) 77, q 4 (.assign (.const (.slice none 0 0))) 97, q 5 (.assign (.tmp 19)) 3, q 6 (.assign (.tmp 21)) 77] false) .ret))))))))))))))))) (.seq (.region 21 #[q 45 (.move (.tmp 7)) 5, q 46 (.buildSlice 97 1 #[(0, .tmp 45)]) 97, q 47 (.move (.tmp 1)) 3, q 48 (.binOp .add 3 (.tmp 47) (ik 1) 3) 3, q 4 (.assign (.tmp 46)) 97, q 5 (.assign (.tmp 48)) 3, q 6 (.assign (.const .nilIface)) 77] false) .ret))))
theorem s53 : Tryd.f53.body.map (slim cfg) = some g53 := by kernel_rfl
def g47 : Code :=
  .seq (.region 0 #[q 2 (.assign (ik 0)) 3] false) (.seq (.seq (.region 1 #[q 3 (.move (.tmp 0)) 9] false) (.block 0 (.seq (.region 2 #[q 5 (.binOp .eql 9 (.tmp 3) (.const (.string { data := #[116, 114, 117, 101] })) 9) 4, q 4 (.assign (.tmp 5)) 4] false) (.cond (.tmp 4) (.seq (.region 3 #[q 2 (.assign (ik 9)) 3] false) .ret) (.seq (.region 4 #[q 7 (.binOp .eql 9 (.tmp 3) (.const (.string { data := #[102, 97, 108, 115, 101] })) 9) 4, q 6 (.assign (.tmp 7)) 4] false) (.cond (.tmp 6) (.seq (.region 5 #[q 2 (.assign (ik 10)) 3] false) .ret) (.seq (.region 6 #[q 9 (.binOp .eql 9 (.tmp 3) (.const (.string { data := #[110, 117, 108, 108] })) 9) 4, q 8 (.assign (.tmp 9)) 4] false) (.cond (.tmp 8) (.seq (.region 7 #[q 2 (.assign (ik 11)) 3] false) .ret) .skip)))))))) (.seq (.region 8 #[q 2 (.assign (ik 0)) 3] false) .ret))
theorem s47 : Tryd.f47.body.map (slim cfg) = some g47 := by kernel_rfl
/-- the second half behind a first one. -/
def secondS (v : Nat) (r : List UInt8) : Option Int := if hasPre (r.drop 4) [92, 117] then (match fourS (r.drop 6) with | some w => pairU v w | none => none) else none
/-- the bytes of a rune by its digits, and how many bytes these take. -/
def codedS (r : List UInt8) : Option (List UInt8 × Nat) :=
  match fourS r with
  | none => none
  | some v => match secondS v r with
    | some p => if isU p then some (putU p, 10) else none
    | none => if isU v then some (putU v, 4) else none
def Lex (k : Nat) (x : Option (AV × Option Heap)) : Option (List UInt8 × Nat) → Prop
  | none => ∃ i, x = some (.tup [.nilS, .int .i64 i, troub i 3], none)
  | some (b, n) => x = some (.tup [.vs (b.map encB) true, .int .i64 (k + n : Nat), .nilI], none)
theorem fourS_len {r : List UInt8} {v : Nat} (h : fourS r = some v) : 4 ≤ r.length ∧ v < 65536 := by
  unfold fourS at h
  split at h
  · cases h
  · have := hexV_lt _ _ _ h
    rw [show (r.take 4).length = 4 by simp; omega] at this
    exact ⟨by omega, by omega⟩
theorem pairU_0 (v : Int) : pairU v 0 = none := by unfold pairU; rw [if_pos (.inr (.inr (.inl (by omega))))]
theorem dn10 : decide (¬ ((1 : Int) = 0)) = true := by decide

theorem coded_bad (s : List UInt8) (hl : s.length < 1000000000000000000) (k : Nat) (hk : k ≤ s.length) (prot : Nat) (H : Heap) (hp : prot ≤ H.length) (h : fourS (s.drop k) = none) :
    aLim cfg prot 63 [.str s, .int .i64 k] H = some (.tup [.nilS, .int .i64 k, troub k 3], none) := by
  have hsnap : snap H [.str s, .int .i64 k] = some ([.str s, .int .i64 k], false) := rfl
  have n1 := four_ok s hl k hk H.length H (Nat.le_refl _)
  have n2 := wrong_ok k 3 H.length H (Nat.le_refl _)
  rw [h, fourR] at n1
  refine pure_slim rfl (by kernel_rfl) Tryd.func63 s63 hp hsnap (by simp [Tryd.f63]) fun fr hlen h => ?_
  simp only [Has, Nat.zero_add] at h
  obtain ⟨a0, a1, -⟩ := h
  simp only [Tryd.f63] at hlen ⊢
  unfold g63
  simp only [wk, aBuiltin, AV.cells, AV.leaf, Nat.reduceEqDiff, Nat.reduceLT, Nat.reduceAdd, Nat.reduceLeDiff, reduceCtorEq, Nat.reduceMul, Nat.reduceMod, cfgP, u63, hlen, a0, a1, n1, n2]
  exact Fin_pure (l := [.nilS, .int .i64 k, troub k 3]) (by simp [wk, aBuiltin, AV.cells, AV.leaf, Nat.reduceEqDiff, Nat.reduceLT, Nat.reduceAdd, Nat.reduceLeDiff, reduceCtorEq, Nat.reduceMul, Nat.reduceMod, cfgP, u63, hlen, aResults, aResult]) (.tup (.cons (.still rfl) (.cons (.still rfl) (.cons (.iface (.still rfl)) .nil)))) (by simp)
theorem coded_ok (s : List UInt8) (hl : s.length < 1000000000000000000) (k : Nat) (hk : k ≤ s.length) (prot : Nat) (H : Heap) (hp : prot ≤ H.length) :
    Lex k (aLim cfg prot 63 [.str s, .int .i64 k] H) (codedS (s.drop k)) := by
  have hsnap : snap H [.str s, .int .i64 k] = some ([.str s, .int .i64 k], false) := rfl
  have n1 := four_ok s hl k hk H.length H (Nat.le_refl _)
  cases h4 : fourS (s.drop k) with
  | none =>
    rw [show codedS (s.drop k) = none by simp [codedS, h4]]
    exact ⟨k, coded_bad s hl k hk prot H hp h4⟩
  | some v =>
    obtain ⟨hlen4, hv⟩ := fourS_len h4
    simp only [List.length_drop] at hlen4
    rw [h4, fourR] at n1
    have w1 : IntKind.i64.wrap ((k : Int) + 4) = ((k + 4 : Nat) : Int) := by rw [wrap64 (by omega) (by omega)]; simp
    have e1 := str_from (k := .i64) Tryd.underlying9 s (a := k + 4) (by omega)
    have n2 := hasPre_ok (s.drop (k + 4)) [92, 117] H.length H (Nat.le_refl _)
    have n5 := wrong_ok (k + 4 : Nat) 3 H.length H (Nat.le_refl _)
    have n6 := wrong_ok (k + 10 : Nat) 3 H.length H (Nat.le_refl _)
    have hd4 : (s.drop k).drop 4 = s.drop (k + 4) := by rw [List.drop_drop]
    have hd6 : (s.drop k).drop 6 = s.drop (k + 6) := by rw [List.drop_drop]
    have hfz : ∀ (K : Heap) (b : List UInt8) (i : Int), Frz K H.length (packR [.vs (b.map encB) true, .int .i64 i, .nilI]) (.tup [.vs (b.map encB) true, .int .i64 i, .nilI]) := fun K b i => .tup (.cons (.still rfl) (.cons (.still rfl) (.cons (.still rfl) .nil)))
    have hfe : ∀ (K : Heap) (i : Int), Frz K H.length (packR [.nilS, .int .i64 i, troub i 3]) (.tup [.nilS, .int .i64 i, troub i 3]) := fun K i => .tup (.cons (.still rfl) (.cons (.still rfl) (.cons (.iface (.still rfl)) .nil)))
    cases hpre : hasPre (s.drop (k + 4)) [92, 117] with
    | false =>
      have hs2 : secondS v (s.drop k) = none := by unfold secondS; rw [hd4, hpre]; rfl
      have n3 := put_ok v H.length H (Nat.le_refl _)
      rw [hpre] at n2
      cases hu : isU v with
      | false =>
        rw [show codedS (s.drop k) = none by simp [codedS, h4, hs2, hu]]
        simp only [hu, Bool.false_eq_true, if_false] at n3
        refine ⟨(k + 4 : Nat), ?_⟩
        refine pure_slim rfl (by kernel_rfl) Tryd.func63 s63 hp hsnap (by simp [Tryd.f63]) fun fr hlen h => ?_
        simp only [Has, Nat.zero_add] at h
        obtain ⟨a0, a1, -⟩ := h
        simp only [Tryd.f63] at hlen ⊢
        unfold g63
        simp only [wk, aBuiltin, AV.cells, AV.leaf, Nat.reduceEqDiff, Nat.reduceLT, Nat.reduceAdd, Nat.reduceLeDiff, reduceCtorEq, Nat.reduceMul, Nat.reduceMod, cfgP, u63, hlen, a0, a1, n1, w1, e1, n2, n3, n5, dn10]
        exact Fin_pure (l := [.nilS, .int .i64 (k + 4 : Nat), troub (k + 4 : Nat) 3]) (by simp [wk, aBuiltin, AV.cells, AV.leaf, Nat.reduceEqDiff, Nat.reduceLT, Nat.reduceAdd, Nat.reduceLeDiff, reduceCtorEq, Nat.reduceMul, Nat.reduceMod, cfgP, u63, hlen, aResults, aResult]) (hfe _ _) (by simp)
      | true =>
        rw [show codedS (s.drop k) = some (putU v, 4) by simp [codedS, h4, hs2, hu]]
        simp only [hu, if_true] at n3
        show _ = _
        refine pure_slim rfl (by kernel_rfl) Tryd.func63 s63 hp hsnap (by simp [Tryd.f63]) fun fr hlen h => ?_
        simp only [Has, Nat.zero_add] at h
        obtain ⟨a0, a1, -⟩ := h
        simp only [Tryd.f63] at hlen ⊢
        unfold g63
        simp only [wk, aBuiltin, AV.cells, AV.leaf, Nat.reduceEqDiff, Nat.reduceLT, Nat.reduceAdd, Nat.reduceLeDiff, reduceCtorEq, Nat.reduceMul, Nat.reduceMod, cfgP, u63, hlen, a0, a1, n1, w1, e1, n2, n3]
        exact Fin_pure (l := [.vs ((putU v).map encB) true, .int .i64 (k + 4 : Nat), .nilI]) (by simp [wk, aBuiltin, AV.cells, AV.leaf, Nat.reduceEqDiff, Nat.reduceLT, Nat.reduceAdd, Nat.reduceLeDiff, reduceCtorEq, Nat.reduceMul, Nat.reduceMod, cfgP, u63, hlen, aResults, aResult]) (hfz _ _ _) (by simp)
    | true =>
      have hlen6 : k + 6 ≤ s.length := by
        simp only [hasPre, Bool.and_eq_true, decide_eq_true_eq, List.length_cons, List.length_nil, List.length_drop] at hpre
        omega
      rw [hpre] at n2
      have w2 : IntKind.i64.wrap (((k + 4 : Nat) : Int) + 2) = ((k + 6 : Nat) : Int) := by rw [wrap64 (by omega) (by omega)]; omega
      have w3 : IntKind.i64.wrap (((k + 4 : Nat) : Int) + 6) = ((k + 10 : Nat) : Int) := by rw [wrap64 (by omega) (by omega)]; omega
      have n4 := four_ok s hl (k + 6) hlen6 H.length H (Nat.le_refl _)
      have hs2 : secondS v (s.drop k) = (match fourS (s.drop (k + 6)) with | some w => pairU v w | none => none) := by unfold secondS; rw [hd4, hpre, hd6, if_pos rfl]
      cases h6 : fourS (s.drop (k + 6)) with
      | none =>
        rw [h6, fourR] at n4
        rw [h6] at hs2
        simp only at hs2
        have n7 := pair_ok v 0 H.length H (Nat.le_refl _)
        rw [pairU_0, pairR] at n7
        have n3 := put_ok v H.length H (Nat.le_refl _)
        cases hu : isU v with
        | false =>
          rw [show codedS (s.drop k) = none by simp [codedS, h4, hs2, hu]]
          simp only [hu, Bool.false_eq_true, if_false] at n3
          refine ⟨(k + 4 : Nat), ?_⟩
          refine pure_slim rfl (by kernel_rfl) Tryd.func63 s63 hp hsnap (by simp [Tryd.f63]) fun fr hlen h => ?_
          simp only [Has, Nat.zero_add] at h
          obtain ⟨a0, a1, -⟩ := h
          simp only [Tryd.f63] at hlen ⊢
          unfold g63
          simp only [wk, aBuiltin, AV.cells, AV.leaf, Nat.reduceEqDiff, Nat.reduceLT, Nat.reduceAdd, Nat.reduceLeDiff, reduceCtorEq, Nat.reduceMul, Nat.reduceMod, cfgP, u63, hlen, a0, a1, n1, w1, e1, n2, w2, n4, n7, n3, n5, none_beq, dn10]
          exact Fin_pure (l := [.nilS, .int .i64 (k + 4 : Nat), troub (k + 4 : Nat) 3]) (by simp [wk, aBuiltin, AV.cells, AV.leaf, Nat.reduceEqDiff, Nat.reduceLT, Nat.reduceAdd, Nat.reduceLeDiff, reduceCtorEq, Nat.reduceMul, Nat.reduceMod, cfgP, u63, hlen, aResults, aResult]) (hfe _ _) (by simp)
        | true =>
          rw [show codedS (s.drop k) = some (putU v, 4) by simp [codedS, h4, hs2, hu]]
          simp only [hu, if_true] at n3
          show _ = _
          refine pure_slim rfl (by kernel_rfl) Tryd.func63 s63 hp hsnap (by simp [Tryd.f63]) fun fr hlen h => ?_
          simp only [Has, Nat.zero_add] at h
          obtain ⟨a0, a1, -⟩ := h
          simp only [Tryd.f63] at hlen ⊢
          unfold g63
          simp only [wk, aBuiltin, AV.cells, AV.leaf, Nat.reduceEqDiff, Nat.reduceLT, Nat.reduceAdd, Nat.reduceLeDiff, reduceCtorEq, Nat.reduceMul, Nat.reduceMod, cfgP, u63, hlen, a0, a1, n1, w1, e1, n2, w2, n4, n7, n3, none_beq]
          exact Fin_pure (l := [.vs ((putU v).map encB) true, .int .i64 (k + 4 : Nat), .nilI]) (by simp [wk, aBuiltin, AV.cells, AV.leaf, Nat.reduceEqDiff, Nat.reduceLT, Nat.reduceAdd, Nat.reduceLeDiff, reduceCtorEq, Nat.reduceMul, Nat.reduceMod, cfgP, u63, hlen, aResults, aResult]) (hfz _ _ _) (by simp)
      | some w =>
        rw [h6, fourR] at n4
        rw [h6] at hs2
        simp only at hs2
        have n7 := pair_ok v w H.length H (Nat.le_refl _)
        cases hpr : pairU v w with
        | none =>
          rw [hpr] at hs2
          rw [hpr, pairR] at n7
          have n3 := put_ok v H.length H (Nat.le_refl _)
          cases hu : isU v with
          | false =>
            rw [show codedS (s.drop k) = none by simp [codedS, h4, hs2, hu]]
            simp only [hu, Bool.false_eq_true, if_false] at n3
            refine ⟨(k + 4 : Nat), ?_⟩
            refine pure_slim rfl (by kernel_rfl) Tryd.func63 s63 hp hsnap (by simp [Tryd.f63]) fun fr hlen h => ?_
            simp only [Has, Nat.zero_add] at h
            obtain ⟨a0, a1, -⟩ := h
            simp only [Tryd.f63] at hlen ⊢
            unfold g63
            simp only [wk, aBuiltin, AV.cells, AV.leaf, Nat.reduceEqDiff, Nat.reduceLT, Nat.reduceAdd, Nat.reduceLeDiff, reduceCtorEq, Nat.reduceMul, Nat.reduceMod, cfgP, u63, hlen, a0, a1, n1, w1, e1, n2, w2, n4, n7, n3, n5, none_beq, dn10]
            exact Fin_pure (l := [.nilS, .int .i64 (k + 4 : Nat), troub (k + 4 : Nat) 3]) (by simp [wk, aBuiltin, AV.cells, AV.leaf, Nat.reduceEqDiff, Nat.reduceLT, Nat.reduceAdd, Nat.reduceLeDiff, reduceCtorEq, Nat.reduceMul, Nat.reduceMod, cfgP, u63, hlen, aResults, aResult]) (hfe _ _) (by simp)
          | true =>
            rw [show codedS (s.drop k) = some (putU v, 4) by simp [codedS, h4, hs2, hu]]
            simp only [hu, if_true] at n3
            show _ = _
            refine pure_slim rfl (by kernel_rfl) Tryd.func63 s63 hp hsnap (by simp [Tryd.f63]) fun fr hlen h => ?_
            simp only [Has, Nat.zero_add] at h
            obtain ⟨a0, a1, -⟩ := h
            simp only [Tryd.f63] at hlen ⊢
            unfold g63
            simp only [wk, aBuiltin, AV.cells, AV.leaf, Nat.reduceEqDiff, Nat.reduceLT, Nat.reduceAdd, Nat.reduceLeDiff, reduceCtorEq, Nat.reduceMul, Nat.reduceMod, cfgP, u63, hlen, a0, a1, n1, w1, e1, n2, w2, n4, n7, n3, none_beq]
            exact Fin_pure (l := [.vs ((putU v).map encB) true, .int .i64 (k + 4 : Nat), .nilI]) (by simp [wk, aBuiltin, AV.cells, AV.leaf, Nat.reduceEqDiff, Nat.reduceLT, Nat.reduceAdd, Nat.reduceLeDiff, reduceCtorEq, Nat.reduceMul, Nat.reduceMod, cfgP, u63, hlen, aResults, aResult]) (hfz _ _ _) (by simp)
        | some p =>
          rw [hpr] at hs2
          rw [hpr, pairR] at n7
          have n3 := put_ok p H.length H (Nat.le_refl _)
          cases hu : isU p with
          | false =>
            rw [show codedS (s.drop k) = none by simp [codedS, h4, hs2, hu]]
            simp only [hu, Bool.false_eq_true, if_false] at n3
            refine ⟨(k + 10 : Nat), ?_⟩
            refine pure_slim rfl (by kernel_rfl) Tryd.func63 s63 hp hsnap (by simp [Tryd.f63]) fun fr hlen h => ?_
            simp only [Has, Nat.zero_add] at h
            obtain ⟨a0, a1, -⟩ := h
            simp only [Tryd.f63] at hlen ⊢
            unfold g63
            simp only [wk, aBuiltin, AV.cells, AV.leaf, Nat.reduceEqDiff, Nat.reduceLT, Nat.reduceAdd, Nat.reduceLeDiff, reduceCtorEq, Nat.reduceMul, Nat.reduceMod, cfgP, u63, hlen, a0, a1, n1, w1, e1, n2, w2, n4, n7, n3, n6, none_beq, w3, dn10]
            exact Fin_pure (l := [.nilS, .int .i64 (k + 10 : Nat), troub (k + 10 : Nat) 3]) (by simp [wk, aBuiltin, AV.cells, AV.leaf, Nat.reduceEqDiff, Nat.reduceLT, Nat.reduceAdd, Nat.reduceLeDiff, reduceCtorEq, Nat.reduceMul, Nat.reduceMod, cfgP, u63, hlen, aResults, aResult]) (hfe _ _) (by simp)
          | true =>
            rw [show codedS (s.drop k) = some (putU p, 10) by simp [codedS, h4, hs2, hu]]
            simp only [hu, if_true] at n3
            show _ = _
            refine pure_slim rfl (by kernel_rfl) Tryd.func63 s63 hp hsnap (by simp [Tryd.f63]) fun fr hlen h => ?_
            simp only [Has, Nat.zero_add] at h
            obtain ⟨a0, a1, -⟩ := h
            simp only [Tryd.f63] at hlen ⊢
            unfold g63
            simp only [wk, aBuiltin, AV.cells, AV.leaf, Nat.reduceEqDiff, Nat.reduceLT, Nat.reduceAdd, Nat.reduceLeDiff, reduceCtorEq, Nat.reduceMul, Nat.reduceMod, cfgP, u63, hlen, a0, a1, n1, w1, e1, n2, w2, n4, n7, n3, none_beq, w3]
            exact Fin_pure (l := [.vs ((putU p).map encB) true, .int .i64 (k + 10 : Nat), .nilI]) (by simp [wk, aBuiltin, AV.cells, AV.leaf, Nat.reduceEqDiff, Nat.reduceLT, Nat.reduceAdd, Nat.reduceLeDiff, reduceCtorEq, Nat.reduceMul, Nat.reduceMod, cfgP, u63, hlen, aResults, aResult]) (hfz _ _ _) (by simp)
theorem codedS_pos {r : List UInt8} {b : List UInt8} {n : Nat} (h : codedS r = some (b, n)) : 4 ≤ n ∧ n ≤ r.length ∧ b ≠ [] := by
  unfold codedS at h
  cases h4 : fourS r with
  | none => simp [h4] at h
  | some v =>
    obtain ⟨hl4, _⟩ := fourS_len h4
    simp only [h4] at h
    cases h2 : secondS v r with
    | none =>
      simp only [h2] at h
      split at h
      · cases h; exact ⟨by omega, by omega, by simp [putU]⟩
      · cases h
    | some p =>
      simp only [h2] at h
      split at h
      · cases h
        refine ⟨by omega, ?_, by simp [putU]⟩
        unfold secondS at h2
        split at h2
        · cases h6 : fourS (r.drop 6) with
          | none => simp [h6] at h2
          | some w =>
            obtain ⟨hl6, _⟩ := fourS_len h6
            simp only [List.length_drop] at hl6
            omega
        · cases h2
      · cases h
/-- what a sign behind a \ means. -/
def escC (c : UInt8) : Option UInt8 := if c = 98 then some 8 else if c = 102 then some 12 else if c = 110 then some 10 else if c = 114 then some 13 else if c = 116 then some 9 else if c = 34 then some 34 else if c = 92 then some 92 else if c = 47 then some 47 else none
def escS : List UInt8 → Option (List UInt8 × Nat)
  | [] => none
  | c :: t => if c = 117 then (codedS t).map (fun x => (x.1, x.2 + 1)) else (escC c).map fun d => ([d], 1)
theorem litN (c : Int) (H : Heap) : aBuildSlice Tryd.prog H 97 1 [(0, .int .u8 c)] = some (.vs [.int .u8 c] true, none) := by
  simp [aBuildSlice, se97, sz5, by5, ag5, ze5, AV.cells, fillA, zrep, splice, litOk, AV.scal, AV.plL, AV.pl, chunk, AV.leaf]

theorem esc_plain (s : List UInt8) (hl : s.length < 1000000000000000000) (k : Nat) (hk : k < s.length) (c d : UInt8) (hc : s[k] = c) (h : (c = 98 ∧ d = 8) ∨ (c = 102 ∧ d = 12) ∨ (c = 110 ∧ d = 10) ∨ (c = 114 ∧ d = 13) ∨ (c = 116 ∧ d = 9) ∨ (c = 34 ∧ d = 34) ∨ (c = 92 ∧ d = 92) ∨ (c = 47 ∧ d = 47))
    (prot : Nat) (H : Heap) (hp : prot ≤ H.length) : aLim cfg prot 53 [.str s, .int .i64 k] H = some (.tup [.vs ([d].map encB) true, .int .i64 (k + 1 : Nat), .nilI], none) := by
  have hsnap : snap H [.str s, .int .i64 k] = some ([.str s, .int .i64 k], false) := rfl
  have hls : ∀ K, aLen Tryd.prog K 9 (.str s) = some (.int .i64 s.length) := fun K => str_len Tryd.underlying9 s K
  have e1 := str_at (k := .i64) Tryd.underlying9 s hk
  have hnl : ¬ ((s.length : Int) ≤ k) := by omega
  have w1 : IntKind.i64.wrap ((k : Int) + 1) = ((k + 1 : Nat) : Int) := by rw [wrap64 (by omega) (by omega)]; simp
  have hfz : ∀ (K : Heap) (b : List UInt8) (i : Int), Frz K H.length (packR [.vs (b.map encB) true, .int .i64 i, .nilI]) (.tup [.vs (b.map encB) true, .int .i64 i, .nilI]) := fun K b i => .tup (.cons (.still rfl) (.cons (.still rfl) (.cons (.still rfl) .nil)))
  have lt := litN
  rw [hc] at e1
  rcases h with ⟨rfl, rfl⟩ | ⟨rfl, rfl⟩ | ⟨rfl, rfl⟩ | ⟨rfl, rfl⟩ | ⟨rfl, rfl⟩ | ⟨rfl, rfl⟩ | ⟨rfl, rfl⟩ | ⟨rfl, rfl⟩
  · rw [show (((98 : UInt8).toNat : Nat) : Int) = 98 from rfl] at e1
    refine pure_slim rfl (by kernel_rfl) Tryd.func53 s53 hp hsnap (by simp [Tryd.f53]) fun fr hlen h => ?_
    simp only [Has, Nat.zero_add] at h
    obtain ⟨a0, a1, -⟩ := h
    simp only [Tryd.f53] at hlen ⊢
    unfold g53
    simp only [wk, aBuiltin, AV.cells, AV.leaf, Nat.reduceEqDiff, Nat.reduceLT, Nat.reduceAdd, Nat.reduceLeDiff, reduceCtorEq, Nat.reduceMul, Nat.reduceMod, cfgP, u63, hlen, a0, a1, hls, hnl, e1, Int.reduceEq, lt, w1]
    exact Fin_pure (l := [.vs ([8].map encB) true, .int .i64 (k + 1 : Nat), .nilI]) (by simp [wk, aBuiltin, AV.cells, AV.leaf, Nat.reduceEqDiff, Nat.reduceLT, Nat.reduceAdd, Nat.reduceLeDiff, reduceCtorEq, Nat.reduceMul, Nat.reduceMod, cfgP, u63, hlen, aResults, aResult]; rfl) (hfz _ _ _) (by simp)
  · rw [show (((102 : UInt8).toNat : Nat) : Int) = 102 from rfl] at e1
    refine pure_slim rfl (by kernel_rfl) Tryd.func53 s53 hp hsnap (by simp [Tryd.f53]) fun fr hlen h => ?_
    simp only [Has, Nat.zero_add] at h
    obtain ⟨a0, a1, -⟩ := h
    simp only [Tryd.f53] at hlen ⊢
    unfold g53
    simp only [wk, aBuiltin, AV.cells, AV.leaf, Nat.reduceEqDiff, Nat.reduceLT, Nat.reduceAdd, Nat.reduceLeDiff, reduceCtorEq, Nat.reduceMul, Nat.reduceMod, cfgP, u63, hlen, a0, a1, hls, hnl, e1, Int.reduceEq, lt, w1]
    exact Fin_pure (l := [.vs ([12].map encB) true, .int .i64 (k + 1 : Nat), .nilI]) (by simp [wk, aBuiltin, AV.cells, AV.leaf, Nat.reduceEqDiff, Nat.reduceLT, Nat.reduceAdd, Nat.reduceLeDiff, reduceCtorEq, Nat.reduceMul, Nat.reduceMod, cfgP, u63, hlen, aResults, aResult]; rfl) (hfz _ _ _) (by simp)
  · rw [show (((110 : UInt8).toNat : Nat) : Int) = 110 from rfl] at e1
    refine pure_slim rfl (by kernel_rfl) Tryd.func53 s53 hp hsnap (by simp [Tryd.f53]) fun fr hlen h => ?_
    simp only [Has, Nat.zero_add] at h
    obtain ⟨a0, a1, -⟩ := h
    simp only [Tryd.f53] at hlen ⊢
    unfold g53
    simp only [wk, aBuiltin, AV.cells, AV.leaf, Nat.reduceEqDiff, Nat.reduceLT, Nat.reduceAdd, Nat.reduceLeDiff, reduceCtorEq, Nat.reduceMul, Nat.reduceMod, cfgP, u63, hlen, a0, a1, hls, hnl, e1, Int.reduceEq, lt, w1]
    exact Fin_pure (l := [.vs ([10].map encB) true, .int .i64 (k + 1 : Nat), .nilI]) (by simp [wk, aBuiltin, AV.cells, AV.leaf, Nat.reduceEqDiff, Nat.reduceLT, Nat.reduceAdd, Nat.reduceLeDiff, reduceCtorEq, Nat.reduceMul, Nat.reduceMod, cfgP, u63, hlen, aResults, aResult]; rfl) (hfz _ _ _) (by simp)
  · rw [show (((114 : UInt8).toNat : Nat) : Int) = 114 from rfl] at e1
    refine pure_slim rfl (by kernel_rfl) Tryd.func53 s53 hp hsnap (by simp [Tryd.f53]) fun fr hlen h => ?_
    simp only [Has, Nat.zero_add] at h
    obtain ⟨a0, a1, -⟩ := h
    simp only [Tryd.f53] at hlen ⊢
    unfold g53
    simp only [wk, aBuiltin, AV.cells, AV.leaf, Nat.reduceEqDiff, Nat.reduceLT, Nat.reduceAdd, Nat.reduceLeDiff, reduceCtorEq, Nat.reduceMul, Nat.reduceMod, cfgP, u63, hlen, a0, a1, hls, hnl, e1, Int.reduceEq, lt, w1]
    exact Fin_pure (l := [.vs ([13].map encB) true, .int .i64 (k + 1 : Nat), .nilI]) (by simp [wk, aBuiltin, AV.cells, AV.leaf, Nat.reduceEqDiff, Nat.reduceLT, Nat.reduceAdd, Nat.reduceLeDiff, reduceCtorEq, Nat.reduceMul, Nat.reduceMod, cfgP, u63, hlen, aResults, aResult]; rfl) (hfz _ _ _) (by simp)
  · rw [show (((116 : UInt8).toNat : Nat) : Int) = 116 from rfl] at e1
    refine pure_slim rfl (by kernel_rfl) Tryd.func53 s53 hp hsnap (by simp [Tryd.f53]) fun fr hlen h => ?_
    simp only [Has, Nat.zero_add] at h
    obtain ⟨a0, a1, -⟩ := h
    simp only [Tryd.f53] at hlen ⊢
    unfold g53
    simp only [wk, aBuiltin, AV.cells, AV.leaf, Nat.reduceEqDiff, Nat.reduceLT, Nat.reduceAdd, Nat.reduceLeDiff, reduceCtorEq, Nat.reduceMul, Nat.reduceMod, cfgP, u63, hlen, a0, a1, hls, hnl, e1, Int.reduceEq, lt, w1]
    exact Fin_pure (l := [.vs ([9].map encB) true, .int .i64 (k + 1 : Nat), .nilI]) (by simp [wk, aBuiltin, AV.cells, AV.leaf, Nat.reduceEqDiff, Nat.reduceLT, Nat.reduceAdd, Nat.reduceLeDiff, reduceCtorEq, Nat.reduceMul, Nat.reduceMod, cfgP, u63, hlen, aResults, aResult]; rfl) (hfz _ _ _) (by simp)
  · rw [show (((34 : UInt8).toNat : Nat) : Int) = 34 from rfl] at e1
    refine pure_slim rfl (by kernel_rfl) Tryd.func53 s53 hp hsnap (by simp [Tryd.f53]) fun fr hlen h => ?_
    simp only [Has, Nat.zero_add] at h
    obtain ⟨a0, a1, -⟩ := h
    simp only [Tryd.f53] at hlen ⊢
    unfold g53
    simp only [wk, aBuiltin, AV.cells, AV.leaf, Nat.reduceEqDiff, Nat.reduceLT, Nat.reduceAdd, Nat.reduceLeDiff, reduceCtorEq, Nat.reduceMul, Nat.reduceMod, cfgP, u63, hlen, a0, a1, hls, hnl, e1, Int.reduceEq, lt, w1]
    exact Fin_pure (l := [.vs ([34].map encB) true, .int .i64 (k + 1 : Nat), .nilI]) (by simp [wk, aBuiltin, AV.cells, AV.leaf, Nat.reduceEqDiff, Nat.reduceLT, Nat.reduceAdd, Nat.reduceLeDiff, reduceCtorEq, Nat.reduceMul, Nat.reduceMod, cfgP, u63, hlen, aResults, aResult]; rfl) (hfz _ _ _) (by simp)
  · rw [show (((92 : UInt8).toNat : Nat) : Int) = 92 from rfl] at e1
    refine pure_slim rfl (by kernel_rfl) Tryd.func53 s53 hp hsnap (by simp [Tryd.f53]) fun fr hlen h => ?_
    simp only [Has, Nat.zero_add] at h
    obtain ⟨a0, a1, -⟩ := h
    simp only [Tryd.f53] at hlen ⊢
    unfold g53
    simp only [wk, aBuiltin, AV.cells, AV.leaf, Nat.reduceEqDiff, Nat.reduceLT, Nat.reduceAdd, Nat.reduceLeDiff, reduceCtorEq, Nat.reduceMul, Nat.reduceMod, cfgP, u63, hlen, a0, a1, hls, hnl, e1, Int.reduceEq, lt, w1]
    exact Fin_pure (l := [.vs ([92].map encB) true, .int .i64 (k + 1 : Nat), .nilI]) (by simp [wk, aBuiltin, AV.cells, AV.leaf, Nat.reduceEqDiff, Nat.reduceLT, Nat.reduceAdd, Nat.reduceLeDiff, reduceCtorEq, Nat.reduceMul, Nat.reduceMod, cfgP, u63, hlen, aResults, aResult]; rfl) (hfz _ _ _) (by simp)
  · rw [show (((47 : UInt8).toNat : Nat) : Int) = 47 from rfl] at e1
    refine pure_slim rfl (by kernel_rfl) Tryd.func53 s53 hp hsnap (by simp [Tryd.f53]) fun fr hlen h => ?_
    simp only [Has, Nat.zero_add] at h
    obtain ⟨a0, a1, -⟩ := h
    simp only [Tryd.f53] at hlen ⊢
    unfold g53
    simp only [wk, aBuiltin, AV.cells, AV.leaf, Nat.reduceEqDiff, Nat.reduceLT, Nat.reduceAdd, Nat.reduceLeDiff, reduceCtorEq, Nat.reduceMul, Nat.reduceMod, cfgP, u63, hlen, a0, a1, hls, hnl, e1, Int.reduceEq, lt, w1]
    exact Fin_pure (l := [.vs ([47].map encB) true, .int .i64 (k + 1 : Nat), .nilI]) (by simp [wk, aBuiltin, AV.cells, AV.leaf, Nat.reduceEqDiff, Nat.reduceLT, Nat.reduceAdd, Nat.reduceLeDiff, reduceCtorEq, Nat.reduceMul, Nat.reduceMod, cfgP, u63, hlen, aResults, aResult]; rfl) (hfz _ _ _) (by simp)
theorem esc_end (s : List UInt8) (k : Nat) (hk : s.length ≤ k) (prot : Nat) (H : Heap) (hp : prot ≤ H.length) : aLim cfg prot 53 [.str s, .int .i64 k] H = some (.tup [.nilS, .int .i64 k, troub k 3], none) := by
  have hsnap : snap H [.str s, .int .i64 k] = some ([.str s, .int .i64 k], false) := rfl
  have hls : ∀ K, aLen Tryd.prog K 9 (.str s) = some (.int .i64 s.length) := fun K => str_len Tryd.underlying9 s K
  have hnl : ((s.length : Int) ≤ k) := by omega
  have n2 := wrong_ok k 3 H.length H (Nat.le_refl _)
  refine pure_slim rfl (by kernel_rfl) Tryd.func53 s53 hp hsnap (by simp [Tryd.f53]) fun fr hlen h => ?_
  simp only [Has, Nat.zero_add] at h
  obtain ⟨a0, a1, -⟩ := h
  simp only [Tryd.f53] at hlen ⊢
  unfold g53
  simp only [wk, aBuiltin, AV.cells, AV.leaf, Nat.reduceEqDiff, Nat.reduceLT, Nat.reduceAdd, Nat.reduceLeDiff, reduceCtorEq, Nat.reduceMul, Nat.reduceMod, cfgP, u63, hlen, a0, a1, hls, hnl, n2]
  exact Fin_pure (l := [.nilS, .int .i64 k, troub k 3]) (by simp [wk, aBuiltin, AV.cells, AV.leaf, Nat.reduceEqDiff, Nat.reduceLT, Nat.reduceAdd, Nat.reduceLeDiff, reduceCtorEq, Nat.reduceMul, Nat.reduceMod, cfgP, u63, hlen, aResults, aResult]) (.tup (.cons (.still rfl) (.cons (.still rfl) (.cons (.iface (.still rfl)) .nil)))) (by simp)
theorem esc_bad (s : List UInt8) (k : Nat) (hk : k < s.length) (c : UInt8) (hc : s[k] = c) (h1 : ¬ c = 98) (h2 : ¬ c = 102) (h3 : ¬ c = 110) (h4 : ¬ c = 114) (h5 : ¬ c = 116) (h6 : ¬ c = 34) (h7 : ¬ c = 92) (h8 : ¬ c = 47) (h9 : ¬ c = 117)
    (prot : Nat) (H : Heap) (hp : prot ≤ H.length) : aLim cfg prot 53 [.str s, .int .i64 k] H = some (.tup [.nilS, .int .i64 k, troub k 3], none) := by
  have hsnap : snap H [.str s, .int .i64 k] = some ([.str s, .int .i64 k], false) := rfl
  have hls : ∀ K, aLen Tryd.prog K 9 (.str s) = some (.int .i64 s.length) := fun K => str_len Tryd.underlying9 s K
  have e1 := str_at (k := .i64) Tryd.underlying9 s hk
  have hnl : ¬ ((s.length : Int) ≤ k) := by omega
  have n2 := wrong_ok k 3 H.length H (Nat.le_refl _)
  have ne : ∀ d : UInt8, ¬ c = d → ¬ ((c.toNat : Int) = (d.toNat : Int)) := fun d hd h => hd (UInt8.toNat_inj.1 (by omega))
  have q1 : ¬ ((c.toNat : Int) = 98) := ne 98 h1
  have q2 : ¬ ((c.toNat : Int) = 102) := ne 102 h2
  have q3 : ¬ ((c.toNat : Int) = 110) := ne 110 h3
  have q4 : ¬ ((c.toNat : Int) = 114) := ne 114 h4
  have q5 : ¬ ((c.toNat : Int) = 116) := ne 116 h5
  have q6 : ¬ ((c.toNat : Int) = 34) := ne 34 h6
  have q7 : ¬ ((c.toNat : Int) = 92) := ne 92 h7
  have q8 : ¬ ((c.toNat : Int) = 47) := ne 47 h8
  have q9 : ¬ ((c.toNat : Int) = 117) := ne 117 h9
  rw [hc] at e1
  refine pure_slim rfl (by kernel_rfl) Tryd.func53 s53 hp hsnap (by simp [Tryd.f53]) fun fr hlen h => ?_
  simp only [Has, Nat.zero_add] at h
  obtain ⟨a0, a1, -⟩ := h
  simp only [Tryd.f53] at hlen ⊢
  unfold g53
  simp only [wk, aBuiltin, AV.cells, AV.leaf, Nat.reduceEqDiff, Nat.reduceLT, Nat.reduceAdd, Nat.reduceLeDiff, reduceCtorEq, Nat.reduceMul, Nat.reduceMod, cfgP, u63, hlen, a0, a1, hls, hnl, e1, q1, q2, q3, q4, q5, q6, q7, q8, q9, n2]
  exact Fin_pure (l := [.nilS, .int .i64 k, troub k 3]) (by simp [wk, aBuiltin, AV.cells, AV.leaf, Nat.reduceEqDiff, Nat.reduceLT, Nat.reduceAdd, Nat.reduceLeDiff, reduceCtorEq, Nat.reduceMul, Nat.reduceMod, cfgP, u63, hlen, aResults, aResult]) (.tup (.cons (.still rfl) (.cons (.still rfl) (.cons (.iface (.still rfl)) .nil)))) (by simp)
theorem esc_u (s : List UInt8) (hl : s.length < 1000000000000000000) (k : Nat) (hk : k < s.length) (hc : s[k] = 117) (prot : Nat) (H : Heap) (hp : prot ≤ H.length) :
    Lex (k + 1) (aLim cfg prot 53 [.str s, .int .i64 k] H) (codedS (s.drop (k + 1))) := by
  have hsnap : snap H [.str s, .int .i64 k] = some ([.str s, .int .i64 k], false) := rfl
  have hls : ∀ K, aLen Tryd.prog K 9 (.str s) = some (.int .i64 s.length) := fun K => str_len Tryd.underlying9 s K
  have e1 := str_at (k := .i64) Tryd.underlying9 s hk
  have hnl : ¬ ((s.length : Int) ≤ k) := by omega
  have w1 : IntKind.i64.wrap ((k : Int) + 1) = ((k + 1 : Nat) : Int) := by rw [wrap64 (by omega) (by omega)]; simp
  rw [hc, show (((117 : UInt8).toNat : Nat) : Int) = 117 from rfl] at e1
  have n1 := coded_ok s hl (k + 1) (by omega) H.length H (Nat.le_refl _)
  generalize codedS (s.drop (k + 1)) = o at *
  cases o with
  | none =>
    obtain ⟨i, n1⟩ := n1
    refine ⟨i, ?_⟩
    refine pure_slim rfl (by kernel_rfl) Tryd.func53 s53 hp hsnap (by simp [Tryd.f53]) fun fr hlen h => ?_
    simp only [Has, Nat.zero_add] at h
    obtain ⟨a0, a1, -⟩ := h
    simp only [Tryd.f53] at hlen ⊢
    unfold g53
    simp only [wk, aBuiltin, AV.cells, AV.leaf, Nat.reduceEqDiff, Nat.reduceLT, Nat.reduceAdd, Nat.reduceLeDiff, reduceCtorEq, Nat.reduceMul, Nat.reduceMod, cfgP, u63, hlen, a0, a1, hls, hnl, e1, Int.reduceEq, w1, n1]
    exact Fin_pure (l := [.nilS, .int .i64 i, troub i 3]) (by simp [wk, aBuiltin, AV.cells, AV.leaf, Nat.reduceEqDiff, Nat.reduceLT, Nat.reduceAdd, Nat.reduceLeDiff, reduceCtorEq, Nat.reduceMul, Nat.reduceMod, cfgP, u63, hlen, aResults, aResult]) (.tup (.cons (.still rfl) (.cons (.still rfl) (.cons (.iface (.still rfl)) .nil)))) (by simp)
  | some x =>
    obtain ⟨b, n⟩ := x
    have n1 : aLim cfg H.length 63 [.str s, .int .i64 (k + 1 : Nat)] H = some (.tup [.vs (b.map encB) true, .int .i64 (k + 1 + n : Nat), .nilI], none) := n1
    show _ = _
    refine pure_slim rfl (by kernel_rfl) Tryd.func53 s53 hp hsnap (by simp [Tryd.f53]) fun fr hlen h => ?_
    simp only [Has, Nat.zero_add] at h
    obtain ⟨a0, a1, -⟩ := h
    simp only [Tryd.f53] at hlen ⊢
    unfold g53
    simp only [wk, aBuiltin, AV.cells, AV.leaf, Nat.reduceEqDiff, Nat.reduceLT, Nat.reduceAdd, Nat.reduceLeDiff, reduceCtorEq, Nat.reduceMul, Nat.reduceMod, cfgP, u63, hlen, a0, a1, hls, hnl, e1, Int.reduceEq, w1, n1]
    exact Fin_pure (l := [.vs (b.map encB) true, .int .i64 (k + 1 + n : Nat), .nilI]) (by simp [wk, aBuiltin, AV.cells, AV.leaf, Nat.reduceEqDiff, Nat.reduceLT, Nat.reduceAdd, Nat.reduceLeDiff, reduceCtorEq, Nat.reduceMul, Nat.reduceMod, cfgP, u63, hlen, aResults, aResult]) (.tup (.cons (.still rfl) (.cons (.still rfl) (.cons (.still rfl) .nil)))) (by simp)
theorem escaped_ok (s : List UInt8) (hl : s.length < 1000000000000000000) (k : Nat) (prot : Nat) (H : Heap) (hp : prot ≤ H.length) :
    Lex k (aLim cfg prot 53 [.str s, .int .i64 k] H) (escS (s.drop k)) := by
  by_cases hk : k < s.length
  · rw [List.drop_eq_getElem_cons hk]
    generalize hc : s[k] = c
    rw [escS]
    by_cases h9 : c = 117
    · rw [if_pos h9]
      subst h9
      have := esc_u s hl k hk hc prot H hp
      generalize codedS (s.drop (k + 1)) = o at *
      cases o with
      | none => exact this
      | some x =>
        obtain ⟨b, n⟩ := x
        have h2 : aLim cfg prot 53 [.str s, .int .i64 k] H = some (.tup [.vs (b.map encB) true, .int .i64 (k + 1 + n : Nat), .nilI], none) := this
        show _ = some (AV.tup [.vs (b.map encB) true, .int .i64 (k + (n + 1) : Nat), .nilI], none)
        rw [h2, show k + 1 + n = k + (n + 1) by omega]
    · rw [if_neg h9]
      have hd : (escC c = none ∧ ¬ c = 98 ∧ ¬ c = 102 ∧ ¬ c = 110 ∧ ¬ c = 114 ∧ ¬ c = 116 ∧ ¬ c = 34 ∧ ¬ c = 92 ∧ ¬ c = 47) ∨ ∃ d, escC c = some d ∧ ((c = 98 ∧ d = 8) ∨ (c = 102 ∧ d = 12) ∨ (c = 110 ∧ d = 10) ∨ (c = 114 ∧ d = 13) ∨ (c = 116 ∧ d = 9) ∨ (c = 34 ∧ d = 34) ∨ (c = 92 ∧ d = 92) ∨ (c = 47 ∧ d = 47)) := by
        by_cases h1 : c = 98
        · subst h1; exact .inr ⟨8, rfl, .inl ⟨rfl, rfl⟩⟩
        · by_cases h2 : c = 102
          · subst h2; exact .inr ⟨12, rfl, .inr (.inl ⟨rfl, rfl⟩)⟩
          · by_cases h3 : c = 110
            · subst h3; exact .inr ⟨10, rfl, .inr (.inr (.inl ⟨rfl, rfl⟩))⟩
            · by_cases h4 : c = 114
              · subst h4; exact .inr ⟨13, rfl, .inr (.inr (.inr (.inl ⟨rfl, rfl⟩)))⟩
              · by_cases h5 : c = 116
                · subst h5; exact .inr ⟨9, rfl, .inr (.inr (.inr (.inr (.inl ⟨rfl, rfl⟩))))⟩
                · by_cases h6 : c = 34
                  · subst h6; exact .inr ⟨34, rfl, .inr (.inr (.inr (.inr (.inr (.inl ⟨rfl, rfl⟩)))))⟩
                  · by_cases h7 : c = 92
                    · subst h7; exact .inr ⟨92, rfl, .inr (.inr (.inr (.inr (.inr (.inr (.inl ⟨rfl, rfl⟩))))))⟩
                    · by_cases h8 : c = 47
                      · subst h8; exact .inr ⟨47, rfl, .inr (.inr (.inr (.inr (.inr (.inr (.inr ⟨rfl, rfl⟩))))))⟩
                      · exact .inl ⟨by simp [escC, h1, h2, h3, h4, h5, h6, h7, h8], h1, h2, h3, h4, h5, h6, h7, h8⟩
      rcases hd with ⟨he, h1, h2, h3, h4, h5, h6, h7, h8⟩ | ⟨d, he, hcd⟩
      · rw [he]
        exact ⟨k, esc_bad s k hk c hc h1 h2 h3 h4 h5 h6 h7 h8 h9 prot H hp⟩
      · rw [he]
        exact esc_plain s hl k hk c d hc hcd prot H hp
  · have hd : s.drop k = [] := by simp; omega
    rw [hd]
    exact ⟨k, esc_end s k (by omega) prot H hp⟩
theorem escS_pos {r : List UInt8} {b : List UInt8} {n : Nat} (h : escS r = some (b, n)) : 1 ≤ n ∧ n ≤ r.length ∧ b ≠ [] := by
  cases r with
  | nil => cases h
  | cons c t =>
    rw [escS] at h
    split at h
    · cases hc : codedS t with
      | none => simp [hc] at h
      | some x =>
        obtain ⟨b', n'⟩ := x
        simp only [hc, Option.map_some, Option.some.injEq, Prod.mk.injEq] at h
        obtain ⟨rfl, rfl⟩ := h
        obtain ⟨h1, h2, h3⟩ := codedS_pos hc
        exact ⟨by omega, by simp; omega, h3⟩
    · cases hc : escC c with
      | none => simp [hc] at h
      | some d =>
        simp only [hc, Option.map_some, Option.some.injEq, Prod.mk.injEq] at h
        obtain ⟨rfl, rfl⟩ := h
        exact ⟨by omega, by simp, by simp⟩
end Go.Proofs.YtimbhlbkidmplaaDoor
