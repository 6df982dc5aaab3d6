import Derived.Test.YtnipaiklandliaaGreatDoorM2MatchBack
import Derived.Test.YtnipaiklandliaaGreatDoorAbsSeat
import Derived.Test.YtnipaiklandliaaGreatDoorAbsSet
import Derived.Test.YtnipaiklandliaaGreatDoorAbsRows
import Derived.Test.YtnipaiklandliaaGreatDoorAbsMore
/-! Part 3 of the proof of MatchBack. -/
set_option linter.unusedSimpArgs false
set_option linter.defProp false
namespace Go.Abs
open Go
theorem Row.low {α : Type} {enc : α → AV} {sz : Nat} {ag : Bool} {base base' : Nat} {H : Heap} {v : AV} {l : List α} (h : Row enc sz ag base H v l) (hb : base' ≤ base) : Row enc sz ag base' H v l := by
 rcases h with h | ⟨b, ver, h1, h2, h3, h4⟩
 ·exact .inl h
 ·exact .inr ⟨b, ver, h1, by omega, h3, h4⟩
theorem Row.setne {α : Type} {enc : α → AV} {sz : Nat} {ag : Bool} {base b' : Nat} {H : Heap} {v : AV} {l : List α} (h : Row enc sz ag base H v l) (hb : b' < base) (k : Blk) : Row enc sz ag base (H.set b' k) v l := by
 rcases h with h | ⟨b, ver, h1, h2, h3, h4⟩
 ·exact .inl h
 ·exact .inr ⟨b, ver, h1, h2, by rw [hget_set_ne (by omega)]; exact h3, h4⟩
end Go.Abs
namespace Go.Proofs.YtnipaiklandliaaGreatDoor
open Go Go.Abs AbsSeat Ty
def u185 := an (fun (K : Heap) (n : Int) => conv_int Tryz.underlying21 Tryz.underlying5 K n) (an (show tagT Tryz.prog 176 = 0 from by kernel_rfl) (an ag1 (an sz1 (an by1 (an ze1 (an Tryz.underlying1 (an ag3 (an sz3 (an by3 (an ze3 (an Tryz.underlying3 (an ag4 (an sz4 (an by4 (an ze4 (an Tryz.underlying4 (an ag5 (an sz5 (an by5 (an ze5 (an Tryz.underlying5 (an ag9 (an sz9 (an by9 (an ze9 (an Tryz.underlying9 (an ag21 (an sz21 (an by21 (an ze21 (an Tryz.underlying21 (an ag28 (an sz28 (an by28 (an ze28 (an Tryz.underlying28 (an ag173 (an sz173 (an by173 (an se173 (an ze173 (an Tryz.underlying173 (an ag176 (an sz176 (an by176 (an ze176 (an bu176 (an Tryz.underlying176 (an ag205 (an sz205 (an by205 (an ze205 (an Tryz.underlying205 (an ag206 (an sz206 (an by206 (an se206 (an ze206 (an Tryz.underlying206 (an ag209 (an sz209 (an by209 (an ze209 (an bu209 (an Tryz.underlying209 (an ag276 (an sz276 (an by276 (an ze276 (an bu276 (an Tryz.underlying276 (an fa209_0 (an fd209_0 (an fa209_1 fd209_1))))))))))))))))))))))))))))))))))))))))))))))))))))))))))))))))))))))))))
def g185 : Code := .seq (mG 0 #[q 2 (.assign (.const (.int .i32 0))) 21]) (.seq (.seq (mG 1 #[mA 3 0 205, q 4 (.nilCheck (.tmp 3)) 0, q 5 (.fieldAddr 209 (.tmp 4) 1) 0, mC 6 5 3, mA 7 0 205, q 8 (.nilCheck (.tmp 7)) 0, q 9 (.fieldAddr 209 (.tmp 8) 0) 0, mC 10 9 206, q 11 (bi .len #[.tmp 10] #[206]) 3, mF 12 .geq 3 6 (.tmp 11) 3 4]) (.cond (.tmp 12) (.seq (mG 2 #[q 2 (.assign (.const (.int .i32 (-1)))) 21]) .ret) .skip)) (.seq (mG 3 #[mA 13 0 205, q 14 (.nilCheck (.tmp 13)) 0, q 15 (.fieldAddr 209 (.tmp 14) 0) 0, mC 16 15 206, mA 17 0 205, q 18 (.nilCheck (.tmp 17)) 0, q 19 (.fieldAddr 209 (.tmp 18) 1) 0, mC 20 19 3, q 21 (.indexAddr 206 (.tmp 16) (.tmp 20)) 0, mC 22 21 21, mB 2 22 21]) .ret))
def s185 := sL Tryz.f185 g185 (by kernel_rfl)
def g173 : Code := .seq (mG 0 #[q 4 (.assign (mI false)) 4]) (.seq (.seq (mG 1 #[mA 5 0 205, q 6 (cl 185 #[.tmp 5] #[205]) 21, mA 7 1 21, mF 8 .neq 21 6 (.tmp 7) 21 4]) (.cond (.tmp 8) (.seq (mG 2 #[q 4 (.assign (mI false)) 4]) .ret) .skip)) (.seq (mG 3 #[mA 9 0 205, q 10 (.nilCheck (.tmp 9)) 0, q 11 (.fieldAddr 209 (.tmp 10) 1) 0, mC 12 11 3, mF 13 .add 3 12 (ik 1) 3 3, q 14 (.nilCheck (.tmp 9)) 0, q 15 (.fieldAddr 209 (.tmp 14) 1) 0, mD 3 15 13]) (.seq (mG 4 #[q 4 (.assign (mI true)) 4]) .ret)))
def s173 := sL Tryz.f173 g173 (by kernel_rfl)
def g202 : Code := .seq (mG 0 #[q 4 (.assign (mI false)) 4]) (.seq (mG 1 #[mA 5 1 21, mF 6 .geq 21 5 (.const (.int .i32 0)) 21 4, mA 7 6 4, qg 8 (.move (.tmp 1)) 21 2 true, qg 9 (.binOp .lss 21 (.tmp 8) (.const (.int .i32 128)) 21) 4 2 true, q 10 (.pick (.tmp 7) (.tmp 9) (mI false)) 4, mA 11 10 4, qg 12 (.move (.tmp 0)) 9 6 true, qg 13 (.move (.tmp 1)) 21 6 true, qg 14 (.convert 21 5 (.tmp 13)) 5 6 true, qg 15 (cl 74 #[.tmp 12, .tmp 14] #[9, 5]) 3 6 true, qg 16 (.binOp .geq 3 (.tmp 15) (ik 0) 3) 4 6 true, q 17 (.pick (.tmp 11) (.tmp 16) (mI false)) 4, mB 4 17 4]) .ret)
def s202 := sL Tryz.f202 g202 (by kernel_rfl)
def g205 : Code := .seq (mG 0 #[q 2 (.assign (mI false)) 4]) (.seq (mG 1 #[mA 3 0 21, mF 4 .geq 21 3 (.const (.int .i32 48)) 21 4, mA 5 4 4, qg 6 (.move (.tmp 0)) 21 2 true, qg 7 (.binOp .leq 21 (.tmp 6) (.const (.int .i32 57)) 21) 4 2 true, q 8 (.pick (.tmp 5) (.tmp 7) (mI false)) 4, mA 9 8 4, qg 10 (.move (.tmp 0)) 21 6 false, qg 11 (.binOp .geq 21 (.tmp 10) (.const (.int .i32 97)) 21) 4 6 false, qg 12 (.move (.tmp 11)) 4 6 false, qg 13 (.move (.tmp 0)) 21 9 true, qg 14 (.binOp .leq 21 (.tmp 13) (.const (.int .i32 122)) 21) 4 9 true, qg 15 (.pick (.tmp 12) (.tmp 14) (mI false)) 4 6 false, q 16 (.pick (.tmp 9) (mI true) (.tmp 15)) 4, mA 17 16 4, qg 18 (.move (.tmp 0)) 21 14 false, qg 19 (.binOp .geq 21 (.tmp 18) (.const (.int .i32 65)) 21) 4 14 false, qg 20 (.move (.tmp 19)) 4 14 false, qg 21 (.move (.tmp 0)) 21 17 true, qg 22 (.binOp .leq 21 (.tmp 21) (.const (.int .i32 90)) 21) 4 17 true, qg 23 (.pick (.tmp 20) (.tmp 22) (mI false)) 4 14 false, q 24 (.pick (.tmp 17) (mI true) (.tmp 23)) 4, mB 2 24 4]) .ret)
def s205 := sL Tryz.f205 g205 (by kernel_rfl)
def g201 : Code := .seq (mG 0 #[q 2 (.alloc 176) 0]) (.seq (mG 1 #[mA 3 0 173, q 4 (.build 176 #[(0, ik 1), (2, .tmp 3)]) 176, mD 176 2 4]) .ret)
def s201 := sL Tryz.f201 g201 (by kernel_rfl)
def g200 : Code := .seq (mG 0 #[q 2 (.assign (.const (.slice none 0 0))) 173, q 3 (.assign (mI false)) 4]) (.seq (mG 1 #[mA 5 0 205, q 6 (cl 185 #[.tmp 5] #[205]) 21, mB 4 6 21]) (.seq (mG 2 #[mA 7 0 205, q 8 (.nilCheck (.tmp 7)) 0, q 9 (.fieldAddr 209 (.tmp 8) 1) 0, mC 10 9 3, mF 11 .add 3 10 (ik 1) 3 3, q 12 (.nilCheck (.tmp 7)) 0, q 13 (.fieldAddr 209 (.tmp 12) 1) 0, mD 3 13 11]) (.seq (.seq (mG 3 #[mA 14 4 21]) (.block 0 (.seq (mG 4 #[mF 16 .eql 21 14 (.const (.int .i32 100)) 21 4, mB 15 16 4]) (.cond (.tmp 15) (.seq (mG 5 #[q 17 (.build 276 #[(0, .const (.int .i32 48)), (1, .const (.int .i32 57))]) 276, q 18 (.buildSlice 173 1 #[(0, .tmp 17)]) 173, mB 2 18 173, q 3 (.assign (mI true)) 4]) .ret) (.seq (mG 6 #[mF 20 .eql 21 14 (.const (.int .i32 119)) 21 4, mB 19 20 4]) (.cond (.tmp 19) (.seq (mG 7 #[q 21 (.build 276 #[(0, .const (.int .i32 97)), (1, .const (.int .i32 122))]) 276, q 22 (.build 276 #[(0, .const (.int .i32 65)), (1, .const (.int .i32 90))]) 276, q 23 (.build 276 #[(0, .const (.int .i32 48)), (1, .const (.int .i32 57))]) 276, q 24 (.build 276 #[(0, .const (.int .i32 95)), (1, .const (.int .i32 95))]) 276, q 25 (.buildSlice 173 4 #[(0, .tmp 21), (1, .tmp 22), (2, .tmp 23), (3, .tmp 24)]) 173, mB 2 25 173, q 3 (.assign (mI true)) 4]) .ret) (.seq (mG 8 #[mF 27 .eql 21 14 (.const (.int .i32 115)) 21 4, mB 26 27 4]) (.cond (.tmp 26) (.seq (mG 9 #[q 28 (.build 276 #[(0, .const (.int .i32 9)), (1, .const (.int .i32 9))]) 276, q 29 (.build 276 #[(0, .const (.int .i32 10)), (1, .const (.int .i32 10))]) 276, q 30 (.build 276 #[(0, .const (.int .i32 13)), (1, .const (.int .i32 13))]) 276, q 31 (.build 276 #[(0, .const (.int .i32 32)), (1, .const (.int .i32 32))]) 276, q 32 (.buildSlice 173 4 #[(0, .tmp 28), (1, .tmp 29), (2, .tmp 30), (3, .tmp 31)]) 173, mB 2 32 173, q 3 (.assign (mI true)) 4]) .ret) .skip)))))))) (.seq (mG 10 #[mA 33 4 21, mA 34 4 21, q 35 (.build 276 #[(0, .tmp 33), (1, .tmp 34)]) 276, q 36 (.buildSlice 173 1 #[(0, .tmp 35)]) 173, mA 37 4 21, mF 38 .gtr 21 37 (.const (.int .i32 32)) 21 4, mA 39 38 4, qg 40 (.move (.tmp 4)) 21 6 true, qg 41 (.binOp .lss 21 (.tmp 40) (.const (.int .i32 127)) 21) 4 6 true, q 42 (.pick (.tmp 39) (.tmp 41) (mI false)) 4, mA 43 42 4, qg 44 (.move (.tmp 4)) 21 10 true, qg 45 (cl 205 #[.tmp 44] #[21]) 4 10 true, qg 46 (.unOp .not 4 (.tmp 45)) 4 10 true, q 47 (.pick (.tmp 43) (.tmp 46) (mI false)) 4, mB 2 36 173, mB 3 47 4]) .ret))))
def s200 := sL Tryz.f200 g200 (by kernel_rfl)
def g203 : Code := .seq (mG 0 #[q 2 (.assign (ik 0)) 3, q 3 (.assign (mI false)) 4]) (.seq (mG 1 #[mA 7 0 205, q 8 (.nilCheck (.tmp 7)) 0, q 9 (.fieldAddr 209 (.tmp 8) 1) 0, mC 10 9 3, mB 4 10 3]) (.seq (.block 0 (.loop (.seq (.seq (mG 2 #[mA 11 0 205, q 12 (.nilCheck (.tmp 11)) 0, q 13 (.fieldAddr 209 (.tmp 12) 1) 0, mC 14 13 3, mA 15 0 205, q 16 (.nilCheck (.tmp 15)) 0, q 17 (.fieldAddr 209 (.tmp 16) 0) 0, mC 18 17 206, q 19 (bi .len #[.tmp 18] #[206]) 3, mF 20 .lss 3 14 (.tmp 19) 3 4, mA 21 20 4, qg 22 (.move (.tmp 0)) 205 10 true, qg 23 (.nilCheck (.tmp 22)) 0 10 true, qg 24 (.fieldAddr 209 (.tmp 23) 1) 0 10 true, qg 25 (.load 3 (.tmp 24)) 3 10 true, qg 26 (.move (.tmp 4)) 3 10 true, qg 27 (.binOp .sub 3 (.tmp 25) (.tmp 26) 3) 3 10 true, qg 28 (.binOp .lss 3 (.tmp 27) (ik 2) 3) 4 10 true, q 29 (.pick (.tmp 21) (.tmp 28) (mI false)) 4, mA 30 29 4, qg 31 (.move (.tmp 0)) 205 19 true, qg 32 (.nilCheck (.tmp 31)) 0 19 true, qg 33 (.fieldAddr 209 (.tmp 32) 0) 0 19 true, qg 34 (.load 206 (.tmp 33)) 206 19 true, qg 35 (.move (.tmp 0)) 205 19 true, qg 36 (.nilCheck (.tmp 35)) 0 19 true, qg 37 (.fieldAddr 209 (.tmp 36) 1) 0 19 true, qg 38 (.load 3 (.tmp 37)) 3 19 true, qg 39 (.indexAddr 206 (.tmp 34) (.tmp 38)) 0 19 true, qg 40 (.load 21 (.tmp 39)) 21 19 true, qg 41 (.binOp .geq 21 (.tmp 40) (.const (.int .i32 48)) 21) 4 19 true, q 42 (.pick (.tmp 30) (.tmp 41) (mI false)) 4, mA 43 42 4, qg 44 (.move (.tmp 0)) 205 32 true, qg 45 (.nilCheck (.tmp 44)) 0 32 true, qg 46 (.fieldAddr 209 (.tmp 45) 0) 0 32 true, qg 47 (.load 206 (.tmp 46)) 206 32 true, qg 48 (.move (.tmp 0)) 205 32 true, qg 49 (.nilCheck (.tmp 48)) 0 32 true, qg 50 (.fieldAddr 209 (.tmp 49) 1) 0 32 true, qg 51 (.load 3 (.tmp 50)) 3 32 true, qg 52 (.indexAddr 206 (.tmp 47) (.tmp 51)) 0 32 true, qg 53 (.load 21 (.tmp 52)) 21 32 true, qg 54 (.binOp .leq 21 (.tmp 53) (.const (.int .i32 57)) 21) 4 32 true, q 55 (.pick (.tmp 43) (.tmp 54) (mI false)) 4]) (.cond (.tmp 55) .skip (.exit 0))) (.block 1 (mG 3 #[mA 56 0 205, q 57 (.nilCheck (.tmp 56)) 0, q 58 (.fieldAddr 209 (.tmp 57) 1) 0, mC 59 58 3, mF 60 .add 3 59 (ik 1) 3 3, q 61 (.nilCheck (.tmp 56)) 0, q 62 (.fieldAddr 209 (.tmp 61) 1) 0, mD 3 62 60]))))) (.seq (mG 4 #[mA 64 0 205, q 65 (.nilCheck (.tmp 64)) 0, q 66 (.fieldAddr 209 (.tmp 65) 0) 0, mC 67 66 206, mA 68 4 3, mA 69 0 205, q 70 (.nilCheck (.tmp 69)) 0, q 71 (.fieldAddr 209 (.tmp 70) 1) 0, mC 72 71 3, q 73 (.slice 206 (.tmp 67) (some (.tmp 68)) (some (.tmp 72)) none) 206, q 74 (.convert 206 9 (.tmp 73)) 9, q 75 (cl 206 #[.tmp 74] #[9]) 286, mA 63 75 286, mE 76 63 0 3, mE 77 63 1 28, mB 5 76 3, mB 6 77 28]) (.seq (mG 5 #[mA 78 5 3, mA 79 6 28, mF 80 .eql 28 79 (ik 0) 28 4, mA 81 80 4, qg 82 (.move (.tmp 5)) 3 3 true, qg 83 (.binOp .leq 3 (.tmp 82) (ik 16) 3) 4 3 true, q 84 (.pick (.tmp 81) (.tmp 83) (mI false)) 4, mB 2 78 3, mB 3 84 4]) .ret))))
def s203 := sL Tryz.f203 g203 (by kernel_rfl)
def g194 : Code := .seq (mG 0 #[q 2 (.assign (ik 0)) 3, q 3 (.assign (ik 0)) 3, q 4 (.assign (mI false)) 4]) (.seq (mG 1 #[mA 9 0 205, q 10 (cl 203 #[.tmp 9] #[205]) 155, mA 8 10 155, mE 11 8 0 3, mE 12 8 1 4, mB 5 11 3, mB 6 12 4]) (.seq (.seq (mG 2 #[mA 13 6 4, q 14 (.unOp .not 4 (.tmp 13)) 4]) (.cond (.tmp 14) (.seq (mG 3 #[q 2 (.assign (ik 0)) 3, q 3 (.assign (ik 0)) 3, q 4 (.assign (mI false)) 4]) .ret) .skip)) (.seq (mG 4 #[mA 15 5 3, mB 7 15 3]) (.seq (.seq (mG 5 #[mA 16 0 205, q 17 (cl 173 #[.tmp 16, .const (.int .i32 44)] #[205, 21]) 4]) (.cond (.tmp 17) (.seq (mG 6 #[q 7 (.assign (ik (-1))) 3]) (.seq (mG 7 #[mA 18 0 205, q 19 (cl 185 #[.tmp 18] #[205]) 21, mF 20 .neq 21 19 (.const (.int .i32 125)) 21 4]) (.cond (.tmp 20) (.seq (mG 8 #[mA 22 0 205, q 23 (cl 203 #[.tmp 22] #[205]) 155, mA 21 23 155, mE 24 21 0 3, mE 25 21 1 4, mB 7 24 3, mB 6 25 4]) (.seq (mG 9 #[mA 26 6 4, q 27 (.unOp .not 4 (.tmp 26)) 4, mA 28 27 4, qg 29 (.move (.tmp 7)) 3 2 false, qg 30 (.move (.tmp 5)) 3 2 false, qg 31 (.binOp .lss 3 (.tmp 29) (.tmp 30) 3) 4 2 false, q 32 (.pick (.tmp 28) (mI true) (.tmp 31)) 4]) (.cond (.tmp 32) (.seq (mG 10 #[q 2 (.assign (ik 0)) 3, q 3 (.assign (ik 0)) 3, q 4 (.assign (mI false)) 4]) .ret) .skip))) .skip))) .skip)) (.seq (mG 11 #[mA 33 5 3, mA 34 7 3, mA 35 0 205, q 36 (cl 173 #[.tmp 35, .const (.int .i32 125)] #[205, 21]) 4, mB 2 33 3, mB 3 34 3, mB 4 36 4]) .ret)))))
def s194 := sL Tryz.f194 g194 (by kernel_rfl)
structure Sg where
 lo : Int
 hi : Int
def encG (x : Sg) : AV := .agg [.int .i32 x.lo, .int .i32 x.hi]
theorem encG_T : EncT encG 2 true where
 len _ := rfl
 leaf x c hc := by simp [encG, AV.cells] at hc; rcases hc with rfl | rfl <;> rfl
 still x c hc := by simp [encG, AV.cells] at hc; rcases hc with rfl | rfl <;> rfl
 shape _ := rfl
theorem rowG : RowT Tryz.prog 173 276 2 8 true where
 un := Tryz.underlying173
 size := sz276
 bytes := by276
 agg := ag276
 zero := ⟨_, ze276, rfl⟩
 pos := by decide
 tree := rfl
theorem litG1 (a b : Int) (H : Heap) : aBuildSlice Tryz.prog H 173 1 [(0, .agg [.int .i32 a, .int .i32 b])] = some (.vs ([⟨a, b⟩].map encG) true, none) :=
 lit1 rowG encG_T ze276 rfl (by decide) (⟨a, b⟩ : Sg) rfl
theorem litG4 (a b c d e f g h : Int) (H : Heap) : aBuildSlice Tryz.prog H 173 4 [(0, .agg [.int .i32 a, .int .i32 b]), (1, .agg [.int .i32 c, .int .i32 d]), (2, .agg [.int .i32 e, .int .i32 f]), (3, .agg [.int .i32 g, .int .i32 h])] =
  some (.vs (([⟨a, b⟩, ⟨c, d⟩, ⟨e, f⟩, ⟨g, h⟩] : List Sg).map encG) true, none) := by
 simp [aBuildSlice, se173, sz276, ag276, ze276, AV.cells, fillA, zrep, List.range_succ, splice, litOk, AV.scal, AV.plL, AV.pl, chunk, AV.leaf, encG]
def encI (n : Int) : AV := .int .i32 n
theorem encI_len (n : Int) : (encI n).cells.length = 1 := rfl
theorem encI_T : EncT encI 1 false where
 len _ := rfl
 leaf x c hc := by simp [encI, AV.cells] at hc; subst hc; rfl
 still x c hc := by simp [encI, AV.cells] at hc; subst hc; rfl
 shape _ := rfl
theorem encI_plL (l : List Int) : AV.plL (l.map encI) = true := by
 induction l with
 | nil => rfl
 | cons x r ih => simp only [List.map_cons, encI, AV.plL, AV.pl, Bool.true_and] at ih ⊢; exact ih
theorem slI_plain {l : List Int} {L : AV} (h : Sl encI L l) (x : Int) : AV.plL [L, .int .i64 x] = true := by
 cases h with
 | nil => rfl
 | vs l f => simp only [AV.plL, AV.pl, encI_plL, Bool.and_true]
def pk (l : List Int) (i : Nat) : Int := l.getD i (-1)
theorem pk_lt {l : List Int} {i : Nat} (h : i < l.length) : pk l i = l[i] := by simp [pk, List.getD, h]
theorem pk_ge {l : List Int} {i : Nat} (h : l.length ≤ i) : pk l i = -1 := by simp [pk, List.getD, h]
def Runes (l : List Int) : Prop := l.length < 1000000 ∧ ∀ r ∈ l, 0 ≤ r ∧ r < 2147483648
theorem pk_in {l : List Int} {i : Nat} (h : pk l i ≠ -1) : i < l.length := Classical.byContradiction fun hn => h (pk_ge (by omega))
theorem pk_nn {l : List Int} (hl : Runes l) (i : Nat) : -1 ≤ pk l i ∧ pk l i < 2147483648 := by
 by_cases h : i < l.length
 ·rw [pk_lt h]
  have := hl.2 _ (List.getElem_mem h)
  omega
 ·rw [pk_ge (by omega)]; omega
theorem peek_ok (l : List Int) (L : AV) (hL : Sl encI L l) (_hl : Runes l) (at_ b : Nat) (prot : Nat) (H : Heap) (hp : prot ≤ H.length) (hg : hget H b 0 = some [L, .int .i64 at_]) : aLim cfg prot 185 [.ptr b 0 0] H = some (.int .i32 (pk l at_), none) := by
 refine pure_slim rfl (by kernel_rfl) Tryz.func185 s185 hp rfl (by simp [Tryz.f185]) fun fr hlen h => ?_
 simp only [Has] at h
 obtain ⟨a0, -⟩ := h
 simp only [Tryz.f185] at hlen ⊢
 unfold g185
 by_cases h : at_ < l.length
 ·have c1 : decide ((l.length : Int) ≤ (at_ : Nat)) = false := decide_eq_false (by omega)
  have e1 := hL.at (k := .i64) (i := at_) Tryz.underlying206 sz21 encI_len h
  rw [pk_lt h]
  generalize l[at_] = c at *
  simp only [w9, simprocAttr, u185, hlen, a0, hg, hL.len Tryz.underlying206, c1, e1, encI]
  exact Fin_pure (l := [.int .i32 c]) (by simp [w9, hlen]) (.still rfl) (by simp)
 ·have c1 : decide ((l.length : Int) ≤ (at_ : Nat)) = true := decide_eq_true (by omega)
  rw [pk_ge (by omega)]
  simp only [w9, simprocAttr, u185, hlen, a0, hg, hL.len Tryz.underlying206, c1]
  exact Fin_pure (l := [.int .i32 (-1)]) (by simp [w9, hlen]) (.still rfl) (by simp)
theorem take_ok (l : List Int) (L : AV) (hL : Sl encI L l) (hl : Runes l) (at_ b : Nat) (c : Int) (hat : at_ ≤ 2000000) (prot : Nat) (H : Heap) (hp : prot ≤ b) (hg : hget H b 0 = some [L, .int .i64 at_]) :
  aLim cfg prot 173 [.ptr b 0 0, .int .i32 c] H = some (.bool (decide (pk l at_ = c)), some (H.set b (.cells 0 [L, .int .i64 ((if pk l at_ = c then at_ + 1 else at_ : Nat))]))) := by
 have hb := hget_lt hg
 have n1 := peek_ok l L hL hl at_ b prot H (by omega) hg
 have hww : IntKind.i64.wrap ((at_ : Int) + 1) = ((at_ + 1 : Nat) : Int) := by rw [wrap64 (by omega) (by omega)]; simp
 have hput1 : hput prot H b 0 1 [.int .i64 ((at_ + 1 : Nat))] = some (H.set b (.cells 0 [L, .int .i64 ((at_ + 1 : Nat))])) := by
  rw [hput_eq hg hp (by simp) (by simp [AV.leaf])]; rfl
 have hLb : AV.blwL H.length [L, .int .i64 ((at_ + 1 : Nat))] = true := plL_blwL _ _ (slI_plain hL _)
 have kp0 := Kp.start hg
 refine trim_slim rfl (by kernel_rfl) (by kernel_rfl) (by kernel_rfl) Tryz.func173 s173 (by simp [Tryz.f173]) fun fr hlen h => ?_
 simp only [Has, Nat.zero_add] at h
 obtain ⟨a0, a1, -⟩ := h
 simp only [Tryz.f173] at hlen ⊢
 unfold g173
 by_cases h : pk l at_ = c
 ·have c1 : decide (¬ pk l at_ = c) = false := by simp [h]
  rw [if_pos h, decide_eq_true h]
  simp only [w9, simprocAttr, u185, hlen, a0, a1, n1, hg, c1, hww, hput1]
  exact (kp0.put hLb).fin (l := [.bool true]) (by simp [w9, hlen]) (.still rfl)
 ·have c1 : decide (¬ pk l at_ = c) = true := by simp [h]
  rw [if_neg h, decide_eq_false h]
  simp only [w9, simprocAttr, hlen, a0, a1, n1, c1]
  exact kp0.fin (l := [.bool false]) (by simp [w9, hlen]) (.still rfl)
def hasS (s : List UInt8) (c : Int) : Bool := s.any fun b => decide ((b.toNat : Int) = c)
theorem idxByte_mem (s : List UInt8) (c : UInt8) : 0 ≤ idxByte s c ↔ c ∈ s := by
 unfold idxByte
 cases h : (List.range s.length).find? fun i => s.getD i 0 == c with
 | none =>
  simp only [Int.reduceNeg, Int.reduceLE, false_iff]
  intro hm
  obtain ⟨i, hi, rfl⟩ := List.getElem_of_mem hm
  have := List.find?_eq_none.1 h i (by simpa using hi)
  simp [List.getD, hi] at this
 | some i =>
  have h1 := List.find?_some h
  have h2 := List.mem_of_find?_eq_some h
  simp only [List.mem_range] at h2
  simp only [List.getD, h2, List.getElem?_eq_getElem, Option.getD_some, beq_iff_eq] at h1
  simp only [Int.natCast_nonneg, true_iff]
  rw [← h1]; exact List.getElem_mem h2
theorem has_ok (s : List UInt8) (c : Int) (hs : s.all (fun b => decide (b.toNat < 128)) = true) (prot : Nat) (H : Heap) (hp : prot ≤ H.length) : aLim cfg prot 202 [.str s, .int .i32 c] H = some (.bool (hasS s c), none) := by
 have hs := List.all_eq_true.1 hs
 refine pure_slim rfl (by kernel_rfl) Tryz.func202 s202 hp rfl (by simp [Tryz.f202]) fun fr hlen h => ?_
 simp only [Has, Nat.zero_add] at h
 obtain ⟨a0, a1, -⟩ := h
 simp only [Tryz.f202] at hlen ⊢
 unfold g202
 by_cases h : 0 ≤ c ∧ c < 128
 ·obtain ⟨h1, h2⟩ := h
  obtain ⟨n, rfl⟩ : ∃ n : Nat, c = n := ⟨c.toNat, by omega⟩
  have en : (UInt8.ofNat n).toNat = n := by simp; omega
  have w1 : IntKind.u8.wrap (n : Int) = (n : Int) := by simp [IntKind.wrap, IntKind.bits, IntKind.signed]; omega
  have n1 := idxS_ok s (UInt8.ofNat n) H.length H (Nat.le_refl _)
  rw [en] at n1
  have e : decide ((0 : Int) ≤ idxByte s (UInt8.ofNat n)) = hasS s n := by
   rw [Bool.eq_iff_iff, decide_eq_true_iff, idxByte_mem]
   unfold hasS
   rw [List.any_eq_true]
   constructor
   ·intro hm; exact ⟨_, hm, by rw [en]; simp⟩
   ·rintro ⟨b, hb, he⟩
    have : b = UInt8.ofNat n := by
     have he' : (b.toNat : Int) = n := of_decide_eq_true he
     rw [← UInt8.toNat_inj, en]; omega
    rw [← this]; exact hb
  simp only [w9, simprocAttr, u185, hlen, a0, a1, h1, h2, w1, n1, e]
  exact Fin_pure (l := [.bool (hasS s n)]) (by simp [w9, hlen]) (.still rfl) (by simp)
 ·have hf : hasS s c = false := by
   unfold hasS
   rw [List.any_eq_false]
   intro b hb he
   have := hs b hb
   simp at this he
   omega
  rw [hf]
  by_cases h1 : 0 ≤ c
  ·have h2 : ¬ c < 128 := fun h2 => h ⟨h1, h2⟩
   simp only [w9, simprocAttr, hlen, a1, h1, h2]
   exact Fin_pure (l := [.bool false]) (by simp [w9, hlen]) (.still rfl) (by simp)
  ·simp only [w9, simprocAttr, hlen, a1, h1]
   exact Fin_pure (l := [.bool false]) (by simp [w9, hlen]) (.still rfl) (by simp)
def wordyCX (c : Int) : Bool := decide (48 ≤ c ∧ c ≤ 57) || (decide (97 ≤ c ∧ c ≤ 122) || decide (65 ≤ c ∧ c ≤ 90))
theorem wordy_okX (c : Int) (prot : Nat) (H : Heap) (hp : prot ≤ H.length) : aLim cfg prot 205 [.int .i32 c] H = some (.bool (wordyCX c), none) := by
 have hc : (48 ≤ c ∧ c ≤ 57) ∨ (97 ≤ c ∧ c ≤ 122) ∨ (65 ≤ c ∧ c ≤ 90) ∨ (c < 48) ∨ (57 < c ∧ c < 65) ∨ (90 < c ∧ c < 97) ∨ 122 < c := by omega
 have hw : wordyCX c = decide ((48 ≤ c ∧ c ≤ 57) ∨ (97 ≤ c ∧ c ≤ 122) ∨ (65 ≤ c ∧ c ≤ 90)) := by simp [wordyCX]
 rw [hw]
 refine pure_slim rfl (by kernel_rfl) Tryz.func205 s205 hp rfl (by simp [Tryz.f205]) fun fr hlen h => ?_
 simp only [Has] at h
 obtain ⟨a0, -⟩ := h
 simp only [Tryz.f205] at hlen ⊢
 unfold g205
 rcases hc with h | h | h | h | h | h | h
 ·rw [decide_eq_true (by omega)]
  have d1 : decide (48 ≤ c) = true := decide_eq_true (by omega)
  have d2 : decide (c ≤ 57) = true := decide_eq_true (by omega)
  simp only [w9, simprocAttr, hlen, a0, d1, d2, none_beq]
  exact Fin_pure (l := [.bool true]) (by simp [w9, hlen]) (.still rfl) (by simp)
 ·rw [decide_eq_true (by omega)]
  have d1 : decide (48 ≤ c) = true := decide_eq_true (by omega)
  have d2 : decide (c ≤ 57) = false := decide_eq_false (by omega)
  have d3 : decide (97 ≤ c) = true := decide_eq_true (by omega)
  have d4 : decide (c ≤ 122) = true := decide_eq_true (by omega)
  simp only [w9, simprocAttr, hlen, a0, d1, d2, d3, d4, none_beq]
  exact Fin_pure (l := [.bool true]) (by simp [w9, hlen]) (.still rfl) (by simp)
 ·rw [decide_eq_true (by omega)]
  have d1 : decide (48 ≤ c) = true := decide_eq_true (by omega)
  have d2 : decide (c ≤ 57) = false := decide_eq_false (by omega)
  have d3 : decide (97 ≤ c) = false := decide_eq_false (by omega)
  have d5 : decide (65 ≤ c) = true := decide_eq_true (by omega)
  have d6 : decide (c ≤ 90) = true := decide_eq_true (by omega)
  simp only [w9, simprocAttr, hlen, a0, d1, d2, d3, d5, d6]
  exact Fin_pure (l := [.bool true]) (by simp [w9, hlen]) (.still rfl) (by simp)
 ·rw [decide_eq_false (by omega)]
  have d1 : decide (48 ≤ c) = false := decide_eq_false (by omega)
  have d3 : decide (97 ≤ c) = false := decide_eq_false (by omega)
  have d5 : decide (65 ≤ c) = false := decide_eq_false (by omega)
  simp only [w9, simprocAttr, hlen, a0, d1, d3, d5]
  exact Fin_pure (l := [.bool false]) (by simp [w9, hlen]) (.still rfl) (by simp)
 ·rw [decide_eq_false (by omega)]
  have d1 : decide (48 ≤ c) = true := decide_eq_true (by omega)
  have d2 : decide (c ≤ 57) = false := decide_eq_false (by omega)
  have d3 : decide (97 ≤ c) = false := decide_eq_false (by omega)
  have d5 : decide (65 ≤ c) = false := decide_eq_false (by omega)
  simp only [w9, simprocAttr, hlen, a0, d1, d2, d3, d5]
  exact Fin_pure (l := [.bool false]) (by simp [w9, hlen]) (.still rfl) (by simp)
 ·rw [decide_eq_false (by omega)]
  have d1 : decide (48 ≤ c) = true := decide_eq_true (by omega)
  have d2 : decide (c ≤ 57) = false := decide_eq_false (by omega)
  have d3 : decide (97 ≤ c) = false := decide_eq_false (by omega)
  have d5 : decide (65 ≤ c) = true := decide_eq_true (by omega)
  have d6 : decide (c ≤ 90) = false := decide_eq_false (by omega)
  simp only [w9, simprocAttr, hlen, a0, d1, d2, d3, d5, d6]
  exact Fin_pure (l := [.bool false]) (by simp [w9, hlen]) (.still rfl) (by simp)
 ·rw [decide_eq_false (by omega)]
  have d1 : decide (48 ≤ c) = true := decide_eq_true (by omega)
  have d2 : decide (c ≤ 57) = false := decide_eq_false (by omega)
  have d3 : decide (97 ≤ c) = true := decide_eq_true (by omega)
  have d4 : decide (c ≤ 122) = false := decide_eq_false (by omega)
  have d5 : decide (65 ≤ c) = true := decide_eq_true (by omega)
  have d6 : decide (c ≤ 90) = false := decide_eq_false (by omega)
  simp only [w9, simprocAttr, hlen, a0, d1, d2, d3, d4, d5, d6]
  exact Fin_pure (l := [.bool false]) (by simp [w9, hlen]) (.still rfl) (by simp)
theorem one_ok (s : AV) (hs : s.leaf = true) (hc : s.cells = [s]) (hf : ∀ K n, Frz K n s s) (prot : Nat) (H : Heap) (hp : prot ≤ H.length) (hsnap : snap H [s] = some ([s], false)) : aLim cfg prot 201 [s] H = some (.agg [.int .i64 1, .bool false, s, .int .i64 0, .int .i64 0, .nilS], none) := by
 unfold AV.leaf at hs
 unfold AV.cells at hc
 refine pure_slim rfl (by kernel_rfl) Tryz.func201 s201 hp hsnap (by simp [Tryz.f201]) fun fr hlen h => ?_
 simp only [Has] at h
 obtain ⟨a0, -⟩ := h
 simp only [Tryz.f201] at hlen ⊢
 unfold g201
 simp only [w9, simprocAttr, u185, hlen, a0, hs, hc]
 exact Fin_pure (l := [.agg [.int .i64 1, .bool false, s, .int .i64 0, .int .i64 0, .nilS]]) (by simp [w9, u185, hlen, hget]) (.agg (.cons (.still rfl) (.cons (.still rfl) (.cons (hf _ _) (.cons (.still rfl) (.cons (.still rfl) (.cons (.still rfl) .nil))))))) (by simp)
open Go Go.Abs AbsSeat Ty
def escSX (c : Int) : List Sg × Bool := if c = 100 then ([⟨48, 57⟩], true) else if c = 119 then ([⟨97, 122⟩, ⟨65, 90⟩, ⟨48, 57⟩, ⟨95, 95⟩], true) else if c = 115 then ([⟨9, 9⟩, ⟨10, 10⟩, ⟨13, 13⟩, ⟨32, 32⟩], true)
 else ([⟨c, c⟩], decide (32 < c) && decide (c < 127) && !wordyCX c)
theorem esc_ok (l : List Int) (L : AV) (hL : Sl encI L l) (hl : Runes l) (at_ b : Nat) (hat : at_ ≤ 2000000) (prot : Nat) (H : Heap) (hp : prot ≤ b) (hg : hget H b 0 = some [L, .int .i64 at_]) :
  aLim cfg prot 200 [.ptr b 0 0] H = some (.tup [.vs ((escSX (pk l at_)).1.map encG) true, .bool (escSX (pk l at_)).2], some (H.set b (.cells 0 [L, .int .i64 ((at_ + 1 : Nat))]))) := by
 have hb := hget_lt hg
 have n1 := peek_ok l L hL hl at_ b prot H (by omega) hg
 have hww : IntKind.i64.wrap ((at_ : Int) + 1) = ((at_ + 1 : Nat) : Int) := by rw [wrap64 (by omega) (by omega)]; simp
 have hput1 : hput prot H b 0 1 [.int .i64 ((at_ + 1 : Nat))] = some (H.set b (.cells 0 [L, .int .i64 ((at_ + 1 : Nat))])) := by
  rw [hput_eq hg hp (by simp) (by simp [AV.leaf])]; rfl
 have hLb : AV.blwL H.length [L, .int .i64 ((at_ + 1 : Nat))] = true := plL_blwL _ _ (slI_plain hL _)
 have kp := (Kp.start hg).put hLb
 have n2 := wordy_okX (pk l at_) prot (H.set b (.cells 0 [L, .int .i64 ((at_ + 1 : Nat))])) (by simp; omega)
 have hfz : ∀ (K : Heap) (m : List Sg) (y : Bool), Frz K H.length (packR [.vs (m.map encG) true, .bool y]) (.tup [.vs (m.map encG) true, .bool y]) := fun K m y => .tup (.cons (.still rfl) (.cons (.still rfl) .nil))
 generalize pk l at_ = c at *
 refine trim_slim rfl (by kernel_rfl) (by kernel_rfl) (by kernel_rfl) Tryz.func200 s200 (by simp [Tryz.f200]) fun fr hlen h => ?_
 simp only [Has] at h
 obtain ⟨a0, -⟩ := h
 simp only [Tryz.f200] at hlen ⊢
 unfold g200
 by_cases h1 : c = 100
 ·subst h1
  have e : escSX 100 = ([⟨48, 57⟩], true) := rfl
  rw [e]
  simp only [w9, simprocAttr, u185, hlen, a0, n1, hg, hww, hput1, litG1]
  exact kp.fin (l := [.vs (([⟨48, 57⟩] : List Sg).map encG) true, .bool true]) (by simp [w9, hlen]) (hfz _ _ _)
 by_cases h2 : c = 119
 ·subst h2
  have e : escSX 119 = ([⟨97, 122⟩, ⟨65, 90⟩, ⟨48, 57⟩, ⟨95, 95⟩], true) := rfl
  rw [e]
  simp only [w9, simprocAttr, u185, hlen, a0, n1, hg, hww, hput1, litG4]
  exact kp.fin (l := [.vs (([⟨97, 122⟩, ⟨65, 90⟩, ⟨48, 57⟩, ⟨95, 95⟩] : List Sg).map encG) true, .bool true]) (by simp [w9, hlen]) (hfz _ _ _)
 by_cases h3 : c = 115
 ·subst h3
  have e : escSX 115 = ([⟨9, 9⟩, ⟨10, 10⟩, ⟨13, 13⟩, ⟨32, 32⟩], true) := rfl
  rw [e]
  simp only [w9, simprocAttr, u185, hlen, a0, n1, hg, hww, hput1, litG4]
  exact kp.fin (l := [.vs (([⟨9, 9⟩, ⟨10, 10⟩, ⟨13, 13⟩, ⟨32, 32⟩] : List Sg).map encG) true, .bool true]) (by simp [w9, hlen]) (hfz _ _ _)
 have e : escSX c = ([⟨c, c⟩], decide (32 < c) && decide (c < 127) && !wordyCX c) := by simp [escSX, h1, h2, h3]
 rw [e]
 have d1 : decide (c = 100) = false := by simp [h1]
 have d2 : decide (c = 119) = false := by simp [h2]
 have d3 : decide (c = 115) = false := by simp [h3]
 by_cases h4 : 32 < c
 ·by_cases h5 : c < 127
  ·simp only [w9, simprocAttr, u185, hlen, a0, n1, n2, hg, hww, hput1, litG1, d1, d2, d3, h4, h5]
   exact kp.fin (l := [.vs (([⟨c, c⟩] : List Sg).map encG) true, .bool (!wordyCX c)]) (by simp [w9, hlen]) (hfz _ _ _)
  ·simp only [w9, simprocAttr, u185, hlen, a0, n1, hg, hww, hput1, litG1, d1, d2, d3, h4, h5]
   exact kp.fin (l := [.vs (([⟨c, c⟩] : List Sg).map encG) true, .bool false]) (by simp [w9, hlen]) (hfz _ _ _)
 ·simp only [w9, simprocAttr, u185, hlen, a0, n1, hg, hww, hput1, litG1, d1, d2, d3, h4]
  exact kp.fin (l := [.vs (([⟨c, c⟩] : List Sg).map encG) true, .bool false]) (by simp [w9, hlen]) (hfz _ _ _)
def dgC (c : Int) : Bool := decide (48 ≤ c ∧ c ≤ 57)
theorem dgC_iff {c : Int} : dgC c = true ↔ 48 ≤ c ∧ c ≤ 57 := by simp [dgC]
def numL (l : List Int) (i : Nat) : Nat := if dgC (pk l i) then if dgC (pk l (i + 1)) then 2 else 1 else 0
def numV (l : List Int) (i : Nat) : Int := if dgC (pk l i) then if dgC (pk l (i + 1)) then 10 * (pk l i - 48) + (pk l (i + 1) - 48) else pk l i - 48 else 0
def numB (l : List Int) (i : Nat) : Bool := decide (0 < numL l i) && decide (numV l i ≤ 16)
theorem numL_in {l : List Int} {i : Nat} (h : i ≤ l.length) : i + numL l i ≤ l.length := by
 unfold numL
 split
 ·rename_i h1
  have h1 := dgC_iff.1 h1
  have := pk_in (l := l) (i := i) (by omega)
  split
  ·rename_i h2
   have h2 := dgC_iff.1 h2
   have := pk_in (l := l) (i := i + 1) (by omega)
   omega
  ·omega
 ·omega
theorem numL_lt {l : List Int} {i k : Nat} (hk : k ≤ numL l i) : k < numL l i ↔ k < 2 ∧ dgC (pk l (i + k)) = true := by
 unfold numL at hk ⊢
 by_cases h1 : dgC (pk l i) = true
 ·by_cases h2 : dgC (pk l (i + 1)) = true
  ·simp only [h1, h2, if_true] at hk ⊢
   have : k = 0 ∨ k = 1 ∨ k = 2 := by omega
   rcases this with rfl | rfl | rfl <;> simp [h1, h2]
  ·simp only [h1, h2, if_true, Bool.false_eq_true, if_false] at hk ⊢
   have : k = 0 ∨ k = 1 := by omega
   rcases this with rfl | rfl <;> simp [h1, h2]
 ·simp only [h1, Bool.false_eq_true, if_false] at hk ⊢
  have : k = 0 := by omega
  subst this; simp [h1]
theorem encR_dg {c : Int} (h : 48 ≤ c ∧ c ≤ 57) : encR c = [UInt8.ofNat c.toNat] := by
 have : c = 48 ∨ c = 49 ∨ c = 50 ∨ c = 51 ∨ c = 52 ∨ c = 53 ∨ c = 54 ∨ c = 55 ∨ c = 56 ∨ c = 57 := by omega
 rcases this with rfl | rfl | rfl | rfl | rfl | rfl | rfl | rfl | rfl | rfl <;> decide
theorem num_size (l : List Int) (i : Nat) : sizeU (((l.drop i).take (numL l i)).flatMap encR) = (numV l i, if numL l i = 0 then 3 else 0) := by
 unfold numL numV
 by_cases h1 : dgC (pk l i) = true
 ·have h1' := dgC_iff.1 h1
  have hi1 := pk_in (l := l) (i := i) (by omega)
  have hd1 : l.drop i = l[i] :: l.drop (i + 1) := by simp
  rw [pk_lt hi1] at h1 h1' ⊢
  by_cases h2 : dgC (pk l (i + 1)) = true
  ·have h2' := dgC_iff.1 h2
   have hi2 := pk_in (l := l) (i := i + 1) (by omega)
   have hd2 : l.drop (i + 1) = l[i + 1] :: l.drop (i + 2) := by simp
   rw [pk_lt hi2] at h2 h2' ⊢
   rw [hd1, hd2]
   generalize l[i] = c at *
   generalize l[i + 1] = d at *
   simp only [h1, h2, if_true, List.take_succ_cons, List.take_zero, List.flatMap_cons, List.flatMap_nil, encR_dg h1', encR_dg h2', List.append_nil, List.cons_append, List.nil_append]
   obtain ⟨x, rfl⟩ : ∃ x : Nat, c = x := ⟨c.toNat, by omega⟩
   obtain ⟨y, rfl⟩ : ∃ y : Nat, d = y := ⟨d.toNat, by omega⟩
   have ex : (UInt8.ofNat x).toNat = x := by simp; omega
   have ey : (UInt8.ofNat y).toNat = y := by simp; omega
   have cx : digitC x = true := by simp [digitC]; omega
   have cy : digitC y = true := by simp [digitC]; omega
   simp only [Int.toNat_natCast, sizeU, List.all_cons, List.all_nil, ex, ey, cx, cy, digGo]
   rw [if_neg (by simp), if_neg (by omega), if_neg (by omega)]
   simp
   omega
  ·rw [hd1]
   generalize l[i] = c at *
   simp only [h1, h2, if_true, Bool.false_eq_true, if_false, List.take_succ_cons, List.take_zero, List.flatMap_cons, List.flatMap_nil, encR_dg h1', List.append_nil]
   obtain ⟨x, rfl⟩ : ∃ x : Nat, c = x := ⟨c.toNat, by omega⟩
   have ex : (UInt8.ofNat x).toNat = x := by simp; omega
   have cx : digitC x = true := by simp [digitC]; omega
   simp only [Int.toNat_natCast, sizeU, List.all_cons, List.all_nil, ex, cx, digGo]
   rw [if_neg (by simp), if_neg (by omega)]
   simp
   omega
 ·simp [h1, sizeU]
theorem encR_le (n : Int) : (encR n).length ≤ 4 := by
 unfold encR Utf8.encode
 split <;> simp
 all_goals
  split
  ·exact Nat.le_of_ble_eq_true rfl
  ·split
   ·exact Nat.le_of_ble_eq_true rfl
   ·split <;> exact Nat.le_of_ble_eq_true rfl
theorem runes_cells (l : List Int) : runesOf (cellsOf encI l) = some l := by
 induction l with
 | nil => rfl
 | cons x r ih =>
  have : cellsOf encI (x :: r) = .int .i32 x :: cellsOf encI r := rfl
  rw [this, runesOf, ih]; rfl
theorem runes_str {v : AV} {l : List Int} (hv : Sl encI v l) (H : Heap) : aConvert Tryz.prog H 206 9 v = some (.str (l.flatMap encR), none) := by
 have he := hv.elems encI_T H
 cases hv <;> simp only [aConvert, Tryz.underlying206, Tryz.underlying21, Tryz.underlying9, he, Option.bind_some, runes_cells, Option.map_some]
theorem number_okX (l : List Int) (L : AV) (hL : Sl encI L l) (hl : Runes l) (at_ b : Nat) (hat : at_ ≤ l.length) (prot : Nat) (H : Heap) (hp : prot ≤ b) (hg : hget H b 0 = some [L, .int .i64 at_]) :
  aLim cfg prot 203 [.ptr b 0 0] H = some (.tup [.int .i64 (numV l at_), .bool (numB l at_)], some (H.set b (.cells 0 [L, .int .i64 ((at_ + numL l at_ : Nat))]))) := by
 have hb := hget_lt hg
 have hll := hl.1
 have hin := numL_in hat
 have kp0 := Kp.start hg
 have hfz : ∀ (K : Heap) (x : Int) (y : Bool), Frz K H.length (packR [.int .i64 x, .bool y]) (.tup [.int .i64 x, .bool y]) := fun K x y => .tup (.cons (.still rfl) (.cons (.still rfl) .nil))
 refine trim_slim rfl (by kernel_rfl) (by kernel_rfl) (by kernel_rfl) Tryz.func203 s203 (by simp [Tryz.f203]) fun fr hlen h => ?_
 simp only [Has] at h
 obtain ⟨a0, -⟩ := h
 simp only [Tryz.f203] at hlen ⊢
 unfold g203
 simp only [w9, simprocAttr, u185, hlen, a0, hg]
 refine loop_rule (fun m fr H' => ∃ (k : Nat), m = numL l at_ - k ∧ k ≤ numL l at_ ∧ fr.length = 85 ∧ fget fr 0 = .ptr b 0 0 ∧ fget fr 4 = .int .i64 at_ ∧ Kp H b [L, .int .i64 ((at_ + k : Nat))] H') ?_ (numL l at_) _ _ ⟨0, by
   refine ⟨by omega, by omega, ?_⟩
   simp [w9, hlen, a0]
   exact kp0⟩
 rintro m fr H' ⟨k, rfl, hk, hlen, a0, a4, kp⟩ ih
 have hlt := numL_lt hk
 have hg' := kp.get
 have w1 : IntKind.i64.wrap (((at_ + k : Nat) : Int) - (at_ : Nat)) = (k : Nat) := by rw [wrap64 (by omega) (by omega)]; omega
 have hL1 := hL.len Tryz.underlying206 (H := H')
 have hww : IntKind.i64.wrap (((at_ + k : Nat) : Int) + 1) = ((at_ + k + 1 : Nat) : Int) := by rw [wrap64 (by omega) (by omega)]; simp
 by_cases hc : k < numL l at_
 ·obtain ⟨hk2, hd⟩ := hlt.1 hc
  have hd := dgC_iff.1 hd
  have hi := pk_in (l := l) (i := at_ + k) (by omega)
  have e1 := hL.at (k := .i64) (i := at_ + k) Tryz.underlying206 sz21 encI_len hi
  rw [pk_lt hi] at hd
  generalize l[at_ + k] = c at *
  have d1 : decide (((at_ + k : Nat) : Int) < (l.length : Nat)) = true := decide_eq_true (by omega)
  have d2 : decide ((k : Int) < 2) = true := decide_eq_true (by omega)
  have d3 : decide (48 ≤ c) = true := decide_eq_true (by omega)
  have d4 : decide (c ≤ 57) = true := decide_eq_true (by omega)
  have hput1 : hput prot H' b 0 1 [.int .i64 ((at_ + k + 1 : Nat))] = some (H'.set b (.cells 0 [L, .int .i64 ((at_ + k + 1 : Nat))])) := by
   rw [hput_eq hg' hp (by simp) (by simp [AV.leaf])]; rfl
  have hLb : AV.blwL H.length [L, .int .i64 ((at_ + k + 1 : Nat))] = true := plL_blwL _ _ (slI_plain hL _)
  simp only [w9, simprocAttr, u185, hlen, a0, a4, hg', hL1, w1, e1, encI, d1, d2, d3, d4, hww, hput1]
  refine ih _ _ (numL l at_ - (k + 1)) (by omega) ⟨k + 1, rfl, by omega, ?_⟩
  have := kp.put hLb
  simp [w9, hlen, a0, a4]
  exact this
 ·obtain rfl : k = numL l at_ := by omega
  have hnb : numB l at_ = (decide (0 < numL l at_) && decide (numV l at_ ≤ 16)) := rfl
  have hsz := num_size l at_
  obtain ⟨v2, e2, hv2⟩ := Sl_mid hL (lo := at_) (hi := at_ + numL l at_) Tryz.underlying206 sz21 encI_len (by omega) hin
  rw [show at_ + numL l at_ - at_ = numL l at_ by omega] at hv2
  have e3 := runes_str hv2 H'
  have n1 := size_ok (((l.drop at_).take (numL l at_)).flatMap encR) (by
   have : ∀ m : List Int, (m.flatMap encR).length ≤ 4 * m.length := fun m => by
    induction m with
    | nil => simp
    | cons x r ih =>
     have : (encR x).length ≤ 4 := encR_le x
     simp only [List.flatMap_cons, List.length_append, List.length_cons]
     omega
   have := this ((l.drop at_).take (numL l at_))
   rw [List.length_take, List.length_drop] at this
   omega) prot H' (by have := kp.len; omega)
  rw [hsz] at n1
  have hdis : l.length ≤ at_ + numL l at_ ∨ (at_ + numL l at_ < l.length ∧ 2 ≤ numL l at_) ∨ (∃ h : at_ + numL l at_ < l.length, numL l at_ < 2 ∧ l[at_ + numL l at_] < 48) ∨ (∃ h : at_ + numL l at_ < l.length, numL l at_ < 2 ∧ ¬ l[at_ + numL l at_] < 48 ∧ 57 < l[at_ + numL l at_]) := by
   by_cases h1 : l.length ≤ at_ + numL l at_
   ·exact .inl h1
   ·have hi : at_ + numL l at_ < l.length := by omega
    by_cases h2 : 2 ≤ numL l at_
    ·exact .inr (.inl ⟨hi, h2⟩)
    ·have h3 : ¬ dgC (pk l (at_ + numL l at_)) = true := fun h => hc (hlt.2 ⟨by omega, h⟩)
     rw [pk_lt hi, dgC_iff] at h3
     by_cases h4 : l[at_ + numL l at_] < 48
     ·exact .inr (.inr (.inl ⟨hi, by omega, h4⟩))
     ·exact .inr (.inr (.inr ⟨hi, by omega, h4, by omega⟩))
  generalize numB l at_ = nb at *
  generalize numV l at_ = nv at *
  have hfin : ∀ fr' H'', H'' = H' → aResults cfg.P fr' H' [ResultVar.tmp 2, ResultVar.tmp 3] = some [.int .i64 nv, .bool nb] → Fin ⟨cfg, prot, [ResultVar.tmp 2, ResultVar.tmp 3], .trim H⟩ fr' H'' (.tup [.int .i64 nv, .bool nb], some (H.set b (.cells 0 [L, .int .i64 ((at_ + numL l at_ : Nat))]))) := fun fr' H'' e h => by
   subst e
   exact kp.fin h (hfz _ _ _)
  have hb3 : (if numL l at_ = 0 then (3 : Int) else 0) = 0 ↔ 0 < numL l at_ := by split <;> omega
  generalize (if numL l at_ = 0 then (3 : Int) else 0) = u at *
  have hend : u = 0 ∧ nb = decide (nv ≤ 16) ∨ u ≠ 0 ∧ nb = false := by
   by_cases h0 : u = 0
   ·exact .inl ⟨h0, by rw [hnb, decide_eq_true (hb3.1 h0), Bool.true_and]⟩
   ·exact .inr ⟨h0, by rw [hnb, decide_eq_false (fun h => h0 (hb3.2 h)), Bool.false_and]⟩
  clear hnb hb3 hsz
  rcases hdis with h1 | ⟨h1, h2⟩ | ⟨h1, h2, h3⟩ | ⟨h1, h2, h3, h4⟩
  ·have d1 : decide (((at_ + numL l at_ : Nat) : Int) < (l.length : Nat)) = false := decide_eq_false (by omega)
   rcases hend with ⟨rfl, rfl⟩ | ⟨hu, rfl⟩
   ·simp only [w9, simprocAttr, u185, hlen, a0, a4, hg', hL1, d1, e2, e3, n1]
    exact hfin _ _ rfl (by simp [w9, hlen])
   ·have d5 : decide (u = 0) = false := decide_eq_false hu
    simp only [w9, simprocAttr, u185, hlen, a0, a4, hg', hL1, d1, e2, e3, n1, d5]
    exact hfin _ _ rfl (by simp [w9, hlen])
  ·have d1 : decide (((at_ + numL l at_ : Nat) : Int) < (l.length : Nat)) = true := decide_eq_true (by omega)
   have d2 : decide ((numL l at_ : Int) < 2) = false := decide_eq_false (by omega)
   rcases hend with ⟨rfl, rfl⟩ | ⟨hu, rfl⟩
   ·simp only [w9, simprocAttr, u185, hlen, a0, a4, hg', hL1, w1, d1, d2, e2, e3, n1]
    exact hfin _ _ rfl (by simp [w9, hlen])
   ·have d5 : decide (u = 0) = false := decide_eq_false hu
    simp only [w9, simprocAttr, u185, hlen, a0, a4, hg', hL1, w1, d1, d2, e2, e3, n1, d5]
    exact hfin _ _ rfl (by simp [w9, hlen])
  ·have d1 : decide (((at_ + numL l at_ : Nat) : Int) < (l.length : Nat)) = true := decide_eq_true (by omega)
   have d2 : decide ((numL l at_ : Int) < 2) = true := decide_eq_true (by omega)
   have e1 := hL.at (k := .i64) (i := at_ + numL l at_) Tryz.underlying206 sz21 encI_len h1
   have d3 : decide (48 ≤ l[at_ + numL l at_]) = false := decide_eq_false (by omega)
   rcases hend with ⟨rfl, rfl⟩ | ⟨hu, rfl⟩
   ·simp only [w9, simprocAttr, u185, hlen, a0, a4, hg', hL1, w1, d1, d2, e1, encI, d3, e2, e3, n1]
    exact hfin _ _ rfl (by simp [w9, hlen])
   ·have d5 : decide (u = 0) = false := decide_eq_false hu
    simp only [w9, simprocAttr, u185, hlen, a0, a4, hg', hL1, w1, d1, d2, e1, encI, d3, e2, e3, n1, d5]
    exact hfin _ _ rfl (by simp [w9, hlen])
  ·have d1 : decide (((at_ + numL l at_ : Nat) : Int) < (l.length : Nat)) = true := decide_eq_true (by omega)
   have d2 : decide ((numL l at_ : Int) < 2) = true := decide_eq_true (by omega)
   have e1 := hL.at (k := .i64) (i := at_ + numL l at_) Tryz.underlying206 sz21 encI_len h1
   have d3 : decide (48 ≤ l[at_ + numL l at_]) = true := decide_eq_true (by omega)
   have d4 : decide (l[at_ + numL l at_] ≤ 57) = false := decide_eq_false (by omega)
   rcases hend with ⟨rfl, rfl⟩ | ⟨hu, rfl⟩
   ·simp only [w9, simprocAttr, u185, hlen, a0, a4, hg', hL1, w1, d1, d2, e1, encI, d3, d4, e2, e3, n1]
    exact hfin _ _ rfl (by simp [w9, hlen])
   ·have d5 : decide (u = 0) = false := decide_eq_false hu
    simp only [w9, simprocAttr, u185, hlen, a0, a4, hg', hL1, w1, d1, d2, e1, encI, d3, d4, e2, e3, n1, d5]
    exact hfin _ _ rfl (by simp [w9, hlen])
structure Tm where
 lo : Int
 hi : Int
 ok : Bool
 at_ : Nat
def timesS (l : List Int) (i : Nat) : Tm :=
 let j := i + numL l i
 if numB l i then
  if pk l j = 44 then
   if pk l (j + 1) = 125 then ⟨numV l i, -1, true, j + 2⟩
   else if numB l (j + 1) && decide (numV l i ≤ numV l (j + 1)) then
    if pk l (j + 1 + numL l (j + 1)) = 125 then ⟨numV l i, numV l (j + 1), true, j + 1 + numL l (j + 1) + 1⟩ else ⟨numV l i, numV l (j + 1), false, j + 1 + numL l (j + 1)⟩
   else ⟨0, 0, false, j + 1 + numL l (j + 1)⟩
  else if pk l j = 125 then ⟨numV l i, numV l i, true, j + 1⟩ else ⟨numV l i, numV l i, false, j⟩
 else ⟨0, 0, false, j⟩
theorem times_ok (l : List Int) (L : AV) (hL : Sl encI L l) (hl : Runes l) (at_ b : Nat) (hat : at_ ≤ l.length) (prot : Nat) (H : Heap) (hp : prot ≤ b) (hg : hget H b 0 = some [L, .int .i64 at_]) :
  aLim cfg prot 194 [.ptr b 0 0] H = some (.tup [.int .i64 (timesS l at_).lo, .int .i64 (timesS l at_).hi, .bool (timesS l at_).ok], some (H.set b (.cells 0 [L, .int .i64 ((timesS l at_).at_ : Nat)]))) := by
 have hb := hget_lt hg
 have hll := hl.1
 have hin := numL_in hat
 have hset : ∀ (c d : List AV), (H.set b (.cells 0 c)).set b (.cells 0 d) = H.set b (.cells 0 d) := fun c d => List.set_set ..
 have hLb : ∀ x : Int, AV.blwL H.length [L, .int .i64 x] = true := fun x => plL_blwL _ _ (slI_plain hL _)
 have kp := fun x => (Kp.start hg).put (hLb x)
 have hfz : ∀ (K : Heap) (x y : Int) (z : Bool), Frz K H.length (packR [.int .i64 x, .int .i64 y, .bool z]) (.tup [.int .i64 x, .int .i64 y, .bool z]) := fun K x y z => .tup (.cons (.still rfl) (.cons (.still rfl) (.cons (.still rfl) .nil)))
 have hgs : ∀ c, hget (H.set b (.cells 0 c)) b 0 = some c := fun c => hget_set_at hb
 have n1 := number_okX l L hL hl at_ b hat prot H hp hg
 have n2 := take_ok l L hL hl (at_ + numL l at_) b 44 (by omega) prot _ hp (hgs [L, .int .i64 ((at_ + numL l at_ : Nat))])
 have n3 := take_ok l L hL hl (at_ + numL l at_) b 125 (by omega) prot _ hp (hgs [L, .int .i64 ((at_ + numL l at_ : Nat))])
 rw [hset] at n2 n3
 unfold timesS
 generalize hj : at_ + numL l at_ = j at *
 refine trim_slim rfl (by kernel_rfl) (by kernel_rfl) (by kernel_rfl) Tryz.func194 s194 (by simp [Tryz.f194]) fun fr hlen h => ?_
 simp only [Has] at h
 obtain ⟨a0, -⟩ := h
 simp only [Tryz.f194] at hlen ⊢
 unfold g194
 cases hn : numB l at_ with
 | false =>
  simp only [Bool.false_eq_true, if_false]
  simp only [w9, simprocAttr, hlen, a0, n1, hn]
  exact (kp _).fin (l := [.int .i64 0, .int .i64 0, .bool false]) (by simp [w9, hlen]) (hfz _ _ _ _)
 | true =>
  simp only [if_true]
  by_cases h1 : pk l j = 44
  ·have h1' : ¬ pk l j = 125 := by rw [h1]; decide
   have hj1 := pk_in (l := l) (i := j) (by rw [h1]; decide)
   simp only [h1, if_true, decide_true] at n2 ⊢
   have n4 := peek_ok l L hL hl (j + 1) b prot _ (by simp; omega) (hgs [L, .int .i64 ((j + 1 : Nat))])
   have n5 := take_ok l L hL hl (j + 1) b 125 (by omega) prot _ hp (hgs [L, .int .i64 ((j + 1 : Nat))])
   have n6 := number_okX l L hL hl (j + 1) b (by omega) prot _ hp (hgs [L, .int .i64 ((j + 1 : Nat))])
   have hin2 := numL_in (l := l) (i := j + 1) (by omega)
   rw [hset] at n5 n6
   by_cases h2 : pk l (j + 1) = 125
   ·have d2 : decide (¬ pk l (j + 1) = 125) = false := by simp [h2]
    simp only [h2, if_true, decide_true] at n5 ⊢
    simp only [w9, simprocAttr, hlen, a0, n1, hn, n2, n4, n5, h2]
    exact (kp _).fin (l := [.int .i64 (numV l at_), .int .i64 (-1), .bool true]) (by simp [w9, hlen]) (hfz _ _ _ _)
   ·have d2 : decide (¬ pk l (j + 1) = 125) = true := by simp [h2]
    simp only [h2, if_false]
    have n7 := take_ok l L hL hl (j + 1 + numL l (j + 1)) b 125 (by omega) prot _ hp (hgs [L, .int .i64 ((j + 1 + numL l (j + 1) : Nat))])
    rw [hset] at n7
    cases hn2 : numB l (j + 1) with
    | false =>
     simp only [Bool.false_and, Bool.false_eq_true, if_false]
     simp only [w9, simprocAttr, hlen, a0, n1, hn, n2, n4, d2, n6, hn2]
     exact (kp _).fin (l := [.int .i64 0, .int .i64 0, .bool false]) (by simp [w9, hlen]) (hfz _ _ _ _)
    | true =>
     by_cases h3 : numV l at_ ≤ numV l (j + 1)
     ·have d3 : decide (numV l (j + 1) < numV l at_) = false := decide_eq_false (by omega)
      simp only [h3, Bool.true_and, decide_true, if_true]
      by_cases h4 : pk l (j + 1 + numL l (j + 1)) = 125
      ·simp only [h4, if_true, decide_true] at n7 ⊢
       simp only [w9, simprocAttr, hlen, a0, n1, hn, n2, n4, d2, n6, hn2, d3, n7]
       exact (kp _).fin (l := [.int .i64 (numV l at_), .int .i64 (numV l (j + 1)), .bool true]) (by simp [w9, hlen]) (hfz _ _ _ _)
      ·simp only [h4, if_false, decide_false] at n7 ⊢
       simp only [w9, simprocAttr, hlen, a0, n1, hn, n2, n4, d2, n6, hn2, d3, n7]
       exact (kp _).fin (l := [.int .i64 (numV l at_), .int .i64 (numV l (j + 1)), .bool false]) (by simp [w9, hlen]) (hfz _ _ _ _)
     ·have d3 : decide (numV l (j + 1) < numV l at_) = true := decide_eq_true (by omega)
      simp only [h3, Bool.true_and, decide_false, Bool.false_eq_true, if_false]
      simp only [w9, simprocAttr, hlen, a0, n1, hn, n2, n4, d2, n6, hn2, d3]
      exact (kp _).fin (l := [.int .i64 0, .int .i64 0, .bool false]) (by simp [w9, hlen]) (hfz _ _ _ _)
  ·simp only [h1, if_false, decide_false] at n2 ⊢
   by_cases h2 : pk l j = 125
   ·simp only [h2, if_true, decide_true] at n3 ⊢
    simp only [w9, simprocAttr, hlen, a0, n1, hn, n2, n3]
    exact (kp _).fin (l := [.int .i64 (numV l at_), .int .i64 (numV l at_), .bool true]) (by simp [w9, hlen]) (hfz _ _ _ _)
   ·simp only [h2, if_false, decide_false] at n3 ⊢
    simp only [w9, simprocAttr, hlen, a0, n1, hn, n2, n3]
    exact (kp _).fin (l := [.int .i64 (numV l at_), .int .i64 (numV l at_), .bool false]) (by simp [w9, hlen]) (hfz _ _ _ _)
end Go.Proofs.YtnipaiklandliaaGreatDoor
namespace Go.Abs
open Go
theorem raw_slimE {C : Cfg} {prot : Nat} {f : FuncId} {args : List AV} {H : Heap} {fn : Func} {c : Code} {v : AV} {P : Heap → Prop} (hok : C.ok f = true) (hp : C.pure f = false) (hsh : C.shut f = false) (htr : C.trim f = false) (hfn : C.P.funcs[f]? = some fn) (hb : fn.body.map (slim C) = some c)
  (hl : args.length ≤ fn.ntmps)
  (h : ∀ fr, fr.length = fn.ntmps → Has fr 0 args → ∃ H', P H' ∧ R ⟨C, prot, fn.results.toList, .raw⟩ c [] fr H (v, some H')) : ∃ H', P H' ∧ aLim C prot f args H = some (v, some H') := by
 rw [Option.map_eq_some_iff] at hb
 obtain ⟨c0, hb, rfl⟩ := hb
 have h := entered (Q := fun fr => ∃ H', P H' ∧ R ⟨C, prot, fn.results.toList, .raw⟩ (slim C c0) [] fr H (v, some H')) hl h
 obtain ⟨H1, hP, h⟩ := h
 have h := R_slim (X := ⟨C, prot, fn.results.toList, .raw⟩) h
 refine ⟨H1, hP, ?_⟩
 obtain ⟨e, fr', H', h1, h2⟩ := h
 have h1' := aCode_conv (aLim_conv C) _ h1
 have hfin : Fin ⟨C, prot, fn.results.toList, .raw⟩ fr' H' (v, some H1) ∧ ∀ id, e ≠ .exit id := by
  cases e with
  | normal => exact ⟨h2, fun _ h => by cases h⟩
  | ret => exact ⟨h2, fun _ h => by cases h⟩
  | exit id => exact h2.elim
 obtain ⟨⟨l, hr, he⟩, hex⟩ := hfin
 rw [he]
 refine aLim_of ?_
 obtain ⟨n0, h0⟩ := h1'
 refine ⟨n0 + 1, fun n hn => ?_⟩
 obtain ⟨n, rfl⟩ : ∃ j, n = j + 1 := ⟨n - 1, by omega⟩
 have h3 := h0 n (by omega)
 cases e with
 | exit id => exact absurd rfl (hex id)
 | normal => simp only [aCall, hok, Bool.true_eq_false, if_false, hfn, hb, hp, hsh, htr, Bool.false_eq_true, Option.bind_some, aBody, h3, hr, Option.map_some]
 | ret => simp only [aCall, hok, Bool.true_eq_false, if_false, hfn, hb, hp, hsh, htr, Bool.false_eq_true, Option.bind_some, aBody, h3, hr, Option.map_some]
theorem loop_ruleE {X : Ctx} {c : Code} {κ : List K} {v : AV} {P : Heap → Prop} (Inv : Nat → List AV → Heap → Prop)
  (step : ∀ m fr H, Inv m fr H → (∀ fr' H' m', m' < m → Inv m' fr' H' → ∃ Z, P Z ∧ U X (.loop c :: κ) .normal fr' H' (v, some Z)) → ∃ Z, P Z ∧ R X c (.loop c :: κ) fr H (v, some Z)) :
  ∀ (m : Nat) (fr : List AV) (H : Heap), Inv m fr H → ∃ Z, P Z ∧ R X (.loop c) κ fr H (v, some Z) := by
 intro m
 induction m using Nat.strongRecOn with
 | _ m ih =>
  intro fr H h
  simp only [R_loop]
  refine step m fr H h fun fr' H' m' hm h' => ?_
  have := ih m' hm fr' H' h'
  simp only [U_loop, ← R_loop]
  exact this
theorem ex_draw {D : Prop} {P Q : Heap → Prop} (hd : D) (h : ∃ Z, P Z ∧ Q Z) : ∃ Z, P Z ∧ D ∧ Q Z := by
 obtain ⟨Z, h1, h2⟩ := h
 exact ⟨Z, h1, hd, h2⟩
structure EncL {α : Type} (enc : α → AV) (sz : Nat) : Prop where
 len : ∀ x, (enc x).cells.length = sz
 leaf : ∀ x, ∀ c ∈ (enc x).cells, c.leaf = true
theorem EncL.length {α : Type} {enc : α → AV} {sz : Nat} (he : EncL enc sz) (l : List α) : (cellsOf enc l).length = l.length * sz := by
 induction l with
 | nil => simp [cellsOf]
 | cons x r ih =>
  simp only [cellsOf, List.flatMap_cons, List.length_append, List.length_cons, he.len] at ih ⊢
  rw [ih, Nat.add_mul]; omega
theorem EncL.leafs {α : Type} {enc : α → AV} {sz : Nat} (he : EncL enc sz) (l : List α) : (cellsOf enc l).all AV.leaf = true := by
 rw [List.all_eq_true]
 intro c hc
 obtain ⟨x, _, hx⟩ := List.mem_flatMap.1 hc
 exact he.leaf x c hx
theorem EncL.app {α : Type} {enc : α → AV} {sz : Nat} {ag : Bool} (he : EncL enc sz) {P : Program} {t xt e : TypeId} {by_ prot : Nat} (ht : RowT P t e sz by_ ag) (hxt : (∃ e', P.underlying xt = some (.slice e')) ∨ P.underlying xt = some .string) {x : AV} {l m : List α} {H : Heap} {b ver : Nat}
  (hg : hget H b ver = some (cellsOf enc l)) (hv4 : ver % 4 = 0) (hx : elemCells H sz x = some (m.length, cellsOf enc m)) (hm : 0 < m.length) (hr : roomy (l.length + m.length) by_ = true) (hp : prot ≤ b) :
  aAppend P prot H #[t, xt] (.bs ⟨b, ver, 0, l.length, 0, sz, ag, false⟩) x = some (.bs ⟨b, ver + 4, 0, l.length + m.length, 0, sz, ag, false⟩, some (H.set b (Blk.cells (ver + 4) (cellsOf enc (l ++ m))))) := by
 obtain ⟨z, hz, hzl⟩ := ht.zero
 have hm0 : ¬ m.length = 0 := by omega
 have hlf := he.leafs m
 have hw : win (cellsOf enc l) 0 (l.length * sz) = some (cellsOf enc l) := by
  have := he.length l
  simp only [win, Nat.zero_add, List.drop_zero]
  rw [if_pos (by omega), List.take_of_length_le (by omega)]
 rw [cellsOf_append]
 rcases hxt with ⟨e', hu⟩ | hu <;> unfold aAppend <;>
 simp only [List.getElem?_toArray, List.getElem?_cons_zero, List.getElem?_cons_succ, Option.bind_some, ht.elem, ht.size, ht.bytes, ht.agg, hz, hzl, hu, hx, ne_eq, not_true_eq_false, if_false, hlf, if_true, hm0, hr, hg, hw, Bool.false_eq_true,
  hp, rowOk_zero hv4, and_self]
theorem EncL.app0 {α : Type} {enc : α → AV} {sz : Nat} {ag : Bool} (he : EncL enc sz) {P : Program} {t xt e : TypeId} {by_ prot : Nat} (ht : RowT P t e sz by_ ag) (hxt : (∃ e', P.underlying xt = some (.slice e')) ∨ P.underlying xt = some .string) {x : AV} {m : List α} {H : Heap}
  (hx : elemCells H sz x = some (m.length, cellsOf enc m)) (hm : 0 < m.length) (hr : roomy m.length by_ = true) :
  aAppend P prot H #[t, xt] .nilS x = some (.bs ⟨H.length, 0, 0, m.length, 0, sz, ag, false⟩, some (H ++ [Blk.cells 0 (cellsOf enc m)])) := by
 obtain ⟨z, hz, hzl⟩ := ht.zero
 have hm0 : ¬ m.length = 0 := by omega
 have hlf := he.leafs m
 rcases hxt with ⟨e', hu⟩ | hu <;> unfold aAppend <;>
 simp only [ht.row0, List.getElem?_toArray, List.getElem?_cons_zero, List.getElem?_cons_succ, Option.bind_some, ht.elem, ht.size, ht.bytes, ht.agg, hz, hzl, hu, hx, ne_eq, not_true_eq_false, if_false, hlf, if_true, hm0, hr]
structure Frm (H H' : Heap) (b rb : Nat) : Prop where
 len : H.length ≤ H'.length
 keep : ∀ z ver cs, z ≠ b → z ≠ rb → hget H z ver = some cs → hget H' z ver = some cs
theorem Frm.refl (H : Heap) (b rb : Nat) : Frm H H b rb := ⟨Nat.le_refl _, fun _ _ _ _ _ h => h⟩
theorem Frm.trans {H K L : Heap} {b rb : Nat} (h : Frm H K b rb) (k : Frm K L b rb) : Frm H L b rb := ⟨Nat.le_trans h.len k.len, fun z ver cs h1 h2 h3 => k.keep z ver cs h1 h2 (h.keep z ver cs h1 h2 h3)⟩
theorem Frm.more (H : Heap) (b rb : Nat) (x : List Blk) : Frm H (H ++ x) b rb := ⟨by simp, fun _ _ _ _ _ h => hget_mono h x⟩
theorem Frm.set1 (H : Heap) (b rb : Nat) (k : Blk) : Frm H (H.set b k) b rb := ⟨by simp, fun z _ _ h1 _ h => by rw [hget_set_ne h1]; exact h⟩
theorem Frm.set2 (H : Heap) (b rb : Nat) (k : Blk) : Frm H (H.set rb k) b rb := ⟨by simp, fun z _ _ _ h2 h => by rw [hget_set_ne h2]; exact h⟩
theorem Frm.row {α : Type} {enc : α → AV} {sz : Nat} {ag : Bool} {base b rb : Nat} {H K : Heap} {v : AV} {l : List α} (f : Frm H K b rb) (hb : b < base) (hr : rb < base) (h : Row enc sz ag base H v l) : Row enc sz ag base K v l := by
 rcases h with h | ⟨c, ver, h1, h2, h3, h4⟩
 ·exact .inl h
 ·exact .inr ⟨c, ver, h1, h2, f.keep _ _ _ (by omega) (by omega) h3, h4⟩
end Go.Abs
namespace Go.Proofs.YtnipaiklandliaaGreatDoor
open Go Go.Abs AbsSeat Ty
structure St where
 kind : Int
 no : Bool
 sp : List Sg
 one : Int
 two : Int
structure HS where
 kind : Int
 no : Bool
 sv : AV
 lf : sv.leaf = true
 one : Int
 two : Int
def encH (x : HS) : AV := .agg [.int .i64 x.kind, .bool x.no, x.sv, .int .i64 x.one, .int .i64 x.two]
theorem encH_L : EncL encH 5 where
 len _ := rfl
 leaf x c hc := by
  simp only [encH, AV.cells, List.mem_cons, List.not_mem_nil, or_false] at hc
  rcases hc with rfl | rfl | rfl | rfl | rfl <;> first | rfl | exact x.lf
theorem rowSt : RowT Tryz.prog 179 219 5 56 true where
 un := Tryz.underlying179
 size := sz219
 bytes := by219
 agg := ag219
 zero := ⟨_, ze219, rfl⟩
 pos := by decide
 tree := rfl
theorem hxtSt : (∃ e', Tryz.prog.underlying 179 = some (.slice e')) ∨ Tryz.prog.underlying 179 = some .string := .inl ⟨_, Tryz.underlying179⟩
theorem litH (x : HS) (K : Heap) : aBuildSlice Tryz.prog K 179 1 [(0, encH x)] = some (.bs ⟨K.length, 0, 0, 1, 1, 5, true, true⟩, some (K ++ [Blk.cells 0 (encH x).cells])) := by
 have e : (encH x).cells.all AV.leaf = true := List.all_eq_true.2 fun c hc => encH_L.leaf x c hc
 have e2 : fillA (fun i => some (i * 5, 5)) (zrep 1 [.int .i64 0, .bool false, .nilS, .int .i64 0, .int .i64 0]) [(0, encH x)] = some (encH x).cells := rfl
 unfold aBuildSlice
 rw [rowSt.elem, Option.bind_some, rowSt.size, Option.bind_some, rowSt.agg, Option.bind_some, ze219, Option.bind_some]
 rw [if_pos ⟨by decide, rfl, by decide⟩]
 simp only [AV.cells] at e e2 ⊢
 rw [e2, Option.bind_some, if_pos e, if_neg (by decide)]
theorem elemH (x : HS) (K : Heap) : elemCells (K ++ [Blk.cells 0 (encH x).cells]) 5 (.bs ⟨K.length, 0, 0, 1, 1, 5, true, true⟩) = some ([x].length, cellsOf encH [x]) := by
 have hc : cellsOf encH [x] = (encH x).cells := by simp [cellsOf]
 have hg : hget (K ++ [Blk.cells 0 (encH x).cells]) K.length 0 = some (encH x).cells := by rw [hget_new rfl, if_pos rfl]
 have hw : win (encH x).cells 0 (1 * 5) = some (encH x).cells := rfl
 simp only [elemCells, if_true, hg, Option.bind_some, hw, Option.map_some, hc, List.length_cons, List.length_nil, Nat.zero_add]
theorem lenSt (K : Heap) (r v n : Nat) : aLen Tryz.prog K 179 (.bs ⟨r, v, 0, n, 0, 5, true, false⟩) = some (.int .i64 (n : Nat)) := by simp [aLen, Tryz.underlying179]
theorem hxtGs : (∃ e', Tryz.prog.underlying 173 = some (.slice e')) ∨ Tryz.prog.underlying 173 = some .string := .inl ⟨_, Tryz.underlying173⟩
theorem spans_app (v : AV) (sp : List Sg) (hv : Sl encG v sp) (hs : sp.length ≤ 10000000) (prot base : Nat) (K : Heap) (hb : base ≤ K.length) :
  (sp = [] ∧ aAppend Tryz.prog prot K #[173, 173] .nilS v = some (.nilS, none)) ∨
  (sp ≠ [] ∧ ∃ K', aAppend Tryz.prog prot K #[173, 173] .nilS v = some (.bs ⟨K.length, 0, 0, sp.length, 0, 2, true, false⟩, some K') ∧ K' = K ++ [Blk.cells 0 (cellsOf encG sp)] ∧ Row encG 2 true base K' (.bs ⟨K.length, 0, 0, sp.length, 0, 2, true, false⟩) sp) := by
 by_cases h : sp = []
 ·subst h
  exact .inl ⟨rfl, app_zero rowG hxtGs (.inl rfl) (hv.elems encG_T K)⟩
 ·have hpos : 0 < sp.length := List.length_pos_iff.2 h
  have hel : elemCells K 2 v = some (sp.length, cellsOf encG sp) := hv.elems encG_T K
  have happ := (EncL.mk encG_T.len encG_T.leaf).app0 (prot := prot) rowG hxtGs hel hpos (by simp [roomy]; omega)
  exact .inr ⟨h, _, happ, rfl, .inr ⟨_, _, rfl, hb, by rw [hget_new rfl, if_pos rfl], rfl⟩⟩
def encSt (s : St) : AV := .agg [.int .i64 s.kind, .bool s.no, slv encG s.sp, .int .i64 s.one, .int .i64 s.two]
theorem slvG_leaf (l : List Sg) : (slv encG l).leaf = true := by cases l <;> rfl
theorem slvG_still (l : List Sg) : still (slv encG l) = true := by cases l <;> rfl
theorem encSt_T : EncT encSt 5 true where
 len _ := rfl
 leaf x c hc := by
  simp only [encSt, AV.cells, List.mem_cons, List.not_mem_nil, or_false] at hc
  rcases hc with rfl | rfl | rfl | rfl | rfl <;> first | rfl | exact slvG_leaf _
 still x c hc := by
  simp only [encSt, AV.cells, List.mem_cons, List.not_mem_nil, or_false] at hc
  rcases hc with rfl | rfl | rfl | rfl | rfl <;> first | rfl | exact slvG_still _
 shape _ := rfl
open Go Go.Abs AbsSeat Ty
def Sg.has (x : Sg) (r : Int) : Bool := decide (x.lo ≤ r) && decide (r ≤ x.hi)
def inS (r : Int) (n : Bool) (l : List Sg) : Bool := if l.any (·.has r) then !n else n
end Go.Proofs.YtnipaiklandliaaGreatDoor
namespace Go.Abs
open Go
theorem hmap_lt {H : Heap} {r : Nat} {es : List (AV × AV)} (h : hmap H r = some es) : r < H.length := by
 unfold hmap at h
 split at h
 ·rename_i hb; exact (List.getElem?_eq_some_iff.1 hb).1
 ·cases h
theorem hmap_mono {H : Heap} {r : Nat} {es : List (AV × AV)} (h : hmap H r = some es) (x : List Blk) : hmap (H ++ x) r = some es := by
 have hl := hmap_lt h
 unfold hmap at h ⊢
 rw [List.getElem?_append_left hl]; exact h
end Go.Abs
namespace Go.Proofs.YtnipaiklandliaaGreatDoor
open Go Go.Abs AbsSeat Ty
def encK (k : Nat) : AV := .int .i64 (k : Nat)
def ent (k : Nat) : AV × AV := (.int .i64 (k : Nat), .int .i64 1)
def StkAt (b : Nat) (H : Heap) (w : AV) (st : List Nat) : Prop := ∃ ver cap ex cs, w = .bs ⟨b, ver, 0, st.length, cap, 1, false, ex⟩ ∧ hget H b ver = some cs ∧ win cs 0 (st.length * 1) = some (st.map encK) ∧ ver % 4 = 0 ∧ (ex = true → cap = 1 ∧ st.length ≤ 1)
theorem StkAt.len {b : Nat} {H : Heap} {w : AV} {st : List Nat} (h : StkAt b H w st) : aLen Tryz.prog H 145 w = some (.int .i64 (st.length : Nat)) := by
 obtain ⟨ver, cap, ex, cs, rfl, _⟩ := h
 simp [aLen, Tryz.underlying145]
theorem StkAt.keep {b : Nat} {H K : Heap} {w : AV} {st : List Nat} (h : StkAt b H w st) (hk : ∀ ver cs, hget H b ver = some cs → hget K b ver = some cs) : StkAt b K w st := by
 obtain ⟨ver, cap, ex, cs, rfl, hg, hw, hv, hx⟩ := h
 exact ⟨ver, cap, ex, cs, rfl, hk _ _ hg, hw, hv, hx⟩
def SetAt (H : Heap) (s r : Nat) (v : AV) (o : List Nat) : Prop := hget H s 0 = some [.map r, v] ∧ hmap H r = some (o.map ent) ∧ Row encK 1 false (s + 1) H v o
structure Frs (H H' : Heap) (s r : Nat) (v v' : AV) : Prop where
 len : H.length ≤ H'.length
 keep : ∀ z ver cs, z ≠ s → z ≠ r → (∀ b, v = .bs b → b.b ≠ z) → hget H z ver = some cs → hget H' z ver = some cs
 blk : ∀ b', v' = .bs b' → (∃ b, v = .bs b ∧ b'.b = b.b) ∨ H.length ≤ b'.b
theorem Frs.refl (H : Heap) (s r : Nat) (v : AV) : Frs H H s r v v := ⟨Nat.le_refl _, fun _ _ _ _ _ _ h => h, fun b' h => .inl ⟨b', h, rfl⟩⟩
theorem Frs.trans {H K L : Heap} {s r : Nat} {v w x : AV} (h : Frs H K s r v w) (k : Frs K L s r w x) : Frs H L s r v x := by
 refine ⟨Nat.le_trans h.len k.len, fun z ver cs h1 h2 h3 h4 => k.keep z ver cs h1 h2 (fun b hb => ?_) (h.keep z ver cs h1 h2 h3 h4), fun b' hb' => ?_⟩
 ·rcases h.blk b hb with ⟨b0, e1, e2⟩ | h5
  ·rw [e2]; exact h3 b0 e1
  ·have := hget_lt h4; omega
 ·rcases k.blk b' hb' with ⟨b, e1, e2⟩ | h5
  ·rcases h.blk b e1 with ⟨b0, e3, e4⟩ | h6
   ·exact .inl ⟨b0, e3, by rw [e2, e4]⟩
   ·exact .inr (by omega)
  ·exact .inr (Nat.le_trans h.len h5)
def nxt (l : List St) (k j : Nat) : Prop := ∃ s, l[k]? = some s ∧ s.kind = 2 ∧ (s.one = (j : Nat) ∨ s.two = (j : Nat))
def RightM (l : List St) : Prop := ∀ s ∈ l, (s.kind = 3 ∨ s.kind = 1 ∨ s.kind = 2) ∧ (s.kind < 3 → 0 ≤ s.one ∧ s.one < l.length) ∧ (s.kind = 2 → 0 ≤ s.two ∧ s.two < l.length)
def encM (l : List St) (a : Nat) : AV := .vptr [slv encSt l, .int .i64 (a : Nat)] 0
theorem SetAt.keep {H K : Heap} {s r q : Nat} {v : AV} {o : List Nat} (h : SetAt H s r v o) (k1 : ∀ z ver cs, z ≠ q → hget H z ver = some cs → hget K z ver = some cs) (k2 : ∀ r es, r ≠ q → hmap H r = some es → hmap K r = some es) (hs : s ≠ q) (hr : r ≠ q) (hv : ∀ b, v = .bs b → b.b ≠ q) : SetAt K s r v o := by
 obtain ⟨h1, h2, h3⟩ := h
 refine ⟨k1 _ _ _ hs h1, k2 _ _ hr h2, ?_⟩
 rcases h3 with h3 | ⟨b, ver, rfl, g2, g3, g4⟩
 ·exact .inl h3
 ·exact .inr ⟨b, ver, rfl, g2, k1 _ _ _ (hv _ rfl) g3, g4⟩
theorem SetAt.more {H : Heap} {s r : Nat} {v : AV} {o : List Nat} (h : SetAt H s r v o) (x : List Blk) : SetAt (H ++ x) s r v o := ⟨hget_mono h.1 x, hmap_mono h.2.1 x, h.2.2.more x⟩
theorem SetAt.blk {H : Heap} {s r : Nat} {v : AV} {o : List Nat} (h : SetAt H s r v o) : ∀ b, v = .bs b → s + 1 ≤ b.b ∧ b.b < H.length := by
 intro b hb
 rcases h.2.2 with ⟨q, _⟩ | ⟨c, ver, q, g2, g3, _⟩
 ·rw [q] at hb; cases hb
 ·rw [q] at hb; cases hb; exact ⟨g2, hget_lt g3⟩
theorem Frs.more (H : Heap) (s r : Nat) (v : AV) (x : List Blk) : Frs H (H ++ x) s r v v := ⟨by simp, fun _ _ _ _ _ _ h => hget_mono h x, fun b' h => .inl ⟨b', h, rfl⟩⟩
def u163 := an (show tagT Tryz.prog 219 = 0 from by kernel_rfl) (an (show tagT Tryz.prog 229 = 0 from by kernel_rfl) (an (show tagT Tryz.prog 98 = 0 from by kernel_rfl) (an (show tagT Tryz.prog 9 = 0 from by kernel_rfl) (an (show tagT Tryz.prog 4 = 0 from by kernel_rfl) (an (fun (xo yo : Operand) (b v o : Nat) => ptr_nil_eq (xo := xo) (yo := yo) Tryz.underlying98 b v o) (an (fun (xo yo : Operand)  => nil_nil_eq (xo := xo) (yo := yo) Tryz.underlying98 ) (an (show tagT Tryz.prog 223 = 0 from by kernel_rfl) (an (show tagT Tryz.prog 176 = 0 from by kernel_rfl) (an ag1 (an sz1 (an by1 (an ze1 (an Tryz.underlying1 (an ag2 (an sz2 (an by2 (an ze2 (an Tryz.underlying2 (an ag3 (an sz3 (an by3 (an ze3 (an Tryz.underlying3 (an ag4 (an sz4 (an by4 (an ze4 (an Tryz.underlying4 (an ag5 (an sz5 (an by5 (an ze5 (an Tryz.underlying5 (an ag9 (an sz9 (an by9 (an ze9 (an Tryz.underlying9 (an ag21 (an sz21 (an by21 (an ze21 (an Tryz.underlying21 (an ag28 (an sz28 (an by28 (an ze28 (an Tryz.underlying28 (an ag72 (an sz72 (an by72 (an se72 (an ze72 (an Tryz.underlying72 (an ag98 (an sz98 (an by98 (an ze98 (an Tryz.underlying98 (an ag145 (an sz145 (an by145 (an se145 (an ze145 (an Tryz.underlying145 (an ag173 (an sz173 (an by173 (an se173 (an ze173 (an Tryz.underlying173 (an ag176 (an sz176 (an by176 (an ze176 (an bu176 (an Tryz.underlying176 (an ag179 (an sz179 (an by179 (an se179 (an ze179 (an Tryz.underlying179 (an ag186 (an sz186 (an by186 (an ze186 (an Tryz.underlying186 (an ag188 (an sz188 (an by188 (an ze188 (an Tryz.underlying188 (an ag219 (an sz219 (an by219 (an ze219 (an bu219 (an Tryz.underlying219 (an ag223 (an sz223 (an by223 (an ze223 (an bu223 (an Tryz.underlying223 (an ag227 (an sz227 (an by227 (an ze227 (an Tryz.underlying227 (an ag229 (an sz229 (an by229 (an ze229 (an bu229 (an Tryz.underlying229 (an ag276 (an sz276 (an by276 (an ze276 (an bu276 (an Tryz.underlying276 (an fa219_0 (an fd219_0 (an fa219_1 (an fd219_1 (an fa219_2 (an fd219_2 (an fa219_3 (an fd219_3 (an fa219_4 (an fd219_4 (an fa223_0 (an fd223_0 (an fa223_1 (an fd223_1 (an fa229_0 (an fd229_0 (an fa229_1 fd229_1)))))))))))))))))))))))))))))))))))))))))))))))))))))))))))))))))))))))))))))))))))))))))))))))))))))))))))))))))))))))))))))))))))))))))))
def g122 : Code := .seq (mG 0 #[q 4 (.assign (.const (.pointer none))) 98, q 5 (.assign (ik 0)) 28]) (.seq (.seq (mG 1 #[mA 9 0 179, q 10 (bi .len #[.tmp 9] #[179]) 3, mF 11 .gtr 3 10 (ik 401) 3 4, mA 12 11 4, qg 13 (.move (.tmp 0)) 179 3 false, qg 14 (.move (.tmp 1)) 3 3 false, qg 15 (cl 157 #[.tmp 13, .tmp 14] #[179, 3]) 4 3 false, qg 16 (.unOp .not 4 (.tmp 15)) 4 3 false, q 17 (.pick (.tmp 12) (mI true) (.tmp 16)) 4]) (.cond (.tmp 17) (.seq (mG 2 #[q 4 (.assign (.const (.pointer none))) 98, q 5 (.assign (ik 1)) 28]) .ret) .skip)) (.seq (mG 3 #[mA 18 1 3, q 19 (.build 223 #[(1, .tmp 18)]) 223, q 20 (.box 223 (.tmp 19)) 98, mB 6 20 98]) (.seq (.seq (mG 4 #[mA 21 0 179, q 22 (bi .len #[.tmp 21] #[179]) 3, q 23 (.move (ik 0)) 3]) (.block 0 (.loop (.seq (mG 5 #[mF 24 .lss 3 23 (.tmp 22) 3 0]) (.seq (.cond (.tmp 24) .skip (.exit 0)) (.seq (.block 1 (.seq (mG 6 #[q 25 (.indexAddr 179 (.tmp 21) (.tmp 23)) 0, mC 26 25 219, q 8 (.alloc 219) 0, mD 219 8 26]) (.seq (.seq (mG 7 #[mA 27 0 179, mC 28 8 219, q 29 (cl 158 #[.tmp 27, .tmp 28] #[179, 219]) 4, q 30 (.unOp .not 4 (.tmp 29)) 4]) (.cond (.tmp 30) (.seq (mG 8 #[q 4 (.assign (.const (.pointer none))) 98, q 5 (.assign (ik 1)) 28]) .ret) .skip)) (.seq (mG 9 #[q 31 (.fieldAddr 219 (.tmp 8) 2) 0, mC 32 31 173, q 33 (bi .append #[.const (.slice none 0 0), .tmp 32] #[173, 173]) 173, q 34 (.fieldAddr 219 (.tmp 8) 2) 0, mD 173 34 33]) (.region 10 #[{ dst := some 35, op := .move (.tmp 6), type := 98, pos := "nfa.go:44", after := #[], guard := none }, { dst := some 36, op := .move (.tmp 6), type := 98, pos := "nfa.go:44", after := #[], guard := none }, { dst := some 37, op := .nilCheck (.tmp 36), type := 0, pos := "nfa.go:44", after := #[{ on := 1, ground := .data }], guard := none }, { dst := some 38, op := .fieldAddr 223 (.tmp 37) 0, type := 0, pos := "nfa.go:44", after := #[{ on := 2, ground := .data }], guard := none }, { dst := some 39, op := .load 179 (.tmp 38), type := 179, pos := "nfa.go:44", after := #[{ on := 3, ground := .data }], guard := none }, { dst := some 40, op := .load 219 (.tmp 8), type := 219, pos := "nfa.go:44", after := #[], guard := none }, { dst := some 41, op := .buildSlice 179 1 #[(0, .tmp 40)], type := 179, pos := "nfa.go:44", after := #[{ on := 5, ground := .data }], guard := none }, { dst := some 42, op := bi .append #[.tmp 39, .tmp 41] #[179, 179], type := 179, pos := "nfa.go:44", after := #[{ on := 4, ground := .data }, { on := 6, ground := .data }], guard := none }, { dst := some 43, op := .nilCheck (.tmp 35), type := 0, pos := "nfa.go:44", after := #[{ on := 0, ground := .data }, { on := 0, ground := .phase }, { on := 1, ground := .phase }, { on := 2, ground := .phase }, { on := 3, ground := .phase }, { on := 4, ground := .phase }, { on := 5, ground := .phase }, { on := 6, ground := .phase }, { on := 7, ground := .phase }], guard := none }, { dst := some 44, op := .fieldAddr 223 (.tmp 43) 0, type := 0, pos := "nfa.go:44", after := #[{ on := 8, ground := .data }, { on := 0, ground := .phase }, { on := 1, ground := .phase }, { on := 2, ground := .phase }, { on := 3, ground := .phase }, { on := 4, ground := .phase }, { on := 5, ground := .phase }, { on := 6, ground := .phase }, { on := 7, ground := .phase }], guard := none }, { dst := none, op := .store 179 (.tmp 44) (.tmp 42), type := 0, pos := "nfa.go:44", after := #[{ on := 9, ground := .data }, { on := 7, ground := .data }, { on := 7, ground := .chain }, { on := 0, ground := .phase }, { on := 1, ground := .phase }, { on := 2, ground := .phase }, { on := 3, ground := .phase }, { on := 4, ground := .phase }, { on := 5, ground := .phase }, { on := 6, ground := .phase }, { on := 7, ground := .phase }], guard := none }] true))))) (mG 11 #[mF 45 .add 3 23 (ik 1) 3 3, mA 23 45 3]))))))) (.seq (mG 12 #[mA 46 6 98, mB 4 46 98, q 5 (.assign (ik 0)) 28]) .ret))))
def s122 := sL Tryz.f122 g122 (by kernel_rfl)
def g158 : Code := .seq (mG 0 #[q 3 (.box 219 (.tmp 1)) 0, q 4 (.assign (mI false)) 4]) (.seq (.seq (mG 1 #[q 5 (.fieldAddr 219 (.tmp 3) 0) 0, mC 6 5 3]) (.block 0 (.seq (.block 2 (.seq (.block 1 (.seq (.seq (.seq (mG 2 #[mF 8 .eql 3 6 (ik 2) 3 4, mB 7 8 4]) (.cond (.tmp 7) (.exit 1) .skip)) (.seq (mG 3 #[mF 10 .eql 3 6 (ik 1) 3 4, mB 9 10 4]) (.cond (.tmp 9) (.exit 2) .skip))) (.exit 0))) (.seq (mG 4 #[mA 11 0 179, q 12 (.fieldAddr 219 (.tmp 3) 4) 0, mC 13 12 3, q 14 (cl 157 #[.tmp 11, .tmp 13] #[179, 3]) 4, q 15 (.unOp .not 4 (.tmp 14)) 4]) (.cond (.tmp 15) (.seq (mG 5 #[q 4 (.assign (mI false)) 4]) .ret) .skip)))) (.seq (.seq (mG 6 #[mA 16 0 179, q 17 (.fieldAddr 219 (.tmp 3) 3) 0, mC 18 17 3, q 19 (cl 157 #[.tmp 16, .tmp 18] #[179, 3]) 4, mB 4 19 4]) .ret) (.exit 0))))) (.seq (mG 7 #[q 20 (.fieldAddr 219 (.tmp 3) 0) 0, mC 21 20 3, mF 22 .eql 3 21 (ik 3) 3 4, mB 4 22 4]) .ret))
def s158 := sL Tryz.f158 g158 (by kernel_rfl)
def g157 : Code := .seq (mG 0 #[q 4 (.assign (mI false)) 4]) (.seq (mG 1 #[mA 5 1 3, mF 6 .geq 3 5 (ik 0) 3 4, mA 7 6 4, qg 8 (.move (.tmp 1)) 3 2 true, qg 9 (.move (.tmp 0)) 179 2 true, qg 10 (bi .len #[.tmp 9] #[179]) 3 2 true, qg 11 (.binOp .lss 3 (.tmp 8) (.tmp 10) 3) 4 2 true, q 12 (.pick (.tmp 7) (.tmp 11) (mI false)) 4, mB 4 12 4]) .ret)
def s157 := sL Tryz.f157 g157 (by kernel_rfl)
def g88 : Code := .seq (mG 0 #[q 2 (.assign (.const (.pointer none))) 98, q 3 (.assign (ik 0)) 28]) (.seq (mG 1 #[mA 9 0 9, q 10 (cl 120 #[.tmp 9] #[9]) 177, mA 8 10 177, mE 11 8 0 176, mE 12 8 1 28, q 4 (.alloc 176) 0, mD 176 4 11, mB 5 12 28]) (.seq (.seq (mG 2 #[mA 13 5 28, mF 14 .neq 28 13 (ik 0) 28 4]) (.cond (.tmp 14) (.seq (mG 3 #[mA 15 5 28, q 2 (.assign (.const (.pointer none))) 98, mB 3 15 28]) .ret) .skip)) (.seq (mG 4 #[mC 17 4 176, q 18 (cl 121 #[.tmp 17] #[176]) 180, mA 16 18 180, mE 19 16 0 179, mE 20 16 1 3, mE 21 16 2 28, mB 6 19 179, mB 7 20 3, mB 5 21 28]) (.seq (.seq (mG 5 #[mA 22 5 28, mF 23 .neq 28 22 (ik 0) 28 4]) (.cond (.tmp 23) (.seq (mG 6 #[mA 24 5 28, q 2 (.assign (.const (.pointer none))) 98, mB 3 24 28]) .ret) .skip)) (.seq (mG 7 #[mA 25 6 179, mA 26 7 3, q 27 (cl 122 #[.tmp 25, .tmp 26] #[179, 3]) 143, mE 28 27 0 98, mE 29 27 1 28, mB 2 28 98, mB 3 29 28]) .ret)))))
def s88 := sL Tryz.f88 g88 (by kernel_rfl)
open Go Go.Abs AbsSeat Ty
def tk (l : List St) (c : Int) (k y : Nat) : Prop := ∃ s, l[k]? = some s ∧ s.kind = 1 ∧ inS c s.no s.sp = true ∧ s.one = (y : Nat)
end Go.Proofs.YtnipaiklandliaaGreatDoor
namespace Go.Proofs.YtnipaiklandliaaGreatDoor
open Go Go.Abs
def leadI (n : Nat) : Int := if n = 2 then 192 else if n = 3 then 224 else if n = 4 then 240 else 0
def valGo : Int → List UInt8 → Int
 | v, [] => v
 | v, c :: r => valGo (64 * v + c.toNat - 128) r
def valueU (b : List UInt8) (n : Nat) : Int := match b with
 | [] => 0
 | c :: r => valGo (c.toNat - leadI n) (r.take (n - 1))
def isI (v : Int) : Bool := decide (0 ≤ v) && (decide (v ≤ 1114111) && (decide (v < 55296) || decide (57343 < v)))
def putUX (v : Int) : List UInt8 :=
 if isI v = false then [] else
 if v < 128 then [UInt8.ofNat v.toNat] else
 if v < 2048 then [UInt8.ofNat (192 + v.toNat / 64), UInt8.ofNat (128 + v.toNat % 64)] else
 if v < 65536 then [UInt8.ofNat (224 + v.toNat / 4096), UInt8.ofNat (128 + v.toNat / 64 % 64), UInt8.ofNat (128 + v.toNat % 64)] else
 [UInt8.ofNat (240 + v.toNat / 262144), UInt8.ofNat (128 + v.toNat / 4096 % 64), UInt8.ofNat (128 + v.toNat / 64 % 64), UInt8.ofNat (128 + v.toNat % 64)]
def matchN (b : List UInt8) (n : Nat) : Bool := isI (valueU b n) && putUX (valueU b n) == b.take n
theorem isI_iff (v : Int) : isI v = true ↔ 0 ≤ v ∧ v ≤ 1114111 ∧ (v < 55296 ∨ 57343 < v) := by simp [isI]
theorem of_eq (n : Nat) (c : UInt8) (h : n < 256) : UInt8.ofNat n = c ↔ n = c.toNat := by
 rw [← UInt8.toNat_inj]
 have : (UInt8.ofNat n).toNat = n := by simp; omega
 rw [this]
theorem put_one {v : Int} (h : isI v = true) (h1 : v < 128) : putUX v = [UInt8.ofNat v.toNat] := by simp [putUX, h, h1]
theorem put_two {v : Int} (h : isI v = true) (h0 : 128 ≤ v) (h1 : v < 2048) : putUX v = [UInt8.ofNat (192 + v.toNat / 64), UInt8.ofNat (128 + v.toNat % 64)] := by
 have : ¬ v < 128 := by omega
 simp [putUX, h, h1, this]
theorem put_three {v : Int} (h : isI v = true) (h0 : 2048 ≤ v) (h1 : v < 65536) : putUX v = [UInt8.ofNat (224 + v.toNat / 4096), UInt8.ofNat (128 + v.toNat / 64 % 64), UInt8.ofNat (128 + v.toNat % 64)] := by
 have h2 : ¬ v < 128 := by omega
 have h3 : ¬ v < 2048 := by omega
 simp [putUX, h, h1, h2, h3]
theorem put_four {v : Int} (h : isI v = true) (h0 : 65536 ≤ v) : putUX v = [UInt8.ofNat (240 + v.toNat / 262144), UInt8.ofNat (128 + v.toNat / 4096 % 64), UInt8.ofNat (128 + v.toNat / 64 % 64), UInt8.ofNat (128 + v.toNat % 64)] := by
 have h2 : ¬ v < 128 := by omega
 have h3 : ¬ v < 2048 := by omega
 have h4 : ¬ v < 65536 := by omega
 simp [putUX, h, h2, h3, h4]
theorem put_len {v : Int} (h : isI v = true) : (putUX v).length = if v < 128 then 1 else if v < 2048 then 2 else if v < 65536 then 3 else 4 := by
 simp only [putUX, h, Bool.true_eq_false, if_false]
 repeat' split
 all_goals rfl
theorem match_one (c : UInt8) (r : List UInt8) : matchN (c :: r) 1 = true ↔ c.toNat < 128 := by
 have hv : valueU (c :: r) 1 = c.toNat := by simp [valueU, leadI, valGo]
 have hc := c.toNat_lt
 unfold matchN
 rw [hv]
 simp only [Bool.and_eq_true, beq_iff_eq, isI_iff, List.take_succ_cons, List.take_zero]
 constructor
 ·rintro ⟨h1, h2⟩
  have hi : isI (c.toNat : Int) = true := (isI_iff _).2 h1
  have := congrArg List.length h2
  rw [put_len hi] at this
  split at this
  ·omega
  ·split at this <;> simp at this
   split at this <;> omega
 ·intro h
  have hi : isI (c.toNat : Int) = true := (isI_iff _).2 (by omega)
  refine ⟨by omega, ?_⟩
  rw [put_one hi (by omega)]
  simp
theorem match_two (c d : UInt8) (r : List UInt8) : matchN (c :: d :: r) 2 = true ↔ (194 ≤ c.toNat ∧ c.toNat < 224) ∧ 128 ≤ d.toNat ∧ d.toNat < 192 := by
 have hv : valueU (c :: d :: r) 2 = 64 * ((c.toNat : Int) - 192) + d.toNat - 128 := by simp [valueU, leadI, valGo]
 have hc := c.toNat_lt
 have hd := d.toNat_lt
 unfold matchN
 rw [hv]
 generalize hx : 64 * ((c.toNat : Int) - 192) + d.toNat - 128 = v
 simp only [Bool.and_eq_true, beq_iff_eq, List.take_succ_cons, List.take_zero]
 constructor
 ·rintro ⟨hi, h2⟩
  have h1 := (isI_iff _).1 hi
  have := congrArg List.length h2
  rw [put_len hi] at this
  have hr : 128 ≤ v ∧ v < 2048 := by
   split at this
   ·simp at this
   ·split at this
    ·omega
    ·split at this <;> simp at this
  rw [put_two hi hr.1 hr.2] at h2
  simp only [List.cons.injEq, and_true] at h2
  rw [of_eq _ _ (by omega), of_eq _ _ (by omega)] at h2
  omega
 ·rintro ⟨h1, h2⟩
  have hi : isI v = true := (isI_iff _).2 (by omega)
  refine ⟨hi, ?_⟩
  rw [put_two hi (by omega) (by omega)]
  simp only [List.cons.injEq, and_true]
  rw [of_eq _ _ (by omega), of_eq _ _ (by omega)]
  omega
theorem match_three (c d e : UInt8) (r : List UInt8) : matchN (c :: d :: e :: r) 3 = true ↔
  (224 ≤ c.toNat ∧ c.toNat < 240) ∧ (lowU c.toNat ≤ d.toNat ∧ d.toNat ≤ highU c.toNat) ∧ 128 ≤ e.toNat ∧ e.toNat < 192 := by
 have hv : valueU (c :: d :: e :: r) 3 = 64 * (64 * ((c.toNat : Int) - 224) + d.toNat - 128) + e.toNat - 128 := by simp [valueU, leadI, valGo]
 have hc := c.toNat_lt
 have hd := d.toNat_lt
 have he := e.toNat_lt
 unfold matchN
 rw [hv]
 generalize hx : 64 * (64 * ((c.toNat : Int) - 224) + d.toNat - 128) + e.toNat - 128 = v
 simp only [Bool.and_eq_true, beq_iff_eq, List.take_succ_cons, List.take_zero, lowU, highU]
 constructor
 ·rintro ⟨hi, h2⟩
  have h1 := (isI_iff _).1 hi
  have := congrArg List.length h2
  rw [put_len hi] at this
  have hr : 2048 ≤ v ∧ v < 65536 := by
   split at this
   ·simp at this
   ·split at this
    ·simp at this
    ·split at this
     ·omega
     ·simp at this
  rw [put_three hi hr.1 hr.2] at h2
  simp only [List.cons.injEq, and_true] at h2
  rw [of_eq _ _ (by omega), of_eq _ _ (by omega), of_eq _ _ (by omega)] at h2
  refine ⟨by omega, ⟨?_, ?_⟩, by omega⟩
  ·split
   ·omega
   ·split <;> omega
  ·split
   ·omega
   ·split <;> omega
 ·rintro ⟨h1, ⟨h3, h4⟩, h2⟩
  have hr : 128 ≤ d.toNat ∧ d.toNat < 192 ∧ (c.toNat = 224 → 160 ≤ d.toNat) ∧ (c.toNat = 237 → d.toNat ≤ 159) := by
   split at h3 <;> split at h4 <;> (try split at h3) <;> (try split at h4) <;> omega
  have hi : isI v = true := (isI_iff _).2 (by omega)
  refine ⟨hi, ?_⟩
  rw [put_three hi (by omega) (by omega)]
  simp only [List.cons.injEq, and_true]
  rw [of_eq _ _ (by omega), of_eq _ _ (by omega), of_eq _ _ (by omega)]
  omega
theorem match_four (c d e f : UInt8) (r : List UInt8) : matchN (c :: d :: e :: f :: r) 4 = true ↔
  (240 ≤ c.toNat ∧ c.toNat < 245) ∧ (lowU c.toNat ≤ d.toNat ∧ d.toNat ≤ highU c.toNat) ∧ (128 ≤ e.toNat ∧ e.toNat < 192) ∧ 128 ≤ f.toNat ∧ f.toNat < 192 := by
 have hv : valueU (c :: d :: e :: f :: r) 4 = 64 * (64 * (64 * ((c.toNat : Int) - 240) + d.toNat - 128) + e.toNat - 128) + f.toNat - 128 := by simp [valueU, leadI, valGo]
 have hc := c.toNat_lt
 have hd := d.toNat_lt
 have he := e.toNat_lt
 have hf := f.toNat_lt
 unfold matchN
 rw [hv]
 generalize hx : 64 * (64 * (64 * ((c.toNat : Int) - 240) + d.toNat - 128) + e.toNat - 128) + f.toNat - 128 = v
 simp only [Bool.and_eq_true, beq_iff_eq, List.take_succ_cons, List.take_zero, lowU, highU]
 constructor
 ·rintro ⟨hi, h2⟩
  have h1 := (isI_iff _).1 hi
  have := congrArg List.length h2
  rw [put_len hi] at this
  have hr : 65536 ≤ v := by
   split at this
   ·simp at this
   ·split at this
    ·simp at this
    ·split at this
     ·simp at this
     ·omega
  rw [put_four hi hr] at h2
  simp only [List.cons.injEq, and_true] at h2
  rw [of_eq _ _ (by omega), of_eq _ _ (by omega), of_eq _ _ (by omega), of_eq _ _ (by omega)] at h2
  refine ⟨by omega, ⟨?_, ?_⟩, by omega⟩
  ·split
   ·omega
   ·split <;> omega
  ·split
   ·omega
   ·split <;> omega
 ·rintro ⟨h1, ⟨h3, h4⟩, h2⟩
  have hr : 128 ≤ d.toNat ∧ d.toNat < 192 ∧ (c.toNat = 240 → 144 ≤ d.toNat) ∧ (c.toNat = 244 → d.toNat ≤ 143) := by
   split at h3 <;> split at h4 <;> (try split at h3) <;> (try split at h4) <;> omega
  have hi : isI v = true := (isI_iff _).2 (by omega)
  refine ⟨hi, ?_⟩
  rw [put_four hi (by omega)]
  simp only [List.cons.injEq, and_true]
  rw [of_eq _ _ (by omega), of_eq _ _ (by omega), of_eq _ _ (by omega), of_eq _ _ (by omega)]
  omega
theorem first_bits : ∀ c : Fin 256, (c.val < 128 → runeFirst c.val 1 = c.val) ∧ (192 ≤ c.val → c.val < 224 → runeFirst c.val 2 = c.val - 192) ∧ (224 ≤ c.val → c.val < 240 → runeFirst c.val 3 = c.val - 224) ∧ (240 ≤ c.val → c.val < 248 → runeFirst c.val 4 = c.val - 240) := by
 decide +kernel
theorem and63 : ∀ c : Fin 256, 128 ≤ c.val → c.val < 192 → IntKind.i32.wrap (BitVec.ofInt IntKind.i32.bits (IntKind.i32.wrap (c.val : Int)) &&& BitVec.ofInt IntKind.i32.bits 63).toNat = (c.val : Int) - 128 := by decide +kernel
theorem wrap32X {n : Int} (h1 : 0 ≤ n) (h2 : n < 2147483648) : IntKind.i32.wrap n = n := by
 simp [IntKind.wrap, IntKind.bits, IntKind.signed]
 split <;> omega
theorem step_bits {r : Nat} (hr : r < 1048576) (c : UInt8) (h1 : 128 ≤ c.toNat) (h2 : c.toNat < 192) : runeStep r c.toNat = 64 * r + c.toNat - 128 := by
 have h3 := and63 ⟨c.toNat, c.toNat_lt⟩ h1 h2
 simp only at h3
 unfold runeStep shl6
 rw [h3]
 have e1 : (r : Int) * 2 ^ min (6 : Int).toNat IntKind.i32.bits = (r : Int) * 64 := by congr 1
 have e0 : IntKind.i32.wrap ((r : Int) * 64) = (r : Int) * 64 := wrap32X (by omega) (by omega)
 rw [e1, e0]
 obtain ⟨x, hx⟩ : ∃ x : Nat, (c.toNat : Int) - 128 = x := ⟨c.toNat - 128, by omega⟩
 have hx64 : x < 64 := by omega
 rw [hx, show (r : Int) * 64 = ((r * 64 : Nat) : Int) by simp]
 have e2 : (BitVec.ofInt IntKind.i32.bits ((r * 64 : Nat) : Int) ||| BitVec.ofInt IntKind.i32.bits (x : Int)).toNat = r * 64 + x := by
  have e3 : 2 ^ IntKind.i32.bits = 4294967296 := rfl
  simp only [BitVec.ofInt_natCast, BitVec.toNat_or, BitVec.toNat_ofNat, e3]
  rw [Nat.mod_eq_of_lt (by omega), Nat.mod_eq_of_lt (by omega)]
  have := Nat.two_pow_add_eq_or_of_lt (i := 6) (b := x) (by omega) r
  rw [show 2 ^ 6 * r = r * 64 by omega] at this
  exact this.symm
 rw [e2, wrap32X (by omega) (by omega)]
 omega
theorem fits1 (lo hi : Int) (d : UInt8) : fitsGo lo hi [d] = true ↔ lo ≤ d.toNat ∧ (d.toNat : Int) ≤ hi := by
 rw [fitsGo, fitsGo]
 split
 ·constructor
  ·intro h; cases h
  ·intro h; omega
 ·constructor
  ·intro _; omega
  ·intro _; rfl
theorem fitsC (lo hi : Int) (d e : UInt8) (r : List UInt8) : fitsGo lo hi (d :: e :: r) = true ↔ (lo ≤ d.toNat ∧ (d.toNat : Int) ≤ hi) ∧ fitsGo 128 191 (e :: r) = true := by
 rw [fitsGo]
 split
 ·constructor
  ·intro h; cases h
  ·intro h; omega
 ·constructor
  ·intro h; exact ⟨by omega, h⟩
  ·intro h; exact h.2
theorem nextU_match (b : List UInt8) : ((nextU b).2.2 = 0 → matchN b (nextU b).2.1 = true ∧ valueU b (nextU b).2.1 = (nextU b).1 ∧ ∀ n, 1 ≤ n → n < (nextU b).2.1 → matchN b n = false) ∧
  ((nextU b).2.2 ≠ 0 → ∀ n, 1 ≤ n → n ≤ 4 → n ≤ b.length → matchN b n = false) := by
 cases b with
 | nil => exact ⟨fun h => by simp [nextU] at h, fun _ n h1 _ h3 => by simp at h3; omega⟩
 | cons c r =>
  have hc := c.toNat_lt
  have ff := first_bits ⟨c.toNat, hc⟩
  simp only at ff
  have nm : ∀ n, 1 ≤ n → n ≤ 4 → n ≤ (c :: r).length → matchN (c :: r) n = true → wantedU c.toNat = n ∧ fitsU c (c :: r) n = true := by
   intro n h1 h4 hl hm
   match n, h1, h4, r, hl with
   | 1, _, _, r, _ =>
    have := (match_one c r).1 hm
    exact ⟨by simp [wantedU]; omega, by simp [fitsU, fitsGo]⟩
   | 2, _, _, d :: r, _ =>
    obtain ⟨⟨g1, g2⟩, g3, g4⟩ := (match_two c d r).1 hm
    refine ⟨by simp [wantedU]; split <;> (try split) <;> omega, ?_⟩
    have e1 : lowU c.toNat = 128 := by unfold lowU; split <;> (try split) <;> omega
    have e2 : highU c.toNat = 191 := by unfold highU; split <;> (try split) <;> omega
    show fitsGo (lowU c.toNat) (highU c.toNat) [d] = true
    rw [fits1, e1, e2]; omega
   | 3, _, _, d :: e :: r, _ =>
    obtain ⟨⟨g1, g2⟩, ⟨g3, g4⟩, g5, g6⟩ := (match_three c d e r).1 hm
    refine ⟨by
      simp [wantedU]; repeat' split
      all_goals omega, ?_⟩
    show fitsGo (lowU c.toNat) (highU c.toNat) [d, e] = true
    rw [fitsC, fits1]; omega
   | 4, _, _, d :: e :: f :: r, _ =>
    obtain ⟨⟨g1, g2⟩, ⟨g3, g4⟩, ⟨g5, g6⟩, g7, g8⟩ := (match_four c d e f r).1 hm
    refine ⟨by
      simp [wantedU]; repeat' split
      all_goals omega, ?_⟩
    show fitsGo (lowU c.toNat) (highU c.toNat) [d, e, f] = true
    rw [fitsC, fitsC, fits1]; omega
   | 2, _, _, [], h => simp at h
   | 3, _, _, [], h => simp at h
   | 3, _, _, [_], h => simp at h
   | 4, _, _, [], h => simp at h
   | 4, _, _, [_], h => simp at h
   | 4, _, _, [_, _], h => simp at h
   | n + 5, _, h, _, _ => omega
  have mn : ∀ n, wantedU c.toNat = n → 1 ≤ n → fitsU c (c :: r) n = true → n ≤ (c :: r).length → matchN (c :: r) n = true ∧ valueU (c :: r) n = runeGo (runeFirst c.toNat n) (r.take (n - 1)) := by
   intro n hw h1 hf hl
   have h4 := wantedU_le c.toNat
   rw [hw] at h4
   match n, h1, h4, r, hl with
   | 1, _, _, r, _ =>
    have : c.toNat < 128 := by unfold wantedU at hw; split at hw <;> (try split at hw) <;> (try split at hw) <;> (try split at hw) <;> omega
    refine ⟨(match_one c r).2 this, ?_⟩
    simp [valueU, leadI, valGo, runeGo, ff.1 this]
   | 2, _, _, d :: r, _ =>
    have hcr : 194 ≤ c.toNat ∧ c.toNat < 224 := by unfold wantedU at hw; split at hw <;> (try split at hw) <;> (try split at hw) <;> (try split at hw) <;> omega
    have e1 : lowU c.toNat = 128 := by unfold lowU; split <;> (try split) <;> omega
    have e2 : highU c.toNat = 191 := by unfold highU; split <;> (try split) <;> omega
    have hd : 128 ≤ d.toNat ∧ d.toNat < 192 := by
     have hf : fitsGo (lowU c.toNat) (highU c.toNat) [d] = true := hf
     rw [fits1, e1, e2] at hf; omega
    refine ⟨(match_two c d r).2 ⟨hcr, hd⟩, ?_⟩
    simp only [valueU, leadI, valGo, runeGo, List.take_succ_cons, List.take_zero, ff.2.1 (by omega) (by omega), if_true, Nat.add_one_sub_one]
    rw [show (c.toNat : Int) - 192 = ((c.toNat - 192 : Nat) : Int) by omega, step_bits (by omega) d hd.1 hd.2]
   | 3, _, _, d :: e :: r, _ =>
    have hcr : 224 ≤ c.toNat ∧ c.toNat < 240 := by unfold wantedU at hw; split at hw <;> (try split at hw) <;> (try split at hw) <;> (try split at hw) <;> omega
    have hd : (lowU c.toNat ≤ d.toNat ∧ d.toNat ≤ highU c.toNat) ∧ 128 ≤ e.toNat ∧ e.toNat < 192 := by
     have hf : fitsGo (lowU c.toNat) (highU c.toNat) [d, e] = true := hf
     rw [fitsC, fits1] at hf; omega
    refine ⟨(match_three c d e r).2 ⟨hcr, hd⟩, ?_⟩
    have hd2 : 128 ≤ d.toNat ∧ d.toNat < 192 := by
     have h3 := hd.1.1
     have h4 := hd.1.2
     unfold lowU at h3
     unfold highU at h4
     split at h3 <;> split at h4 <;> (try split at h3) <;> (try split at h4) <;> omega
    simp only [valueU, leadI, valGo, runeGo, List.take_succ_cons, List.take_zero, ff.2.2.1 (by omega) (by omega), if_true, Nat.add_one_sub_one]
    rw [show (c.toNat : Int) - 224 = ((c.toNat - 224 : Nat) : Int) by omega, step_bits (by omega) d hd2.1 hd2.2,
     show 64 * ((c.toNat - 224 : Nat) : Int) + d.toNat - 128 = ((64 * (c.toNat - 224) + d.toNat - 128 : Nat) : Int) by omega, step_bits (by omega) e hd.2.1 hd.2.2]
    simp
    omega
   | 4, _, _, d :: e :: f :: r, _ =>
    have hcr : 240 ≤ c.toNat ∧ c.toNat < 245 := by unfold wantedU at hw; split at hw <;> (try split at hw) <;> (try split at hw) <;> (try split at hw) <;> omega
    have hd : (lowU c.toNat ≤ d.toNat ∧ d.toNat ≤ highU c.toNat) ∧ (128 ≤ e.toNat ∧ e.toNat < 192) ∧ 128 ≤ f.toNat ∧ f.toNat < 192 := by
     have hf : fitsGo (lowU c.toNat) (highU c.toNat) [d, e, f] = true := hf
     rw [fitsC, fitsC, fits1] at hf; omega
    refine ⟨(match_four c d e f r).2 ⟨hcr, hd⟩, ?_⟩
    have hd2 : 128 ≤ d.toNat ∧ d.toNat < 192 := by
     have h3 := hd.1.1
     have h4 := hd.1.2
     unfold lowU at h3
     unfold highU at h4
     split at h3 <;> split at h4 <;> (try split at h3) <;> (try split at h4) <;> omega
    simp only [valueU, leadI, valGo, runeGo, List.take_succ_cons, List.take_zero, ff.2.2.2 (by omega) (by omega), if_true, Nat.add_one_sub_one]
    rw [show (c.toNat : Int) - 240 = ((c.toNat - 240 : Nat) : Int) by omega, step_bits (by omega) d hd2.1 hd2.2,
     show 64 * ((c.toNat - 240 : Nat) : Int) + d.toNat - 128 = ((64 * (c.toNat - 240) + d.toNat - 128 : Nat) : Int) by omega, step_bits (by omega) e hd.2.1.1 hd.2.1.2,
     show 64 * ((64 * (c.toNat - 240) + d.toNat - 128 : Nat) : Int) + e.toNat - 128 = ((64 * (64 * (c.toNat - 240) + d.toNat - 128) + e.toNat - 128 : Nat) : Int) by omega, step_bits (by omega) f hd.2.2.1 hd.2.2.2]
    simp
    omega
   | 2, _, _, [], h => simp at h
   | 3, _, _, [], h => simp at h
   | 3, _, _, [_], h => simp at h
   | 4, _, _, [], h => simp at h
   | 4, _, _, [_], h => simp at h
   | 4, _, _, [_, _], h => simp at h
   | n + 5, _, h, _, _ => omega
  rw [nextU_eq rfl]
  split
  ·rename_i h0
   refine ⟨fun h => by simp at h, fun _ n h1 h4 hl => ?_⟩
   cases hm : matchN (c :: r) n with
   | false => rfl
   | true =>
    obtain ⟨g1, g2⟩ := nm n h1 h4 hl hm
    rw [g1] at h0
    rcases h0 with h0 | h0
    ·omega
    ·rw [g2] at h0; cases h0
  ·rename_i h0
   split
   ·rename_i hlt
    refine ⟨fun h => by simp at h, fun _ n h1 h4 hl => ?_⟩
    cases hm : matchN (c :: r) n with
    | false => rfl
    | true =>
     obtain ⟨g1, g2⟩ := nm n h1 h4 hl hm
     omega
   ·rename_i hlt
    have hw1 : 1 ≤ wantedU c.toNat := by
     have : ¬ wantedU c.toNat = 0 := fun e => h0 (.inl e)
     omega
    have hfit : fitsU c (c :: r) (wantedU c.toNat) = true := by
     cases hf : fitsU c (c :: r) (wantedU c.toNat) with
     | true => rfl
     | false => exact absurd (.inr hf) h0
    obtain ⟨g1, g2⟩ := mn _ rfl hw1 hfit (by omega)
    generalize hq : wantedU c.toNat = q at *
    refine ⟨fun _ => ?_, fun h => absurd rfl h⟩
    dsimp only [List.drop_succ_cons, List.drop_zero]
    refine ⟨g1, g2, fun n h1 h2 => ?_⟩
    cases hm : matchN (c :: r) n with
    | false => rfl
    | true =>
     have h4 := wantedU_le c.toNat
     obtain ⟨k1, k2⟩ := nm n h1 (by omega) (by omega) hm
     omega
open Go Go.Abs AbsSeat Ty
open Go Go.Abs AbsSeat Ty
def runesU (b : List UInt8) : Option (List Int) := if b = [] then some [] else if _h : (nextU b).2.2 = 0 then (runesU (b.drop (nextU b).2.1)).map ((nextU b).1 :: ·) else none
termination_by b.length
decreasing_by have := nextU_pos _h; simp; omega
theorem walkU_le : ∀ (n : Nat) (b : List UInt8), b.length ≤ n → (walkU b).2 ≤ b.length ∧ ((walkU b).2 = b.length ↔ (runesU b).isSome = true)
 | 0, b, h => by
  have hb : b = [] := by simpa using h
  subst hb
  have hw0 : walkU [] = (0, 0) := by rw [walkU]; simp [nextU]
  rw [hw0, runesU]; simp
 | n + 1, b, h => by
  by_cases hb : b = []
  ·subst hb
   have hw0 : walkU [] = (0, 0) := by rw [walkU]; simp [nextU]
   rw [hw0, runesU]; simp
  rw [walkU, runesU, if_neg hb]
  by_cases he : (nextU b).2.2 = 0
  ·have hp := nextU_pos he
   obtain ⟨h1, h2⟩ := walkU_le n (b.drop (nextU b).2.1) (by simp; omega)
   rw [dif_pos he, dif_pos he]
   rw [List.length_drop] at h1 h2
   rw [Option.isSome_map, ← h2]
   dsimp only
   omega
  ·rw [dif_neg he, dif_neg he]
   have : 0 < b.length := by cases b with
    | nil => exact absurd rfl hb
    | cons => simp
   simp
   exact fun h => hb (by simpa using h.symm)
theorem validU_runes (s : List UInt8) : validU s = (runesU s).isSome := by
 rw [Bool.eq_iff_iff, ← (walkU_le s.length s (Nat.le_refl _)).2]
 simp [validU]
theorem nextU_isI {b : List UInt8} (h : (nextU b).2.2 = 0) : 0 ≤ (nextU b).1 ∧ (nextU b).1 ≤ 1114111 := by
 obtain ⟨h1, h2, _⟩ := (nextU_match b).1 h
 unfold matchN at h1
 rw [h2] at h1
 simp [isI] at h1
 omega
theorem runesU_ok : ∀ (n : Nat) (b : List UInt8) (o : List Int), b.length ≤ n → runesU b = some o → o.length ≤ b.length ∧ ∀ r ∈ o, 0 ≤ r ∧ r < 2147483648
 | 0, b, o, h, ho => by
  have hb : b = [] := by simpa using h
  subst hb
  rw [runesU] at ho
  simp at ho; subst ho; simp
 | n + 1, b, o, h, ho => by
  by_cases hb : b = []
  ·subst hb
   rw [runesU] at ho
   simp at ho; subst ho; simp
  rw [runesU, if_neg hb] at ho
  by_cases he : (nextU b).2.2 = 0
  ·have hp := nextU_pos he
   rw [dif_pos he, Option.map_eq_some_iff] at ho
   obtain ⟨o', ho', rfl⟩ := ho
   obtain ⟨h1, h2⟩ := runesU_ok n _ o' (by simp; omega) ho'
   rw [List.length_drop] at h1
   refine ⟨by simp; omega, fun r hr => ?_⟩
   rcases List.mem_cons.1 hr with rfl | hr
   ·have := nextU_isI he; omega
   ·exact h2 r hr
  ·rw [dif_neg he] at ho; cases ho
theorem runesU_step {s : List UInt8} {k : Nat} (hk : k < s.length) : runesU (s.drop k) = if _h : (nextU (s.drop k)).2.2 = 0 then (runesU (s.drop (k + (nextU (s.drop k)).2.1))).map ((nextU (s.drop k)).1 :: ·) else none := by
 have hne : s.drop k ≠ [] := fun h => by have := congrArg List.length h; simp at this; omega
 rw [runesU, if_neg hne, List.drop_drop]
theorem rowI : RowT Tryz.prog 206 21 1 4 false where
 un := Tryz.underlying206
 size := sz21
 bytes := by21
 agg := ag21
 zero := ⟨_, ze21, rfl⟩
 pos := by decide
 tree := rfl
theorem hxtI : (∃ e', Tryz.prog.underlying 206 = some (.slice e')) ∨ Tryz.prog.underlying 206 = some .string := .inl ⟨_, Tryz.underlying206⟩
theorem litI (n : Int) (H : Heap) : aBuildSlice Tryz.prog H 206 1 [(0, .int .i32 n)] = some (.vs ([n].map encI) true, none) :=
 lit1 rowI encI_T ze21 rfl (by decide) n rfl
theorem map_two (q : Option (List Int)) (acc : List Int) (r : Int) : (q.map (r :: ·)).map (acc ++ ·) = q.map ((acc ++ [r]) ++ ·) := by cases q <;> simp
theorem runesU_nil : runesU [] = some [] := by rw [runesU]; simp
def g151 : Code := .seq (mG 0 #[q 2 (.assign (.const (.slice none 0 0))) 206]) (.seq (mG 1 #[q 3 (.assign (.const (.slice none 0 0))) 206]) (.seq (mG 2 #[mA 9 0 9, q 10 (.convert 9 72 (.tmp 9)) 72, mB 4 10 72]) (.seq (.seq (mG 3 #[q 5 (.assign (ik 0)) 3]) (.block 0 (.loop (.seq (.seq (mG 4 #[mA 11 5 3, mA 12 4 72, q 13 (bi .len #[.tmp 12] #[72]) 3, mF 14 .lss 3 11 (.tmp 13) 3 4]) (.cond (.tmp 14) .skip (.exit 0))) (.block 1 (.seq (mG 5 #[mA 16 4 72, mA 17 5 3, q 18 (.slice 72 (.tmp 16) (some (.tmp 17)) none none) 72, q 19 (cl 94 #[.tmp 18] #[72]) 147, mA 15 19 147, mE 20 15 0 21, mE 21 15 1 3, mE 22 15 2 28, mB 6 20 21, mB 7 21 3, mB 8 22 28]) (.seq (.seq (mG 6 #[mA 23 8 28, mF 24 .neq 28 23 (ik 0) 28 4]) (.cond (.tmp 24) (.seq (mG 7 #[q 2 (.assign (.const (.slice none 0 0))) 206]) .ret) .skip)) (.seq (mG 8 #[mA 25 3 206, mA 26 6 21, q 27 (.buildSlice 206 1 #[(0, .tmp 26)]) 206, q 28 (bi .append #[.tmp 25, .tmp 27] #[206, 206]) 206, mB 3 28 206]) (mG 9 #[mA 29 5 3, mA 30 7 3, mF 31 .add 3 29 (.tmp 30) 3 3, mB 5 31 3]))))))))) (.seq (mG 10 #[mA 32 3 206, mB 2 32 206]) .ret))))
def s151 := sL Tryz.f151 g151 (by kernel_rfl)
theorem runes_ok (s : List UInt8) (hl : s.length ≤ 100000) (o : List Int) (ho : runesU s = some o) (prot : Nat) (H : Heap) (hp : prot ≤ H.length) :
  aLim cfg prot 151 [.str s] H = some (slv encI o, none) := by
 refine pure_slim rfl (by kernel_rfl) Tryz.func151 s151 hp rfl (by simp [Tryz.f151]) fun fr hlen h => ?_
 simp only [Has] at h
 obtain ⟨a0, -⟩ := h
 simp only [Tryz.f151] at hlen ⊢
 unfold g151
 have cv := fun K => conv_sb Tryz.underlying9 Tryz.underlying72 Tryz.underlying5 K s
 have hg0 : hget (H ++ [Blk.cells 0 (cellsOf encB s)]) H.length 0 = some (cellsOf encB s) := by rw [hget_new rfl]; rfl
 have hbl : ∀ K, aLen Tryz.prog K 72 (.bs ⟨H.length, 0, 0, s.length, 0, 1, false, false⟩) = some (.int .i64 s.length) := fun K => by simp [aLen, Tryz.underlying72]
 simp only [w9, simprocAttr, hlen, a0, cv]
 refine loop_rule (fun m fr H' => ∃ (k : Nat) (acc : List Int) (v : AV), m = s.length - k ∧ k ≤ s.length ∧ acc.length ≤ k ∧ fr.length = 33 ∧ fget fr 4 = .bs ⟨H.length, 0, 0, s.length, 0, 1, false, false⟩ ∧ fget fr 5 = .int .i64 k ∧ fget fr 3 = v
  ∧ H.length + 1 ≤ H'.length ∧ hget H' H.length 0 = some (cellsOf encB s) ∧ Row encI 1 false (H.length + 1) H' v acc ∧ (v = .nilS ∨ acc ≠ []) ∧ some o = (runesU (s.drop k)).map (acc ++ ·)) ?_ s.length _ _ ⟨0, [], .nilS, by simp [w9, hlen, hg0, Row.nil, ho]⟩
 rintro m fr H' ⟨k, acc, v, rfl, hk, hak, hlen, a4, a5, a3, hH, hg, hrow, hne, hc⟩ ih
 simp only [w9, simprocAttr, hlen, a4, a5, hbl]
 refine RC_split (fun h => ?_) (fun h => ?_)
 ·have hlt : k < s.length := by simpa using h
  obtain ⟨b2, e1, e2⟩ := bytes_cut Tryz.underlying72 sz5 hg hlt
  have e3 := next_ok (s.drop k) b2 _ true (.vs _ _) (by simp; omega) H.length H' (by omega) e2
  have hpos := nextU_pos (b := s.drop k)
  have hst := runesU_step hlt
  rw [hst] at hc
  simp only [List.length_drop] at hpos
  generalize nextU (s.drop k) = q at *
  obtain ⟨r, w, e⟩ := q
  simp only at hpos e3 hc
  by_cases he : e = 0
  ·subst he
   obtain ⟨hw0, hwl⟩ := hpos rfl
   rw [dif_pos rfl] at hc
   have w1 : IntKind.i64.wrap ((k : Int) + (w : Int)) = ((k + w : Nat) : Int) := by rw [wrap64 (by omega) (by omega)]; simp
   obtain ⟨v', H3, happ, hrow3, hle3, hno, hold⟩ := hrow.app (prot := H.length) (xt := 206) encI_T rowI hxtI (elem_vs encI_T [r] true) (by simp) (by simp [roomy]; omega) (by omega) (by omega)
   have hg3 := hold _ _ _ hg fun s' hs => by
    rcases hrow with ⟨q, _⟩ | ⟨b, ver, q, hb, _⟩
    ·rw [q] at hs; cases hs
    ·rw [q] at hs; cases hs; simp; omega
   have hlit := litI r
   simp only [w9, simprocAttr, hlen, a4, a5, a3, e1, e3, hlit, happ, w1]
   refine ih _ _ (s.length - (k + w)) (by omega) ⟨k + w, acc ++ [r], v', rfl, by omega, by simp; omega, ?_⟩
   refine ⟨by simp [w9, hlen], by simp [w9, a4], by simp [w9, hlen], by simp [w9, hlen], by omega, hg3, hrow3, .inr (by simp), ?_⟩
   rw [hc, map_two]
  ·rw [dif_neg he] at hc; cases hc
 ·have hnl : ¬ k < s.length := by simpa using h
  have hd : s.drop k = [] := by simp; omega
  rw [hd, runesU_nil, Option.map_some, List.append_nil] at hc
  cases hc
  simp only [w9, simprocAttr, hlen, a3]
  exact Fin_pure (l := [v]) (by simp [w9, hlen]) ((hrow.low (by omega)).frozen encI_T (by decide) rfl hne) (by simp)
open Go Go.Abs AbsSeat Ty
open Go Go.Abs AbsSeat Ty
def kd (l : List St) (k : Nat) : Int := match l[k]? with | some s => s.kind | none => 0
open Go Go.Abs AbsSeat Ty
inductive Two {α β : Type} (P : α → β → Prop) : List α → List β → Prop where
 | nil : Two P [] []
 | cons {a : α} {b : β} {l : List α} {m : List β} (h : P a b) (t : Two P l m) : Two P (a :: l) (b :: m)
theorem Two.length {α β : Type} {P : α → β → Prop} {l : List α} {m : List β} (h : Two P l m) : l.length = m.length := by
 induction h with
 | nil => rfl
 | cons _ _ ih => simp [ih]
theorem Two.imp {α β : Type} {P Q : α → β → Prop} (hi : ∀ a b, P a b → Q a b) {l : List α} {m : List β} (h : Two P l m) : Two Q l m := by
 induction h with
 | nil => exact .nil
 | cons h _ ih => exact .cons (hi _ _ h) ih
theorem Two.snoc {α β : Type} {P : α → β → Prop} {l : List α} {m : List β} (h : Two P l m) {a : α} {b : β} (ha : P a b) : Two P (l ++ [a]) (m ++ [b]) := by
 induction h with
 | nil => exact .cons ha .nil
 | cons h _ ih => exact .cons h ih
def LikeN (base rb : Nat) (H : Heap) (h : HS) (s : St) : Prop := (h.kind = s.kind ∧ h.no = s.no ∧ h.one = s.one ∧ h.two = s.two) ∧ Row encG 2 true base H h.sv s.sp ∧ (h.sv = .nilS ∨ s.sp ≠ []) ∧ ∀ b, h.sv = .bs b → b.b ≠ rb
theorem rowG_keep {base : Nat} {H K : Heap} {v : AV} {l : List Sg} (h : Row encG 2 true base H v l) (k : ∀ b, v = .bs b → ∀ ver cs, hget H b.b ver = some cs → hget K b.b ver = some cs) : Row encG 2 true base K v l := by
 rcases h with h | ⟨b, ver, rfl, g2, g3, g4⟩
 ·exact .inl h
 ·exact .inr ⟨b, ver, rfl, g2, k _ rfl _ _ g3, g4⟩
theorem rowG_lt {base : Nat} {H : Heap} {v : AV} {l : List Sg} (h : Row encG 2 true base H v l) : ∀ b, v = .bs b → base ≤ b.b ∧ b.b < H.length := by
 intro b hb
 rcases h with ⟨q, _⟩ | ⟨c, ver, q, g2, g3, g4⟩
 ·rw [q] at hb; cases hb
 ·rw [q] at hb; cases hb; exact ⟨g2, hget_lt g3⟩
def NRow (base : Nat) (H : Heap) (v : AV) (l : List St) : Prop := (v = .nilS ∧ l = []) ∨ ∃ rb ver hls, v = .bs ⟨rb, ver, 0, l.length, 0, 5, true, false⟩ ∧ base ≤ rb ∧ hget H rb ver = some (cellsOf encH hls) ∧ Two (LikeN base rb H) hls l ∧ ver % 4 = 0 ∧ l ≠ []
theorem NRow.keep {base : Nat} {H K : Heap} {v : AV} {l : List St} (h : NRow base H v l) (k : ∀ z ver cs, base ≤ z → hget H z ver = some cs → hget K z ver = some cs) : NRow base K v l := by
 rcases h with h | ⟨rb, ver, hls, h1, h2, h3, h4, h5⟩
 ·exact .inl h
 ·refine .inr ⟨rb, ver, hls, h1, h2, k _ _ _ h2 h3, h4.imp fun a b ⟨q1, q2, q3, q4⟩ => ⟨q1, rowG_keep q2 fun b hb ver cs hg => k _ _ _ (rowG_lt q2 b hb).1 hg, q3, q4⟩, h5⟩
theorem two_frozen {base rb low : Nat} {H : Heap} (hlow : low ≤ base) {hl : List HS} {l : List St} (h : Two (LikeN base rb H) hl l) : FrzL H low (cellsOf encH hl) (cellsOf encSt l) := by
 induction h with
 | nil => exact .nil
 | @cons h s hl l a b ih =>
  obtain ⟨⟨a1, a2, a3, a4⟩, a5, a6, -⟩ := a
  have e1 : cellsOf encH (h :: hl) = .int .i64 h.kind :: .bool h.no :: h.sv :: .int .i64 h.one :: .int .i64 h.two :: cellsOf encH hl := by simp [cellsOf, encH, AV.cells]
  have e2 : cellsOf encSt (s :: l) = .int .i64 s.kind :: .bool s.no :: slv encG s.sp :: .int .i64 s.one :: .int .i64 s.two :: cellsOf encSt l := by simp [cellsOf, encSt, AV.cells]
  rw [e1, e2, a1, a2, a3, a4]
  exact .cons (.still rfl) (.cons (.still rfl) (.cons ((a5.low hlow).frozen encG_T (by decide) rfl a6) (.cons (.still rfl) (.cons (.still rfl) ih))))
theorem NRow.frozen {base low : Nat} {H : Heap} {v : AV} {l : List St} (h : NRow base H v l) (hlow : low ≤ base) : Frz H low v (slv encSt l) := by
 rcases h with ⟨rfl, rfl⟩ | ⟨rb, ver, hls, rfl, h2, h3, h4, h5⟩
 ·exact .still rfl
 ·have hll := h4.length
  have hw : win (cellsOf encH hls) 0 (l.length * 5) = some (cellsOf encH hls) := by
   have := encH_L.length hls
   simp only [win, Nat.zero_add, List.drop_zero]
   rw [if_pos (by omega), List.take_of_length_le (by omega)]
  have := Frz.bs (H := H) (base := low) (s := ⟨rb, ver, 0, l.length, 0, 5, true, false⟩) (Nat.le_trans hlow h2) (Nat.succ_pos 4) rfl h3 hw (two_frozen hlow h4)
  rw [chunk_cellsOf encSt_T (by decide)] at this
  cases l with
  | nil => exact absurd rfl h5.2
  | cons x r => exact this
theorem nrow_put {K3 : Heap} {b0 base prot : Nat} {vr ia : AV} {l0 : List St} {x : HS} {s : St} (hb : b0 < base) (hbase : base ≤ K3.length) (hg : hget K3 b0 0 = some [vr, ia]) (hn : NRow base K3 vr l0) (h1 : x.kind = s.kind ∧ x.no = s.no ∧ x.one = s.one ∧ x.two = s.two) (h2 : Row encG 2 true base K3 x.sv s.sp) (h3 : x.sv = .nilS ∨ s.sp ≠ [])
  (hf : ∀ b, x.sv = .bs b → ∀ b', vr = .bs b' → b'.b ≠ b.b) (hl : l0.length ≤ 100000) (hp : prot ≤ b0) :
  ∃ K5 K6 v', aAppend Tryz.prog prot (K3 ++ [Blk.cells 0 (encH x).cells]) #[179, 179] vr (.bs ⟨K3.length, 0, 0, 1, 1, 5, true, true⟩) = some (v', some K5) ∧ (v'.leaf = true ∧ v'.cells = [v']) ∧ hput prot K5 b0 0 0 [v'] = some K6 ∧ hget K6 b0 0 = some [v', ia] ∧ NRow base K6 v' (l0 ++ [s]) ∧ K3.length ≤ K6.length := by
 have hel := elemH x K3
 have hg2 := hget_mono hg [Blk.cells 0 (encH x).cells]
 have hlt := hget_lt hg
 rcases hn with ⟨rfl, rfl⟩ | ⟨rb, ver, hls, rfl, n2, n3, n4, n5, n6⟩
 ·have happ := encH_L.app0 (prot := prot) (m := [x]) rowSt hxtSt hel (by simp) (show roomy 1 56 = true from by decide)
  have g3 := hget_mono hg2 [Blk.cells 0 (cellsOf encH [x])]
  have hl4 : (K3 ++ [Blk.cells 0 (encH x).cells]).length = K3.length + 1 := by simp
  have g4 : hget (K3 ++ [Blk.cells 0 (encH x).cells] ++ [Blk.cells 0 (cellsOf encH [x])]) (K3.length + 1) 0 = some (cellsOf encH [x]) := by rw [hget_new hl4.symm, if_pos rfl]
  rw [hl4] at happ
  have hk : ∀ z ver cs, z ≠ b0 → hget K3 z ver = some cs → hget ((K3 ++ [Blk.cells 0 (encH x).cells] ++ [Blk.cells 0 (cellsOf encH [x])]).set b0 (.cells 0 [.bs ⟨K3.length + 1, 0, 0, 1, 0, 5, true, false⟩, ia])) z ver = some cs := fun z ver cs hz h => by rw [hget_set_ne hz]; exact hget_mono (hget_mono h _) _
  refine ⟨_, _, _, happ, ⟨rfl, rfl⟩, by rw [hput_eq g3 hp (by simp) (by simp [AV.leaf])]; rfl, hget_set_at (hget_lt g3), .inr ⟨K3.length + 1, 0, [x], rfl, by omega, by rw [hget_set_ne (by omega)]; exact g4, .cons ⟨h1, rowG_keep h2 fun b hb ver cs h => hk _ _ _ (by have := rowG_lt h2 b hb; omega) h, h3, fun b hb => by have := rowG_lt h2 b hb; omega⟩ .nil, rfl, by simp⟩, by simp⟩
 ·have hll := n4.length
  have g2' := hget_mono n3 [Blk.cells 0 (encH x).cells]
  have happ := encH_L.app (prot := prot) (m := [x]) rowSt hxtSt g2' n5 hel (by simp) (by simp [roomy]; omega) (by omega)
  rw [hll] at happ
  have g3 : hget ((K3 ++ [Blk.cells 0 (encH x).cells]).set rb (.cells (ver + 4) (cellsOf encH (hls ++ [x])))) b0 0 = some [.bs ⟨rb, ver, 0, l0.length, 0, 5, true, false⟩, ia] := by rw [hget_set_ne (by omega)]; exact hg2
  have g4 : hget ((K3 ++ [Blk.cells 0 (encH x).cells]).set rb (.cells (ver + 4) (cellsOf encH (hls ++ [x])))) rb (ver + 4) = some (cellsOf encH (hls ++ [x])) := by rw [hget_set_same (hget_lt g2'), if_pos rfl]
  have hk : ∀ z v cs, z ≠ b0 → z ≠ rb → hget K3 z v = some cs → hget (((K3 ++ [Blk.cells 0 (encH x).cells]).set rb (.cells (ver + 4) (cellsOf encH (hls ++ [x])))).set b0 (.cells 0 [.bs ⟨rb, ver + 4, 0, l0.length + [x].length, 0, 5, true, false⟩, ia])) z v = some cs := fun z v cs hz hz2 h => by rw [hget_set_ne hz, hget_set_ne hz2]; exact hget_mono h _
  refine ⟨_, _, _, happ, ⟨rfl, rfl⟩, by rw [hput_eq g3 hp (by simp) (by simp [AV.leaf])]; rfl, hget_set_at (hget_lt g3), .inr ⟨rb, ver + 4, hls ++ [x], by rw [List.length_append]; rfl, n2, by rw [hget_set_ne (by omega)]; exact g4, Two.snoc (n4.imp fun a b ⟨q1, q2, q3, q4⟩ => ⟨q1, rowG_keep q2 fun b hb ver cs h => hk _ _ _ (by have := rowG_lt q2 b hb; omega) (q4 b hb) h, q3, q4⟩) ⟨h1, rowG_keep h2 fun b hb ver cs h => hk _ _ _ (by have := rowG_lt h2 b hb; omega) (Ne.symm (hf b hb _ rfl)) h, h3, fun b hb => Ne.symm (hf b hb _ rfl)⟩, by omega, by simp⟩, by simp⟩
def inN (n : Nat) (k : Int) : Bool := decide (0 ≤ k) && decide (k < n)
def rightB (n : Nat) (s : St) : Bool := if s.kind = 2 then inN n s.two && inN n s.one else if s.kind = 1 then inN n s.one else decide (s.kind = 3)
theorem inn_ok (l : List St) (v : AV) (hv : Sl encSt v l) (k : Int) (prot : Nat) (H : Heap) (hp : prot ≤ H.length) : aLim cfg prot 157 [v, .int .i64 k] H = some (.bool (inN l.length k), none) := by
 have hsnap : snap H [v, .int .i64 k] = some ([v, .int .i64 k], false) := by cases hv <;> rfl
 have hvl := hv.len (P := Tryz.prog) (H := H) Tryz.underlying179
 unfold inN
 refine pure_slim rfl (by kernel_rfl) Tryz.func157 s157 hp hsnap (by simp [Tryz.f157]) fun fr hlen h => ?_
 simp only [Has, Nat.zero_add] at h
 obtain ⟨a0, a1, -⟩ := h
 simp only [Tryz.f157] at hlen ⊢
 unfold g157
 by_cases h : 0 ≤ k
 ·have d1 : decide (k ≥ 0) = true := decide_eq_true h
  rw [decide_eq_true h, Bool.true_and]
  simp only [w9, simprocAttr, hlen, a0, a1, d1, hvl]
  exact Fin_pure (l := [.bool (decide (k < (l.length : Nat)))]) (by simp [w9, hlen]) (.still rfl) (by simp)
 ·have d1 : decide (k ≥ 0) = false := decide_eq_false h
  rw [decide_eq_false h, Bool.false_and]
  simp only [w9, simprocAttr, hlen, a1, d1]
  exact Fin_pure (l := [.bool false]) (by simp [w9, hlen]) (.still rfl) (by simp)
theorem rightN_ok (l : List St) (v : AV) (hv : Sl encSt v l) (s : St) (prot : Nat) (H : Heap) (hp : prot ≤ H.length) : aLim cfg prot 158 [v, encSt s] H = some (.bool (rightB l.length s), none) := by
 have hsnap : snap H [v, encSt s] = some ([v, encSt s], false) := by
  have := slvG_leaf s.sp
  unfold encSt
  cases hv <;> cases s.sp <;> rfl
 have n1 := fun (k : Int) (K : Heap) (hK : H.length ≤ K.length) => inn_ok l v hv k H.length K hK
 have hspl := slvG_leaf s.sp
 have hle : ∀ Z, H.length ≤ (H ++ [Blk.cells 0 Z]).length := fun Z => by simp
 unfold AV.leaf at hspl
 unfold rightB
 refine pure_slim rfl (by kernel_rfl) Tryz.func158 s158 hp hsnap (by simp [Tryz.f158]) fun fr hlen h => ?_
 simp only [Has, Nat.zero_add] at h
 obtain ⟨a0, a1, -⟩ := h
 simp only [Tryz.f158] at hlen ⊢
 unfold g158
 unfold encSt at a1
 by_cases h2 : s.kind = 2
 ·have d2 : decide (s.kind = 2) = true := decide_eq_true h2
  rw [if_pos h2]
  by_cases ht : inN l.length s.two = true
  ·have n1t := fun (K : Heap) (hK : H.length ≤ K.length) => n1 s.two K hK
   rw [ht] at n1t ⊢
   rw [Bool.true_and]
   simp only [w9, simprocAttr, u163, hlen, a0, a1, hspl, d2, hle, n1t, n1]
   exact Fin_pure (l := [.bool (inN l.length s.one)]) (by simp [w9, hlen]) (.still rfl) (by simp)
  ·have ht := Bool.eq_false_iff.2 ht
   rw [ht, Bool.false_and]
   simp only [w9, simprocAttr, u163, hlen, a0, a1, hspl, d2, hle, n1, ht]
   exact Fin_pure (l := [.bool false]) (by simp [w9, hlen]) (.still rfl) (by simp)
 ·have d2 : decide (s.kind = 2) = false := decide_eq_false h2
  rw [if_neg h2]
  by_cases h1 : s.kind = 1
  ·have d1 : decide (s.kind = 1) = true := decide_eq_true h1
   rw [if_pos h1]
   simp only [w9, simprocAttr, u163, hlen, a0, a1, hspl, d2, d1, hle, n1]
   exact Fin_pure (l := [.bool (inN l.length s.one)]) (by simp [w9, hlen]) (.still rfl) (by simp)
  ·have d1 : decide (s.kind = 1) = false := decide_eq_false h1
   rw [if_neg h1]
   simp only [w9, simprocAttr, u163, hlen, a1, hspl, d2, d1]
   exact Fin_pure (l := [.bool (decide (s.kind = 3))]) (by simp [w9, hlen]) (.still rfl) (by simp)
def newS (l : List St) (a : Int) : AV := if decide (l.length ≤ 401) && inN l.length a && l.all (rightB l.length) then .tup [.vptr [slv encSt l, .int .i64 a] 0, .int .i64 0] else .tup [.nil, .int .i64 1]
open Go Go.Abs AbsSeat Ty
theorem nnew_ok (l : List St) (v : AV) (hv : Sl encSt v l) (hll : l.length ≤ 100000) (hsp : ∀ s ∈ l, s.sp.length ≤ 10000000) (a : Int) (prot : Nat) (H : Heap) (hp : prot ≤ H.length) : aLim cfg prot 122 [v, .int .i64 a] H = some (newS l a, none) := by
 have hsnap : snap H [v, .int .i64 a] = some ([v, .int .i64 a], false) := by cases hv <;> rfl
 have hvl := fun K : Heap => hv.len (P := Tryz.prog) (H := K) Tryz.underlying179
 have n1 := fun (K : Heap) (hK : H.length ≤ K.length) => inn_ok l v hv a H.length K hK
 unfold newS
 by_cases hg : l.length ≤ 401
 ·have d1 : decide ((401 : Int) < (l.length : Nat)) = false := decide_eq_false (by omega)
  rw [decide_eq_true hg, Bool.true_and]
  by_cases hin : inN l.length a = true
  ·rw [hin] at n1 ⊢
   rw [Bool.true_and]
   have hm0 : hget (H ++ [Blk.cells 0 [.nilS, .int .i64 a]]) H.length 0 = some [.nilS, .int .i64 a] := by rw [hget_new rfl, if_pos rfl]
   refine pure_slim rfl (by kernel_rfl) Tryz.func122 s122 hp hsnap (by simp [Tryz.f122]) fun fr hlen h => ?_
   simp only [Has, Nat.zero_add] at h
   obtain ⟨a0, a1, -⟩ := h
   simp only [Tryz.f122] at hlen ⊢
   unfold g122
   simp only [w9, simprocAttr, u163, hlen, a0, a1, hvl, d1, n1]
   refine loop_rule (fun m fr H' => ∃ (i : Nat) (vr : AV), m = l.length - i ∧ i ≤ l.length ∧ fr.length = 47 ∧ fget fr 0 = v ∧ fget fr 6 = .ptr H.length 0 0 ∧ fget fr 21 = v ∧ fget fr 22 = .int .i64 (l.length : Nat) ∧ fget fr 23 = .int .i64 (i : Nat) ∧ H.length + 1 ≤ H'.length ∧
    hget H' H.length 0 = some [vr, .int .i64 a] ∧ NRow (H.length + 1) H' vr (l.take i) ∧ (∀ s ∈ l.take i, rightB l.length s = true)) ?_ l.length _ _
    ⟨0, .nilS, by omega, by omega, by simp [w9, hlen], by simp [w9, a0], by simp [w9, hlen], by simp [w9, hlen], by simp [w9, hlen], by simp [w9, hlen], by simp, hm0, .inl ⟨rfl, rfl⟩, by simp⟩
   clear a0 a1 hlen fr hm0
   rintro m fr H' ⟨i, vr, rfl, hi, hlen, b0, b6, b21, b22, b23, hH, hm, hrow, hrt⟩ ih
   by_cases hil : i < l.length
   ·have d2 : decide (((i : Nat) : Int) < (l.length : Nat)) = true := decide_eq_true (by omega)
    have hw : IntKind.i64.wrap ((i : Int) + 1) = ((i + 1 : Nat) : Int) := by rw [wrap64 (by omega) (by omega)]; simp
    have e1 := hv.at (P := Tryz.prog) (k := .i64) (i := i) Tryz.underlying179 sz219 encSt_T.len hil
    have htk : l.take (i + 1) = l.take i ++ [l[i]] := by simp
    have hsi := hsp l[i] (List.getElem_mem _)
    have hmem := List.getElem_mem hil
    have n2 := fun (K : Heap) (hK : H.length ≤ K.length) => rightN_ok l v hv l[i] H.length K hK
    generalize l[i] = s at *
    have hspl := slvG_leaf s.sp
    unfold AV.leaf at hspl
    simp only [encSt, AV.cells] at e1 n2
    have hlZ : ∀ Z, (H' ++ [Blk.cells 0 Z]).length = H'.length + 1 := fun Z => by simp
    have hpl : H.length ≤ H'.length + 1 := by omega
    have hH0 : H.length ≤ H'.length := by omega
    by_cases hr : rightB l.length s = true
    ·rw [hr] at n2
     have g8 : hget (H' ++ [Blk.cells 0 [.int .i64 s.kind, .bool s.no, slv encG s.sp, .int .i64 s.one, .int .i64 s.two]]) H'.length 0 = some [.int .i64 s.kind, .bool s.no, slv encG s.sp, .int .i64 s.one, .int .i64 s.two] := by rw [hget_new rfl, if_pos rfl]
     have hm1 := hget_mono hm [Blk.cells 0 [.int .i64 s.kind, .bool s.no, slv encG s.sp, .int .i64 s.one, .int .i64 s.two]]
     have hrt2 : ∀ t ∈ l.take (i + 1), rightB l.length t = true := fun t ht => by
      rw [htk] at ht
      rcases List.mem_append.1 ht with h | h
      ·exact hrt t h
      ·rw [List.mem_singleton.1 h]; exact hr
     have hsa := spans_app (slv encG s.sp) s.sp (slv_sl encG s.sp) hsi H.length (H.length + 1) (H' ++ [Blk.cells 0 [.int .i64 s.kind, .bool s.no, slv encG s.sp, .int .i64 s.one, .int .i64 s.two]]) (by rw [hlZ]; omega)
     have hlt1 : ∀ b, vr = .bs b → b.b < H'.length := fun b hb => by
      rcases hrow with ⟨q, _⟩ | ⟨rb, ver, hls, q, q2, q3, _⟩
      ·rw [q] at hb; cases hb
      ·rw [q] at hb; cases hb; exact hget_lt q3
     rcases hsa with ⟨hsp0, happ⟩ | ⟨hne, K', happ, hKe, hrowG⟩
     ·have g8' : hget (H' ++ [Blk.cells 0 [.int .i64 s.kind, .bool s.no, slv encG s.sp, .int .i64 s.one, .int .i64 s.two]]) H'.length 0 = some [.int .i64 s.kind, .bool s.no, slv encG s.sp, .int .i64 s.one, .int .i64 s.two] := g8
      have hput1 : hput H.length (H' ++ [Blk.cells 0 [.int .i64 s.kind, .bool s.no, slv encG s.sp, .int .i64 s.one, .int .i64 s.two]]) H'.length 0 2 [.nilS] = some ((H' ++ [Blk.cells 0 [.int .i64 s.kind, .bool s.no, slv encG s.sp, .int .i64 s.one, .int .i64 s.two]]).set H'.length (.cells 0 [.int .i64 s.kind, .bool s.no, .nilS, .int .i64 s.one, .int .i64 s.two])) := by rw [hput_eq g8' (by omega) (by simp) (by simp [AV.leaf])]; rfl
      have k3a : hget ((H' ++ [Blk.cells 0 [.int .i64 s.kind, .bool s.no, slv encG s.sp, .int .i64 s.one, .int .i64 s.two]]).set H'.length (.cells 0 [.int .i64 s.kind, .bool s.no, .nilS, .int .i64 s.one, .int .i64 s.two])) H'.length 0 = some [.int .i64 s.kind, .bool s.no, .nilS, .int .i64 s.one, .int .i64 s.two] := hget_set_at (hget_lt g8')
      have k3m : hget ((H' ++ [Blk.cells 0 [.int .i64 s.kind, .bool s.no, slv encG s.sp, .int .i64 s.one, .int .i64 s.two]]).set H'.length (.cells 0 [.int .i64 s.kind, .bool s.no, .nilS, .int .i64 s.one, .int .i64 s.two])) H.length 0 = some [vr, .int .i64 a] := by rw [hget_set_ne (by omega)]; exact hm1
      have k3k : ∀ z ver cs, H.length + 1 ≤ z → hget H' z ver = some cs → hget ((H' ++ [Blk.cells 0 [.int .i64 s.kind, .bool s.no, slv encG s.sp, .int .i64 s.one, .int .i64 s.two]]).set H'.length (.cells 0 [.int .i64 s.kind, .bool s.no, .nilS, .int .i64 s.one, .int .i64 s.two])) z ver = some cs := fun z ver cs _ h => by rw [hget_set_ne (by have := hget_lt h; omega)]; exact hget_mono h _
      have k3l : ((H' ++ [Blk.cells 0 [.int .i64 s.kind, .bool s.no, slv encG s.sp, .int .i64 s.one, .int .i64 s.two]]).set H'.length (.cells 0 [.int .i64 s.kind, .bool s.no, .nilS, .int .i64 s.one, .int .i64 s.two])).length = H'.length + 1 := by simp
      have hrow3 := hrow.keep k3k
      generalize (H' ++ [Blk.cells 0 [.int .i64 s.kind, .bool s.no, slv encG s.sp, .int .i64 s.one, .int .i64 s.two]]).set H'.length (.cells 0 [.int .i64 s.kind, .bool s.no, .nilS, .int .i64 s.one, .int .i64 s.two]) = K3 at *
      obtain ⟨K5, K6, v', q1, ⟨q2, q2'⟩, q3, q4, q5, q6⟩ := nrow_put (prot := H.length) (x := ⟨s.kind, s.no, .nilS, rfl, s.one, s.two⟩) (s := s) (by omega) (by omega) k3m hrow3 ⟨rfl, rfl, rfl, rfl⟩ (by rw [hsp0]; exact Row.nil) (.inl rfl) (fun b hb => nomatch hb) (by simp; omega) (Nat.le_refl _)
      have hlit := litH ⟨s.kind, s.no, .nilS, rfl, s.one, s.two⟩ K3
      simp only [encH, AV.cells] at hlit q1
      rw [k3l] at hlit q1
      unfold AV.leaf at q2; unfold AV.cells at q2'
      have hk3m := hget_mono k3m [Blk.cells 0 [.int .i64 s.kind, .bool s.no, .nilS, .int .i64 s.one, .int .i64 s.two]]
      simp only [w9, simprocAttr, u163, hlen, b0, b6, b21, b22, b23, d2, e1, hspl, hlZ, hH0, hpl, n2, g8, happ, hput1, k3m, k3a, hlit, q1, q2', q3, hw]
      refine ⟨?_, ?_⟩
      ·rw [show befs [] _ = [0, 0, 2, 6, 14, 0, 32, 126, 255, 511, 1023] from by kernel_rfl]
       simp [w9, u163, hlen, drawOk, chained, mayAt, sameAt, bound, List.range_succ, Nat.testBit, b6, k3m, k3a, hk3m, hlit, q1, q2', q3, k3l, avbeq_refl]
      refine ih _ _ (l.length - (i + 1)) (by omega) ⟨i + 1, v', rfl, by omega, by simp [w9, hlen], by simp [w9, b0], by simp [w9, b6], by simp [w9, b21], by simp [w9, b22], by simp [w9, hlen], by omega, q4, by rw [htk]; exact q5, hrt2⟩
     ·subst hKe
      rw [hlZ] at happ hrowG
      have g8' : hget ((H' ++ [Blk.cells 0 [.int .i64 s.kind, .bool s.no, slv encG s.sp, .int .i64 s.one, .int .i64 s.two]]) ++ [Blk.cells 0 (cellsOf encG s.sp)]) H'.length 0 = some [.int .i64 s.kind, .bool s.no, slv encG s.sp, .int .i64 s.one, .int .i64 s.two] := hget_mono g8 _
      have hput1 : hput H.length ((H' ++ [Blk.cells 0 [.int .i64 s.kind, .bool s.no, slv encG s.sp, .int .i64 s.one, .int .i64 s.two]]) ++ [Blk.cells 0 (cellsOf encG s.sp)]) H'.length 0 2 [(.bs ⟨H'.length + 1, 0, 0, s.sp.length, 0, 2, true, false⟩)] = some (((H' ++ [Blk.cells 0 [.int .i64 s.kind, .bool s.no, slv encG s.sp, .int .i64 s.one, .int .i64 s.two]]) ++ [Blk.cells 0 (cellsOf encG s.sp)]).set H'.length (.cells 0 [.int .i64 s.kind, .bool s.no, (.bs ⟨H'.length + 1, 0, 0, s.sp.length, 0, 2, true, false⟩), .int .i64 s.one, .int .i64 s.two])) := by rw [hput_eq g8' (by omega) (by simp) (by simp [AV.leaf])]; rfl
      have k3a : hget (((H' ++ [Blk.cells 0 [.int .i64 s.kind, .bool s.no, slv encG s.sp, .int .i64 s.one, .int .i64 s.two]]) ++ [Blk.cells 0 (cellsOf encG s.sp)]).set H'.length (.cells 0 [.int .i64 s.kind, .bool s.no, (.bs ⟨H'.length + 1, 0, 0, s.sp.length, 0, 2, true, false⟩), .int .i64 s.one, .int .i64 s.two])) H'.length 0 = some [.int .i64 s.kind, .bool s.no, (.bs ⟨H'.length + 1, 0, 0, s.sp.length, 0, 2, true, false⟩), .int .i64 s.one, .int .i64 s.two] := hget_set_at (hget_lt g8')
      have k3m : hget (((H' ++ [Blk.cells 0 [.int .i64 s.kind, .bool s.no, slv encG s.sp, .int .i64 s.one, .int .i64 s.two]]) ++ [Blk.cells 0 (cellsOf encG s.sp)]).set H'.length (.cells 0 [.int .i64 s.kind, .bool s.no, (.bs ⟨H'.length + 1, 0, 0, s.sp.length, 0, 2, true, false⟩), .int .i64 s.one, .int .i64 s.two])) H.length 0 = some [vr, .int .i64 a] := by rw [hget_set_ne (by omega)]; exact hget_mono hm1 _
      have k3k : ∀ z ver cs, H.length + 1 ≤ z → hget H' z ver = some cs → hget (((H' ++ [Blk.cells 0 [.int .i64 s.kind, .bool s.no, slv encG s.sp, .int .i64 s.one, .int .i64 s.two]]) ++ [Blk.cells 0 (cellsOf encG s.sp)]).set H'.length (.cells 0 [.int .i64 s.kind, .bool s.no, (.bs ⟨H'.length + 1, 0, 0, s.sp.length, 0, 2, true, false⟩), .int .i64 s.one, .int .i64 s.two])) z ver = some cs := fun z ver cs _ h => by rw [hget_set_ne (by have := hget_lt h; omega)]; exact hget_mono (hget_mono h _) _
      have hrowG3 : Row encG 2 true (H.length + 1) (((H' ++ [Blk.cells 0 [.int .i64 s.kind, .bool s.no, slv encG s.sp, .int .i64 s.one, .int .i64 s.two]]) ++ [Blk.cells 0 (cellsOf encG s.sp)]).set H'.length (.cells 0 [.int .i64 s.kind, .bool s.no, (.bs ⟨H'.length + 1, 0, 0, s.sp.length, 0, 2, true, false⟩), .int .i64 s.one, .int .i64 s.two])) (.bs ⟨H'.length + 1, 0, 0, s.sp.length, 0, 2, true, false⟩) s.sp := rowG_keep hrowG fun b hb ver cs h => by cases hb; rw [hget_set_ne (by simp)]; exact h
      have k3l : (((H' ++ [Blk.cells 0 [.int .i64 s.kind, .bool s.no, slv encG s.sp, .int .i64 s.one, .int .i64 s.two]]) ++ [Blk.cells 0 (cellsOf encG s.sp)]).set H'.length (.cells 0 [.int .i64 s.kind, .bool s.no, (.bs ⟨H'.length + 1, 0, 0, s.sp.length, 0, 2, true, false⟩), .int .i64 s.one, .int .i64 s.two])).length = H'.length + 2 := by simp
      have hrow3 := hrow.keep k3k
      generalize ((H' ++ [Blk.cells 0 [.int .i64 s.kind, .bool s.no, slv encG s.sp, .int .i64 s.one, .int .i64 s.two]]) ++ [Blk.cells 0 (cellsOf encG s.sp)]).set H'.length (.cells 0 [.int .i64 s.kind, .bool s.no, (.bs ⟨H'.length + 1, 0, 0, s.sp.length, 0, 2, true, false⟩), .int .i64 s.one, .int .i64 s.two]) = K3 at *
      obtain ⟨K5, K6, v', q1, ⟨q2, q2'⟩, q3, q4, q5, q6⟩ := nrow_put (prot := H.length) (x := ⟨s.kind, s.no, (.bs ⟨H'.length + 1, 0, 0, s.sp.length, 0, 2, true, false⟩), rfl, s.one, s.two⟩) (s := s) (by omega) (by omega) k3m hrow3 ⟨rfl, rfl, rfl, rfl⟩ hrowG3 (.inr hne) (fun b hb b' hb' => by cases hb; have := hlt1 b' hb'; simp; omega) (by simp; omega) (Nat.le_refl _)
      have hlit := litH ⟨s.kind, s.no, (.bs ⟨H'.length + 1, 0, 0, s.sp.length, 0, 2, true, false⟩), rfl, s.one, s.two⟩ K3
      simp only [encH, AV.cells] at hlit q1
      rw [k3l] at hlit q1
      unfold AV.leaf at q2; unfold AV.cells at q2'
      have hk3m := hget_mono k3m [Blk.cells 0 [.int .i64 s.kind, .bool s.no, (.bs ⟨H'.length + 1, 0, 0, s.sp.length, 0, 2, true, false⟩), .int .i64 s.one, .int .i64 s.two]]
      simp only [w9, simprocAttr, u163, hlen, b0, b6, b21, b22, b23, d2, e1, hspl, hlZ, hH0, hpl, n2, g8, happ, hput1, k3m, k3a, hlit, q1, q2', q3, hw]
      refine ⟨?_, ?_⟩
      ·rw [show befs [] _ = [0, 0, 2, 6, 14, 0, 32, 126, 255, 511, 1023] from by kernel_rfl]
       simp [w9, u163, hlen, drawOk, chained, mayAt, sameAt, bound, List.range_succ, Nat.testBit, b6, k3m, k3a, hk3m, hlit, q1, q2', q3, k3l, avbeq_refl]
      refine ih _ _ (l.length - (i + 1)) (by omega) ⟨i + 1, v', rfl, by omega, by simp [w9, hlen], by simp [w9, b0], by simp [w9, b6], by simp [w9, b21], by simp [w9, b22], by simp [w9, hlen], by omega, q4, by rw [htk]; exact q5, hrt2⟩
    ·have hr := Bool.eq_false_iff.2 hr
     rw [hr] at n2
     have hal : l.all (rightB l.length) = false := by
      rw [List.all_eq_false]
      exact ⟨s, hmem, by simp [hr]⟩
     rw [hal]
     simp only [w9, simprocAttr, u163, hlen, b0, b21, b22, b23, d2, e1, hspl, hlZ, hH0, hpl, n2]
     exact Fin_pure (l := [.nil, .int .i64 1]) (by simp [w9, hlen]) (.tup (.cons (.still rfl) (.cons (.still rfl) .nil))) (by simp)
   ·have d2 : decide (((i : Nat) : Int) < (l.length : Nat)) = false := decide_eq_false (by omega)
    rw [List.take_of_length_le (by omega)] at hrow hrt
    have hal : l.all (rightB l.length) = true := List.all_eq_true.2 hrt
    rw [hal]
    simp only [w9, simprocAttr, hlen, b6, b22, b23, d2]
    exact Fin_pure (l := [.ptr H.length 0 0, .int .i64 0]) (by simp [w9, hlen]) (.tup (.cons (.ptr (Nat.le_refl _) hm (.cons (hrow.frozen (by omega)) (.cons (.still rfl) .nil))) (.cons (.still rfl) .nil))) (by simp)
  ·have hin := Bool.eq_false_iff.2 hin
   rw [hin] at n1 ⊢
   rw [Bool.false_and]
   refine pure_slim rfl (by kernel_rfl) Tryz.func122 s122 hp hsnap (by simp [Tryz.f122]) fun fr hlen h => ?_
   simp only [Has, Nat.zero_add] at h
   obtain ⟨a0, a1, -⟩ := h
   simp only [Tryz.f122] at hlen ⊢
   unfold g122
   simp only [w9, simprocAttr, hlen, a0, a1, hvl, d1, n1]
   exact Fin_pure (l := [.nil, .int .i64 1]) (by simp [w9, hlen]) (.tup (.cons (.still rfl) (.cons (.still rfl) .nil))) (by simp)
 ·have d1 : decide ((401 : Int) < (l.length : Nat)) = true := decide_eq_true (by omega)
  rw [decide_eq_false hg, Bool.false_and, Bool.false_and]
  refine pure_slim rfl (by kernel_rfl) Tryz.func122 s122 hp hsnap (by simp [Tryz.f122]) fun fr hlen h => ?_
  simp only [Has, Nat.zero_add] at h
  obtain ⟨a0, a1, -⟩ := h
  simp only [Tryz.f122] at hlen ⊢
  unfold g122
  simp only [w9, simprocAttr, hlen, a0, hvl, d1]
  exact Fin_pure (l := [.nil, .int .i64 1]) (by simp [w9, hlen]) (.tup (.cons (.still rfl) (.cons (.still rfl) .nil))) (by simp)
end Go.Proofs.YtnipaiklandliaaGreatDoor
