import Derived.Test.YtnipaiklandliaaGreatDoorM4MatchBack
/-! Part 5 of the proof of MatchBack. -/
set_option linter.unusedSimpArgs false
set_option linter.defProp false
namespace Go.Proofs.YtnipaiklandliaaGreatDoor
open Go Go.Abs AbsSeat Ty
open Nat (reduceEqDiff reduceLT reduceAdd reduceLeDiff reduceMul reduceMod)
inductive Dep : Nat → Nd → Prop where
 | leaf {n : Nat} {kind : Int} {no sf : Bool} {sp : List Sg} {least most : Int} {kf : Bool} : Dep n (.mk kind no sf sp least most kf [])
 | mk {n : Nat} {kind : Int} {no sf : Bool} {sp : List Sg} {least most : Int} {kf : Bool} {kids : List Nd} (h : ∀ x ∈ kids, Dep n x) : Dep (n + 1) (.mk kind no sf sp least most kf kids)
theorem Dep.up {n : Nat} : ∀ {x : Nd}, Dep n x → Dep (n + 1) x := by
 induction n with
 | zero => intro x h; cases h; exact .leaf
 | succ n ih => intro x h; cases h with
  | leaf => exact .leaf
  | mk h => exact .mk fun y hy => ih (h y hy)
theorem Dep.le {n m : Nat} (hm : n ≤ m) {x : Nd} (h : Dep n x) : Dep m x := by
 induction hm with
 | refl => exact h
 | step _ ih => exact ih.up
theorem conN_dep {n : Nat} {l : List Nd} (h : ∀ x ∈ l, Dep n x) : Dep (n + 1) (conN l) := by
 match l, h with
 | [], _ => exact .leaf
 | [x], h => exact (h x (by simp)).up
 | x :: y :: r, h => exact .mk h
theorem eitN_dep {n : Nat} {l : List Nd} (h : ∀ x ∈ l, Dep n x) : Dep (n + 1) (eitN l) := by
 match l, h with
 | [], _ => exact .leaf
 | [x], h => exact (h x (by simp)).up
 | x :: y :: r, h => exact .mk h
theorem rep_dep {n : Nat} {x : Nd} (h : Dep n x) (a b : Int) : Dep (n + 1) (ndR x a b) := .mk fun y hy => by simp at hy; subst hy; exact h
theorem readS_dep (l : List Int) : ∀ k : Nat, (∀ j d, (atomS l k j d).ok = true → Dep (3 * (16 - d)) (atomS l k j d).n) ∧ (∀ j d, (pieceS l k j d).ok = true → Dep (3 * (16 - d) + 1) (pieceS l k j d).n) ∧
  (∀ j d acc, (∀ x ∈ acc, Dep (3 * (16 - d) + 1) x) → (concatS l k j d acc).ok = true → Dep (3 * (16 - d) + 2) (concatS l k j d acc).n) ∧ ∀ j d acc, (∀ x ∈ acc, Dep (3 * (16 - d) + 2) x) → (eitherS l k j d acc).ok = true → Dep (3 * (16 - d) + 3) (eitherS l k j d acc).n
 | 0 => ⟨fun j d h => by simp [atomS] at h, fun j d h => by simp [pieceS] at h, fun j d acc _ h => by simp [concatS] at h, fun j d acc _ h => by simp [eitherS] at h⟩
 | k + 1 => by
  obtain ⟨ha, hp, hc, he⟩ := readS_dep l k
  refine ⟨fun j d h => ?_, fun j d h => ?_, fun j d acc hga h => ?_, fun j d acc hga h => ?_⟩
  ·rw [atomS] at h ⊢
   dsimp only at h ⊢
   split at h
   ·rename_i h1
    rw [if_pos h1]
    split at h
    ·cases h
    ·rename_i h2
     rw [if_neg h2]
     split at h
     ·rename_i h3
      rw [if_pos h3]
      have := he (j + 1) (d + 1) [] (fun x h => by cases h) h3
      split at h
      ·rename_i h4
       rw [if_pos h4]
       exact this.le (by omega)
      ·cases h
     ·cases h
   ·rename_i h1
    rw [if_neg h1]
    split at h
    ·rename_i h2
     rw [if_pos h2]
     exact .leaf
    ·rename_i h2
     rw [if_neg h2]
     split at h
     ·rename_i h3
      rw [if_pos h3]
      exact .leaf
     ·rename_i h3
      rw [if_neg h3]
      split at h
      ·rename_i h4
       rw [if_pos h4]
       exact .leaf
      ·rename_i h4
       rw [if_neg h4]
       exact .leaf
  ·rw [pieceS] at h ⊢
   try dsimp only at h ⊢
   split at h
   ·rename_i h1
    rw [if_pos h1]
    have h0 := ha j d h1
    split at h
    ·rename_i h2
     rw [if_pos h2]
     exact rep_dep h0 _ _
    ·rename_i h2
     rw [if_neg h2]
     split at h
     ·rename_i h3
      rw [if_pos h3]
      exact rep_dep h0 _ _
     ·rename_i h3
      rw [if_neg h3]
      split at h
      ·rename_i h4
       rw [if_pos h4]
       exact rep_dep h0 _ _
      ·rename_i h4
       rw [if_neg h4]
       split at h
       ·rename_i h5
        rw [if_pos h5]
        exact rep_dep h0 _ _
       ·rename_i h5
        rw [if_neg h5]
        exact h0.up
   ·rename_i h1
    exact absurd h h1
  ·rw [concatS] at h ⊢
   try dsimp only at h ⊢
   split at h
   ·rename_i h1
    rw [if_pos h1]
    exact conN_dep hga
   ·rename_i h1
    rw [if_neg h1]
    split at h
    ·rename_i h2
     rw [if_pos h2]
     refine hc _ d _ (fun x hx => ?_) h
     rcases List.mem_append.1 hx with hx | hx
     ·exact hga x hx
     ·simp at hx; subst hx; exact hp j d h2
    ·rename_i h2
     exact absurd h h2
  ·rw [eitherS] at h ⊢
   try dsimp only at h ⊢
   split at h
   ·rename_i h1
    rw [if_pos h1]
    have hg0 := hc j d [] (fun x h => by cases h) h1
    have hga2 : ∀ x ∈ acc ++ [(concatS l k j d []).n], Dep (3 * (16 - d) + 2) x := fun x hx => by
     rcases List.mem_append.1 hx with hx | hx
     ·exact hga x hx
     ·simp at hx; subst hx; exact hg0
    split at h
    ·rename_i h2
     rw [if_pos h2]
     exact he _ d _ hga2 h
    ·rename_i h2
     rw [if_neg h2]
     exact eitN_dep hga2
   ·rename_i h1
    exact absurd h h1
theorem parse_known (s : List UInt8) (hl : s.length ≤ 1000) : (parseU s).2 = 0 → Good (parseU s).1 ∧ Fine (parseU s).1 ∧ Dep 51 (parseU s).1 ∧ sizeN (parseU s).1 ≤ 400 := by
 intro h0
 refine ⟨?_, parse_fine s hl, ?_⟩
 all_goals
  unfold parseU at h0 ⊢
  cases hr : runesU s with
  | none => rw [hr] at h0; cases h0
  | some l =>
   have hro := runesU_ok s.length s l (Nat.le_refl _) hr
   rw [hr] at h0
   try show Good (parseL l).1
   try show Dep 51 (parseL l).1 ∧ sizeN (parseL l).1 ≤ 400
   have h0 : (parseL l).2 = 0 := h0
   unfold parseL at h0 ⊢
   dsimp only at h0 ⊢
   have hg := (readS_good l (by omega) (5 * l.length + 4)).2.2.2 0 0 [] (by omega) (by simp) (fun x h => by cases h)
   have hd := (readS_dep l (5 * l.length + 4)).2.2.2 0 0 [] (fun x h => by cases h)
   split at h0
   ·rename_i h1
    rw [if_pos h1]
    split at h0
    ·cases h0
    ·rename_i h2
     rw [if_neg h2]
     first | exact hg h1.1 | exact ⟨hd h1.1, Nat.not_lt.1 h2⟩
   ·cases h0
def u154 := an (show tagT Tryz.prog 176 = 0 from by kernel_rfl) (an (show tagT Tryz.prog 216 = 0 from by kernel_rfl) (an (show tagT Tryz.prog 219 = 0 from by kernel_rfl) (an ag1 (an sz1 (an by1 (an ze1 (an Tryz.underlying1 (an ag3 (an sz3 (an by3 (an ze3 (an Tryz.underlying3 (an ag4 (an sz4 (an by4 (an ze4 (an Tryz.underlying4 (an ag28 (an sz28 (an by28 (an ze28 (an Tryz.underlying28 (an ag173 (an sz173 (an by173 (an se173 (an ze173 (an Tryz.underlying173 (an ag174 (an sz174 (an by174 (an se174 (an ze174 (an Tryz.underlying174 (an ag176 (an sz176 (an by176 (an ze176 (an bu176 (an Tryz.underlying176 (an ag179 (an sz179 (an by179 (an se179 (an ze179 (an Tryz.underlying179 (an ag214 (an sz214 (an by214 (an ze214 (an Tryz.underlying214 (an ag216 (an sz216 (an by216 (an ze216 (an bu216 (an Tryz.underlying216 (an ag219 (an sz219 (an by219 (an ze219 (an bu219 (an Tryz.underlying219 (an ag276 (an sz276 (an by276 (an ze276 (an bu276 (an Tryz.underlying276 (an fa176_0 (an fd176_0 (an fa176_1 (an fd176_1 (an fa176_2 (an fd176_2 (an fa176_3 (an fd176_3 (an fa176_4 (an fd176_4 (an fa176_5 (an fd176_5 (an fa216_0 (an fd216_0 (an fa219_3 fd219_3))))))))))))))))))))))))))))))))))))))))))))))))))))))))))))))))))))))))))))))))))))
def g154 : Code := .seq (mG 0 #[q 2 (.box 176 (.tmp 0)) 0, q 4 (.assign (ik 0)) 28]) (.seq (.seq (mG 1 #[mA 8 1 3, mF 9 .gtr 3 8 (ik 64) 3 4]) (.cond (.tmp 9) (.seq (mG 2 #[q 4 (.assign (ik 5)) 28]) .ret) .skip)) (.seq (.seq (mG 3 #[q 10 (.fieldAddr 176 (.tmp 2) 0) 0, mC 11 10 3]) (.block 0 (.seq (.block 3 (.seq (.block 2 (.seq (.block 1 (.seq (.seq (.seq (.seq (mG 4 #[mF 13 .eql 3 11 (ik 0) 3 4, mB 12 13 4]) (.cond (.tmp 12) .skip (mG 5 #[mF 14 .eql 3 11 (ik 1) 3 4, mB 12 14 4]))) (.cond (.tmp 12) (.exit 1) .skip)) (.seq (.seq (mG 6 #[mF 16 .eql 3 11 (ik 4) 3 4, mB 15 16 4]) (.cond (.tmp 15) (.exit 2) .skip)) (.seq (.seq (mG 7 #[mF 18 .eql 3 11 (ik 2) 3 4, mB 17 18 4]) (.cond (.tmp 17) .skip (mG 8 #[mF 19 .eql 3 11 (ik 3) 3 4, mB 17 19 4]))) (.cond (.tmp 17) (.exit 3) .skip)))) (.exit 0))) (.seq (.seq (mG 9 #[q 4 (.assign (ik 0)) 28]) .ret) (.exit 0)))) (.seq (mG 10 #[q 20 (.fieldAddr 176 (.tmp 2) 5) 0, mC 21 20 174, q 22 (bi .len #[.tmp 21] #[174]) 3, mF 23 .neq 3 22 (ik 1) 3 4, mA 24 23 4, qg 25 (.fieldAddr 176 (.tmp 2) 3) 0 4 false, qg 26 (.load 3 (.tmp 25)) 3 4 false, qg 27 (.binOp .lss 3 (.tmp 26) (ik 0) 3) 4 4 false, q 28 (.pick (.tmp 24) (mI true) (.tmp 27)) 4, mA 29 28 4, qg 30 (.fieldAddr 176 (.tmp 2) 3) 0 9 false, qg 31 (.load 3 (.tmp 30)) 3 9 false, qg 32 (.binOp .gtr 3 (.tmp 31) (ik 16) 3) 4 9 false, q 33 (.pick (.tmp 29) (mI true) (.tmp 32)) 4, mA 34 33 4, qg 35 (.fieldAddr 176 (.tmp 2) 4) 0 14 false, qg 36 (.load 3 (.tmp 35)) 3 14 false, qg 37 (.binOp .neq 3 (.tmp 36) (ik (-1)) 3) 4 14 false, qg 38 (.move (.tmp 37)) 4 14 false, qg 39 (.fieldAddr 176 (.tmp 2) 4) 0 18 true, qg 40 (.load 3 (.tmp 39)) 3 18 true, qg 41 (.fieldAddr 176 (.tmp 2) 3) 0 18 true, qg 42 (.load 3 (.tmp 41)) 3 18 true, qg 43 (.binOp .lss 3 (.tmp 40) (.tmp 42) 3) 4 18 true, qg 44 (.move (.tmp 43)) 4 18 true, qg 45 (.fieldAddr 176 (.tmp 2) 4) 0 24 false, qg 46 (.load 3 (.tmp 45)) 3 24 false, qg 47 (.binOp .gtr 3 (.tmp 46) (ik 16) 3) 4 24 false, qg 48 (.pick (.tmp 44) (mI true) (.tmp 47)) 4 18 true, qg 49 (.pick (.tmp 38) (.tmp 48) (mI false)) 4 14 false, q 50 (.pick (.tmp 34) (mI true) (.tmp 49)) 4]) (.cond (.tmp 50) (.seq (mG 11 #[q 4 (.assign (ik 1)) 28]) .ret) .skip)))) (.seq (.seq (.seq (mG 12 #[q 51 (.fieldAddr 176 (.tmp 2) 5) 0, mC 52 51 174, q 53 (bi .len #[.tmp 52] #[174]) 3, q 54 (.move (ik 0)) 3]) (.block 4 (.loop (.seq (mG 13 #[mF 55 .lss 3 54 (.tmp 53) 3 0]) (.seq (.cond (.tmp 55) .skip (.exit 4)) (.seq (.block 5 (.seq (mG 14 #[q 56 (.indexAddr 174 (.tmp 52) (.tmp 54)) 0, mC 57 56 176, q 6 (.alloc 176) 0, mD 176 6 57]) (.seq (mG 15 #[mC 58 6 176, mA 59 1 3, mF 60 .add 3 59 (ik 1) 3 3, q 61 (cl 154 #[.tmp 58, .tmp 60] #[176, 3]) 28, mB 7 61 28]) (.seq (mG 16 #[mA 62 7 28, mF 63 .neq 28 62 (ik 0) 28 4]) (.cond (.tmp 63) (.seq (mG 17 #[mA 64 7 28, mB 4 64 28]) .ret) .skip))))) (mG 18 #[mF 65 .add 3 54 (ik 1) 3 3, mA 54 65 3]))))))) (.seq (mG 19 #[q 4 (.assign (ik 0)) 28]) .ret)) (.exit 0))))) (.seq (mG 20 #[q 4 (.assign (ik 1)) 28]) .ret)))
def s154 := sL Tryz.f154 g154 (by kernel_rfl)
def g121 : Code := .seq (mG 0 #[q 1 (.box 176 (.tmp 0)) 0, q 2 (.assign (.const (.slice none 0 0))) 179, q 3 (.assign (ik 0)) 3, q 4 (.assign (ik 0)) 28]) (.seq (.seq (mG 1 #[mC 9 1 176, q 10 (cl 154 #[.tmp 9, ik 0] #[176, 3]) 28, mB 5 10 28]) (.seq (mG 2 #[mA 11 5 28, mF 12 .neq 28 11 (ik 0) 28 4]) (.cond (.tmp 12) (.seq (mG 3 #[mA 13 5 28, q 2 (.assign (.const (.slice none 0 0))) 179, q 3 (.assign (ik 0)) 3, mB 4 13 28]) .ret) .skip))) (.seq (.seq (mG 4 #[mC 14 1 176, q 15 (cl 153 #[.tmp 14] #[176]) 3, mF 16 .gtr 3 15 (ik 400) 3 4]) (.cond (.tmp 16) (.seq (mG 5 #[q 2 (.assign (.const (.slice none 0 0))) 179, q 3 (.assign (ik 0)) 3, q 4 (.assign (ik 5)) 28]) .ret) .skip)) (.seq (mG 6 #[q 17 (.build 216 #[]) 216, q 18 (.box 216 (.tmp 17)) 214, mB 6 18 214]) (.seq (mG 7 #[mA 19 6 214, q 20 (.build 219 #[(0, ik 3)]) 219, q 21 (cl 155 #[.tmp 19, .tmp 20] #[214, 219]) 3, mB 7 21 3]) (.seq (mG 8 #[mA 22 6 214, mC 23 1 176, mA 24 7 3, q 25 (cl 156 #[.tmp 22, .tmp 23, .tmp 24] #[214, 176, 3]) 3, mB 8 25 3]) (.seq (mG 9 #[mA 26 6 214, q 27 (.nilCheck (.tmp 26)) 0, q 28 (.fieldAddr 216 (.tmp 27) 0) 0, mC 29 28 179, mA 30 8 3, mB 2 29 179, mB 3 30 3, q 4 (.assign (ik 0)) 28]) .ret))))))
def s121 := sL Tryz.f121 g121 (by kernel_rfl)
def g155 : Code := .seq (mG 0 #[q 3 (.box 219 (.tmp 1)) 0, q 4 (.assign (ik 0)) 3]) (.seq (.region 1 #[{ dst := some 5, op := .move (.tmp 0), type := 214, pos := "compile.go:92", after := #[], guard := none }, { dst := some 6, op := .move (.tmp 0), type := 214, pos := "compile.go:92", after := #[], guard := none }, { dst := some 7, op := .nilCheck (.tmp 6), type := 0, pos := "compile.go:92", after := #[{ on := 1, ground := .data }], guard := none }, { dst := some 8, op := .fieldAddr 216 (.tmp 7) 0, type := 0, pos := "compile.go:92", after := #[{ on := 2, ground := .data }], guard := none }, { dst := some 9, op := .load 179 (.tmp 8), type := 179, pos := "compile.go:92", after := #[{ on := 3, ground := .data }], guard := none }, { dst := some 10, op := .load 219 (.tmp 3), type := 219, pos := "compile.go:92", after := #[], guard := none }, { dst := some 11, op := .buildSlice 179 1 #[(0, .tmp 10)], type := 179, pos := "compile.go:92", after := #[{ on := 5, ground := .data }], guard := none }, { dst := some 12, op := bi .append #[.tmp 9, .tmp 11] #[179, 179], type := 179, pos := "compile.go:92", after := #[{ on := 4, ground := .data }, { on := 6, ground := .data }], guard := none }, { dst := some 13, op := .nilCheck (.tmp 5), type := 0, pos := "compile.go:92", after := #[{ on := 0, ground := .data }, { on := 0, ground := .phase }, { on := 1, ground := .phase }, { on := 2, ground := .phase }, { on := 3, ground := .phase }, { on := 4, ground := .phase }, { on := 5, ground := .phase }, { on := 6, ground := .phase }, { on := 7, ground := .phase }], guard := none }, { dst := some 14, op := .fieldAddr 216 (.tmp 13) 0, type := 0, pos := "compile.go:92", after := #[{ on := 8, ground := .data }, { on := 0, ground := .phase }, { on := 1, ground := .phase }, { on := 2, ground := .phase }, { on := 3, ground := .phase }, { on := 4, ground := .phase }, { on := 5, ground := .phase }, { on := 6, ground := .phase }, { on := 7, ground := .phase }], guard := none }, { dst := none, op := .store 179 (.tmp 14) (.tmp 12), type := 0, pos := "compile.go:92", after := #[{ on := 9, ground := .data }, { on := 7, ground := .data }, { on := 7, ground := .chain }, { on := 0, ground := .phase }, { on := 1, ground := .phase }, { on := 2, ground := .phase }, { on := 3, ground := .phase }, { on := 4, ground := .phase }, { on := 5, ground := .phase }, { on := 6, ground := .phase }, { on := 7, ground := .phase }], guard := none }] true) (.seq (mG 2 #[mA 15 0 214, q 16 (.nilCheck (.tmp 15)) 0, q 17 (.fieldAddr 216 (.tmp 16) 0) 0, mC 18 17 179, q 19 (bi .len #[.tmp 18] #[179]) 3, mF 20 .sub 3 19 (ik 1) 3 3, mB 4 20 3]) .ret))
def s155 := sL Tryz.f155 g155 (by kernel_rfl)
def g156 : Code := .seq (mG 0 #[q 4 (.box 176 (.tmp 1)) 0, q 6 (.assign (ik 0)) 3]) (.seq (.seq (mG 1 #[q 8 (.fieldAddr 176 (.tmp 4) 0) 0, mC 9 8 3]) (.block 0 (.seq (mG 2 #[mF 11 .eql 3 9 (ik 1) 3 4, mB 10 11 4]) (.cond (.tmp 10) (.seq (.region 3 #[{ dst := some 12, op := .move (.tmp 0), type := 214, pos := "compile.go:100", after := #[], guard := none }, { dst := some 13, op := .fieldAddr 176 (.tmp 4) 1, type := 0, pos := "compile.go:100", after := #[], guard := none }, { dst := some 14, op := .load 4 (.tmp 13), type := 4, pos := "compile.go:100", after := #[{ on := 1, ground := .data }], guard := none }, { dst := some 15, op := .fieldAddr 176 (.tmp 4) 2, type := 0, pos := "compile.go:100", after := #[], guard := none }, { dst := some 16, op := .load 173 (.tmp 15), type := 173, pos := "compile.go:100", after := #[{ on := 3, ground := .data }], guard := none }, { dst := some 17, op := bi .append #[.const (.slice none 0 0), .tmp 16] #[173, 173], type := 173, pos := "compile.go:100", after := #[{ on := 4, ground := .data }], guard := none }, { dst := some 18, op := .move (.tmp 2), type := 3, pos := "compile.go:100", after := #[], guard := none }, { dst := some 19, op := .build 219 #[(0, ik 1), (1, .tmp 14), (2, .tmp 17), (3, .tmp 18)], type := 219, pos := "compile.go:100", after := #[{ on := 2, ground := .data }, { on := 5, ground := .data }, { on := 6, ground := .data }], guard := none }, { dst := some 20, op := cl 155 #[.tmp 12, .tmp 19] #[214, 219], type := 3, pos := "compile.go:100", after := #[{ on := 0, ground := .data }, { on := 7, ground := .data }, { on := 5, ground := .chain }], guard := none }, { dst := some 6, op := .assign (.tmp 20), type := 3, pos := "compile.go:100", after := #[{ on := 8, ground := .data }, { on := 8, ground := .chain }, { on := 0, ground := .phase }, { on := 1, ground := .phase }, { on := 2, ground := .phase }, { on := 3, ground := .phase }, { on := 4, ground := .phase }, { on := 5, ground := .phase }, { on := 6, ground := .phase }, { on := 7, ground := .phase }, { on := 8, ground := .phase }], guard := none }] true) .ret) (.seq (mG 4 #[mF 22 .eql 3 9 (ik 2) 3 4, mB 21 22 4]) (.cond (.tmp 21) (.seq (mG 5 #[q 23 (.fieldAddr 176 (.tmp 4) 5) 0, mC 24 23 174, q 25 (bi .len #[.tmp 24] #[174]) 3, mF 26 .sub 3 25 (ik 1) 3 3, mB 7 26 3]) (.block 1 (.loop (.seq (.seq (mG 6 #[mA 27 7 3, mF 28 .geq 3 27 (ik 0) 3 4]) (.cond (.tmp 28) .skip (.exit 1))) (.seq (.block 2 (mG 8 #[mA 31 0 214, q 32 (.fieldAddr 176 (.tmp 4) 5) 0, mC 33 32 174, mA 34 7 3, q 35 (.indexAddr 174 (.tmp 33) (.tmp 34)) 0, mC 36 35 176, mA 37 2 3, q 38 (cl 156 #[.tmp 31, .tmp 36, .tmp 37] #[214, 176, 3]) 3, mB 2 38 3])) (mG 7 #[mA 29 7 3, mF 30 .sub 3 29 (ik 1) 3 3, mB 7 30 3])))))) (.seq (mG 9 #[mF 40 .eql 3 9 (ik 3) 3 4, mB 39 40 4]) (.cond (.tmp 39) (.seq (mG 10 #[mA 41 0 214, q 42 (.fieldAddr 176 (.tmp 4) 5) 0, mC 43 42 174, mA 44 2 3, q 45 (cl 176 #[.tmp 41, .tmp 43, .tmp 44] #[214, 174, 3]) 3, mB 6 45 3]) .ret) (.seq (mG 11 #[mF 47 .eql 3 9 (ik 4) 3 4, mB 46 47 4]) (.cond (.tmp 46) (.seq (mG 12 #[mA 48 0 214, mC 49 4 176, mA 50 2 3, q 51 (cl 177 #[.tmp 48, .tmp 49, .tmp 50] #[214, 176, 3]) 3, mB 6 51 3]) .ret) .skip)))))))))) (.seq (mG 13 #[mA 52 2 3, mB 6 52 3]) .ret))
def s156 := sL Tryz.f156 g156 (by kernel_rfl)
def g176 : Code := .seq (mG 0 #[q 6 (.assign (ik 0)) 3]) (.seq (mG 1 #[mA 10 2 3, mB 7 10 3]) (.seq (.seq (mG 2 #[mA 11 1 174, q 12 (bi .len #[.tmp 11] #[174]) 3, mF 13 .sub 3 12 (ik 1) 3 3, mB 8 13 3]) (.block 0 (.loop (.seq (.seq (mG 3 #[mA 14 8 3, mF 15 .geq 3 14 (ik 0) 3 4]) (.cond (.tmp 15) .skip (.exit 0))) (.seq (.block 1 (.seq (mG 5 #[mA 18 0 214, mA 19 1 174, mA 20 8 3, q 21 (.indexAddr 174 (.tmp 19) (.tmp 20)) 0, mC 22 21 176, mA 23 2 3, q 24 (cl 156 #[.tmp 18, .tmp 22, .tmp 23] #[214, 176, 3]) 3, mB 9 24 3]) (.seq (.seq (mG 6 #[mA 25 8 3, mA 26 1 174, q 27 (bi .len #[.tmp 26] #[174]) 3, mF 28 .sub 3 27 (ik 1) 3 3, mF 29 .lss 3 25 (.tmp 28) 3 4]) (.cond (.tmp 29) (mG 7 #[mA 30 0 214, mA 31 9 3, mA 32 7 3, q 33 (.build 219 #[(0, ik 2), (3, .tmp 31), (4, .tmp 32)]) 219, q 34 (cl 155 #[.tmp 30, .tmp 33] #[214, 219]) 3, mB 9 34 3]) .skip)) (mG 8 #[mA 35 9 3, mB 7 35 3])))) (mG 4 #[mA 16 8 3, mF 17 .sub 3 16 (ik 1) 3 3, mB 8 17 3])))))) (.seq (mG 9 #[mA 36 7 3, mB 6 36 3]) .ret)))
def s176 := sL Tryz.f176 g176 (by kernel_rfl)
def g177 : Code := .seq (mG 0 #[q 4 (.box 176 (.tmp 1)) 0, q 6 (.assign (ik 0)) 3]) (.seq (mG 1 #[q 13 (.fieldAddr 176 (.tmp 4) 5) 0, mC 14 13 174, q 15 (.indexAddr 174 (.tmp 14) (ik 0)) 0, mC 16 15 176, q 7 (.alloc 176) 0, mD 176 7 16]) (.seq (mG 2 #[mA 17 2 3, q 18 (.fieldAddr 176 (.tmp 4) 3) 0, mC 19 18 3, mB 8 17 3, mB 9 19 3]) (.seq (.seq (mG 3 #[q 20 (.fieldAddr 176 (.tmp 4) 4) 0, mC 21 20 3, mF 22 .eql 3 21 (ik (-1)) 3 4]) (.cond (.tmp 22) (.seq (mG 4 #[mA 23 0 214, mA 24 2 3, q 25 (.build 219 #[(0, ik 2), (4, .tmp 24)]) 219, q 26 (cl 155 #[.tmp 23, .tmp 25] #[214, 219]) 3, mB 10 26 3]) (.seq (mG 5 #[mA 27 0 214, mC 28 7 176, mA 29 10 3, q 30 (cl 156 #[.tmp 27, .tmp 28, .tmp 29] #[214, 176, 3]) 3, mB 8 30 3]) (.seq (mG 6 #[mA 31 0 214, q 32 (.nilCheck (.tmp 31)) 0, q 33 (.fieldAddr 216 (.tmp 32) 0) 0, mC 34 33 179, mA 35 10 3, mA 36 8 3, q 37 (.indexAddr 179 (.tmp 34) (.tmp 35)) 0, q 38 (.fieldAddr 219 (.tmp 37) 3) 0, mD 3 38 36]) (.seq (.seq (mG 7 #[mA 39 9 3, mF 40 .eql 3 39 (ik 0) 3 4]) (.cond (.tmp 40) (.seq (mG 8 #[mA 41 10 3, mB 6 41 3]) .ret) .skip)) (mG 9 #[mA 42 9 3, mF 43 .sub 3 42 (ik 1) 3 3, mB 9 43 3]))))) .skip)) (.seq (.seq (mG 10 #[q 44 (.fieldAddr 176 (.tmp 4) 3) 0, mC 45 44 3, mB 11 45 3]) (.block 0 (.loop (.seq (.seq (mG 11 #[mA 46 11 3, q 47 (.fieldAddr 176 (.tmp 4) 4) 0, mC 48 47 3, mF 49 .lss 3 46 (.tmp 48) 3 4]) (.cond (.tmp 49) .skip (.exit 0))) (.seq (.block 1 (.seq (mG 13 #[mA 52 0 214, mC 53 7 176, mA 54 8 3, q 55 (cl 156 #[.tmp 52, .tmp 53, .tmp 54] #[214, 176, 3]) 3, mB 12 55 3]) (mG 14 #[mA 56 0 214, mA 57 12 3, mA 58 2 3, q 59 (.build 219 #[(0, ik 2), (3, .tmp 57), (4, .tmp 58)]) 219, q 60 (cl 155 #[.tmp 56, .tmp 59] #[214, 219]) 3, mB 8 60 3]))) (mG 12 #[mA 50 11 3, mF 51 .add 3 50 (ik 1) 3 3, mB 11 51 3])))))) (.seq (.seq (mG 15 #[mA 61 9 3, q 62 (.move (ik 0)) 3]) (.block 2 (.loop (.seq (mG 16 #[mF 63 .lss 3 62 (.tmp 61) 3 4]) (.seq (.cond (.tmp 63) .skip (.exit 2)) (.seq (.block 3 (mG 17 #[mA 64 0 214, mC 65 7 176, mA 66 8 3, q 67 (cl 156 #[.tmp 64, .tmp 65, .tmp 66] #[214, 176, 3]) 3, mB 8 67 3])) (mG 18 #[mF 68 .add 3 62 (ik 1) 3 3, mA 62 68 3]))))))) (.seq (mG 19 #[mA 69 8 3, mB 6 69 3]) .ret))))))
def s177 := sL Tryz.f177 g177 (by kernel_rfl)
theorem may_step (kind : Int) (no sf : Bool) (sp : List Sg) (least most : Int) (kf : Bool) (kids : List Nd) (hg : Good (.mk kind no sf sp least most kf kids)) (n : Nat) (hd : Dep n (.mk kind no sf sp least most kf kids)) (d : Nat) (hdn : d + n ≤ 64)
  (ih : ∀ x ∈ kids, ∀ n' d', Dep n' x → d' + n' ≤ 64 → ∀ (prot : Nat) (H : Heap), prot ≤ H.length → aLim cfg prot 154 [encN x, .int .i64 (d' : Nat)] H = some (.int .i64 0, none))
  (prot : Nat) (H : Heap) (hp : prot ≤ H.length) : aLim cfg prot 154 [encN (.mk kind no sf sp least most kf kids), .int .i64 (d : Nat)] H = some (.int .i64 0, none) := by
 have hsnap : snap H [encN (.mk kind no sf sp least most kf kids), .int .i64 (d : Nat)] = some ([encN (.mk kind no sf sp least most kf kids), .int .i64 (d : Nat)], false) := by rw [encN_eq]; rfl
 cases hg with
 | mk hgk hk hl =>
 have hs1 := slF_leaf sf encG sp
 have ht1 := slF_leaf kf encN kids
 have hsl := slF_sl kf encN kids
 have hkl := fun K : Heap => hsl.len (P := Tryz.prog) (H := K) Tryz.underlying174
 have d0 : decide ((64 : Int) < (d : Nat)) = false := decide_eq_false (by omega)
 have hg0 : hget (H ++ [Blk.cells 0 [.int .i64 kind, .bool no, slF sf encG sp, .int .i64 least, .int .i64 most, slF kf encN kids]]) H.length 0 = some [.int .i64 kind, .bool no, slF sf encG sp, .int .i64 least, .int .i64 most, slF kf encN kids] := by rw [hget_new rfl, if_pos rfl]
 refine pure_slim rfl (by kernel_rfl) Tryz.func154 s154 hp hsnap (by simp [Tryz.f154]) fun fr hlen h => ?_
 simp only [Has, Nat.zero_add] at h
 obtain ⟨a0, a1, -⟩ := h
 simp only [Tryz.f154] at hlen ⊢
 unfold g154
 rw [encN_eq] at a0
 unfold AV.leaf at hs1 ht1
 have e10 : decide ((1 : Int) = 0) = false := rfl
 have e20 : decide ((2 : Int) = 0) = false := rfl
 have e30 : decide ((3 : Int) = 0) = false := rfl
 have e40 : decide ((4 : Int) = 0) = false := rfl
 have e21 : decide ((2 : Int) = 1) = false := rfl
 have e31 : decide ((3 : Int) = 1) = false := rfl
 have e41 : decide ((4 : Int) = 1) = false := rfl
 have e24 : decide ((2 : Int) = 4) = false := rfl
 have e34 : decide ((3 : Int) = 4) = false := rfl
 have e32 : decide ((3 : Int) = 2) = false := rfl
 have hww : ∀ i : Nat, i < kids.length → IntKind.i64.wrap ((i : Int) + 1) = ((i + 1 : Nat) : Int) := fun i hi => by rw [wrap64 (by omega) (by omega)]; simp
 have hwd : IntKind.i64.wrap ((d : Int) + 1) = ((d + 1 : Nat) : Int) := by rw [wrap64 (by omega) (by omega)]; simp
 have hkd : ∀ x ∈ kids, ∃ n', Dep n' x ∧ d + 1 + n' ≤ 64 := fun x hx => by
  cases hd with
  | leaf => cases hx
  | mk h => exact ⟨_, h x hx, by omega⟩
 rcases hk with rfl | rfl | hk
 ·simp only [w9, reduceEqDiff, reduceLT, u154, hlen, a0, a1, hs1, ht1, d0, hg0]
  exact Fin_pure (l := [.int .i64 0]) (by simp [w9, hlen]) (.still rfl) (by simp)
 ·simp only [w9, reduceEqDiff, reduceLT, u154, hlen, a0, a1, hs1, ht1, d0, hg0, e10]
  exact Fin_pure (l := [.int .i64 0]) (by simp [w9, hlen]) (.still rfl) (by simp)
 have hk' : kind = 2 ∨ kind = 3 ∨ (kind = 4 ∧ kids.length = 1 ∧ 0 ≤ least ∧ least ≤ 16 ∧ most = -1) ∨ (kind = 4 ∧ kids.length = 1 ∧ 0 ≤ least ∧ least ≤ 16 ∧ least ≤ most ∧ most ≤ 16) := by omega
 clear hk
 rcases hk' with rfl | rfl | ⟨rfl, hk1, hk2, hk3, rfl⟩ | ⟨rfl, hk1, hk2, hk3, hk5, hk6⟩
 simp only [w9, reduceEqDiff, reduceLT, reduceAdd, u154, hlen, a0, a1, hs1, ht1, d0, hg0, hkl, e20, e21, e24]
 rotate_left
 simp only [w9, reduceEqDiff, reduceLT, reduceAdd, u154, hlen, a0, a1, hs1, ht1, d0, hg0, hkl, e30, e31, e34, e32]
 rotate_left
 have c1 : decide (¬ ((kids.length : Nat) : Int) = 1) = false := decide_eq_false (by omega)
 have c2 : decide (least < 0) = false := decide_eq_false (by omega)
 have c3 : decide (16 < least) = false := decide_eq_false (by omega)
 simp only [w9, reduceEqDiff, reduceLT, reduceAdd, u154, hlen, a0, a1, hs1, ht1, d0, hg0, hkl, e40, e41, c1, c2, c3, none_beq]
 rotate_left
 have c1 : decide (¬ ((kids.length : Nat) : Int) = 1) = false := decide_eq_false (by omega)
 have c2 : decide (least < 0) = false := decide_eq_false (by omega)
 have c3 : decide (16 < least) = false := decide_eq_false (by omega)
 have c4 : decide (¬ most = -1) = true := decide_eq_true (by omega)
 have c5 : decide (most < least) = false := decide_eq_false (by omega)
 have c6 : decide (16 < most) = false := decide_eq_false (by omega)
 simp only [w9, reduceEqDiff, reduceLT, reduceAdd, u154, hlen, a0, a1, hs1, ht1, d0, hg0, hkl, e40, e41, c1, c2, c3, c4, c5, c6]
 rotate_left
 all_goals
  refine loop_rule (fun m fr H' => ∃ (i : Nat), m = kids.length - i ∧ i ≤ kids.length ∧ fr.length = 66 ∧ fget fr 1 = .int .i64 (d : Nat) ∧ fget fr 52 = slF kf encN kids ∧ fget fr 53 = .int .i64 kids.length ∧ fget fr 54 = .int .i64 i ∧ H.length ≤ H'.length) ?_ kids.length _ _ ⟨0, by simp [w9, hlen, a1]⟩
  clear a0 a1 hlen fr hg0
  rintro m fr H' ⟨i, rfl, hi, hlen, a1, a52, a53, a54, hH⟩ ihl
  simp only [w9, reduceLT, hlen, a53, a54]
  refine RC_split (fun h => ?_) (fun h => ?_)
  ·have hlt : i < kids.length := by simpa using h
   have e1 := hsl.at (P := Tryz.prog) (k := .i64) (i := i) Tryz.underlying174 sz176 encN_len hlt
   obtain ⟨n', hn', hdn'⟩ := hkd kids[i] (List.getElem_mem hlt)
   have n1 := fun (K : Heap) (hK : H.length ≤ K.length) => ih kids[i] (List.getElem_mem hlt) n' (d + 1) hn' hdn' H.length K hK
   have hww := hww i hlt
   generalize kids[i] = x at *
   obtain ⟨k', no', s, x1, x2, t, hx, hs, ht, -, -⟩ := encN_sh x
   rw [hx] at e1 n1
   simp only [AV.cells] at e1
   unfold AV.leaf at hs ht
   have hle2 : ∀ Z, H.length ≤ (H' ++ [Blk.cells 0 Z]).length := fun Z => by simp; omega
   simp only [w9, reduceEqDiff, reduceLT, reduceAdd, reduceCtorEq, reduceMod, u154, hlen, a1, a52, a54, e1, hH, hs, ht, hle2, hwd, n1, hww]
   refine ihl _ _ (kids.length - (i + 1)) (by omega) ⟨i + 1, rfl, hlt, ?_⟩
   simp [w9, hlen, a1, a52, a53]
   omega
  ·simp only [w9]
   exact Fin_pure (l := [.int .i64 0]) (by simp [w9, hlen]) (.still rfl) (by simp)
theorem may_ok : ∀ (x : Nd), Good x → ∀ (n : Nat), Dep n x → ∀ (d : Nat), d + n ≤ 64 → ∀ (prot : Nat) (H : Heap), prot ≤ H.length → aLim cfg prot 154 [encN x, .int .i64 (d : Nat)] H = some (.int .i64 0, none)
 | .mk kind no sf sp least most kf kids, hg, n, hd, d, hdn => may_step kind no sf sp least most kf kids hg n hd d hdn fun x hx n' d' h1 h2 => may_ok x (by cases hg with | mk h _ _ => exact h x hx) n' h1 d' h2
termination_by x => SizeOf.sizeOf x
decreasing_by have := List.sizeOf_lt_of_mem hx; simp; omega
open Go Go.Abs AbsSeat Ty
def LikeS (base : Nat) (H : Heap) (h : HS) (s : St) : Prop := h.kind = s.kind ∧ h.no = s.no ∧ h.one = s.one ∧ h.two = s.two ∧ Row encG 2 true base H h.sv s.sp ∧ (h.sv = .nilS ∨ s.sp ≠ [])
inductive Lks (base : Nat) (H : Heap) : List HS → List St → Prop where
 | nil : Lks base H [] []
 | cons {h : HS} {s : St} {hl : List HS} {l : List St} (a : LikeS base H h s) (b : Lks base H hl l) : Lks base H (h :: hl) (s :: l)
theorem Lks.length {base : Nat} {H : Heap} {hl : List HS} {l : List St} (h : Lks base H hl l) : hl.length = l.length := by
 induction h with
 | nil => rfl
 | cons _ _ ih => simp [ih]
theorem LikeS.keep {base b rb : Nat} {H K : Heap} {h : HS} {s : St} (f : Frm H K b rb) (hb : b < base) (hr : rb < base) (a : LikeS base H h s) : LikeS base K h s := by
 obtain ⟨a1, a2, a3, a4, a5, a6⟩ := a
 exact ⟨a1, a2, a3, a4, f.row hb hr a5, a6⟩
theorem Lks.keep {base b rb : Nat} {H K : Heap} (f : Frm H K b rb) (hb : b < base) (hr : rb < base) {hl : List HS} {l : List St} (h : Lks base H hl l) : Lks base K hl l := by
 induction h with
 | nil => exact .nil
 | cons a _ ih => exact .cons (a.keep f hb hr) ih
theorem Lks.snoc {base : Nat} {H : Heap} {hl : List HS} {l : List St} (h : Lks base H hl l) {x : HS} {s : St} (a : LikeS base H x s) : Lks base H (hl ++ [x]) (l ++ [s]) := by
 induction h with
 | nil => exact .cons a .nil
 | cons a' _ ih => exact .cons a' ih
def MkAt (H : Heap) (b rb : Nat) (l : List St) : Prop := ∃ ver hl, hget H b 0 = some [.bs ⟨rb, ver, 0, l.length, 0, 5, true, false⟩] ∧ hget H rb ver = some (cellsOf encH hl) ∧ Lks (rb + 1) H hl l ∧ ver % 4 = 0
theorem state_ok (l : List St) (x : HS) (s : St) (hl : l.length < 1000000) (b rb prot : Nat) (H : Heap) (hp : prot ≤ b) (hp2 : prot ≤ rb) (hb : b ≠ rb) (hb1 : b ≤ rb) (hm : MkAt H b rb l) (hx : LikeS (rb + 1) H x s) :
  ∃ H', (MkAt H' b rb (l ++ [s]) ∧ Frm H H' b rb) ∧ aLim cfg prot 155 [.ptr b 0 0, encH x] H = some (.int .i64 (l.length : Nat), some H') := by
 obtain ⟨ver, hls, g1, g2, hlk, hv4⟩ := hm
 have hll := hlk.length
 have hxl := x.lf
 have g1' := hget_mono g1 [Blk.cells 0 (encH x).cells]
 have g2' := hget_mono g2 [Blk.cells 0 (encH x).cells]
 have f0 := Frm.more H b rb [Blk.cells 0 (encH x).cells]
 have hlk' := hlk.keep f0 (by omega) (by omega)
 have hx' := hx.keep f0 (by omega) (by omega)
 have hl1 : (H ++ [Blk.cells 0 (encH x).cells]).length = H.length + 1 := by simp
 have hw1 : IntKind.i64.wrap (((l.length + 1 : Nat) : Int) - 1) = (l.length : Nat) := by rw [wrap64 (by omega) (by omega)]; simp
 have f0 : Frm H (H ++ [Blk.cells 0 (encH x).cells] ++ [Blk.cells 0 (encH x).cells]) b rb := (Frm.more H b rb _).trans (Frm.more _ b rb _)
 have g1' := hget_mono (hget_mono g1 [Blk.cells 0 (encH x).cells]) [Blk.cells 0 (encH x).cells]
 have g2' := hget_mono (hget_mono g2 [Blk.cells 0 (encH x).cells]) [Blk.cells 0 (encH x).cells]
 have hlit := litH x (H ++ [Blk.cells 0 (encH x).cells])
 have hel := elemH x (H ++ [Blk.cells 0 (encH x).cells])
 have happ := encH_L.app (prot := prot) (l := hls) (m := [x]) rowSt hxtSt g2' hv4 hel (by simp) (by simp [roomy]; omega) hp2
 rw [hll, hl1] at happ
 rw [hl1] at hlit
 have hll1 : hget (H ++ [Blk.cells 0 (encH x).cells]) b 0 = some [.bs ⟨rb, ver, 0, l.length, 0, 5, true, false⟩] := hget_mono g1 _
 generalize hK : H ++ [Blk.cells 0 (encH x).cells] ++ [Blk.cells 0 (encH x).cells] = K at *
 have hlk' := (hlk.keep (f0.trans (Frm.set2 K b rb (.cells (ver + 4) (cellsOf encH (hls ++ [x]))))) (by omega) (by omega))
 have hx' := (hx.keep (f0.trans (Frm.set2 K b rb (.cells (ver + 4) (cellsOf encH (hls ++ [x]))))) (by omega) (by omega))
 have g3 : hget (K.set rb (.cells (ver + 4) (cellsOf encH (hls ++ [x])))) b 0 = some [.bs ⟨rb, ver, 0, l.length, 0, 5, true, false⟩] := by rw [hget_set_ne hb]; exact g1'
 have g4 : hget (K.set rb (.cells (ver + 4) (cellsOf encH (hls ++ [x])))) rb (ver + 4) = some (cellsOf encH (hls ++ [x])) := by rw [hget_set_same (hget_lt g2'), if_pos rfl]
 have hput1 : hput prot (K.set rb (.cells (ver + 4) (cellsOf encH (hls ++ [x])))) b 0 0 [.bs ⟨rb, ver + 4, 0, l.length + 1, 0, 5, true, false⟩] = some ((K.set rb (.cells (ver + 4) (cellsOf encH (hls ++ [x])))).set b (.cells 0 [.bs ⟨rb, ver + 4, 0, l.length + 1, 0, 5, true, false⟩])) := by
  rw [hput_eq g3 hp (by simp) (by simp [AV.leaf])]; rfl
 have g5 : hget ((K.set rb (.cells (ver + 4) (cellsOf encH (hls ++ [x])))).set b (.cells 0 [.bs ⟨rb, ver + 4, 0, l.length + 1, 0, 5, true, false⟩])) b 0 = some [.bs ⟨rb, ver + 4, 0, l.length + 1, 0, 5, true, false⟩] := hget_set_at (hget_lt g3)
 have hbb : hget (H ++ [Blk.cells 0 (encH x).cells]) H.length 0 = some (encH x).cells := by rw [hget_new rfl, if_pos rfl]
 simp only [encH, AV.cells] at hlit happ hK hbb hll1 hl1
 unfold AV.leaf at hxl
 refine raw_slimE rfl (by kernel_rfl) (by kernel_rfl) (by kernel_rfl) Tryz.func155 s155 (by simp [Tryz.f155]) fun fr hlen h => ?_
 simp only [Has, Nat.zero_add] at h
 obtain ⟨a0, a1, -⟩ := h
 simp only [Tryz.f155] at hlen ⊢
 unfold g155
 simp only [w9, reduceEqDiff, reduceLT, reduceAdd, reduceCtorEq, u154, hlen, a0, a1, encH, hxl, hll1, hbb, hlit, happ, hput1]
 refine ex_draw ?_ ?_
 ·rw [show befs [] _ = [0, 0, 2, 6, 14, 0, 32, 126, 255, 511, 1023] from by kernel_rfl]
  simp [w9, u154, hlen, drawOk, chained, mayAt, sameAt, bound, List.range_succ, Nat.testBit, a0, hll1, hl1, hbb, hlit, happ, hput1, g1', avbeq_refl]
 simp only [w9, reduceLT, hlen, g5, lenSt, hw1]
 refine ⟨_, ⟨⟨ver + 4, hls ++ [x], ?_, ?_, ?_, by omega⟩, ?_⟩, Fin_raw (l := [.int .i64 (l.length : Nat)]) (by simp [w9, hlen])⟩
 ·rw [List.length_append]; exact g5
 ·rw [hget_set_ne (Ne.symm hb)]; exact g4
 ·exact (hlk'.snoc hx').keep (Frm.set1 _ b rb _) (by omega) (by omega)
 ·exact (f0.trans (Frm.set2 _ _ _ _)).trans (Frm.set1 _ _ _ _)
open Go Go.Abs AbsSeat Ty
def repK (f : List St → Int → List St × Int) : Nat → List St → Int → List St × Int
 | 0, l, a => (l, a)
 | n + 1, l, a => repK f n (f l a).1 (f l a).2
def optK (f : List St → Int → List St × Int) (to : Int) : Nat → List St → Int → List St × Int
 | 0, l, a => (l, a)
 | n + 1, l, a => optK f to n ((f l a).1 ++ [⟨2, false, [], (f l a).2, to⟩]) ((f l a).1.length : Nat)
def setOne : List St → Nat → Int → List St
 | [], _, _ => []
 | s :: r, 0, v => ⟨s.kind, s.no, s.sp, v, s.two⟩ :: r
 | s :: r, i + 1, v => s :: setOne r i v
theorem setOne_len : ∀ (l : List St) (i : Nat) (v : Int), (setOne l i v).length = l.length
 | [], _, _ => rfl
 | _ :: _, 0, _ => rfl
 | s :: r, i + 1, v => by rw [setOne, List.length_cons, setOne_len r i v, List.length_cons]
def repS (f : List St → Int → List St × Int) (least most : Int) (l : List St) (to : Int) : List St × Int :=
 if most = -1 then
  if least = 0 then (setOne (f (l ++ [⟨2, false, [], 0, to⟩]) (l.length : Nat)).1 l.length (f (l ++ [⟨2, false, [], 0, to⟩]) (l.length : Nat)).2, (l.length : Nat))
  else repK f (least - 1).toNat (setOne (f (l ++ [⟨2, false, [], 0, to⟩]) (l.length : Nat)).1 l.length (f (l ++ [⟨2, false, [], 0, to⟩]) (l.length : Nat)).2) (f (l ++ [⟨2, false, [], 0, to⟩]) (l.length : Nat)).2
 else repK f least.toNat (optK f to (most - least).toNat l to).1 (optK f to (most - least).toNat l to).2
mutual
def mkN : Nd → List St → Int → List St × Int
 | .mk kind no _ sp least most _ kids, l, to =>
  if kind = 1 then (l ++ [⟨1, no, sp, to, 0⟩], (l.length : Nat))
  else if kind = 2 then mkC kids l to
  else if kind = 3 then mkE kids l to
  else if kind = 4 then
   match kids with
   | [x] => repS (mkN x) least most l to
   | _ => (l, to)
  else (l, to)
def mkC : List Nd → List St → Int → List St × Int
 | [], l, to => (l, to)
 | x :: r, l, to => mkN x (mkC r l to).1 (mkC r l to).2
def mkE : List Nd → List St → Int → List St × Int
 | [], l, to => (l, to)
 | x :: r, l, to => if r.isEmpty = true then mkN x (mkE r l to).1 to else ((mkN x (mkE r l to).1 to).1 ++ [⟨2, false, [], (mkN x (mkE r l to).1 to).2, (mkE r l to).2⟩], ((mkN x (mkE r l to).1 to).1.length : Nat))
end
mutual
def cnt : Nd → Nat
 | .mk kind _ _ _ least most _ kids =>
  if kind = 1 then 1
  else if kind = 2 then cntL kids
  else if kind = 3 then cntL kids + (kids.length - 1)
  else if kind = 4 then
   match kids with
   | [x] => if most = -1 then 1 + (max least 1).toNat * cnt x else (most - least).toNat * (cnt x + 1) + least.toNat * cnt x
   | _ => 0
  else 0
def cntL : List Nd → Nat
 | [] => 0
 | x :: r => cnt x + cntL r
end
theorem repK_len {f : List St → Int → List St × Int} {c : Nat} (hf : ∀ l a, (f l a).1.length = l.length + c) : ∀ (n : Nat) (l : List St) (a : Int), (repK f n l a).1.length = l.length + n * c
 | 0, l, a => by rw [repK]; simp
 | n + 1, l, a => by rw [repK, repK_len hf n, hf, Nat.succ_mul]; omega
theorem optK_len {f : List St → Int → List St × Int} {to : Int} {c : Nat} (hf : ∀ l a, (f l a).1.length = l.length + c) : ∀ (n : Nat) (l : List St) (a : Int), (optK f to n l a).1.length = l.length + n * (c + 1)
 | 0, l, a => by rw [optK]; simp
 | n + 1, l, a => by rw [optK, optK_len hf n, List.length_append, hf, Nat.succ_mul, List.length_singleton]; omega
theorem repS_len {f : List St → Int → List St × Int} {c : Nat} (hf : ∀ l a, (f l a).1.length = l.length + c) (least most : Int) (h0 : 0 ≤ least) (l : List St) (to : Int) :
  (repS f least most l to).1.length = l.length + (if most = -1 then 1 + (max least 1).toNat * c else (most - least).toNat * (c + 1) + least.toNat * c) := by
 unfold repS
 by_cases h1 : most = -1
 ·rw [if_pos h1, if_pos h1]
  by_cases h2 : least = 0
  ·subst h2
   rw [if_pos rfl, setOne_len, hf, List.length_append, List.length_singleton]
   have : (max (0 : Int) 1).toNat = 1 := rfl
   rw [this]; omega
  ·rw [if_neg h2, repK_len hf, setOne_len, hf, List.length_append, List.length_singleton]
   have e : (max least 1).toNat = (least - 1).toNat + 1 := by omega
   rw [e, Nat.succ_mul]; omega
 ·rw [if_neg h1, if_neg h1, repK_len hf, optK_len hf]; omega
inductive Fair : Nd → Prop where
 | mk {kind : Int} {no sf : Bool} {sp : List Sg} {least most : Int} {kf : Bool} {kids : List Nd} (h : ∀ x ∈ kids, Fair x) (h4 : kind = 4 → 0 ≤ least) : Fair (.mk kind no sf sp least most kf kids)
theorem Good.fair : ∀ {x : Nd}, Good x → Fair x
 | .mk kind no sf sp least most kf kids, hg => .mk (fun x hx => Good.fair (x := x) (by cases hg with | mk h _ _ => exact h x hx)) (fun h4 => by cases hg with | mk _ hk _ => omega)
termination_by x => SizeOf.sizeOf x
decreasing_by have := List.sizeOf_lt_of_mem hx; simp; omega
mutual
theorem mkN_len : ∀ (x : Nd), Fair x → ∀ (l : List St) (to : Int), (mkN x l to).1.length = l.length + cnt x
 | .mk kind no sf sp least most kf kids, hf, l, to => by
  cases hf with
  | mk hk h4 =>
  rw [mkN.eq_def, cnt.eq_def]
  dsimp only
  by_cases h1 : kind = 1
  ·rw [if_pos h1, if_pos h1]; simp
  ·rw [if_neg h1, if_neg h1]
   by_cases h2 : kind = 2
   ·rw [if_pos h2, if_pos h2]; exact mkC_len kids hk l to
   ·rw [if_neg h2, if_neg h2]
    by_cases h3 : kind = 3
    ·rw [if_pos h3, if_pos h3]; exact mkE_len kids hk l to
    ·rw [if_neg h3, if_neg h3]
     by_cases h5 : kind = 4
     ·rw [if_pos h5, if_pos h5]
      match kids, hk with
      | [], _ => simp
      | [x], hk =>
       dsimp only
       exact repS_len (mkN_len x (hk x (by simp))) least most (h4 h5) l to
      | x :: y :: r, _ => simp
     ·rw [if_neg h5, if_neg h5]; simp
theorem mkC_len : ∀ (kids : List Nd), (∀ x ∈ kids, Fair x) → ∀ (l : List St) (to : Int), (mkC kids l to).1.length = l.length + cntL kids
 | [], _, l, to => by rw [mkC, cntL]; rfl
 | x :: r, hk, l, to => by
  rw [mkC, cntL, mkN_len x (hk x (by simp)), mkC_len r (fun y hy => hk y (by simp [hy])) l to]; omega
theorem mkE_len : ∀ (kids : List Nd), (∀ x ∈ kids, Fair x) → ∀ (l : List St) (to : Int), (mkE kids l to).1.length = l.length + (cntL kids + (kids.length - 1))
 | [], _, l, to => by rw [mkE, cntL]; rfl
 | x :: r, hk, l, to => by
  rw [mkE, cntL]
  have h1 := mkN_len x (hk x (by simp)) (mkE r l to).1 to
  have h2 := mkE_len r (fun y hy => hk y (by simp [hy])) l to
  cases r with
  | nil => simp only [List.isEmpty_nil, if_true, h1, h2, List.length_cons, List.length_nil]; omega
  | cons y r =>
   simp only [List.isEmpty_cons, Bool.false_eq_true, if_false, List.length_append, h1, h2, List.length_cons, List.length_nil]; omega
end
theorem cut_lt {n : Nat} (h : cutN n < 2147483647) : cutN n = n := by unfold cutN at h ⊢; omega
theorem sizeL_ge (e : Bool) : ∀ (l : List Nd) (f : Bool) (a : Nat), sizeL e f a l < 2147483647 → a ≤ sizeL e f a l
 | [], f, a, h => by rw [sizeL]; exact Nat.le_refl _
 | x :: r, f, a, h => by
  rw [sizeL] at h ⊢
  have := sizeL_ge e r _ _ h
  by_cases h1 : (e && !f) = true
  ·rw [if_pos h1] at this h ⊢
   have e1 := cut_lt (Nat.lt_of_le_of_lt this h)
   have e2 : cutN (a + sizeN x) < 2147483647 := by omega
   have e2 := cut_lt e2
   omega
  ·rw [if_neg h1] at this h ⊢
   have e1 := cut_lt (Nat.lt_of_le_of_lt this h)
   omega
theorem sizeL_sum (e : Bool) : ∀ (l : List Nd) (f : Bool) (a : Nat), sizeL e f a l < 2147483647 → (∀ x ∈ l, sizeN x < 2147483647 → cnt x = sizeN x) → sizeL e f a l = a + cntL l + (if e = true then l.length - (if f = true then 1 else 0) else 0)
 | [], f, a, h, _ => by rw [sizeL, cntL]; simp
 | x :: r, f, a, h, hx => by
  rw [sizeL] at h ⊢
  have h0 := sizeL_ge e r _ _ h
  have ih := sizeL_sum e r false _ h (fun y hy => hx y (by simp [hy]))
  rw [cntL]
  have hc := hx x (by simp)
  rw [ih]
  cases e with
  | false =>
   simp only [Bool.false_and, Bool.false_eq_true, if_false] at h h0 ih ⊢
   have e1 := cut_lt (Nat.lt_of_le_of_lt h0 h)
   have := hc (by omega)
   omega
  | true =>
   cases f with
   | true =>
    simp only [Bool.not_true, Bool.and_false, Bool.false_eq_true, if_false, if_true, List.length_cons] at h h0 ih ⊢
    have e1 := cut_lt (Nat.lt_of_le_of_lt h0 h)
    have := hc (by omega)
    omega
   | false =>
    simp only [Bool.not_false, Bool.and_true, Bool.false_eq_true, if_false, if_true, List.length_cons] at h h0 ih ⊢
    have e1 := cut_lt (Nat.lt_of_le_of_lt h0 h)
    have e2 : cutN (a + sizeN x) < 2147483647 := by omega
    have e2 := cut_lt e2
    have := hc (by omega)
    omega
theorem cnt_size : ∀ (x : Nd), Good x → sizeN x < 2147483647 → cnt x = sizeN x
 | .mk kind no sf sp least most kf kids, hg, h => by
  have hx : ∀ x ∈ kids, sizeN x < 2147483647 → cnt x = sizeN x := fun x hx => cnt_size x (by cases hg with | mk h _ _ => exact h x hx)
  cases hg with
  | mk hk hkd hl =>
  rw [sizeN.eq_def] at h ⊢
  rw [cnt.eq_def]
  dsimp only at h ⊢
  by_cases h1 : kind = 1
  ·rw [if_pos h1, if_pos h1]
  ·rw [if_neg h1] at h ⊢
   rw [if_neg h1]
   by_cases h2 : kind = 2
   ·subst h2
    rw [if_pos (show (2 : Int) = 2 ∨ (2 : Int) = 3 from .inl rfl)] at h ⊢
    rw [if_pos rfl]
    have := sizeL_sum _ kids true 0 h hx
    simp at this h ⊢
    omega
   ·rw [if_neg h2]
    by_cases h3 : kind = 3
    ·subst h3
     rw [if_pos (show (3 : Int) = 2 ∨ (3 : Int) = 3 from .inr rfl)] at h ⊢
     rw [if_pos rfl]
     have := sizeL_sum _ kids true 0 h hx
     simp at this h ⊢
     omega
    ·rw [if_neg (show ¬ (kind = 2 ∨ kind = 3) by omega)] at h ⊢
     rw [if_neg h3]
     by_cases h4 : kind = 4
     ·rw [if_pos h4] at h ⊢
      rw [if_pos h4]
      have hk4 : kids.length = 1 ∧ 0 ≤ least ∧ least ≤ 16 ∧ (most = -1 ∨ (least ≤ most ∧ most ≤ 16)) := by omega
      match kids, hk4 with
      | [x], ⟨_, hk2, hk3, hk5⟩ =>
       dsimp only at h ⊢
       have hx := hx x (by simp)
       by_cases h5 : most = -1
       ·rw [if_pos h5] at h ⊢
        rw [if_pos h5]
        have e1 := cut_lt h
        have e2 : cutN ((max least 1).toNat * sizeN x) < 2147483647 := by omega
        have e2 := cut_lt e2
        have e3 : sizeN x ≤ (max least 1).toNat * sizeN x := Nat.le_mul_of_pos_left _ (by omega)
        rw [hx (by omega)]
        omega
       ·rw [if_neg h5] at h ⊢
        rw [if_neg h5]
        have e1 := cut_lt h
        have e2 : cutN (least.toNat * sizeN x) < 2147483647 := by omega
        have e2 := cut_lt e2
        have e3 : cutN ((most - least).toNat * (sizeN x + 1)) < 2147483647 := by omega
        have e3 := cut_lt e3
        rw [e1, e2, e3]
        by_cases h6 : sizeN x < 2147483647
        ·rw [hx h6]; omega
        ·have h7 := sizeN_le x
         have h8 : sizeN x = 2147483647 := by omega
         rw [h8] at e2 e3 h e1
         have : least.toNat = 0 := by omega
         have h9 : (most - least).toNat = 0 := by omega
         rw [this, h9]; simp
     ·rw [if_neg h4, if_neg h4]
termination_by x => SizeOf.sizeOf x
decreasing_by have := List.sizeOf_lt_of_mem hx; simp; omega
open Go Go.Abs AbsSeat Ty
def MkOk (x : Nd) : Prop := ∀ (l : List St) (to : Int) (b rb prot : Nat) (H : Heap), l.length + cnt x ≤ 100000 → prot ≤ b → b < rb → MkAt H b rb l →
 ∃ H', (MkAt H' b rb (mkN x l to).1 ∧ Frm H H' b rb) ∧ aLim cfg prot 156 [.ptr b 0 0, encN x, .int .i64 to] H = some (.int .i64 (mkN x l to).2, some H')
theorem cntL_drop : ∀ (l : List Nd) (k : Nat), cntL (l.drop k) ≤ cntL l
 | [], k => by simp [cntL]
 | x :: r, 0 => Nat.le_refl _
 | x :: r, k + 1 => by rw [List.drop_succ_cons, cntL]; have := cntL_drop r k; omega
theorem split_ok (l : List St) (one two : Int) (hl : l.length < 1000000) (b rb prot : Nat) (H : Heap) (hp : prot ≤ b) (hb : b < rb) (hm : MkAt H b rb l) :
  ∃ H', (MkAt H' b rb (l ++ [⟨2, false, [], one, two⟩]) ∧ Frm H H' b rb) ∧ aLim cfg prot 155 [.ptr b 0 0, .agg [.int .i64 2, .bool false, .nilS, .int .i64 one, .int .i64 two]] H = some (.int .i64 (l.length : Nat), some H') :=
 state_ok l ⟨2, false, .nilS, rfl, one, two⟩ ⟨2, false, [], one, two⟩ hl b rb prot H hp (by omega) (by omega) (by omega) hm ⟨rfl, rfl, rfl, rfl, Row.nil, .inl rfl⟩
theorem wrap_dec {k : Nat} (h : k ≤ 1000000) : IntKind.i64.wrap ((k : Int) - 1) = (k : Int) - 1 := wrap64 (by omega) (by omega)
theorem mkeither_ok (kids : List Nd) (hk : ∀ x ∈ kids, MkOk x) (hf : ∀ x ∈ kids, Fair x) (v : AV) (hv : Sl encN v kids) (hkl : kids.length ≤ 1000000) (l : List St) (to : Int) (b rb prot : Nat) (H : Heap) (hl : l.length + (cntL kids + (kids.length - 1)) ≤ 100000) (hp : prot ≤ b) (hb : b < rb) (hm : MkAt H b rb l) :
  ∃ H', (MkAt H' b rb (mkE kids l to).1 ∧ Frm H H' b rb) ∧ aLim cfg prot 176 [.ptr b 0 0, v, .int .i64 to] H = some (.int .i64 (mkE kids l to).2, some H') := by
 have hvl := fun K : Heap => hv.len (P := Tryz.prog) (H := K) Tryz.underlying174
 have hw0 := wrap_dec hkl
 refine raw_slimE rfl (by kernel_rfl) (by kernel_rfl) (by kernel_rfl) Tryz.func176 s176 (by simp [Tryz.f176]) fun fr hlen h => ?_
 simp only [Has, Nat.zero_add] at h
 obtain ⟨a0, a1, a2, -⟩ := h
 simp only [Tryz.f176] at hlen ⊢
 unfold g176
 simp only [w9, reduceEqDiff, reduceLT, hlen, a1, a2, hvl, hw0]
 refine loop_ruleE (fun m fr H' => ∃ (k : Nat), m = k ∧ k ≤ kids.length ∧ fr.length = 37 ∧ fget fr 0 = .ptr b 0 0 ∧ fget fr 1 = v ∧ fget fr 2 = .int .i64 to ∧ fget fr 7 = .int .i64 (mkE (kids.drop k) l to).2 ∧ fget fr 8 = .int .i64 ((k : Int) - 1)
  ∧ MkAt H' b rb (mkE (kids.drop k) l to).1 ∧ Frm H H' b rb) ?_ kids.length _ _ ⟨kids.length, by
   rw [List.drop_of_length_le (Nat.le_refl _)]
   refine ⟨rfl, Nat.le_refl _, by simp [w9, hlen], by simp [w9, a0], by simp [w9, a1], by simp [w9, a2], by simp [w9, hlen, mkE], by simp [w9, hlen], hm, Frm.refl _ _ _⟩⟩
 clear a0 a1 a2 hlen fr
 rintro m fr H' ⟨k, rfl, hki, hlen, a0, a1, a2, a7, a8, hm1, f1⟩ ih
 cases m with
 | zero =>
  have d1 : decide (((0 : Nat) : Int) - 1 ≥ 0) = false := rfl
  rw [List.drop_zero] at hm1 a7
  simp only [w9, reduceEqDiff, reduceLT, hlen, a7, a8, d1]
  exact ⟨_, ⟨hm1, f1⟩, Fin_raw (l := [.int .i64 (mkE kids l to).2]) (by simp [w9, hlen])⟩
 | succ j =>
  have e0 : ((j + 1 : Nat) : Int) - 1 = (j : Nat) := by omega
  rw [e0] at a8
  have d1 : decide (((j : Nat) : Int) ≥ 0) = true := decide_eq_true (by omega)
  have e1 := hv.at (P := Tryz.prog) (k := .i64) (i := j) Tryz.underlying174 sz176 encN_len (by omega)
  have hdj : kids.drop j = kids[j] :: kids.drop (j + 1) := by simp
  have hcl := cntL_drop kids j
  have hml := mkE_len (kids.drop (j + 1)) (fun y hy => hf y (List.mem_of_mem_drop hy)) l to
  have hdl : (kids.drop (j + 1)).length = kids.length - (j + 1) := by simp
  rw [hdj, cntL] at hcl
  obtain ⟨H2, ⟨hm2, f2⟩, n1⟩ := hk kids[j] (List.getElem_mem _) _ to b rb prot H' (by rw [hml]; omega) hp hb hm1
  have hnl := mkN_len kids[j] (hf _ (List.getElem_mem _)) (mkE (kids.drop (j + 1)) l to).1 to
  rw [hml] at hnl
  have hmk : mkE (kids.drop j) l to = if (kids.drop (j + 1)).isEmpty = true then mkN kids[j] (mkE (kids.drop (j + 1)) l to).1 to else ((mkN kids[j] (mkE (kids.drop (j + 1)) l to).1 to).1 ++ [⟨2, false, [], (mkN kids[j] (mkE (kids.drop (j + 1)) l to).1 to).2, (mkE (kids.drop (j + 1)) l to).2⟩], ((mkN kids[j] (mkE (kids.drop (j + 1)) l to).1 to).1.length : Nat)) := by
   rw [hdj, mkE]
  generalize kids[j] = x at *
  generalize mkE (kids.drop (j + 1)) l to = q at *
  generalize mkN x q.1 to = w at *
  obtain ⟨k', no', s, x1, x2, t, hx, hs, ht, -, -⟩ := encN_sh x
  rw [hx] at e1 n1
  simp only [AV.cells] at e1
  have hw2 := wrap_dec (k := j) (by omega)
  by_cases hlast : j + 1 = kids.length
  ·have d2 : decide (((j : Nat) : Int) < (kids.length : Int) - 1) = false := decide_eq_false (by omega)
   have hem : (kids.drop (j + 1)).isEmpty = true := by rw [hlast]; simp
   rw [if_pos hem] at hmk
   simp only [w9, reduceEqDiff, reduceLT, reduceAdd, reduceCtorEq, u154, hlen, a0, a1, a2, a8, d1, e1, n1, hvl, hw0, d2, hw2]
   refine ih _ _ j (by omega) ⟨j, rfl, by omega, by simp [w9, hlen], by simp [w9, a0], by simp [w9, a1], by simp [w9, a2], ?_, by simp [w9, hlen], ?_, f1.trans f2⟩
   ·rw [hmk]; simp [w9, hlen]
   ·rw [hmk]; exact hm2
  ·have d2 : decide (((j : Nat) : Int) < (kids.length : Int) - 1) = true := decide_eq_true (by omega)
   have hem : ¬ (kids.drop (j + 1)).isEmpty = true := by rw [List.isEmpty_iff_length_eq_zero, hdl]; omega
   rw [if_neg hem] at hmk
   obtain ⟨H3, ⟨hm3, f3⟩, n2⟩ := split_ok w.1 w.2 q.2 (by rw [hnl]; omega) b rb prot H2 hp hb hm2
   simp only [w9, reduceEqDiff, reduceLT, reduceAdd, reduceLeDiff, reduceCtorEq, u154, hlen, a0, a1, a2, a7, a8, d1, e1, n1, hvl, hw0, d2, n2, hw2]
   refine ih _ _ j (by omega) ⟨j, rfl, by omega, by simp [w9, hlen], by simp [w9, a0], by simp [w9, a1], by simp [w9, a2], ?_, by simp [w9, hlen], ?_, (f1.trans f2).trans f3⟩
   ·rw [hmk]; simp [w9, hlen]
   ·rw [hmk]; exact hm3
def setOneH : List HS → Nat → Int → List HS
 | [], _, _ => []
 | s :: r, 0, v => ⟨s.kind, s.no, s.sv, s.lf, v, s.two⟩ :: r
 | s :: r, i + 1, v => s :: setOneH r i v
theorem setOneH_cells : ∀ (l : List HS) (i : Nat) (v : Int), i < l.length → splice (cellsOf encH l) (i * 5 + 3) [.int .i64 v] = cellsOf encH (setOneH l i v)
 | [], i, v, h => by simp at h
 | s :: r, 0, v, _ => by simp [splice, cellsOf, setOneH, encH, AV.cells]
 | s :: r, i + 1, v, h => by
  have ih := setOneH_cells r i v (by simpa using h)
  rw [setOneH]
  have e : ∀ t : List HS, cellsOf encH (s :: t) = (encH s).cells ++ cellsOf encH t := fun t => by simp [cellsOf]
  rw [e, e, ← ih]
  have h5 : (encH s).cells.length = 5 := rfl
  unfold splice
  have e2 : (i + 1) * 5 + 3 = (encH s).cells.length + (i * 5 + 3) := by rw [h5]; omega
  rw [e2, List.take_length_add_append, List.append_assoc, Nat.add_assoc, List.drop_length_add_append]
  simp only [List.append_assoc]
theorem Lks.setOne {base : Nat} {H : Heap} {hl : List HS} {l : List St} (h : Lks base H hl l) : ∀ (i : Nat) (v : Int), Lks base H (setOneH hl i v) (setOne l i v) := by
 induction h with
 | nil => intro i v; exact .nil
 | cons a b ih =>
  intro i v
  cases i with
  | zero => obtain ⟨a1, a2, a3, a4, a5, a6⟩ := a; exact .cons ⟨a1, a2, rfl, a4, a5, a6⟩ b
  | succ i => exact .cons a (ih i v)
theorem MkAt.setOne {H : Heap} {b rb : Nat} {l : List St} (h : MkAt H b rb l) {prot : Nat} (hp : prot ≤ rb) (hb : b < rb) {i : Nat} (hi : i < l.length) (v : Int) : ∃ ver H', hget H b 0 = some [.bs ⟨rb, ver, 0, l.length, 0, 5, true, false⟩] ∧ hput prot H rb ver (i * 5 + 3) [.int .i64 v] = some H' ∧ MkAt H' b rb (Proofs.YtnipaiklandliaaGreatDoor.setOne l i v) ∧ Frm H H' b rb := by
 obtain ⟨ver, hls, g1, g2, hlk, hv4⟩ := h
 have hll := hlk.length
 refine ⟨ver, _, g1, hput_eq g2 hp ?_ (by simp [AV.leaf]), ⟨ver, setOneH hls i v, ?_, ?_, (hlk.setOne i v).keep (Frm.set2 H b rb _) (by omega) (by omega), hv4⟩, Frm.set2 H b rb _⟩
 ·have := encH_L.length hls
  simp only [List.length_singleton]
  omega
 ·rw [hget_set_ne (by omega), setOne_len]; exact g1
 ·rw [hget_set_same (hget_lt g2), if_pos rfl, setOneH_cells hls i v (by omega)]
theorem mkrepeat_ok (x : Nd) (hx0 : MkOk x) (hfx : Fair x) (no sf : Bool) (sp : List Sg) (least most : Int) (kf : Bool) (h1 : 0 ≤ least) (h2 : least ≤ 16) (h3 : most = -1 ∨ (least ≤ most ∧ most ≤ 16)) (l : List St) (to : Int) (b rb prot : Nat) (H : Heap)
  (hl : l.length + cnt (.mk 4 no sf sp least most kf [x]) ≤ 100000) (hp : prot ≤ b) (hb : b < rb) (hm : MkAt H b rb l) :
  ∃ H', (MkAt H' b rb (repS (mkN x) least most l to).1 ∧ Frm H H' b rb) ∧ aLim cfg prot 177 [.ptr b 0 0, encN (.mk 4 no sf sp least most kf [x]), .int .i64 to] H = some (.int .i64 (repS (mkN x) least most l to).2, some H') := by
 obtain ⟨a, rfl⟩ : ∃ a : Nat, least = a := ⟨least.toNat, by omega⟩
 generalize hle : (a : Int) = least at *
 have hcnt : cnt (.mk 4 no sf sp least most kf [x]) = if most = -1 then 1 + (max least 1).toNat * cnt x else (most - least).toNat * (cnt x + 1) + least.toNat * cnt x := by rw [cnt.eq_def]; simp
 rw [hcnt] at hl
 have hfl := mkN_len x hfx
 have hrl := repS_len hfl least most h1 l to
 have hs1 := slF_leaf sf encG sp
 have ht1 := slF_leaf kf encN [x]
 have hk0 := (slF_sl kf encN [x]).at (P := Tryz.prog) (k := .i64) (i := 0) Tryz.underlying174 sz176 encN_len (by simp)
 simp only [List.getElem_cons_zero] at hk0
 have e1 : aIndexAddr Tryz.prog 174 (slF kf encN [x]) (.int .i64 0) = some (.vptr (encN x).cells 0) := hk0
 have hrb : rb < H.length := by obtain ⟨ver, hls, g1, g2, -, -⟩ := hm; exact hget_lt g2
 obtain ⟨k', no', s', x1, x2, t, hx, hs, ht, -, -⟩ := encN_sh x
 have hcx : (encN x).cells = [.int .i64 k', .bool no', s', .int .i64 x1, .int .i64 x2, t] := by rw [hx]; rfl
 rw [hcx] at e1
 have hlZ : ∀ Z, (H ++ [Blk.cells 0 Z]).length = H.length + 1 := fun Z => by simp
 have hz4 : hget (H ++ [Blk.cells 0 [.int .i64 4, .bool no, slF sf encG sp, .int .i64 least, .int .i64 most, slF kf encN [x]]] ++ [Blk.cells 0 [.int .i64 k', .bool no', s', .int .i64 x1, .int .i64 x2, t]]) H.length 0 = some [.int .i64 4, .bool no, slF sf encG sp, .int .i64 least, .int .i64 most, slF kf encN [x]] := hget_mono (by rw [hget_new rfl, if_pos rfl]) _
 have hz7 : hget (H ++ [Blk.cells 0 [.int .i64 4, .bool no, slF sf encG sp, .int .i64 least, .int .i64 most, slF kf encN [x]]] ++ [Blk.cells 0 [.int .i64 k', .bool no', s', .int .i64 x1, .int .i64 x2, t]]) (H.length + 1) 0 = some [.int .i64 k', .bool no', s', .int .i64 x1, .int .i64 x2, t] := by rw [hget_new (hlZ _).symm, if_pos rfl]
 have f0 : Frm H (H ++ [Blk.cells 0 [.int .i64 4, .bool no, slF sf encG sp, .int .i64 least, .int .i64 most, slF kf encN [x]]] ++ [Blk.cells 0 [.int .i64 k', .bool no', s', .int .i64 x1, .int .i64 x2, t]]) b rb := (Frm.more H b rb _).trans (Frm.more _ b rb _)
 have hm0 : MkAt (H ++ [Blk.cells 0 [.int .i64 4, .bool no, slF sf encG sp, .int .i64 least, .int .i64 most, slF kf encN [x]]] ++ [Blk.cells 0 [.int .i64 k', .bool no', s', .int .i64 x1, .int .i64 x2, t]]) b rb l := by
  obtain ⟨ver, hls, g1, g2, g3, g4⟩ := hm
  exact ⟨ver, hls, hget_mono (hget_mono g1 _) _, hget_mono (hget_mono g2 _) _, g3.keep f0 (by omega) (by omega), g4⟩
 have hg1 : hget (H ++ [Blk.cells 0 [.int .i64 4, .bool no, slF sf encG sp, .int .i64 least, .int .i64 most, slF kf encN [x]]]) H.length 0 = some [.int .i64 4, .bool no, slF sf encG sp, .int .i64 least, .int .i64 most, slF kf encN [x]] := by rw [hget_new rfl, if_pos rfl]
 have hs0 := hs
 have ht0 := ht
 have hpn : hput prot (H ++ [Blk.cells 0 [.int .i64 4, .bool no, slF sf encG sp, .int .i64 least, .int .i64 most, slF kf encN [x]]] ++ [Blk.cells 0 [.int .i64 0, .bool false, .nilS, .int .i64 0, .int .i64 0, .nilS]]) (H.length + 1) 0 0 [.int .i64 k', .bool no', s', .int .i64 x1, .int .i64 x2, t] = some (H ++ [Blk.cells 0 [.int .i64 4, .bool no, slF sf encG sp, .int .i64 least, .int .i64 most, slF kf encN [x]]] ++ [Blk.cells 0 [.int .i64 k', .bool no', s', .int .i64 x1, .int .i64 x2, t]]) := by
  rw [hput_new (hlZ _).symm (by rw [hlZ]; omega) (by simp) (by simp only [List.all_cons, List.all_nil, hs0, ht0]; rfl)]; rfl
 generalize hK : H ++ [Blk.cells 0 [.int .i64 4, .bool no, slF sf encG sp, .int .i64 least, .int .i64 most, slF kf encN [x]]] ++ [Blk.cells 0 [.int .i64 k', .bool no', s', .int .i64 x1, .int .i64 x2, t]] = K at *
 refine raw_slimE rfl (by kernel_rfl) (by kernel_rfl) (by kernel_rfl) Tryz.func177 s177 (by simp [Tryz.f177]) fun fr hlen h => ?_
 simp only [Has, Nat.zero_add] at h
 obtain ⟨a0, a1, a2, -⟩ := h
 simp only [Tryz.f177] at hlen ⊢
 unfold g177
 rw [encN_eq] at a1
 unfold AV.leaf at hs1 ht1 hs ht
 have hT : (repS (mkN x) least most l to).1.length ≤ 100000 := by rw [hrl]; exact hl
 have hxo := fun (l : List St) (to : Int) (H : Heap) (hl : l.length + cnt x ≤ 100000) (hm : MkAt H b rb l) => hx0 l to b rb prot H hl hp hb hm
 simp only [hx] at hxo
 by_cases hm1 : most = -1
 rotate_left
 have d1 : decide (most = -1) = false := decide_eq_false hm1
 have hq : repS (mkN x) least most l to = repK (mkN x) a (optK (mkN x) to (most - least).toNat l to).1 (optK (mkN x) to (most - least).toNat l to).2 := by unfold repS; rw [if_neg hm1, show least.toNat = a by omega]
 simp only [w9, reduceEqDiff, reduceLT, reduceAdd, u154, hlen, a1, a2, hs1, ht1, e1, hg1, hlZ, hpn, hz4, d1]
 have mc := hm0
 have fc := f0
 have hz4c := hz4
 have hz7c := hz7
 rotate_left
 rw [if_pos hm1] at hl
 have hlec : cnt x ≤ (max least 1).toNat * cnt x := Nat.le_mul_of_pos_left _ (by omega)
 have d1 : decide (most = -1) = true := decide_eq_true hm1
 obtain ⟨H1, ⟨m1, f1⟩, n1⟩ := split_ok l 0 to (by omega) b rb prot K hp hb hm0
 obtain ⟨H2, ⟨m2, f2⟩, n2⟩ := hxo (l ++ [⟨2, false, [], 0, to⟩]) (l.length : Nat) H1 (by rw [List.length_append, List.length_singleton]; omega) m1
 have hwl := hfl (l ++ [⟨2, false, [], 0, to⟩]) (l.length : Nat)
 rw [List.length_append, List.length_singleton] at hwl
 have z7 := f1.keep _ _ _ (by omega) (by omega) hz7
 have hunf : repS (mkN x) least most l to = if least = 0 then (setOne (mkN x (l ++ [⟨2, false, [], 0, to⟩]) (l.length : Nat)).1 l.length (mkN x (l ++ [⟨2, false, [], 0, to⟩]) (l.length : Nat)).2, ((l.length : Nat) : Int))
   else repK (mkN x) (least - 1).toNat (setOne (mkN x (l ++ [⟨2, false, [], 0, to⟩]) (l.length : Nat)).1 l.length (mkN x (l ++ [⟨2, false, [], 0, to⟩]) (l.length : Nat)).2) (mkN x (l ++ [⟨2, false, [], 0, to⟩]) (l.length : Nat)).2 := by unfold repS; rw [if_pos hm1]
 generalize mkN x (l ++ [⟨2, false, [], 0, to⟩]) (l.length : Nat) = w at *
 obtain ⟨ver, H3, g, hput3, mc, f3⟩ := m2.setOne (prot := prot) (by omega) hb (i := l.length) (by omega) w.2
 have eI : aIndexAddr Tryz.prog 179 (.bs ⟨rb, ver, 0, w.1.length, 0, 5, true, false⟩) (.int .i64 (l.length : Nat)) = some (.ptr rb ver (l.length * 5)) := by
  simp [aIndexAddr, asNat, Tryz.underlying179, sz219]; omega
 have fc := ((f0.trans f1).trans f2).trans f3
 by_cases h0 : least = 0
 ·have d2 : decide (least = 0) = true := decide_eq_true h0
  rw [if_pos h0] at hunf
  rw [hunf]
  simp only [w9, reduceEqDiff, reduceLT, reduceAdd, reduceLeDiff, reduceCtorEq, u154, hlen, a0, a1, a2, hs1, ht1, e1, hg1, hlZ, hpn, hz4, d1, n1, z7, n2, g, eI, hput3, d2]
  exact ⟨_, ⟨mc, fc⟩, Fin_raw (l := [.int .i64 (l.length : Nat)]) (by simp [w9, hlen])⟩
 rw [if_neg h0] at hunf
 have d2 : decide (least = 0) = false := decide_eq_false h0
 have hw1 : IntKind.i64.wrap (least - 1) = ((a - 1 : Nat) : Int) := by rw [wrap64 (by omega) (by omega)]; omega
 have hz4c := (f1.trans (f2.trans f3)).keep _ _ _ (by omega) (by omega) hz4
 have hz7c := (f1.trans (f2.trans f3)).keep _ _ _ (by omega) (by omega) hz7
 have hq : repS (mkN x) least most l to = repK (mkN x) (a - 1) (optK (mkN x) to (most - least).toNat (setOne w.1 l.length w.2) w.2).1 (optK (mkN x) to (most - least).toNat (setOne w.1 l.length w.2) w.2).2 := by
  rw [hunf, show (most - least).toNat = 0 by omega, show (least - 1).toNat = a - 1 by omega]; rfl
 simp only [w9, reduceEqDiff, reduceLT, reduceAdd, reduceLeDiff, reduceCtorEq, u154, hlen, a0, a1, a2, hs1, ht1, e1, hg1, hlZ, hpn, hz4, d1, n1, z7, n2, g, eI, hput3, d2, hw1, hz4c]
 all_goals
  clear hz4 hz7 hm0 f0 hpn hg1
  refine loop_ruleE (fun m fr H' => ∃ (l1 : List St) (a1 : Int) (n : Nat) (i : Int), m = (most - i).toNat ∧ 0 ≤ i ∧ i ≤ 1000 ∧ n ≤ a ∧ repS (mkN x) least most l to = repK (mkN x) n (optK (mkN x) to m l1 a1).1 (optK (mkN x) to m l1 a1).2 ∧ MkAt H' b rb l1 ∧ Frm H H' b rb ∧
   hget H' H.length 0 = some [.int .i64 4, .bool no, slF sf encG sp, .int .i64 least, .int .i64 most, slF kf encN [x]] ∧ hget H' (H.length + 1) 0 = some [.int .i64 k', .bool no', s', .int .i64 x1, .int .i64 x2, t] ∧
   fr.length = 70 ∧ fget fr 0 = .ptr b 0 0 ∧ fget fr 2 = .int .i64 to ∧ fget fr 4 = .ptr H.length 0 0 ∧ fget fr 7 = .ptr (H.length + 1) 0 0 ∧ fget fr 8 = .int .i64 a1 ∧ fget fr 9 = .int .i64 (n : Nat) ∧ fget fr 11 = .int .i64 i) ?_ (most - least).toNat _ _
   ⟨_, _, _, _, rfl, h1, by omega, by omega, hq, mc, fc, hz4c, hz7c, by simp [w9, hlen], by simp [w9, a0], by simp [w9, a2], by simp [w9, hlen], by simp [w9, hlen], by simp [w9, hlen], by simp [w9, hlen, hle], by simp [w9, hlen]⟩
  clear hz4c hz7c mc fc hq a0 a1 a2 hlen fr
  rintro m fr H' ⟨l1, a1, n, i, rfl, hi0, hi1, hna, hq, hm, f, hz4, hz7, hlen, b0, b2, b4, b7, b8, b9, b11⟩ ih
  have hTl : (repS (mkN x) least most l to).1.length = l1.length + (most - i).toNat * (cnt x + 1) + n * cnt x := by rw [hq, repK_len hfl, optK_len hfl]
  have hT2 := hT
  rw [hTl] at hT
  by_cases hi : i < most
  ·have hk : (most - i).toNat = (most - (i + 1)).toNat + 1 := by omega
   rw [hk] at hq hT
   rw [optK] at hq
   rw [Nat.succ_mul] at hT
   obtain ⟨H2, ⟨m2, f2⟩, n1⟩ := hxo l1 a1 H' (by omega) hm
   have hwl := hfl l1 a1
   generalize mkN x l1 a1 = w at *
   obtain ⟨H3, ⟨m3, f3⟩, n2⟩ := split_ok w.1 w.2 to (by omega) b rb prot H2 hp hb m2
   have d5 : decide (i < most) = true := decide_eq_true hi
   have hw : IntKind.i64.wrap (i + 1) = i + 1 := wrap64 (by omega) (by omega)
   simp only [w9, reduceEqDiff, reduceLT, reduceAdd, reduceLeDiff, reduceCtorEq, u154, hlen, b0, b2, b4, b7, b8, b11, hz4, d5, hz7, n1, n2, hw]
   refine ih _ _ (most - (i + 1)).toNat (by omega) ⟨_, _, n, i + 1, rfl, by omega, by omega, hna, hq, m3, (f.trans f2).trans f3, (f2.trans f3).keep _ _ _ (by omega) (by omega) hz4, (f2.trans f3).keep _ _ _ (by omega) (by omega) hz7,
    by simp [w9, hlen], by simp [w9, b0], by simp [w9, b2], by simp [w9, b4], by simp [w9, b7], by simp [w9, hlen], by simp [w9, b9], by simp [w9, hlen]⟩
  ·have hk : (most - i).toNat = 0 := by omega
   rw [hk] at hq hT
   rw [optK] at hq
   try dsimp only at hq
   have d5 : decide (i < most) = false := decide_eq_false hi
   simp only [w9, reduceEqDiff, reduceLT, reduceAdd, u154, hlen, b4, b9, b11, hz4, d5]
   clear ih
   refine loop_ruleE (fun m fr H' => ∃ (l1 : List St) (a1 : Int) (j : Nat), m = n - j ∧ j ≤ n ∧ repS (mkN x) least most l to = repK (mkN x) m l1 a1 ∧ MkAt H' b rb l1 ∧ Frm H H' b rb ∧ hget H' (H.length + 1) 0 = some [.int .i64 k', .bool no', s', .int .i64 x1, .int .i64 x2, t] ∧
    fr.length = 70 ∧ fget fr 0 = .ptr b 0 0 ∧ fget fr 7 = .ptr (H.length + 1) 0 0 ∧ fget fr 8 = .int .i64 a1 ∧ fget fr 61 = .int .i64 (n : Nat) ∧ fget fr 62 = .int .i64 (j : Nat)) ?_ n _ _
    ⟨l1, a1, 0, rfl, by omega, hq, hm, f, hz7, by simp [w9, hlen], by simp [w9, b0], by simp [w9, b7], by simp [w9, b8], by simp [w9, hlen], by simp [w9, hlen]⟩
   clear hq hm f hz7 hz4 b0 b2 b4 b7 b8 b9 b11 hlen fr hTl hT
   rintro m fr H' ⟨l1, a1, j, rfl, hj, hq, hm, f, hz7, hlen, b0, b7, b8, b61, b62⟩ ih
   have hTl : (repS (mkN x) least most l to).1.length = l1.length + (n - j) * cnt x := by rw [hq, repK_len hfl]
   by_cases hj2 : j < n
   ·have hk : n - j = (n - (j + 1)) + 1 := by omega
    rw [hk] at hq hTl
    rw [repK] at hq
    rw [Nat.succ_mul] at hTl
    obtain ⟨H2, ⟨m2, f2⟩, n1⟩ := hxo l1 a1 H' (by omega) hm
    generalize mkN x l1 a1 = w at *
    have d6 : decide (((j : Nat) : Int) < (n : Nat)) = true := decide_eq_true (by omega)
    have hw : IntKind.i64.wrap ((j : Int) + 1) = ((j + 1 : Nat) : Int) := by rw [wrap64 (by omega) (by omega)]; simp
    simp only [w9, reduceEqDiff, reduceLT, reduceAdd, reduceCtorEq, u154, hlen, b0, b7, b8, b61, b62, d6, hz7, n1, hw]
    exact ih _ _ (n - (j + 1)) (by omega) ⟨_, _, j + 1, rfl, by omega, hq, m2, f.trans f2, f2.keep _ _ _ (by omega) (by omega) hz7, by simp [w9, hlen], by simp [w9, b0], by simp [w9, b7], by simp [w9, hlen], by simp [w9, b61], by simp [w9, hlen]⟩
   ·have hk : n - j = 0 := by omega
    rw [hk] at hq
    rw [repK] at hq
    have d6 : decide (((j : Nat) : Int) < (n : Nat)) = false := decide_eq_false (by omega)
    simp only [w9, reduceEqDiff, reduceLT, hlen, b8, b61, b62, d6]
    rw [hq]
    exact ⟨_, ⟨hm, f⟩, Fin_raw (l := [.int .i64 a1]) (by simp [w9, hlen])⟩
open Go Go.Abs AbsSeat Ty
theorem MkAt.more {H : Heap} {b rb : Nat} {l : List St} (h : MkAt H b rb l) (hb : b < rb) (x : List Blk) : MkAt (H ++ x) b rb l := by
 obtain ⟨ver, hls, g1, g2, g3, g4⟩ := h
 exact ⟨ver, hls, hget_mono g1 _, hget_mono g2 _, g3.keep (Frm.more H b rb x) (by omega) (by omega), g4⟩
theorem MkAt.lt {H : Heap} {b rb : Nat} {l : List St} (h : MkAt H b rb l) : rb < H.length := by
 obtain ⟨ver, hls, g1, g2, g3, g4⟩ := h
 exact hget_lt g2
theorem mknode_step (kind : Int) (no sf : Bool) (sp : List Sg) (least most : Int) (kf : Bool) (kids : List Nd) (hg : Good (.mk kind no sf sp least most kf kids)) (hfi : Fine (.mk kind no sf sp least most kf kids)) (ih : ∀ x ∈ kids, MkOk x) : MkOk (.mk kind no sf sp least most kf kids) := by
 intro l to b rb prot H hl hp hb hm
 have hfr := hg.fair
 cases hfi with
 | mk hfk hfs _ =>
 cases hg with
 | mk hgk hk hkl =>
 have hs1 := slF_leaf sf encG sp
 have ht1 := slF_leaf kf encN kids
 have hsl := slF_sl kf encN kids
 have hkn := fun K : Heap => hsl.len (P := Tryz.prog) (H := K) Tryz.underlying174
 have hlt := hm.lt
 have hw0 := wrap_dec hkl
 have hfk : ∀ x ∈ kids, Fair x := fun x hx => (hgk x hx).fair
 have f0 := Frm.more H b rb [Blk.cells 0 [.int .i64 kind, .bool no, slF sf encG sp, .int .i64 least, .int .i64 most, slF kf encN kids]]
 have hm0 := hm.more hb [Blk.cells 0 [.int .i64 kind, .bool no, slF sf encG sp, .int .i64 least, .int .i64 most, slF kf encN kids]]
 have hg0 : hget (H ++ [Blk.cells 0 [.int .i64 kind, .bool no, slF sf encG sp, .int .i64 least, .int .i64 most, slF kf encN kids]]) H.length 0 = some [.int .i64 kind, .bool no, slF sf encG sp, .int .i64 least, .int .i64 most, slF kf encN kids] := by rw [hget_new rfl, if_pos rfl]
 have hKl : (H ++ [Blk.cells 0 [.int .i64 kind, .bool no, slF sf encG sp, .int .i64 least, .int .i64 most, slF kf encN kids]]).length = H.length + 1 := by simp
 generalize hK : H ++ [Blk.cells 0 [.int .i64 kind, .bool no, slF sf encG sp, .int .i64 least, .int .i64 most, slF kf encN kids]] = K at *
 have d01 : decide ((0 : Int) = 1) = false := rfl
 have d02 : decide ((0 : Int) = 2) = false := rfl
 have d03 : decide ((0 : Int) = 3) = false := rfl
 have d04 : decide ((0 : Int) = 4) = false := rfl
 have d21 : decide ((2 : Int) = 1) = false := rfl
 have d31 : decide ((3 : Int) = 1) = false := rfl
 have d32 : decide ((3 : Int) = 2) = false := rfl
 have d41 : decide ((4 : Int) = 1) = false := rfl
 have d42 : decide ((4 : Int) = 2) = false := rfl
 have d43 : decide ((4 : Int) = 3) = false := rfl
 rcases hk with rfl | rfl | rfl | rfl | ⟨rfl, hk1, hk2, hk3, hk4⟩
 ·have e : mkN (.mk 0 no sf sp least most kf kids) l to = (l, to) := by rw [mkN.eq_def]; simp
  rw [e]
  refine raw_slimE rfl (by kernel_rfl) (by kernel_rfl) (by kernel_rfl) Tryz.func156 s156 (by simp [Tryz.f156]) fun fr hlen h => ?_
  simp only [Has, Nat.zero_add] at h
  obtain ⟨a0, a1, a2, -⟩ := h
  simp only [Tryz.f156] at hlen ⊢
  unfold g156
  rw [encN_eq] at a1
  unfold AV.leaf at hs1 ht1
  simp only [w9, reduceEqDiff, reduceLT, u154, hlen, a1, a2, hs1, ht1, hK, hg0, d01, d02, d03, d04]
  exact ⟨_, ⟨hm0, f0⟩, Fin_raw (l := [.int .i64 to]) (by simp [w9, hlen])⟩
 ·have e : mkN (.mk 1 no sf sp least most kf kids) l to = (l ++ [⟨1, no, sp, to, 0⟩], ((l.length : Nat) : Int)) := by rw [mkN.eq_def]; simp
  have ec : cnt (.mk 1 no sf sp least most kf kids) = 1 := by rw [cnt.eq_def]; simp
  rw [ec] at hl
  rw [e]
  rcases spans_app (slF sf encG sp) sp (slF_sl sf encG sp) hfs prot (rb + 1) K (by omega) with ⟨rfl, happ⟩ | ⟨hne, K', happ, hKe, hrow⟩
  ·obtain ⟨H2, ⟨m2, f2⟩, n1⟩ := state_ok l ⟨1, no, .nilS, rfl, to, 0⟩ ⟨1, no, [], to, 0⟩ (by omega) b rb prot K hp (by omega) (by omega) (by omega) hm0 ⟨rfl, rfl, rfl, rfl, Row.nil, .inl rfl⟩
   simp only [encH] at n1
   refine raw_slimE rfl (by kernel_rfl) (by kernel_rfl) (by kernel_rfl) Tryz.func156 s156 (by simp [Tryz.f156]) fun fr hlen h => ?_
   simp only [Has, Nat.zero_add] at h
   obtain ⟨a0, a1, a2, -⟩ := h
   simp only [Tryz.f156] at hlen ⊢
   unfold g156
   rw [encN_eq] at a1
   unfold AV.leaf at hs1 ht1
   simp only [w9, reduceEqDiff, reduceLT, reduceAdd, reduceLeDiff, reduceCtorEq, u154, hlen, a0, a1, a2, hs1, ht1, hK, hg0, happ, n1]
   refine ex_draw ?_ ?_
   ·rw [show befs [] _ = [0, 0, 2, 0, 8, 24, 0, 126, 255, 511] from by kernel_rfl]
    simp [w9, u154, hlen, drawOk, chained, mayAt, sameAt, bound, List.range_succ, Nat.testBit, a0, a2, hg0, happ, n1, avbeq_refl]
   exact ⟨_, ⟨m2, f0.trans f2⟩, Fin_raw (l := [.int .i64 (l.length : Nat)]) (by simp [w9, hlen])⟩
  ·subst hKe
   obtain ⟨H2, ⟨m2, f2⟩, n1⟩ := state_ok l ⟨1, no, .bs ⟨K.length, 0, 0, sp.length, 0, 2, true, false⟩, rfl, to, 0⟩ ⟨1, no, sp, to, 0⟩ (by omega) b rb prot _ hp (by omega) (by omega) (by omega) (hm0.more hb _) ⟨rfl, rfl, rfl, rfl, hrow, .inr hne⟩
   simp only [encH] at n1
   refine raw_slimE rfl (by kernel_rfl) (by kernel_rfl) (by kernel_rfl) Tryz.func156 s156 (by simp [Tryz.f156]) fun fr hlen h => ?_
   simp only [Has, Nat.zero_add] at h
   obtain ⟨a0, a1, a2, -⟩ := h
   simp only [Tryz.f156] at hlen ⊢
   unfold g156
   rw [encN_eq] at a1
   unfold AV.leaf at hs1 ht1
   have hgK := hget_mono hg0 [Blk.cells 0 (cellsOf encG sp)]
   simp only [w9, reduceEqDiff, reduceLT, reduceAdd, reduceLeDiff, reduceCtorEq, u154, hlen, a0, a1, a2, hs1, ht1, hK, hg0, happ, n1]
   refine ex_draw ?_ ?_
   ·rw [show befs [] _ = [0, 0, 2, 0, 8, 24, 0, 126, 255, 511] from by kernel_rfl]
    simp [w9, u154, hlen, drawOk, chained, mayAt, sameAt, bound, List.range_succ, Nat.testBit, a0, a2, hg0, hgK, happ, n1, avbeq_refl]
   exact ⟨_, ⟨m2, (f0.trans (Frm.more K b rb _)).trans f2⟩, Fin_raw (l := [.int .i64 (l.length : Nat)]) (by simp [w9, hlen])⟩
 ·have e : mkN (.mk 2 no sf sp least most kf kids) l to = mkC kids l to := by rw [mkN.eq_def]; simp
  have ec : cnt (.mk 2 no sf sp least most kf kids) = cntL kids := by rw [cnt.eq_def]; simp
  rw [ec] at hl
  rw [e]
  refine raw_slimE rfl (by kernel_rfl) (by kernel_rfl) (by kernel_rfl) Tryz.func156 s156 (by simp [Tryz.f156]) fun fr hlen h => ?_
  simp only [Has, Nat.zero_add] at h
  obtain ⟨a0, a1, a2, -⟩ := h
  simp only [Tryz.f156] at hlen ⊢
  unfold g156
  rw [encN_eq] at a1
  unfold AV.leaf at hs1 ht1
  simp only [w9, reduceEqDiff, reduceLT, reduceAdd, u154, hlen, a1, hs1, ht1, hK, hg0, d21, hkn, hw0]
  refine loop_ruleE (fun m fr H' => ∃ (k : Nat), m = k ∧ k ≤ kids.length ∧ fr.length = 53 ∧ fget fr 0 = .ptr b 0 0 ∧ fget fr 2 = .int .i64 (mkC (kids.drop k) l to).2 ∧ fget fr 4 = .ptr H.length 0 0 ∧ fget fr 7 = .int .i64 ((k : Int) - 1)
   ∧ MkAt H' b rb (mkC (kids.drop k) l to).1 ∧ Frm K H' b rb) ?_ kids.length _ _ ⟨kids.length, by
    rw [List.drop_of_length_le (Nat.le_refl _)]
    refine ⟨rfl, Nat.le_refl _, by simp [w9, hlen], by simp [w9, a0], by simp [w9, a2, mkC], by simp [w9, hlen], by simp [w9, hlen], hm0, Frm.refl _ _ _⟩⟩
  clear a0 a1 a2 hlen fr
  rintro m fr H' ⟨k, rfl, hki, hlen, a0, a2, a4, a7, hm1, f1⟩ ihl
  cases m with
  | zero =>
   have d1 : decide (((0 : Nat) : Int) - 1 ≥ 0) = false := rfl
   rw [List.drop_zero] at hm1 a2
   simp only [w9, reduceEqDiff, reduceLT, hlen, a2, a7, d1]
   exact ⟨_, ⟨hm1, f0.trans f1⟩, Fin_raw (l := [.int .i64 (mkC kids l to).2]) (by simp [w9, hlen])⟩
  | succ j =>
   have e0 : ((j + 1 : Nat) : Int) - 1 = (j : Nat) := by omega
   rw [e0] at a7
   have d1 : decide (((j : Nat) : Int) ≥ 0) = true := decide_eq_true (by omega)
   have e1 := hsl.at (P := Tryz.prog) (k := .i64) (i := j) Tryz.underlying174 sz176 encN_len (by omega)
   have hdj : kids.drop j = kids[j] :: kids.drop (j + 1) := by simp
   have hcl := cntL_drop kids j
   have hml := mkC_len (kids.drop (j + 1)) (fun y hy => hfk y (List.mem_of_mem_drop hy)) l to
   rw [hdj, cntL] at hcl
   have hgk := f1.keep _ _ _ (by omega) (by omega) hg0
   obtain ⟨H2, ⟨hm2, f2⟩, n1⟩ := ih kids[j] (List.getElem_mem _) _ (mkC (kids.drop (j + 1)) l to).2 b rb prot H' (by rw [hml]; omega) hp hb hm1
   have hmk : mkC (kids.drop j) l to = mkN kids[j] (mkC (kids.drop (j + 1)) l to).1 (mkC (kids.drop (j + 1)) l to).2 := by rw [hdj, mkC]
   generalize kids[j] = x at *
   generalize mkC (kids.drop (j + 1)) l to = q at *
   generalize mkN x q.1 q.2 = w at *
   obtain ⟨k', no', s, x1, x2, t, hx, hs, ht, -, -⟩ := encN_sh x
   rw [hx] at e1 n1
   simp only [AV.cells] at e1
   have hw2 := wrap_dec (k := j) (by omega)
   simp only [w9, reduceEqDiff, reduceLT, reduceAdd, reduceCtorEq, u154, hlen, a0, a2, a4, a7, d1, hgk, e1, n1, hw2]
   refine ihl _ _ j (by omega) ⟨j, rfl, by omega, by simp [w9, hlen], by simp [w9, a0], ?_, by simp [w9, a4], by simp [w9, hlen], ?_, f1.trans f2⟩
   ·rw [hmk]; simp [w9, hlen]
   ·rw [hmk]; exact hm2
 ·have e : mkN (.mk 3 no sf sp least most kf kids) l to = mkE kids l to := by rw [mkN.eq_def]; simp
  have ec : cnt (.mk 3 no sf sp least most kf kids) = cntL kids + (kids.length - 1) := by rw [cnt.eq_def]; simp
  rw [ec] at hl
  rw [e]
  obtain ⟨H2, ⟨m2, f2⟩, n1⟩ := mkeither_ok kids ih hfk _ hsl hkl l to b rb prot K hl hp hb hm0
  refine raw_slimE rfl (by kernel_rfl) (by kernel_rfl) (by kernel_rfl) Tryz.func156 s156 (by simp [Tryz.f156]) fun fr hlen h => ?_
  simp only [Has, Nat.zero_add] at h
  obtain ⟨a0, a1, a2, -⟩ := h
  simp only [Tryz.f156] at hlen ⊢
  unfold g156
  rw [encN_eq] at a1
  unfold AV.leaf at hs1 ht1
  simp only [w9, reduceEqDiff, reduceLT, reduceAdd, reduceCtorEq, u154, hlen, a0, a1, a2, hs1, ht1, hK, hg0, d31, d32, n1]
  exact ⟨_, ⟨m2, f0.trans f2⟩, Fin_raw (l := [.int .i64 (mkE kids l to).2]) (by simp [w9, hlen])⟩
 ·obtain ⟨x, rfl⟩ : ∃ x, kids = [x] := List.length_eq_one_iff.1 hk1
  have e : mkN (.mk 4 no sf sp least most kf [x]) l to = repS (mkN x) least most l to := by rw [mkN.eq_def]; simp
  rw [e]
  obtain ⟨H2, ⟨m2, f2⟩, n1⟩ := mkrepeat_ok x (ih x (by simp)) (hfk x (by simp)) no sf sp least most kf hk2 hk3 hk4 l to b rb prot K hl hp hb hm0
  rw [encN_eq] at n1
  refine raw_slimE rfl (by kernel_rfl) (by kernel_rfl) (by kernel_rfl) Tryz.func156 s156 (by simp [Tryz.f156]) fun fr hlen h => ?_
  simp only [Has, Nat.zero_add] at h
  obtain ⟨a0, a1, a2, -⟩ := h
  simp only [Tryz.f156] at hlen ⊢
  unfold g156
  rw [encN_eq] at a1
  unfold AV.leaf at hs1 ht1
  simp only [w9, reduceEqDiff, reduceLT, reduceAdd, reduceCtorEq, u154, hlen, a0, a1, a2, hs1, ht1, hK, hg0, d41, d42, d43, n1]
  exact ⟨_, ⟨m2, f0.trans f2⟩, Fin_raw (l := [.int .i64 (repS (mkN x) least most l to).2]) (by simp [w9, hlen])⟩
theorem mknode_ok : ∀ (x : Nd), Good x → Fine x → MkOk x
 | .mk kind no sf sp least most kf kids, hg, hf => mknode_step kind no sf sp least most kf kids hg hf fun x hx => mknode_ok x (by cases hg with | mk h _ _ => exact h x hx) (by cases hf with | mk h _ _ => exact h x hx)
termination_by x => SizeOf.sizeOf x
decreasing_by have := List.sizeOf_lt_of_mem hx; simp; omega
open Go Go.Abs AbsSeat Ty
theorem Lks.frozen {base low : Nat} {H : Heap} (hlow : low ≤ base) {hl : List HS} {l : List St} (h : Lks base H hl l) : FrzL H low (cellsOf encH hl) (cellsOf encSt l) := by
 induction h with
 | nil => exact .nil
 | @cons h s hl l a b ih =>
  obtain ⟨a1, a2, a3, a4, a5, a6⟩ := a
  have e1 : cellsOf encH (h :: hl) = .int .i64 h.kind :: .bool h.no :: h.sv :: .int .i64 h.one :: .int .i64 h.two :: cellsOf encH hl := by simp [cellsOf, encH, AV.cells]
  have e2 : cellsOf encSt (s :: l) = .int .i64 s.kind :: .bool s.no :: slv encG s.sp :: .int .i64 s.one :: .int .i64 s.two :: cellsOf encSt l := by simp [cellsOf, encSt, AV.cells]
  rw [e1, e2, a1, a2, a3, a4]
  exact .cons (.still rfl) (.cons (.still rfl) (.cons ((a5.low hlow).frozen encG_T (by decide) rfl a6) (.cons (.still rfl) (.cons (.still rfl) ih))))
theorem MkAt.frozen {H : Heap} {b rb low : Nat} {l : List St} {ver : Nat} (h : MkAt H b rb l) (hlow : low ≤ rb) (hne : l ≠ []) (hg : hget H b 0 = some [.bs ⟨rb, ver, 0, l.length, 0, 5, true, false⟩]) : Frz H low (.bs ⟨rb, ver, 0, l.length, 0, 5, true, false⟩) (slv encSt l) := by
 obtain ⟨ver', hls, g1, g2, g3, g4⟩ := h
 rw [hg] at g1
 cases g1
 have hll := g3.length
 have hw : win (cellsOf encH hls) 0 (l.length * 5) = some (cellsOf encH hls) := by
  have := encH_L.length hls
  simp only [win, Nat.zero_add, List.drop_zero]
  rw [if_pos (by omega), List.take_of_length_le (by omega)]
 have := Frz.bs (H := H) (base := low) (s := ⟨rb, ver, 0, l.length, 0, 5, true, false⟩) hlow (Nat.succ_pos 4) rfl g2 hw (g3.frozen (by omega))
 rw [chunk_cellsOf encSt_T (by decide)] at this
 cases l with
 | nil => exact absurd rfl hne
 | cons x r => exact this
theorem state0_ok (x : HS) (s : St) (b prot : Nat) (H : Heap) (hp : prot ≤ b) (hg : hget H b 0 = some [.nilS]) (hx : LikeS (H.length + 3) H x s) :
  ∃ H', (MkAt H' b (H.length + 2) [s] ∧ Frm H H' b b) ∧ aLim cfg prot 155 [.ptr b 0 0, encH x] H = some (.int .i64 0, some H') := by
 have hxl := x.lf
 have hlb := hget_lt hg
 have hl1 : (H ++ [Blk.cells 0 (encH x).cells]).length = H.length + 1 := by simp
 have hl2 : (H ++ [Blk.cells 0 (encH x).cells] ++ [Blk.cells 0 (encH x).cells]).length = H.length + 2 := by simp
 have f0 : Frm H (H ++ [Blk.cells 0 (encH x).cells] ++ [Blk.cells 0 (encH x).cells]) b b := (Frm.more H b b _).trans (Frm.more _ b b _)
 have g1' := hget_mono (hget_mono hg [Blk.cells 0 (encH x).cells]) [Blk.cells 0 (encH x).cells]
 have hlit := litH x (H ++ [Blk.cells 0 (encH x).cells])
 have hel := elemH x (H ++ [Blk.cells 0 (encH x).cells])
 have happ := encH_L.app0 (prot := prot) (m := [x]) rowSt hxtSt hel (by simp) (show roomy 1 56 = true from by decide)
 rw [hl1, hl2] at happ
 rw [hl1] at hlit
 have hll1 : hget (H ++ [Blk.cells 0 (encH x).cells]) b 0 = some [.nilS] := hget_mono hg _
 generalize hK : H ++ [Blk.cells 0 (encH x).cells] ++ [Blk.cells 0 (encH x).cells] = K at *
 have g3 : hget (K ++ [Blk.cells 0 (cellsOf encH [x])]) b 0 = some [.nilS] := hget_mono g1' _
 have g4 : hget (K ++ [Blk.cells 0 (cellsOf encH [x])]) (H.length + 2) 0 = some (cellsOf encH [x]) := by rw [hget_new hl2.symm, if_pos rfl]
 have hput1 : hput prot (K ++ [Blk.cells 0 (cellsOf encH [x])]) b 0 0 [.bs ⟨H.length + 2, 0, 0, 1, 0, 5, true, false⟩] = some ((K ++ [Blk.cells 0 (cellsOf encH [x])]).set b (.cells 0 [.bs ⟨H.length + 2, 0, 0, 1, 0, 5, true, false⟩])) := by
  rw [hput_eq g3 hp (by simp) (by simp [AV.leaf])]; rfl
 have g5 : hget ((K ++ [Blk.cells 0 (cellsOf encH [x])]).set b (.cells 0 [.bs ⟨H.length + 2, 0, 0, 1, 0, 5, true, false⟩])) b 0 = some [.bs ⟨H.length + 2, 0, 0, 1, 0, 5, true, false⟩] := hget_set_at (hget_lt g3)
 have hbb : hget (H ++ [Blk.cells 0 (encH x).cells]) H.length 0 = some (encH x).cells := by rw [hget_new rfl, if_pos rfl]
 have fT : Frm H ((K ++ [Blk.cells 0 (cellsOf encH [x])]).set b (.cells 0 [.bs ⟨H.length + 2, 0, 0, 1, 0, 5, true, false⟩])) b b := (f0.trans (Frm.more K b b _)).trans (Frm.set1 _ b b _)
 have hx' := hx.keep fT (by omega) (by omega)
 have hw1 : IntKind.i64.wrap (((1 : Nat) : Int) - 1) = 0 := by decide
 simp only [encH, AV.cells] at hlit happ hK hbb hll1 hl1
 simp only [List.length_singleton] at happ
 unfold AV.leaf at hxl
 refine raw_slimE rfl (by kernel_rfl) (by kernel_rfl) (by kernel_rfl) Tryz.func155 s155 (by simp [Tryz.f155]) fun fr hlen h => ?_
 simp only [Has, Nat.zero_add] at h
 obtain ⟨a0, a1, -⟩ := h
 simp only [Tryz.f155] at hlen ⊢
 unfold g155
 simp only [w9, reduceEqDiff, reduceLT, reduceAdd, reduceCtorEq, u154, hlen, a0, a1, encH, hxl, hll1, hbb, hlit, happ, hput1]
 refine ex_draw ?_ ?_
 ·rw [show befs [] _ = [0, 0, 2, 6, 14, 0, 32, 126, 255, 511, 1023] from by kernel_rfl]
  simp [w9, u154, hlen, drawOk, chained, mayAt, sameAt, bound, List.range_succ, Nat.testBit, a0, hll1, hl1, hbb, hlit, happ, hput1, g1', avbeq_refl]
 simp only [w9, reduceLT, hlen, g5, lenSt, hw1]
 refine ⟨_, ⟨⟨0, [x], ?_, ?_, ?_, rfl⟩, fT⟩, Fin_raw (l := [.int .i64 0]) (by simp [w9, hlen])⟩
 ·exact g5
 ·rw [hget_set_ne (by omega)]; exact g4
 ·exact .cons hx' .nil
theorem compile_ok (x : Nd) (hg : Good x) (hf : Fine x) (hd : Dep 51 x) (hs : sizeN x ≤ 400) (prot : Nat) (H : Heap) (hp : prot ≤ H.length) :
  aLim cfg prot 121 [encN x] H = some (.tup [slv encSt (mkN x [⟨3, false, [], 0, 0⟩] 0).1, .int .i64 (mkN x [⟨3, false, [], 0, 0⟩] 0).2, .int .i64 0], none) := by
 have hsnap : snap H [encN x] = some ([encN x], false) := by cases x; rw [encN_eq]; rfl
 have hcs := cnt_size x hg (by omega)
 have hlen1 := mkN_len x hg.fair [⟨3, false, [], 0, 0⟩] 0
 have n1 : ∀ K : Heap, H.length ≤ K.length → aLim cfg H.length 154 [encN x, .int .i64 0] K = some (.int .i64 0, none) := fun K hK => may_ok x hg 51 hd 0 (by omega) H.length K hK
 have n2 := fun (K : Heap) (hK : H.length ≤ K.length) => nsize_ok x hg H.length K hK
 have hmk := mknode_ok x hg hf
 unfold MkOk at hmk
 have hlZ : ∀ Z, (H ++ [Blk.cells 0 Z]).length = H.length + 1 := fun Z => by simp
 obtain ⟨k', no', s, x1, x2, t, hx, hs1, ht1, -, -⟩ := encN_sh x
 rw [hx] at n1 n2 hmk ⊢
 rw [hx] at hsnap
 have hgx : hget (H ++ [Blk.cells 0 [.int .i64 k', .bool no', s, .int .i64 x1, .int .i64 x2, t]]) H.length 0 = some [.int .i64 k', .bool no', s, .int .i64 x1, .int .i64 x2, t] := by rw [hget_new rfl, if_pos rfl]
 have hgm : hget (H ++ [Blk.cells 0 [.int .i64 k', .bool no', s, .int .i64 x1, .int .i64 x2, t]] ++ [Blk.cells 0 [.nilS]]) (H.length + 1) 0 = some [.nilS] := by rw [hget_new (hlZ _).symm, if_pos rfl]
 have hgx2 := hget_mono hgx [Blk.cells 0 [.nilS]]
 obtain ⟨H1, ⟨m1, f1⟩, c1⟩ := state0_ok ⟨3, false, .nilS, rfl, 0, 0⟩ ⟨3, false, [], 0, 0⟩ (H.length + 1) H.length _ (by omega) hgm ⟨rfl, rfl, rfl, rfl, Row.nil, .inl rfl⟩
 have hl2 : (H ++ [Blk.cells 0 [.int .i64 k', .bool no', s, .int .i64 x1, .int .i64 x2, t]] ++ [Blk.cells 0 [.nilS]]).length = H.length + 2 := by simp
 rw [hl2] at m1
 have hgx3 := f1.keep _ _ _ (by omega) (by omega) hgx2
 obtain ⟨H2, ⟨m2, f2⟩, c2⟩ := hmk [⟨3, false, [], 0, 0⟩] 0 (H.length + 1) (H.length + 2 + 2) H.length H1 (by simp; omega) (by omega) (by omega) m1
 simp only [encH] at c1
 have m2' := m2
 obtain ⟨ver, hls, g1, -, -, -⟩ := m2'
 have hd1 : decide ((400 : Int) < (sizeN x : Nat)) = false := decide_eq_false (by omega)
 have hd2 : decide (¬ (0 : Int) = 0) = false := rfl
 have hle1 : H.length ≤ H.length + 1 := by omega
 have hfz := m2.frozen (low := H.length) (by omega) (by intro h; rw [h] at hlen1; simp at hlen1; omega) g1
 refine pure_slim rfl (by kernel_rfl) Tryz.func121 s121 hp hsnap (by simp [Tryz.f121]) fun fr hlen h => ?_
 simp only [Has] at h
 obtain ⟨a0, -⟩ := h
 simp only [Tryz.f121] at hlen ⊢
 unfold g121
 unfold AV.leaf at hs1 ht1
 simp only [w9, reduceEqDiff, reduceLT, reduceAdd, reduceLeDiff, u154, hlen, a0, hs1, ht1, hgx, hlZ, hle1, n1, n2, hd1, c1, hgx3, c2, g1]
 exact Fin_pure (l := [.bs ⟨H.length + 2 + 2, ver, 0, (mkN x [⟨3, false, [], 0, 0⟩] 0).1.length, 0, 5, true, false⟩, .int .i64 (mkN x [⟨3, false, [], 0, 0⟩] 0).2, .int .i64 0]) (by simp [w9, hlen]) (.tup (.cons hfz (.cons (.still rfl) (.cons (.still rfl) .nil)))) (by simp)
open Go Go.Abs AbsSeat Ty
def SpOk (l : List St) : Prop := ∀ s ∈ l, s.sp.length ≤ 10000000
theorem SpOk.snoc {l : List St} (h : SpOk l) {s : St} (hs : s.sp.length ≤ 10000000) : SpOk (l ++ [s]) := fun t ht => by
 rcases List.mem_append.1 ht with h1 | h1
 ·exact h t h1
 ·rw [List.mem_singleton.1 h1]; exact hs
theorem SpOk.setOne : ∀ {l : List St} (_ : SpOk l) (i : Nat) (v : Int), SpOk (setOne l i v)
 | [], h, _, _ => h
 | s :: r, h, 0, v => fun t ht => by
  rw [Proofs.YtnipaiklandliaaGreatDoor.setOne] at ht
  rcases List.mem_cons.1 ht with h1 | h1
  ·rw [h1]; exact h s (by simp)
  ·exact h t (by simp [h1])
 | s :: r, h, i + 1, v => fun t ht => by
  rw [Proofs.YtnipaiklandliaaGreatDoor.setOne] at ht
  rcases List.mem_cons.1 ht with h1 | h1
  ·rw [h1]; exact h s (by simp)
  ·exact SpOk.setOne (l := r) (fun u hu => h u (by simp [hu])) i v t h1
theorem repK_sp {f : List St → Int → List St × Int} (hf : ∀ l a, SpOk l → SpOk (f l a).1) : ∀ (n : Nat) (l : List St) (a : Int), SpOk l → SpOk (repK f n l a).1
 | 0, l, a, h => by rw [repK]; exact h
 | n + 1, l, a, h => by rw [repK]; exact repK_sp hf n _ _ (hf l a h)
theorem optK_sp {f : List St → Int → List St × Int} {to : Int} (hf : ∀ l a, SpOk l → SpOk (f l a).1) : ∀ (n : Nat) (l : List St) (a : Int), SpOk l → SpOk (optK f to n l a).1
 | 0, l, a, h => by rw [optK]; exact h
 | n + 1, l, a, h => by rw [optK]; exact optK_sp hf n _ _ ((hf l a h).snoc (by simp))
theorem repS_sp {f : List St → Int → List St × Int} (hf : ∀ l a, SpOk l → SpOk (f l a).1) (least most : Int) (l : List St) (to : Int) (h : SpOk l) : SpOk (repS f least most l to).1 := by
 unfold repS
 have h1 := (hf _ ((l.length : Nat) : Int) (h.snoc (s := ⟨2, false, [], 0, to⟩) (by simp))).setOne l.length (f (l ++ [⟨2, false, [], 0, to⟩]) (l.length : Nat)).2
 split
 ·split
  ·exact h1
  ·exact repK_sp hf _ _ _ h1
 ·exact repK_sp hf _ _ _ (optK_sp hf _ _ _ h)
mutual
theorem mkN_sp : ∀ (x : Nd), Fine x → ∀ (l : List St) (to : Int), SpOk l → SpOk (mkN x l to).1
 | .mk kind no sf sp least most kf kids, hf, l, to, h => by
  cases hf with
  | mk hk hs _ =>
  rw [mkN.eq_def]
  dsimp only
  by_cases h1 : kind = 1
  ·rw [if_pos h1]; exact h.snoc hs
  ·rw [if_neg h1]
   by_cases h2 : kind = 2
   ·rw [if_pos h2]; exact mkC_sp kids hk l to h
   ·rw [if_neg h2]
    by_cases h3 : kind = 3
    ·rw [if_pos h3]; exact mkE_sp kids hk l to h
    ·rw [if_neg h3]
     by_cases h5 : kind = 4
     ·rw [if_pos h5]
      match kids, hk with
      | [], _ => exact h
      | [x], hk => exact repS_sp (fun l a hl => mkN_sp x (hk x (by simp)) l a hl) least most l to h
      | x :: y :: r, _ => exact h
     ·rw [if_neg h5]; exact h
theorem mkC_sp : ∀ (kids : List Nd), (∀ x ∈ kids, Fine x) → ∀ (l : List St) (to : Int), SpOk l → SpOk (mkC kids l to).1
 | [], _, l, to, h => by rw [mkC]; exact h
 | x :: r, hk, l, to, h => by
  rw [mkC]; exact mkN_sp x (hk x (by simp)) _ _ (mkC_sp r (fun y hy => hk y (by simp [hy])) l to h)
theorem mkE_sp : ∀ (kids : List Nd), (∀ x ∈ kids, Fine x) → ∀ (l : List St) (to : Int), SpOk l → SpOk (mkE kids l to).1
 | [], _, l, to, h => by rw [mkE]; exact h
 | x :: r, hk, l, to, h => by
  rw [mkE]
  have h1 := mkN_sp x (hk x (by simp)) _ to (mkE_sp r (fun y hy => hk y (by simp [hy])) l to h)
  split
  ·exact h1
  ·exact h1.snoc (by simp)
end
def ofS (s : List UInt8) : AV := if (parseU s).2 = 0 then newS (mkN (parseU s).1 [⟨3, false, [], 0, 0⟩] 0).1 (mkN (parseU s).1 [⟨3, false, [], 0, 0⟩] 0).2 else .tup [.nil, .int .i64 (parseU s).2]
theorem rightM_of {l : List St} (h : l.all (rightB l.length) = true) : RightM l := fun s hs => by
 have h1 := List.all_eq_true.1 h s hs
 unfold rightB at h1
 split at h1
 ·rename_i h2
  simp only [inN, Bool.and_eq_true, decide_eq_true_eq] at h1
  exact ⟨.inr (.inr h2), fun _ => h1.2, fun _ => h1.1⟩
 ·rename_i h2
  split at h1
  ·rename_i h3
   simp only [inN, Bool.and_eq_true, decide_eq_true_eq] at h1
   exact ⟨.inr (.inl h3), fun _ => h1, fun h => absurd h h2⟩
  ·rename_i h3
   simp only [decide_eq_true_eq] at h1
   exact ⟨.inl h1, fun h => by omega, fun h => absurd h h2⟩
theorem ofS_cases (s : List UInt8) (hs : s.length ≤ 1000) : (∃ e : Int, e ≠ 0 ∧ ofS s = .tup [.nil, .int .i64 e]) ∨ ∃ l a, RightM l ∧ SpOk l ∧ l.length ≤ 401 ∧ a < l.length ∧ ofS s = .tup [encM l a, .int .i64 0] := by
 unfold ofS
 by_cases h : (parseU s).2 = 0
 ·rw [if_pos h]
  obtain ⟨-, hf, -, -⟩ := parse_known s hs h
  have hsp := mkN_sp _ hf [⟨3, false, [], 0, 0⟩] 0 (fun t ht => by rw [List.mem_singleton.1 ht]; simp)
  generalize mkN (parseU s).1 [⟨3, false, [], 0, 0⟩] 0 = w at *
  unfold newS
  by_cases hc : (decide (w.1.length ≤ 401) && inN w.1.length w.2 && w.1.all (rightB w.1.length)) = true
  ·rw [if_pos hc]
   simp only [Bool.and_eq_true, decide_eq_true_eq, inN] at hc
   obtain ⟨⟨c1, c2, c3⟩, c4⟩ := hc
   refine .inr ⟨w.1, w.2.toNat, rightM_of c4, hsp, c1, by omega, ?_⟩
   unfold encM
   rw [show ((w.2.toNat : Nat) : Int) = w.2 by omega]
  ·rw [if_neg hc]
   exact .inl ⟨1, by decide, rfl⟩
 ·rw [if_neg h]
  exact .inl ⟨_, h, rfl⟩
theorem nof_ok (s : List UInt8) (hs : s.length ≤ 1000) (prot : Nat) (H : Heap) (hp : prot ≤ H.length) : aLim cfg prot 88 [.str s] H = some (ofS s, none) := by
 have n1 := fun (K : Heap) (hK : H.length ≤ K.length) => parse_okX s hs H.length K hK
 have hkn := parse_known s hs
 unfold ofS
 generalize parseU s = z at *
 obtain ⟨x, e⟩ := z
 dsimp only at n1 hkn ⊢
 obtain ⟨k', no', s', x1, x2, t, hx, hs, ht, -, -⟩ := encN_sh x
 rw [hx] at n1
 unfold AV.leaf at hs ht
 have hpl1 : H.length ≤ H.length + 1 := by omega
 have hlZ : ∀ Z, (H ++ [Blk.cells 0 Z]).length = H.length + 1 := fun Z => by simp
 have hg0 : ∀ Y, hget (H ++ [Blk.cells 0 Y]) H.length 0 = some Y := fun Y => by rw [hget_new rfl, if_pos rfl]
 by_cases he : e = 0
 ·subst he
  rw [if_pos rfl]
  obtain ⟨hg, hf, hd, hsz⟩ := hkn rfl
  have hcs := cnt_size x hg (by omega)
  have hl1 := mkN_len x hg.fair [⟨3, false, [], 0, 0⟩] 0
  rw [List.length_singleton] at hl1
  have hsp := mkN_sp _ hf [⟨3, false, [], 0, 0⟩] 0 (fun t ht => by rw [List.mem_singleton.1 ht]; simp)
  have n2 := fun (K : Heap) (hK : H.length ≤ K.length) => compile_ok x hg hf hd hsz H.length K hK
  have n3 := fun (K : Heap) (hK : H.length ≤ K.length) => nnew_ok (mkN x [⟨3, false, [], 0, 0⟩] 0).1 _ (slv_sl encSt _) (by omega) hsp (mkN x [⟨3, false, [], 0, 0⟩] 0).2 H.length K hK
  rw [hx] at n2
  generalize mkN x [⟨3, false, [], 0, 0⟩] 0 = w at *
  have hsv : (slv encSt w.1).leaf = true := by cases w.1 <;> rfl
  unfold AV.leaf at hsv
  unfold newS at n3 ⊢
  by_cases hc : (decide (w.1.length ≤ 401) && inN w.1.length w.2 && w.1.all (rightB w.1.length)) = true
  ·simp only [hc, if_true] at n3 ⊢
   refine pure_slim rfl (by kernel_rfl) Tryz.func88 s88 hp rfl (by simp [Tryz.f88]) fun fr hlen h => ?_
   simp only [Has] at h
   obtain ⟨a0, -⟩ := h
   simp only [Tryz.f88] at hlen ⊢
   unfold g88
   simp only [w9, simprocAttr, u163, hlen, a0, n1, n2, n3, hs, ht, hpl1, hlZ, hg0]
   exact Fin_pure (l := [.vptr [slv encSt w.1, .int .i64 w.2] 0, .int .i64 0]) (by simp [w9, hlen]) (.tup (.cons (.still rfl) (.cons (.still rfl) .nil))) (by simp)
  ·have hc := Bool.eq_false_iff.2 hc
   simp only [hc, Bool.false_eq_true, if_false] at n3 ⊢
   refine pure_slim rfl (by kernel_rfl) Tryz.func88 s88 hp rfl (by simp [Tryz.f88]) fun fr hlen h => ?_
   simp only [Has] at h
   obtain ⟨a0, -⟩ := h
   simp only [Tryz.f88] at hlen ⊢
   unfold g88
   simp only [w9, simprocAttr, u163, hlen, a0, n1, n2, n3, hs, ht, hpl1, hlZ, hg0]
   exact Fin_pure (l := [.nil, .int .i64 1]) (by simp [w9, hlen]) (.tup (.cons (.still rfl) (.cons (.still rfl) .nil))) (by simp)
 ·rw [if_neg he]
  have e1 : decide (¬ e = 0) = true := decide_eq_true he
  refine pure_slim rfl (by kernel_rfl) Tryz.func88 s88 hp rfl (by simp [Tryz.f88]) fun fr hlen h => ?_
  simp only [Has] at h
  obtain ⟨a0, -⟩ := h
  simp only [Tryz.f88] at hlen ⊢
  unfold g88
  simp only [w9, simprocAttr, u163, hlen, a0, n1, hs, ht, e1]
  exact Fin_pure (l := [.nil, .int .i64 e]) (by simp [w9, hlen]) (.tup (.cons (.still rfl) (.cons (.still rfl) .nil))) (by simp)
open Go Go.Abs AbsSeat Ty
open Go Go.Abs AbsSeat Ty
def Rv (b b2 : Nat) (to to2 : Int) (n : Nat) (v v2 : Int) : Prop := (v = to ∧ v2 = to2) ∨ ((b : Int) ≤ v ∧ v < n ∧ v2 = v - b + b2)
theorem Rv.up {b b2 : Nat} {to to2 : Int} {n m : Nat} {v v2 : Int} (h : Rv b b2 to to2 n v v2) (hn : n ≤ m) : Rv b b2 to to2 m v v2 := by
 rcases h with h | ⟨h1, h2, h3⟩
 ·exact .inl h
 ·exact .inr ⟨h1, by omega, h3⟩
def EqS (b b2 : Nat) (to to2 : Int) (n : Nat) (s s2 : St) : Prop := s.kind = s2.kind ∧ s.no = s2.no ∧ s.sp = s2.sp ∧ (s.kind = 1 ∨ s.kind = 2) ∧ Rv b b2 to to2 n s.one s2.one ∧ (s.kind = 2 → Rv b b2 to to2 n s.two s2.two)
def RelL (b b2 : Nat) (to to2 : Int) (A A2 : List St) : Prop := b ≤ A.length ∧ A.length + b2 = A2.length + b ∧ ∀ i, b + i < A.length → ∃ s s2, A[b + i]? = some s ∧ A2[b2 + i]? = some s2 ∧ EqS b b2 to to2 A.length s s2
theorem EqS.up {b b2 : Nat} {to to2 : Int} {n m : Nat} {s s2 : St} (h : EqS b b2 to to2 n s s2) (hn : n ≤ m) : EqS b b2 to to2 m s s2 := by
 obtain ⟨h1, h2, h3, h4, h5, h6⟩ := h
 exact ⟨h1, h2, h3, h4, h5.up hn, fun hk => (h6 hk).up hn⟩
def Pre (L A : List St) : Prop := ∀ (i : Nat) (s : St), L[i]? = some s → A[i]? = some s
theorem Pre.refl (L : List St) : Pre L L := fun _ _ h => h
theorem Pre.trans {L A B : List St} (h : Pre L A) (k : Pre A B) : Pre L B := fun i s hs => k i s (h i s hs)
theorem Pre.app (L X : List St) : Pre L (L ++ X) := fun i s hs => by
 have := (List.getElem?_eq_some_iff.1 hs).1
 rw [List.getElem?_append_left this]; exact hs
theorem RelL.nil (L L2 : List St) (to to2 : Int) : RelL L.length L2.length to to2 L L2 := ⟨Nat.le_refl _, Nat.add_comm _ _, fun i hi => by omega⟩
theorem Rv.out {b b2 c c2 : Nat} {to to2 t t2 v v2 : Int} {n m : Nat} (h : Rv c c2 t t2 n v v2) (hb : b ≤ c) (hc : c + b2 = c2 + b) (ht : Rv b b2 to to2 m t t2) (hm : m ≤ n) : Rv b b2 to to2 n v v2 := by
 rcases h with ⟨rfl, rfl⟩ | ⟨h1, h2, h3⟩
 ·exact ht.up hm
 ·exact .inr ⟨by omega, h2, by omega⟩
theorem EqS.out {b b2 c c2 : Nat} {to to2 t t2 : Int} {n m : Nat} {s s2 : St} (h : EqS c c2 t t2 n s s2) (hb : b ≤ c) (hc : c + b2 = c2 + b) (ht : Rv b b2 to to2 m t t2) (hm : m ≤ n) : EqS b b2 to to2 n s s2 := by
 obtain ⟨h1, h2, h3, h4, h5, h6⟩ := h
 exact ⟨h1, h2, h3, h4, h5.out hb hc ht hm, fun hk => (h6 hk).out hb hc ht hm⟩
theorem RelL.comp {b b2 : Nat} {to to2 t t2 : Int} {A A2 B B2 : List St} (h : RelL b b2 to to2 A A2) (hA : Pre A B) (hA2 : Pre A2 B2) (ht : Rv b b2 to to2 A.length t t2) (k : RelL A.length A2.length t t2 B B2) : RelL b b2 to to2 B B2 := by
 obtain ⟨h1, h2, h3⟩ := h
 obtain ⟨k1, k2, k3⟩ := k
 refine ⟨by omega, by omega, fun i hi => ?_⟩
 by_cases hc : b + i < A.length
 ·obtain ⟨s, s2, e1, e2, e3⟩ := h3 i hc
  exact ⟨s, s2, hA _ _ e1, hA2 _ _ e2, e3.up k1⟩
 ·obtain ⟨s, s2, e1, e2, e3⟩ := k3 (b + i - A.length) (by omega)
  refine ⟨s, s2, ?_, ?_, e3.out h1 h2 ht k1⟩
  ·rw [show b + i = A.length + (b + i - A.length) by omega]; exact e1
  ·rw [show b2 + i = A2.length + (b + i - A.length) by omega]; exact e2
theorem RelL.snoc {b b2 : Nat} {to to2 : Int} {A A2 : List St} (h : RelL b b2 to to2 A A2) {s s2 : St} (hs : EqS b b2 to to2 (A.length + 1) s s2) : RelL b b2 to to2 (A ++ [s]) (A2 ++ [s2]) := by
 obtain ⟨h1, h2, h3⟩ := h
 refine ⟨by simp; omega, by simp; omega, fun i hi => ?_⟩
 rw [List.length_append, List.length_singleton] at hi
 by_cases hc : b + i < A.length
 ·obtain ⟨t, t2, e1, e2, e3⟩ := h3 i hc
  exact ⟨t, t2, Pre.app A _ _ _ e1, Pre.app A2 _ _ _ e2, e3.up (by simp)⟩
 ·refine ⟨s, s2, ?_, ?_, by rw [List.length_append]; exact hs⟩
  ·rw [show b + i = A.length by omega]; simp
  ·rw [show b2 + i = A2.length by omega]; simp
theorem RelL.at {b b2 : Nat} {to to2 : Int} {A A2 : List St} (h : RelL b b2 to to2 A A2) : Rv b b2 to to2 (A.length + 1) (A.length : Nat) (A2.length : Nat) := .inr ⟨by have := h.1; omega, by omega, by have := h.2.1; omega⟩
open Go Go.Abs AbsSeat Ty
inductive Acc (l : List St) : Nat → List Int → Prop where
 | halt {k : Nat} {s : St} (h : l[k]? = some s) (h3 : s.kind = 3) : Acc l k []
 | split {k j : Nat} {u : List Int} (h : nxt l k j) (a : Acc l j u) : Acc l k u
 | take {k j : Nat} {c : Int} {u : List Int} (h : tk l c k j) (a : Acc l j u) : Acc l k (c :: u)
inductive Pth (l : List St) : Nat → List Int → Nat → Prop where
 | refl {k : Nat} : Pth l k [] k
 | split {k j m : Nat} {u : List Int} (h : nxt l k j) (a : Pth l j u m) : Pth l k u m
 | take {k j m : Nat} {c : Int} {u : List Int} (h : tk l c k j) (a : Pth l j u m) : Pth l k (c :: u) m
theorem Pth.acc {l : List St} {k m : Nat} {u v : List Int} (h : Pth l k u m) (a : Acc l m v) : Acc l k (u ++ v) := by
 induction h with
 | refl => exact a
 | split h _ ih => exact .split h (ih a)
 | take h _ ih => exact .take h (ih a)
set_option maxRecDepth 100000
open Go Go.Abs AbsSeat Ty
def u54 := an (show tagT Tryz.prog 54 = 0 from by kernel_rfl) (an (show tagT Tryz.prog 100 = 0 from by kernel_rfl) (an (show tagT Tryz.prog 97 = 0 from by kernel_rfl) (an (show tagT Tryz.prog 27 = 0 from by kernel_rfl) (an (fun (xo yo : Operand) (b v o : Nat) => ptr_nil_eq (xo := xo) (yo := yo) Tryz.underlying45 b v o) (an (fun (xo yo : Operand)  => nil_nil_eq (xo := xo) (yo := yo) Tryz.underlying45 ) (an ag1 (an sz1 (an by1 (an ze1 (an Tryz.underlying1 (an ag3 (an sz3 (an by3 (an ze3 (an Tryz.underlying3 (an ag4 (an sz4 (an by4 (an ze4 (an Tryz.underlying4 (an ag9 (an sz9 (an by9 (an ze9 (an Tryz.underlying9 (an ag27 (an sz27 (an by27 (an ze27 (an bu27 (an Tryz.underlying27 (an ag28 (an sz28 (an by28 (an ze28 (an Tryz.underlying28 (an ag42 (an sz42 (an by42 (an se42 (an ze42 (an Tryz.underlying42 (an ag45 (an sz45 (an by45 (an ze45 (an Tryz.underlying45 (an ag54 (an sz54 (an by54 (an ze54 (an bu54 (an Tryz.underlying54 (an ag95 (an sz95 (an by95 (an se95 (an ze95 (an Tryz.underlying95 (an ag97 (an sz97 (an by97 (an ze97 (an bu97 (an Tryz.underlying97 (an ag98 (an sz98 (an by98 (an ze98 (an Tryz.underlying98 (an ag100 (an sz100 (an by100 (an ze100 (an bu100 (an Tryz.underlying100 (an ag106 (an sz106 (an by106 (an se106 (an ze106 (an Tryz.underlying106 (an fa54_0 (an fd54_0 (an fa54_1 (an fd54_1 (an fa54_2 (an fd54_2 (an fa97_0 (an fd97_0 (an fa100_0 (an fd100_0 (an fa100_1 fd100_1)))))))))))))))))))))))))))))))))))))))))))))))))))))))))))))))))))))))))))))))))))))))))))))
def g54 : Code := .seq (mG 0 #[q 1 (.box 54 (.tmp 0)) 0, q 2 (.alloc 100) 0, q 3 (.assign (ik 0)) 28]) (.seq (mG 1 #[mC 7 1 54, q 8 (.build 100 #[(0, .tmp 7)]) 100, q 4 (.alloc 100) 0, mD 100 4 8]) (.seq (.seq (mG 2 #[q 9 (.fieldAddr 54 (.tmp 1) 0) 0, mC 10 9 9, q 11 (cl 30 #[.tmp 10] #[9]) 4, q 12 (.unOp .not 4 (.tmp 11)) 4, mA 13 12 4, qg 14 (.fieldAddr 54 (.tmp 1) 2) 0 4 false, qg 15 (.load 9 (.tmp 14)) 9 4 false, qg 16 (cl 31 #[.tmp 15] #[9]) 4 4 false, qg 17 (.unOp .not 4 (.tmp 16)) 4 4 false, q 18 (.pick (.tmp 13) (mI true) (.tmp 17)) 4]) (.cond (.tmp 18) (.seq (mG 3 #[q 19 (.build 100 #[]) 100, mD 100 2 19, q 3 (.assign (ik 3)) 28]) .ret) .skip)) (.seq (.seq (mG 4 #[q 20 (.fieldAddr 54 (.tmp 1) 1) 0, mC 21 20 3]) (.block 0 (.seq (.block 2 (.seq (.block 1 (.seq (.seq (.seq (.seq (mG 5 #[mF 23 .eql 3 21 (ik 3) 3 4, mB 22 23 4]) (.cond (.tmp 22) .skip (mG 6 #[mF 24 .eql 3 21 (ik 4) 3 4, mB 22 24 4]))) (.cond (.tmp 22) (.exit 1) .skip)) (.seq (.seq (mG 7 #[mF 26 .eql 3 21 (ik 1) 3 4, mB 25 26 4]) (.cond (.tmp 25) .skip (mG 8 #[mF 27 .eql 3 21 (ik 2) 3 4, mB 25 27 4]))) (.cond (.tmp 25) (.exit 2) .skip))) (.exit 0))) (.seq (mG 9 #[q 29 (.fieldAddr 54 (.tmp 1) 2) 0, mC 30 29 9, q 31 (cl 88 #[.tmp 30] #[9]) 143, mA 28 31 143, mE 32 28 0 98, mE 33 28 1 28, mB 5 32 98, mB 6 33 28]) (.seq (.seq (mG 10 #[mA 34 6 28, mF 35 .neq 28 34 (ik 0) 28 4]) (.cond (.tmp 35) (.seq (mG 11 #[q 36 (.build 100 #[]) 100, mA 37 6 28, mD 100 2 36, mB 3 37 28]) .ret) .skip)) (mG 12 #[mA 38 5 98, q 39 (.fieldAddr 100 (.tmp 4) 1) 0, mD 98 39 38]))))) (.seq (.seq (mG 13 #[mC 40 4 100, mD 100 2 40, q 3 (.assign (ik 0)) 28]) .ret) (.exit 0))))) (.seq (mG 14 #[q 41 (.build 100 #[]) 100, mD 100 2 41, q 3 (.assign (ik 3)) 28]) .ret))))
def s54 := sL Tryz.f54 g54 (by kernel_rfl)
def g20 : Code := .seq (mG 0 #[q 2 (.assign (.const (.pointer none))) 45, q 3 (.assign (ik 0)) 28]) (.seq (mG 1 #[q 9 (.build 97 #[]) 97, q 10 (.box 97 (.tmp 9)) 45, mB 4 10 45]) (.seq (.seq (mG 2 #[mA 11 0 42, q 12 (bi .len #[.tmp 11] #[42]) 3, mF 13 .gtr 3 12 (ik 32) 3 4]) (.cond (.tmp 13) (.seq (mG 3 #[q 2 (.assign (.const (.pointer none))) 45, q 3 (.assign (ik 7)) 28]) .ret) .skip)) (.seq (.seq (mG 4 #[mA 14 0 42, q 15 (bi .len #[.tmp 14] #[42]) 3, q 16 (.move (ik 0)) 3]) (.block 0 (.loop (.seq (mG 5 #[mF 17 .lss 3 16 (.tmp 15) 3 0]) (.seq (.cond (.tmp 17) .skip (.exit 0)) (.seq (.block 1 (.seq (mG 6 #[q 18 (.indexAddr 42 (.tmp 14) (.tmp 16)) 0, mC 19 18 54, q 6 (.alloc 54) 0, mD 54 6 19]) (.seq (mG 7 #[mC 21 6 54, q 22 (cl 54 #[.tmp 21] #[54]) 101, mA 20 22 101, mE 23 20 0 100, mE 24 20 1 28, q 7 (.alloc 100) 0, mD 100 7 23, mB 8 24 28]) (.seq (.seq (mG 8 #[mA 25 8 28, mF 26 .neq 28 25 (ik 0) 28 4]) (.cond (.tmp 26) (.seq (mG 9 #[mA 27 8 28, q 2 (.assign (.const (.pointer none))) 45, mB 3 27 28]) .ret) .skip)) (.region 10 #[{ dst := some 28, op := .move (.tmp 4), type := 45, pos := "match.go:71", after := #[], guard := none }, { dst := some 29, op := .move (.tmp 4), type := 45, pos := "match.go:71", after := #[], guard := none }, { dst := some 30, op := .nilCheck (.tmp 29), type := 0, pos := "match.go:71", after := #[{ on := 1, ground := .data }], guard := none }, { dst := some 31, op := .fieldAddr 97 (.tmp 30) 0, type := 0, pos := "match.go:71", after := #[{ on := 2, ground := .data }], guard := none }, { dst := some 32, op := .load 95 (.tmp 31), type := 95, pos := "match.go:71", after := #[{ on := 3, ground := .data }], guard := none }, { dst := some 33, op := .load 100 (.tmp 7), type := 100, pos := "match.go:71", after := #[], guard := none }, { dst := some 34, op := .buildSlice 95 1 #[(0, .tmp 33)], type := 95, pos := "match.go:71", after := #[{ on := 5, ground := .data }], guard := none }, { dst := some 35, op := bi .append #[.tmp 32, .tmp 34] #[95, 95], type := 95, pos := "match.go:71", after := #[{ on := 4, ground := .data }, { on := 6, ground := .data }], guard := none }, { dst := some 36, op := .nilCheck (.tmp 28), type := 0, pos := "match.go:71", after := #[{ on := 0, ground := .data }, { on := 0, ground := .phase }, { on := 1, ground := .phase }, { on := 2, ground := .phase }, { on := 3, ground := .phase }, { on := 4, ground := .phase }, { on := 5, ground := .phase }, { on := 6, ground := .phase }, { on := 7, ground := .phase }], guard := none }, { dst := some 37, op := .fieldAddr 97 (.tmp 36) 0, type := 0, pos := "match.go:71", after := #[{ on := 8, ground := .data }, { on := 0, ground := .phase }, { on := 1, ground := .phase }, { on := 2, ground := .phase }, { on := 3, ground := .phase }, { on := 4, ground := .phase }, { on := 5, ground := .phase }, { on := 6, ground := .phase }, { on := 7, ground := .phase }], guard := none }, { dst := none, op := .store 95 (.tmp 37) (.tmp 35), type := 0, pos := "match.go:71", after := #[{ on := 9, ground := .data }, { on := 7, ground := .data }, { on := 7, ground := .chain }, { on := 0, ground := .phase }, { on := 1, ground := .phase }, { on := 2, ground := .phase }, { on := 3, ground := .phase }, { on := 4, ground := .phase }, { on := 5, ground := .phase }, { on := 6, ground := .phase }, { on := 7, ground := .phase }], guard := none }] true))))) (mG 11 #[mF 38 .add 3 16 (ik 1) 3 3, mA 16 38 3]))))))) (.seq (mG 12 #[mA 39 4 45, mB 2 39 45, q 3 (.assign (ik 0)) 28]) .ret))))
def s20 := sL Tryz.f20 g20 (by kernel_rfl)
def g21 : Code := .seq (mG 0 #[q 2 (.assign (ik 0)) 3]) (.seq (.seq (mG 1 #[mA 3 0 45, mF 4 .eql 45 3 (.const (.pointer none)) 45 4]) (.cond (.tmp 4) (.seq (mG 2 #[q 2 (.assign (ik 0)) 3]) .ret) .skip)) (.seq (mG 3 #[mA 5 0 45, q 6 (.nilCheck (.tmp 5)) 0, q 7 (.fieldAddr 97 (.tmp 6) 0) 0, mC 8 7 95, q 9 (bi .len #[.tmp 8] #[95]) 3, mB 2 9 3]) .ret))
def s21 := sL Tryz.f21 g21 (by kernel_rfl)
def g24 : Code := .seq (mG 0 #[q 2 (.assign mH) 9]) (.seq (mG 1 #[q 3 (.assign (.const (.slice none 0 0))) 106]) (.seq (.seq (mG 2 #[mA 8 0 45, q 9 (cl 26 #[.tmp 8] #[45]) 42, q 10 (bi .len #[.tmp 9] #[42]) 3, q 11 (.move (ik 0)) 3]) (.block 0 (.loop (.seq (mG 3 #[mF 12 .lss 3 11 (.tmp 10) 3 0]) (.seq (.cond (.tmp 12) .skip (.exit 0)) (.seq (.block 1 (.seq (mG 4 #[q 13 (.indexAddr 42 (.tmp 9) (.tmp 11)) 0, mC 14 13 54, q 5 (.alloc 54) 0, mD 54 5 14]) (.seq (mG 5 #[q 16 (.fieldAddr 54 (.tmp 5) 2) 0, mC 17 16 9, q 18 (cl 41 #[.tmp 17] #[9]) 78, mA 15 18 78, mE 19 15 0 9, mE 20 15 1 28, mB 6 19 9, mB 7 20 28]) (.region 6 #[{ dst := some 21, op := .move (.tmp 3), type := 106, pos := "match.go:129", after := #[], guard := none }, { dst := some 22, op := .fieldAddr 54 (.tmp 5) 0, type := 0, pos := "match.go:129", after := #[], guard := none }, { dst := some 23, op := .load 9 (.tmp 22), type := 9, pos := "match.go:129", after := #[{ on := 1, ground := .data }], guard := none }, { dst := some 24, op := .fieldAddr 54 (.tmp 5) 1, type := 0, pos := "match.go:129", after := #[], guard := none }, { dst := some 25, op := .load 3 (.tmp 24), type := 3, pos := "match.go:129", after := #[{ on := 3, ground := .data }], guard := none }, { dst := some 26, op := cl 58 #[.tmp 25] #[3], type := 9, pos := "match.go:129", after := #[{ on := 4, ground := .data }], guard := none }, { dst := some 27, op := .binOp .add 9 (.tmp 23) (.tmp 26) 9, type := 9, pos := "match.go:129", after := #[{ on := 2, ground := .data }, { on := 5, ground := .data }], guard := none }, { dst := some 28, op := .move (.tmp 6), type := 9, pos := "match.go:129", after := #[], guard := none }, { dst := some 29, op := .binOp .add 9 (.tmp 27) (.tmp 28) 9, type := 9, pos := "match.go:129", after := #[{ on := 6, ground := .data }, { on := 7, ground := .data }], guard := none }, { dst := some 30, op := .buildSlice 106 1 #[(0, .tmp 29)], type := 106, pos := "match.go:129", after := #[{ on := 8, ground := .data }], guard := none }, { dst := some 31, op := bi .append #[.tmp 21, .tmp 30] #[106, 106], type := 106, pos := "match.go:129", after := #[{ on := 0, ground := .data }, { on := 9, ground := .data }, { on := 5, ground := .chain }], guard := none }, { dst := some 3, op := .assign (.tmp 31), type := 106, pos := "match.go:129", after := #[{ on := 10, ground := .data }, { on := 10, ground := .chain }, { on := 0, ground := .phase }, { on := 1, ground := .phase }, { on := 2, ground := .phase }, { on := 3, ground := .phase }, { on := 4, ground := .phase }, { on := 5, ground := .phase }, { on := 6, ground := .phase }, { on := 7, ground := .phase }, { on := 8, ground := .phase }, { on := 9, ground := .phase }, { on := 10, ground := .phase }], guard := none }] true)))) (mG 7 #[mF 32 .add 3 11 (ik 1) 3 3, mA 11 32 3]))))))) (.seq (.region 8 #[mA 33 3 106, q 34 (cl 59 #[.tmp 33, .const (.string { data := #[44] })] #[106, 9]) 9, q 35 (.binOp .add 9 (.const (.string { data := #[123] })) (.tmp 34) 9) 9, mF 36 .add 9 35 (.const (.string { data := #[125] })) 9 9, mB 2 36 9] false) .ret)))
def s24 := sL Tryz.f24 g24 (by kernel_rfl)
def g26 : Code := .seq (mG 0 #[q 2 (.assign (.const (.slice none 0 0))) 42]) (.seq (mG 1 #[q 3 (.assign (.const (.slice none 0 0))) 42]) (.seq (.seq (mG 2 #[mA 6 0 45, mF 7 .eql 45 6 (.const (.pointer none)) 45 4]) (.cond (.tmp 7) (.seq (mG 3 #[q 2 (.assign (.const (.slice none 0 0))) 42]) .ret) .skip)) (.seq (.seq (mG 4 #[mA 8 0 45, q 9 (.nilCheck (.tmp 8)) 0, q 10 (.fieldAddr 97 (.tmp 9) 0) 0, mC 11 10 95, q 12 (bi .len #[.tmp 11] #[95]) 3, q 13 (.move (ik 0)) 3]) (.block 0 (.loop (.seq (mG 5 #[mF 14 .lss 3 13 (.tmp 12) 3 0]) (.seq (.cond (.tmp 14) .skip (.exit 0)) (.seq (.block 1 (.seq (mG 6 #[q 15 (.indexAddr 95 (.tmp 11) (.tmp 13)) 0, mC 16 15 100, q 5 (.alloc 100) 0, mD 100 5 16]) (mG 7 #[mA 17 3 42, q 18 (.fieldAddr 100 (.tmp 5) 0) 0, mC 19 18 54, q 20 (.buildSlice 42 1 #[(0, .tmp 19)]) 42, q 21 (bi .append #[.tmp 17, .tmp 20] #[42, 42]) 42, mB 3 21 42]))) (mG 8 #[mF 22 .add 3 13 (ik 1) 3 3, mA 13 22 3]))))))) (.seq (mG 9 #[mA 23 3 42, mB 2 23 42]) .ret))))
def s26 := sL Tryz.f26 g26 (by kernel_rfl)
theorem mlen_nil (prot : Nat) (H : Heap) (hp : prot ≤ H.length) : aLim cfg prot 21 [.nil] H = some (.int .i64 0, none) := by
 refine pure_slim rfl (by kernel_rfl) Tryz.func21 s21 hp rfl (by simp [Tryz.f21]) fun fr hlen h => ?_
 simp only [Has] at h
 obtain ⟨a0, -⟩ := h
 simp only [Tryz.f21] at hlen ⊢
 unfold g21
 simp only [w9, simprocAttr, u54, hlen, a0]
 exact Fin_pure (l := [.int .i64 0]) (by simp [w9, hlen]) (.still rfl) (by simp)
theorem join_nil (prot : Nat) (H : Heap) : aLim cfg prot 59 [.nilS, .str [44]] H = some (.str [], none) :=
 lim_own (by kernel_rfl) (by kernel_rfl) (by kernel_rfl) (by rw [show cfg.own = joinOwn 59 from rfl]; simp [joinOwn])
def wV (name : List UInt8) (kind : Int) (value : List UInt8) (m : AV) : AV := .agg [.str name, .int .i64 kind, .str value, m]
theorem made_bad (name value : List UInt8) (kind : Int) (hn : name.length ≤ 9223372036854775807) (hv : value.length ≤ 1000) (hb : (nameL name && validU value) = false) (prot : Nat) (H : Heap) (hp : prot ≤ H.length) :
  aLim cfg prot 54 [.agg [.str name, .int .i64 kind, .str value]] H = some (.tup [wV [] 0 [] .nil, .int .i64 3], none) := by
 have hl1 : ∀ A : Blk, (H ++ [A]).length = H.length + 1 := fun A => by simp
 have hl2 : ∀ A B : Blk, (H ++ [A] ++ [B]).length = H.length + 2 := fun A B => by simp
 have hl3 : ∀ A B C : Blk, (H ++ [A] ++ [B] ++ [C]).length = H.length + 3 := fun A B C => by simp
 have g20 : ∀ Y (B : Blk), hget (H ++ [Blk.cells 0 Y] ++ [B]) H.length 0 = some Y := fun Y B => hget_mono (by rw [hget_new rfl, if_pos rfl]) _
 have g30 : ∀ Y (B C : Blk), hget (H ++ [Blk.cells 0 Y] ++ [B] ++ [C]) H.length 0 = some Y := fun Y B C => hget_mono (g20 Y B) _
 have g31 : ∀ (A : Blk) Y (C : Blk), hget (H ++ [A] ++ [Blk.cells 0 Y] ++ [C]) (H.length + 1) 0 = some Y := fun A Y C => hget_mono (by rw [hget_new (by simp), if_pos rfl]) _
 have g32 : ∀ (A B : Blk) Y, hget (H ++ [A] ++ [B] ++ [Blk.cells 0 Y]) (H.length + 2) 0 = some Y := fun A B Y => by rw [hget_new (by simp), if_pos rfl]
 have s1 : ∀ (A B : Blk), Go.Abs.hput H.length (H ++ [A] ++ [B] ++ [Blk.cells 0 [.str [], .int .i64 0, .str [], .nil]]) (H.length + 2) 0 0 [.str name, .int .i64 kind, .str value, .nil] = some (H ++ [A] ++ [B] ++ [Blk.cells 0 [.str name, .int .i64 kind, .str value, .nil]]) := fun A B => by
  rw [hput_new (by simp) (by simp) (by simp) (by simp [AV.leaf])]; rfl
 have s2 : ∀ (A C : Blk), Go.Abs.hput H.length (H ++ [A] ++ [Blk.cells 0 [.str [], .int .i64 0, .str [], .nil]] ++ [C]) (H.length + 1) 0 0 [.str [], .int .i64 0, .str [], .nil] = some (H ++ [A] ++ [Blk.cells 0 [.str [], .int .i64 0, .str [], .nil]] ++ [C]) := fun A C => by
  rw [hput_app (by simp) [C], hput_new (by simp) (by simp) (by simp) (by simp [AV.leaf])]; rfl
 have g31' : ∀ (A : Blk) Y (C : Blk), hget (H ++ [A, Blk.cells 0 Y, C]) (H.length + 1) 0 = some Y := fun A Y C => by have := g31 A Y C; simpa using this
 have hll3 : ∀ A B C : Blk, H.length ≤ (H ++ [A] ++ [B] ++ [C]).length := fun A B C => by simp
 have n1 := fun A B C => name_ok name hn H.length (H ++ [A] ++ [B] ++ [C]) (hll3 A B C)
 have n2 := fun A B C => valid_ok value (by omega) H.length (H ++ [A] ++ [B] ++ [C]) (hll3 A B C)
 cases h1 : nameL name with
 | false =>
  rw [h1] at n1
  refine pure_slim rfl (by kernel_rfl) Tryz.func54 s54 hp rfl (by simp [Tryz.f54]) fun fr hlen h => ?_
  simp only [Has] at h
  obtain ⟨a0, -⟩ := h
  simp only [Tryz.f54] at hlen ⊢
  unfold g54
  simp only [w9, simprocAttr, u54, hlen, a0, hl1, hl2, g20, g30, s1, s2, n1]
  trace_state
  exact Fin_pure (l := [.agg [.str [], .int .i64 0, .str [], .nil], .int .i64 3]) (by simp [w9, u54, hlen, g31']) (.tup (.cons (.agg (.cons (.still rfl) (.cons (.still rfl) (.cons (.still rfl) (.cons (.still rfl) .nil))))) (.cons (.still rfl) .nil))) (by simp)
 | true =>
  have h2 : validU value = false := by rw [h1] at hb; simpa using hb
  rw [h1] at n1
  rw [h2] at n2
  refine pure_slim rfl (by kernel_rfl) Tryz.func54 s54 hp rfl (by simp [Tryz.f54]) fun fr hlen h => ?_
  simp only [Has] at h
  obtain ⟨a0, -⟩ := h
  simp only [Tryz.f54] at hlen ⊢
  unfold g54
  simp only [w9, simprocAttr, u54, hlen, a0, hl1, hl2, g20, g30, s1, s2, n1, n2]
  exact Fin_pure (l := [.agg [.str [], .int .i64 0, .str [], .nil], .int .i64 3]) (by simp [w9, u54, hlen, g31']) (.tup (.cons (.agg (.cons (.still rfl) (.cons (.still rfl) (.cons (.still rfl) (.cons (.still rfl) .nil))))) (.cons (.still rfl) .nil))) (by simp)
set_option maxRecDepth 100000
open Go Go.Abs AbsSeat Ty
theorem made1 (name value : List UInt8) (hn : name.length ≤ 9223372036854775807) (hv : value.length ≤ 1000) (h1 : nameL name = true) (h2 : validU value = true) (prot : Nat) (H : Heap) (hp : prot ≤ H.length) :
  aLim cfg prot 54 [.agg [.str name, .int .i64 1, .str value]] H = some (.tup [.agg [.str name, .int .i64 1, .str value, .nil], .int .i64 0], none) := by
 have hl1 : ∀ A : Blk, (H ++ [A]).length = H.length + 1 := fun A => by simp
 have hl2 : ∀ A B : Blk, (H ++ [A] ++ [B]).length = H.length + 2 := fun A B => by simp
 have g20 : ∀ Y (B : Blk), hget (H ++ [Blk.cells 0 Y] ++ [B]) H.length 0 = some Y := fun Y B => hget_mono (by rw [hget_new rfl, if_pos rfl]) _
 have g30 : ∀ Y (B C : Blk), hget (H ++ [Blk.cells 0 Y] ++ [B] ++ [C]) H.length 0 = some Y := fun Y B C => hget_mono (g20 Y B) _
 have g31 : ∀ (A : Blk) Y (C : Blk), hget (H ++ [A] ++ [Blk.cells 0 Y] ++ [C]) (H.length + 1) 0 = some Y := fun A Y C => hget_mono (by rw [hget_new (by simp), if_pos rfl]) _
 have g32 : ∀ (A B : Blk) Y, hget (H ++ [A] ++ [B] ++ [Blk.cells 0 Y]) (H.length + 2) 0 = some Y := fun A B Y => by rw [hget_new (by simp), if_pos rfl]
 have g31' : ∀ (A : Blk) Y (C : Blk), hget (H ++ [A, Blk.cells 0 Y, C]) (H.length + 1) 0 = some Y := fun A Y C => by have := g31 A Y C; simpa using this
 have s1 : ∀ (A B : Blk), Go.Abs.hput H.length (H ++ [A] ++ [B] ++ [Blk.cells 0 [.str [], .int .i64 0, .str [], .nil]]) (H.length + 2) 0 0 [.str name, .int .i64 1, .str value, .nil] = some (H ++ [A] ++ [B] ++ [Blk.cells 0 [.str name, .int .i64 1, .str value, .nil]]) := fun A B => by
  rw [hput_new (by simp) (by simp) (by simp) (by simp [AV.leaf])]; rfl
 have s3 : ∀ (A C : Blk), Go.Abs.hput H.length (H ++ [A] ++ [Blk.cells 0 [.str [], .int .i64 0, .str [], .nil]] ++ [C]) (H.length + 1) 0 0 [.str name, .int .i64 1, .str value, .nil] = some (H ++ [A] ++ [Blk.cells 0 [.str name, .int .i64 1, .str value, .nil]] ++ [C]) := fun A C => by
  rw [hput_app (by simp) [C], hput_new (by simp) (by simp) (by simp) (by simp [AV.leaf])]; rfl
 have hll3 : ∀ A B C : Blk, H.length ≤ (H ++ [A] ++ [B] ++ [C]).length := fun A B C => by simp
 have n1 := fun A B C => name_ok name hn H.length (H ++ [A] ++ [B] ++ [C]) (hll3 A B C)
 have n2 := fun A B C => valid_ok value (by omega) H.length (H ++ [A] ++ [B] ++ [C]) (hll3 A B C)
 rw [h1] at n1
 rw [h2] at n2
 refine pure_slim rfl (by kernel_rfl) Tryz.func54 s54 hp rfl (by simp [Tryz.f54]) fun fr hlen h => ?_
 simp only [Has] at h
 obtain ⟨a0, -⟩ := h
 simp only [Tryz.f54] at hlen ⊢
 unfold g54
 simp only [w9, simprocAttr, u54, hlen, a0, hl1, hl2, g20, g30, g32, s1, s3, n1, n2]
 exact Fin_pure (l := [.agg [.str name, .int .i64 1, .str value, .nil], .int .i64 0]) (by simp [w9, u54, hlen, g31']) (.tup (.cons (.agg (.cons (.still rfl) (.cons (.still rfl) (.cons (.still rfl) (.cons (.still rfl) .nil))))) (.cons (.still rfl) .nil))) (by simp)
theorem made2 (name value : List UInt8) (hn : name.length ≤ 9223372036854775807) (hv : value.length ≤ 1000) (h1 : nameL name = true) (h2 : validU value = true) (prot : Nat) (H : Heap) (hp : prot ≤ H.length) :
  aLim cfg prot 54 [.agg [.str name, .int .i64 2, .str value]] H = some (.tup [.agg [.str name, .int .i64 2, .str value, .nil], .int .i64 0], none) := by
 have hl1 : ∀ A : Blk, (H ++ [A]).length = H.length + 1 := fun A => by simp
 have hl2 : ∀ A B : Blk, (H ++ [A] ++ [B]).length = H.length + 2 := fun A B => by simp
 have g20 : ∀ Y (B : Blk), hget (H ++ [Blk.cells 0 Y] ++ [B]) H.length 0 = some Y := fun Y B => hget_mono (by rw [hget_new rfl, if_pos rfl]) _
 have g30 : ∀ Y (B C : Blk), hget (H ++ [Blk.cells 0 Y] ++ [B] ++ [C]) H.length 0 = some Y := fun Y B C => hget_mono (g20 Y B) _
 have g31 : ∀ (A : Blk) Y (C : Blk), hget (H ++ [A] ++ [Blk.cells 0 Y] ++ [C]) (H.length + 1) 0 = some Y := fun A Y C => hget_mono (by rw [hget_new (by simp), if_pos rfl]) _
 have g32 : ∀ (A B : Blk) Y, hget (H ++ [A] ++ [B] ++ [Blk.cells 0 Y]) (H.length + 2) 0 = some Y := fun A B Y => by rw [hget_new (by simp), if_pos rfl]
 have g31' : ∀ (A : Blk) Y (C : Blk), hget (H ++ [A, Blk.cells 0 Y, C]) (H.length + 1) 0 = some Y := fun A Y C => by have := g31 A Y C; simpa using this
 have s1 : ∀ (A B : Blk), Go.Abs.hput H.length (H ++ [A] ++ [B] ++ [Blk.cells 0 [.str [], .int .i64 0, .str [], .nil]]) (H.length + 2) 0 0 [.str name, .int .i64 2, .str value, .nil] = some (H ++ [A] ++ [B] ++ [Blk.cells 0 [.str name, .int .i64 2, .str value, .nil]]) := fun A B => by
  rw [hput_new (by simp) (by simp) (by simp) (by simp [AV.leaf])]; rfl
 have s3 : ∀ (A C : Blk), Go.Abs.hput H.length (H ++ [A] ++ [Blk.cells 0 [.str [], .int .i64 0, .str [], .nil]] ++ [C]) (H.length + 1) 0 0 [.str name, .int .i64 2, .str value, .nil] = some (H ++ [A] ++ [Blk.cells 0 [.str name, .int .i64 2, .str value, .nil]] ++ [C]) := fun A C => by
  rw [hput_app (by simp) [C], hput_new (by simp) (by simp) (by simp) (by simp [AV.leaf])]; rfl
 have hll3 : ∀ A B C : Blk, H.length ≤ (H ++ [A] ++ [B] ++ [C]).length := fun A B C => by simp
 have n1 := fun A B C => name_ok name hn H.length (H ++ [A] ++ [B] ++ [C]) (hll3 A B C)
 have n2 := fun A B C => valid_ok value (by omega) H.length (H ++ [A] ++ [B] ++ [C]) (hll3 A B C)
 rw [h1] at n1
 rw [h2] at n2
 refine pure_slim rfl (by kernel_rfl) Tryz.func54 s54 hp rfl (by simp [Tryz.f54]) fun fr hlen h => ?_
 simp only [Has] at h
 obtain ⟨a0, -⟩ := h
 simp only [Tryz.f54] at hlen ⊢
 unfold g54
 simp only [w9, simprocAttr, u54, hlen, a0, hl1, hl2, g20, g30, g32, s1, s3, n1, n2]
 exact Fin_pure (l := [.agg [.str name, .int .i64 2, .str value, .nil], .int .i64 0]) (by simp [w9, u54, hlen, g31']) (.tup (.cons (.agg (.cons (.still rfl) (.cons (.still rfl) (.cons (.still rfl) (.cons (.still rfl) .nil))))) (.cons (.still rfl) .nil))) (by simp)
theorem made3 (name value : List UInt8) (hn : name.length ≤ 9223372036854775807) (hv : value.length ≤ 1000) (h1 : nameL name = true) (h2 : validU value = true) (m : AV) (hm : AV.leaf m = true) (hst : still m = true) (hnf : ∀ (prot : Nat) (H : Heap), prot ≤ H.length → aLim cfg prot 88 [.str value] H = some (.tup [m, .int .i64 0], none)) (prot : Nat) (H : Heap) (hp : prot ≤ H.length) :
  aLim cfg prot 54 [.agg [.str name, .int .i64 3, .str value]] H = some (.tup [.agg [.str name, .int .i64 3, .str value, m], .int .i64 0], none) := by
 have hl1 : ∀ A : Blk, (H ++ [A]).length = H.length + 1 := fun A => by simp
 have hl2 : ∀ A B : Blk, (H ++ [A] ++ [B]).length = H.length + 2 := fun A B => by simp
 have g20 : ∀ Y (B : Blk), hget (H ++ [Blk.cells 0 Y] ++ [B]) H.length 0 = some Y := fun Y B => hget_mono (by rw [hget_new rfl, if_pos rfl]) _
 have g30 : ∀ Y (B C : Blk), hget (H ++ [Blk.cells 0 Y] ++ [B] ++ [C]) H.length 0 = some Y := fun Y B C => hget_mono (g20 Y B) _
 have g31 : ∀ (A : Blk) Y (C : Blk), hget (H ++ [A] ++ [Blk.cells 0 Y] ++ [C]) (H.length + 1) 0 = some Y := fun A Y C => hget_mono (by rw [hget_new (by simp), if_pos rfl]) _
 have g32 : ∀ (A B : Blk) Y, hget (H ++ [A] ++ [B] ++ [Blk.cells 0 Y]) (H.length + 2) 0 = some Y := fun A B Y => by rw [hget_new (by simp), if_pos rfl]
 have g31' : ∀ (A : Blk) Y (C : Blk), hget (H ++ [A, Blk.cells 0 Y, C]) (H.length + 1) 0 = some Y := fun A Y C => by have := g31 A Y C; simpa using this
 have s1 : ∀ (A B : Blk), Go.Abs.hput H.length (H ++ [A] ++ [B] ++ [Blk.cells 0 [.str [], .int .i64 0, .str [], .nil]]) (H.length + 2) 0 0 [.str name, .int .i64 3, .str value, .nil] = some (H ++ [A] ++ [B] ++ [Blk.cells 0 [.str name, .int .i64 3, .str value, .nil]]) := fun A B => by
  rw [hput_new (by simp) (by simp) (by simp) (by simp [AV.leaf])]; rfl
 have s3 : ∀ (A C : Blk), Go.Abs.hput H.length (H ++ [A] ++ [Blk.cells 0 [.str [], .int .i64 0, .str [], .nil]] ++ [C]) (H.length + 1) 0 0 [.str name, .int .i64 3, .str value, m] = some (H ++ [A] ++ [Blk.cells 0 [.str name, .int .i64 3, .str value, m]] ++ [C]) := fun A C => by
  rw [hput_app (by simp) [C], hput_new (by simp) (by simp) (by simp) (by simp [hm, show ∀ s, AV.leaf (.str s) = true from fun _ => rfl, show ∀ k n, AV.leaf (.int k n) = true from fun _ _ => rfl])]; rfl
 have s4 : ∀ (A B : Blk), Go.Abs.hput H.length (H ++ [A] ++ [B] ++ [Blk.cells 0 [.str name, .int .i64 3, .str value, .nil]]) (H.length + 2) 0 3 [m] = some (H ++ [A] ++ [B] ++ [Blk.cells 0 [.str name, .int .i64 3, .str value, m]]) := fun A B => by
  rw [hput_new (by simp) (by simp) (by simp) (by simp [hm])]; rfl
 have hll3 : ∀ A B C : Blk, H.length ≤ (H ++ [A] ++ [B] ++ [C]).length := fun A B C => by simp
 have n1 := fun A B C => name_ok name hn H.length (H ++ [A] ++ [B] ++ [C]) (hll3 A B C)
 have n2 := fun A B C => valid_ok value (by omega) H.length (H ++ [A] ++ [B] ++ [C]) (hll3 A B C)
 rw [h1] at n1
 rw [h2] at n2
 have n3 := fun A B C => hnf H.length (H ++ [A] ++ [B] ++ [C]) (hll3 A B C)
 have hmc : AV.cells m = [m] := by cases m <;> first | rfl | (cases hm)
 unfold AV.cells at hmc
 unfold AV.leaf at hm
 refine pure_slim rfl (by kernel_rfl) Tryz.func54 s54 hp rfl (by simp [Tryz.f54]) fun fr hlen h => ?_
 simp only [Has] at h
 obtain ⟨a0, -⟩ := h
 simp only [Tryz.f54] at hlen ⊢
 unfold g54
 simp only [w9, simprocAttr, u54, hlen, a0, hl1, hl2, g20, g30, g32, s1, s3, s4, n1, n2, n3, hmc]
 exact Fin_pure (l := [.agg [.str name, .int .i64 3, .str value, m], .int .i64 0]) (by simp [w9, u54, hlen, g31']) (.tup (.cons (.agg (.cons (.still rfl) (.cons (.still rfl) (.cons (.still rfl) (.cons (.still hst) .nil))))) (.cons (.still rfl) .nil))) (by simp)
theorem madeBad3 (name value : List UInt8) (hn : name.length ≤ 9223372036854775807) (hv : value.length ≤ 1000) (h1 : nameL name = true) (h2 : validU value = true) (e : Int) (he : e ≠ 0) (hnf : ∀ (prot : Nat) (H : Heap), prot ≤ H.length → aLim cfg prot 88 [.str value] H = some (.tup [.nil, .int .i64 e], none)) (prot : Nat) (H : Heap) (hp : prot ≤ H.length) :
  aLim cfg prot 54 [.agg [.str name, .int .i64 3, .str value]] H = some (.tup [.agg [.str [], .int .i64 0, .str [], .nil], .int .i64 e], none) := by
 have hl1 : ∀ A : Blk, (H ++ [A]).length = H.length + 1 := fun A => by simp
 have hl2 : ∀ A B : Blk, (H ++ [A] ++ [B]).length = H.length + 2 := fun A B => by simp
 have g20 : ∀ Y (B : Blk), hget (H ++ [Blk.cells 0 Y] ++ [B]) H.length 0 = some Y := fun Y B => hget_mono (by rw [hget_new rfl, if_pos rfl]) _
 have g30 : ∀ Y (B C : Blk), hget (H ++ [Blk.cells 0 Y] ++ [B] ++ [C]) H.length 0 = some Y := fun Y B C => hget_mono (g20 Y B) _
 have g31 : ∀ (A : Blk) Y (C : Blk), hget (H ++ [A] ++ [Blk.cells 0 Y] ++ [C]) (H.length + 1) 0 = some Y := fun A Y C => hget_mono (by rw [hget_new (by simp), if_pos rfl]) _
 have g31' : ∀ (A : Blk) Y (C : Blk), hget (H ++ [A, Blk.cells 0 Y, C]) (H.length + 1) 0 = some Y := fun A Y C => by have := g31 A Y C; simpa using this
 have s1 : ∀ (A B : Blk), Go.Abs.hput H.length (H ++ [A] ++ [B] ++ [Blk.cells 0 [.str [], .int .i64 0, .str [], .nil]]) (H.length + 2) 0 0 [.str name, .int .i64 3, .str value, .nil] = some (H ++ [A] ++ [B] ++ [Blk.cells 0 [.str name, .int .i64 3, .str value, .nil]]) := fun A B => by
  rw [hput_new (by simp) (by simp) (by simp) (by simp [AV.leaf])]; rfl
 have s2 : ∀ (A C : Blk), Go.Abs.hput H.length (H ++ [A] ++ [Blk.cells 0 [.str [], .int .i64 0, .str [], .nil]] ++ [C]) (H.length + 1) 0 0 [.str [], .int .i64 0, .str [], .nil] = some (H ++ [A] ++ [Blk.cells 0 [.str [], .int .i64 0, .str [], .nil]] ++ [C]) := fun A C => by
  rw [hput_app (by simp) [C], hput_new (by simp) (by simp) (by simp) (by simp [AV.leaf])]; rfl
 have hll3 : ∀ A B C : Blk, H.length ≤ (H ++ [A] ++ [B] ++ [C]).length := fun A B C => by simp
 have n1 := fun A B C => name_ok name hn H.length (H ++ [A] ++ [B] ++ [C]) (hll3 A B C)
 have n2 := fun A B C => valid_ok value (by omega) H.length (H ++ [A] ++ [B] ++ [C]) (hll3 A B C)
 rw [h1] at n1
 rw [h2] at n2
 have n3 := fun A B C => hnf H.length (H ++ [A] ++ [B] ++ [C]) (hll3 A B C)
 have z0 : decide (¬ e = 0) = true := decide_eq_true he
 refine pure_slim rfl (by kernel_rfl) Tryz.func54 s54 hp rfl (by simp [Tryz.f54]) fun fr hlen h => ?_
 simp only [Has] at h
 obtain ⟨a0, -⟩ := h
 simp only [Tryz.f54] at hlen ⊢
 unfold g54
 simp only [w9, simprocAttr, u54, hlen, a0, hl1, hl2, g20, g30, s1, s2, n1, n2, n3, z0]
 exact Fin_pure (l := [.agg [.str [], .int .i64 0, .str [], .nil], .int .i64 e]) (by simp [w9, u54, hlen, g31']) (.tup (.cons (.agg (.cons (.still rfl) (.cons (.still rfl) (.cons (.still rfl) (.cons (.still rfl) .nil))))) (.cons (.still rfl) .nil))) (by simp)
theorem made4 (name value : List UInt8) (hn : name.length ≤ 9223372036854775807) (hv : value.length ≤ 1000) (h1 : nameL name = true) (h2 : validU value = true) (m : AV) (hm : AV.leaf m = true) (hst : still m = true) (hnf : ∀ (prot : Nat) (H : Heap), prot ≤ H.length → aLim cfg prot 88 [.str value] H = some (.tup [m, .int .i64 0], none)) (prot : Nat) (H : Heap) (hp : prot ≤ H.length) :
  aLim cfg prot 54 [.agg [.str name, .int .i64 4, .str value]] H = some (.tup [.agg [.str name, .int .i64 4, .str value, m], .int .i64 0], none) := by
 have hl1 : ∀ A : Blk, (H ++ [A]).length = H.length + 1 := fun A => by simp
 have hl2 : ∀ A B : Blk, (H ++ [A] ++ [B]).length = H.length + 2 := fun A B => by simp
 have g20 : ∀ Y (B : Blk), hget (H ++ [Blk.cells 0 Y] ++ [B]) H.length 0 = some Y := fun Y B => hget_mono (by rw [hget_new rfl, if_pos rfl]) _
 have g30 : ∀ Y (B C : Blk), hget (H ++ [Blk.cells 0 Y] ++ [B] ++ [C]) H.length 0 = some Y := fun Y B C => hget_mono (g20 Y B) _
 have g31 : ∀ (A : Blk) Y (C : Blk), hget (H ++ [A] ++ [Blk.cells 0 Y] ++ [C]) (H.length + 1) 0 = some Y := fun A Y C => hget_mono (by rw [hget_new (by simp), if_pos rfl]) _
 have g32 : ∀ (A B : Blk) Y, hget (H ++ [A] ++ [B] ++ [Blk.cells 0 Y]) (H.length + 2) 0 = some Y := fun A B Y => by rw [hget_new (by simp), if_pos rfl]
 have g31' : ∀ (A : Blk) Y (C : Blk), hget (H ++ [A, Blk.cells 0 Y, C]) (H.length + 1) 0 = some Y := fun A Y C => by have := g31 A Y C; simpa using this
 have s1 : ∀ (A B : Blk), Go.Abs.hput H.length (H ++ [A] ++ [B] ++ [Blk.cells 0 [.str [], .int .i64 0, .str [], .nil]]) (H.length + 2) 0 0 [.str name, .int .i64 4, .str value, .nil] = some (H ++ [A] ++ [B] ++ [Blk.cells 0 [.str name, .int .i64 4, .str value, .nil]]) := fun A B => by
  rw [hput_new (by simp) (by simp) (by simp) (by simp [AV.leaf])]; rfl
 have s3 : ∀ (A C : Blk), Go.Abs.hput H.length (H ++ [A] ++ [Blk.cells 0 [.str [], .int .i64 0, .str [], .nil]] ++ [C]) (H.length + 1) 0 0 [.str name, .int .i64 4, .str value, m] = some (H ++ [A] ++ [Blk.cells 0 [.str name, .int .i64 4, .str value, m]] ++ [C]) := fun A C => by
  rw [hput_app (by simp) [C], hput_new (by simp) (by simp) (by simp) (by simp [hm, show ∀ s, AV.leaf (.str s) = true from fun _ => rfl, show ∀ k n, AV.leaf (.int k n) = true from fun _ _ => rfl])]; rfl
 have s4 : ∀ (A B : Blk), Go.Abs.hput H.length (H ++ [A] ++ [B] ++ [Blk.cells 0 [.str name, .int .i64 4, .str value, .nil]]) (H.length + 2) 0 3 [m] = some (H ++ [A] ++ [B] ++ [Blk.cells 0 [.str name, .int .i64 4, .str value, m]]) := fun A B => by
  rw [hput_new (by simp) (by simp) (by simp) (by simp [hm])]; rfl
 have hll3 : ∀ A B C : Blk, H.length ≤ (H ++ [A] ++ [B] ++ [C]).length := fun A B C => by simp
 have n1 := fun A B C => name_ok name hn H.length (H ++ [A] ++ [B] ++ [C]) (hll3 A B C)
 have n2 := fun A B C => valid_ok value (by omega) H.length (H ++ [A] ++ [B] ++ [C]) (hll3 A B C)
 rw [h1] at n1
 rw [h2] at n2
 have n3 := fun A B C => hnf H.length (H ++ [A] ++ [B] ++ [C]) (hll3 A B C)
 have hmc : AV.cells m = [m] := by cases m <;> first | rfl | (cases hm)
 unfold AV.cells at hmc
 unfold AV.leaf at hm
 refine pure_slim rfl (by kernel_rfl) Tryz.func54 s54 hp rfl (by simp [Tryz.f54]) fun fr hlen h => ?_
 simp only [Has] at h
 obtain ⟨a0, -⟩ := h
 simp only [Tryz.f54] at hlen ⊢
 unfold g54
 simp only [w9, simprocAttr, u54, hlen, a0, hl1, hl2, g20, g30, g32, s1, s3, s4, n1, n2, n3, hmc]
 exact Fin_pure (l := [.agg [.str name, .int .i64 4, .str value, m], .int .i64 0]) (by simp [w9, u54, hlen, g31']) (.tup (.cons (.agg (.cons (.still rfl) (.cons (.still rfl) (.cons (.still rfl) (.cons (.still hst) .nil))))) (.cons (.still rfl) .nil))) (by simp)
theorem madeBad4 (name value : List UInt8) (hn : name.length ≤ 9223372036854775807) (hv : value.length ≤ 1000) (h1 : nameL name = true) (h2 : validU value = true) (e : Int) (he : e ≠ 0) (hnf : ∀ (prot : Nat) (H : Heap), prot ≤ H.length → aLim cfg prot 88 [.str value] H = some (.tup [.nil, .int .i64 e], none)) (prot : Nat) (H : Heap) (hp : prot ≤ H.length) :
  aLim cfg prot 54 [.agg [.str name, .int .i64 4, .str value]] H = some (.tup [.agg [.str [], .int .i64 0, .str [], .nil], .int .i64 e], none) := by
 have hl1 : ∀ A : Blk, (H ++ [A]).length = H.length + 1 := fun A => by simp
 have hl2 : ∀ A B : Blk, (H ++ [A] ++ [B]).length = H.length + 2 := fun A B => by simp
 have g20 : ∀ Y (B : Blk), hget (H ++ [Blk.cells 0 Y] ++ [B]) H.length 0 = some Y := fun Y B => hget_mono (by rw [hget_new rfl, if_pos rfl]) _
 have g30 : ∀ Y (B C : Blk), hget (H ++ [Blk.cells 0 Y] ++ [B] ++ [C]) H.length 0 = some Y := fun Y B C => hget_mono (g20 Y B) _
 have g31 : ∀ (A : Blk) Y (C : Blk), hget (H ++ [A] ++ [Blk.cells 0 Y] ++ [C]) (H.length + 1) 0 = some Y := fun A Y C => hget_mono (by rw [hget_new (by simp), if_pos rfl]) _
 have g31' : ∀ (A : Blk) Y (C : Blk), hget (H ++ [A, Blk.cells 0 Y, C]) (H.length + 1) 0 = some Y := fun A Y C => by have := g31 A Y C; simpa using this
 have s1 : ∀ (A B : Blk), Go.Abs.hput H.length (H ++ [A] ++ [B] ++ [Blk.cells 0 [.str [], .int .i64 0, .str [], .nil]]) (H.length + 2) 0 0 [.str name, .int .i64 4, .str value, .nil] = some (H ++ [A] ++ [B] ++ [Blk.cells 0 [.str name, .int .i64 4, .str value, .nil]]) := fun A B => by
  rw [hput_new (by simp) (by simp) (by simp) (by simp [AV.leaf])]; rfl
 have s2 : ∀ (A C : Blk), Go.Abs.hput H.length (H ++ [A] ++ [Blk.cells 0 [.str [], .int .i64 0, .str [], .nil]] ++ [C]) (H.length + 1) 0 0 [.str [], .int .i64 0, .str [], .nil] = some (H ++ [A] ++ [Blk.cells 0 [.str [], .int .i64 0, .str [], .nil]] ++ [C]) := fun A C => by
  rw [hput_app (by simp) [C], hput_new (by simp) (by simp) (by simp) (by simp [AV.leaf])]; rfl
 have hll3 : ∀ A B C : Blk, H.length ≤ (H ++ [A] ++ [B] ++ [C]).length := fun A B C => by simp
 have n1 := fun A B C => name_ok name hn H.length (H ++ [A] ++ [B] ++ [C]) (hll3 A B C)
 have n2 := fun A B C => valid_ok value (by omega) H.length (H ++ [A] ++ [B] ++ [C]) (hll3 A B C)
 rw [h1] at n1
 rw [h2] at n2
 have n3 := fun A B C => hnf H.length (H ++ [A] ++ [B] ++ [C]) (hll3 A B C)
 have z0 : decide (¬ e = 0) = true := decide_eq_true he
 refine pure_slim rfl (by kernel_rfl) Tryz.func54 s54 hp rfl (by simp [Tryz.f54]) fun fr hlen h => ?_
 simp only [Has] at h
 obtain ⟨a0, -⟩ := h
 simp only [Tryz.f54] at hlen ⊢
 unfold g54
 simp only [w9, simprocAttr, u54, hlen, a0, hl1, hl2, g20, g30, s1, s2, n1, n2, n3, z0]
 exact Fin_pure (l := [.agg [.str [], .int .i64 0, .str [], .nil], .int .i64 e]) (by simp [w9, u54, hlen, g31']) (.tup (.cons (.agg (.cons (.still rfl) (.cons (.still rfl) (.cons (.still rfl) (.cons (.still rfl) .nil))))) (.cons (.still rfl) .nil))) (by simp)
set_option maxRecDepth 100000
open Go Go.Abs AbsSeat Ty
theorem lit1W (r0 r1 r2 r3 : AV) (h0 : AV.leaf r0 = true) (h1 : AV.leaf r1 = true) (h2 : AV.leaf r2 = true) (h3 : AV.leaf r3 = true) (K : Heap) : aBuildSlice Tryz.prog K 95 1 [(0, .agg [r0, r1, r2, r3])] = some (.bs ⟨K.length, 0, 0, 1, 1, 4, true, true⟩, some (K ++ [Blk.cells 0 [r0, r1, r2, r3]])) := by
 simp [aBuildSlice, se95, sz100, ag100, ze100, AV.cells, fillA, zrep, splice, litOk, AV.scal, h0, h1, h2, h3]
 intro a ha
 rw [List.drop_eq_nil_of_le (by simp)] at ha
 cases ha
set_option maxRecDepth 100000
open Go Go.Abs AbsSeat Ty
theorem made5 (name value : List UInt8) (kind : Int) (hn : name.length ≤ 9223372036854775807) (hv : value.length ≤ 1000) (h1 : nameL name = true) (h2 : validU value = true) (k1 : kind ≠ 1) (k2 : kind ≠ 2) (k3 : kind ≠ 3) (k4 : kind ≠ 4) (prot : Nat) (H : Heap) (hp : prot ≤ H.length) :
  aLim cfg prot 54 [.agg [.str name, .int .i64 kind, .str value]] H = some (.tup [.agg [.str [], .int .i64 0, .str [], .nil], .int .i64 3], none) := by
 have hl1 : ∀ A : Blk, (H ++ [A]).length = H.length + 1 := fun A => by simp
 have hl2 : ∀ A B : Blk, (H ++ [A] ++ [B]).length = H.length + 2 := fun A B => by simp
 have g20 : ∀ Y (B : Blk), hget (H ++ [Blk.cells 0 Y] ++ [B]) H.length 0 = some Y := fun Y B => hget_mono (by rw [hget_new rfl, if_pos rfl]) _
 have g30 : ∀ Y (B C : Blk), hget (H ++ [Blk.cells 0 Y] ++ [B] ++ [C]) H.length 0 = some Y := fun Y B C => hget_mono (g20 Y B) _
 have g31 : ∀ (A : Blk) Y (C : Blk), hget (H ++ [A] ++ [Blk.cells 0 Y] ++ [C]) (H.length + 1) 0 = some Y := fun A Y C => hget_mono (by rw [hget_new (by simp), if_pos rfl]) _
 have s1 : ∀ (A B : Blk), Go.Abs.hput H.length (H ++ [A] ++ [B] ++ [Blk.cells 0 [.str [], .int .i64 0, .str [], .nil]]) (H.length + 2) 0 0 [.str name, .int .i64 kind, .str value, .nil] = some (H ++ [A] ++ [B] ++ [Blk.cells 0 [.str name, .int .i64 kind, .str value, .nil]]) := fun A B => by
  rw [hput_new (by simp) (by simp) (by simp) (by simp [AV.leaf])]; rfl
 have s2 : ∀ (A C : Blk), Go.Abs.hput H.length (H ++ [A] ++ [Blk.cells 0 [.str [], .int .i64 0, .str [], .nil]] ++ [C]) (H.length + 1) 0 0 [.str [], .int .i64 0, .str [], .nil] = some (H ++ [A] ++ [Blk.cells 0 [.str [], .int .i64 0, .str [], .nil]] ++ [C]) := fun A C => by
  rw [hput_app (by simp) [C], hput_new (by simp) (by simp) (by simp) (by simp [AV.leaf])]; rfl
 have g31' : ∀ (A : Blk) Y (C : Blk), hget (H ++ [A, Blk.cells 0 Y, C]) (H.length + 1) 0 = some Y := fun A Y C => by have := g31 A Y C; simpa using this
 have hll3 : ∀ A B C : Blk, H.length ≤ (H ++ [A] ++ [B] ++ [C]).length := fun A B C => by simp
 have n1 := fun A B C => name_ok name hn H.length (H ++ [A] ++ [B] ++ [C]) (hll3 A B C)
 have n2 := fun A B C => valid_ok value (by omega) H.length (H ++ [A] ++ [B] ++ [C]) (hll3 A B C)
 rw [h1] at n1
 rw [h2] at n2
 have d1 : decide (kind = 1) = false := decide_eq_false k1
 have d2 : decide (kind = 2) = false := decide_eq_false k2
 have d3 : decide (kind = 3) = false := decide_eq_false k3
 have d4 : decide (kind = 4) = false := decide_eq_false k4
 refine pure_slim rfl (by kernel_rfl) Tryz.func54 s54 hp rfl (by simp [Tryz.f54]) fun fr hlen h => ?_
 simp only [Has] at h
 obtain ⟨a0, -⟩ := h
 simp only [Tryz.f54] at hlen ⊢
 unfold g54
 simp only [w9, simprocAttr, u54, hlen, a0, hl1, hl2, g20, g30, s1, s2, n1, n2, d1, d2, d3, d4]
 exact Fin_pure (l := [.agg [.str [], .int .i64 0, .str [], .nil], .int .i64 3]) (by simp [w9, u54, hlen, g31']) (.tup (.cons (.agg (.cons (.still rfl) (.cons (.still rfl) (.cons (.still rfl) (.cons (.still rfl) .nil))))) (.cons (.still rfl) .nil))) (by simp)
def machV (m : Mt) : AV := if m.kind = 3 ∨ m.kind = 4 then (match ofS m.val with | .tup [.vptr c o, _] => .vptr c o | _ => .nil) else .nil
def machE (m : Mt) : Int := match ofS m.val with | .tup [_, .int _ e] => e | _ => 0
def madeE (m : Mt) : Int := if (nameL m.name && validU m.val) = false then 3 else if m.kind = 3 ∨ m.kind = 4 then machE m else if m.kind = 1 ∨ m.kind = 2 then 0 else 3
def encW (m : Mt) : AV := .agg [.str m.name, .int .i64 m.kind, .str m.val, machV m]
theorem machV_leaf (m : Mt) : AV.leaf (machV m) = true ∧ still (machV m) = true := by
 unfold machV
 split
 ·split <;> exact ⟨rfl, rfl⟩
 ·exact ⟨rfl, rfl⟩
theorem encW_T : EncT encW 4 true where
 len _ := rfl
 leaf x c hc := by
  simp only [encW, AV.cells, List.mem_cons, List.not_mem_nil, or_false] at hc
  rcases hc with rfl | rfl | rfl | rfl
  ·rfl
  ·rfl
  ·rfl
  ·exact (machV_leaf x).1
 still x c hc := by
  simp only [encW, AV.cells, List.mem_cons, List.not_mem_nil, or_false] at hc
  rcases hc with rfl | rfl | rfl | rfl
  ·rfl
  ·rfl
  ·rfl
  ·exact (machV_leaf x).2
 shape _ := rfl
theorem rowW : RowT Tryz.prog 95 100 4 48 true where
 un := Tryz.underlying95
 size := sz100
 bytes := by100
 agg := ag100
 zero := ⟨_, ze100, rfl⟩
 pos := by decide
 tree := rfl
theorem made_gen (m : Mt) (hn : m.name.length ≤ 9223372036854775807) (hv : m.val.length ≤ 1000) :
  (madeE m ≠ 0 ∧ ∀ (prot : Nat) (H : Heap), prot ≤ H.length → aLim cfg prot 54 [.agg [.str m.name, .int .i64 m.kind, .str m.val]] H = some (.tup [.agg [.str [], .int .i64 0, .str [], .nil], .int .i64 (madeE m)], none)) ∨
  (madeE m = 0 ∧ ∀ (prot : Nat) (H : Heap), prot ≤ H.length → aLim cfg prot 54 [.agg [.str m.name, .int .i64 m.kind, .str m.val]] H = some (.tup [.agg [.str m.name, .int .i64 m.kind, .str m.val, machV m], .int .i64 0], none)) := by
 obtain ⟨name, kind, value⟩ := m
 unfold madeE machV machE
 dsimp only at hn hv ⊢
 by_cases hb : (nameL name && validU value) = true
 ·rw [if_neg (by rw [hb]; decide)]
  simp only [Bool.and_eq_true] at hb
  obtain ⟨h1, h2⟩ := hb
  by_cases hk : kind = 3 ∨ kind = 4
  ·rw [if_pos hk, if_pos hk]
   rcases ofS_cases value hv with ⟨e, he, ho⟩ | ⟨l, a, g1, g2, g3, g4, ho⟩
   ·have hnf : ∀ (prot : Nat) (H : Heap), prot ≤ H.length → aLim cfg prot 88 [.str value] H = some (.tup [.nil, .int .i64 e], none) := fun p K h => by rw [← ho]; exact nof_ok value hv p K h
    rw [ho]
    refine .inl ⟨he, fun prot H hp => ?_⟩
    rcases hk with rfl | rfl
    ·exact madeBad3 name value hn hv h1 h2 e he hnf prot H hp
    ·exact madeBad4 name value hn hv h1 h2 e he hnf prot H hp
   ·have hnf : ∀ (prot : Nat) (H : Heap), prot ≤ H.length → aLim cfg prot 88 [.str value] H = some (.tup [encM l a, .int .i64 0], none) := fun p K h => by rw [← ho]; exact nof_ok value hv p K h
    rw [ho]
    refine .inr ⟨rfl, fun prot H hp => ?_⟩
    rcases hk with rfl | rfl
    ·exact made3 name value hn hv h1 h2 (encM l a) rfl rfl hnf prot H hp
    ·exact made4 name value hn hv h1 h2 (encM l a) rfl rfl hnf prot H hp
  ·rw [if_neg hk, if_neg hk]
   by_cases hk2 : kind = 1 ∨ kind = 2
   ·rw [if_pos hk2]
    refine .inr ⟨rfl, fun prot H hp => ?_⟩
    rcases hk2 with rfl | rfl
    ·exact made1 name value hn hv h1 h2 prot H hp
    ·exact made2 name value hn hv h1 h2 prot H hp
   ·rw [if_neg hk2]
    exact .inl ⟨by decide, fun prot H hp => made5 name value kind hn hv h1 h2 (fun h => hk2 (.inl h)) (fun h => hk2 (.inr h)) (fun h => hk (.inl h)) (fun h => hk (.inr h)) prot H hp⟩
 ·have hb := Bool.eq_false_iff.2 hb
  rw [if_pos hb]
  exact .inl ⟨by decide, fun prot H hp => made_bad name value kind hn hv hb prot H hp⟩
def firstE : List Mt → Int
 | [] => 0
 | m :: r => if madeE m = 0 then firstE r else madeE m
def ofE (l : List Mt) : Int := if 32 < l.length then 7 else firstE l
def listV (l : List Mt) : AV := .vptr [slv encW l] 0
theorem mof_ok (l : List Mt) (v : AV) (hv : Sl encMt v l) (hl : l.length < 1000000000) (hs : ∀ m ∈ l, m.name.length ≤ 9223372036854775807 ∧ m.val.length ≤ 1000) (prot : Nat) (H : Heap) (hp : prot ≤ H.length) :
  aLim cfg prot 20 [v] H = some (.tup [if ofE l = 0 then listV l else .nil, .int .i64 (ofE l)], none) := by
 have hsnap : snap H [v] = some ([v], false) := by cases hv <;> rfl
 have hlen1 := fun K : Heap => hv.len (P := Tryz.prog) (H := K) Tryz.underlying42
 refine pure_slim rfl (by kernel_rfl) Tryz.func20 s20 hp hsnap (by simp [Tryz.f20]) fun fr hlen h => ?_
 simp only [Has] at h
 obtain ⟨a0, -⟩ := h
 simp only [Tryz.f20] at hlen ⊢
 unfold g20
 by_cases h32 : 32 < l.length
 ·have d1 : decide ((32 : Int) < (l.length : Nat)) = true := decide_eq_true (by omega)
  have e7 : ofE l = 7 := by unfold ofE; rw [if_pos h32]
  rw [e7, if_neg (by decide)]
  simp only [w9, simprocAttr, u54, hlen, a0, hlen1, d1]
  exact Fin_pure (l := [.nil, .int .i64 7]) (by simp [w9, hlen]) (ff2 rfl rfl) (by simp)
 have d1 : decide ((32 : Int) < (l.length : Nat)) = false := decide_eq_false (by omega)
 have eF : ofE l = firstE l := by unfold ofE; rw [if_neg h32]
 rw [eF]
 simp only [w9, simprocAttr, u54, hlen, a0, hlen1, d1]
 refine loop_rule (fun m fr H' => ∃ (i : Nat) (o : AV), m = l.length - i ∧ i ≤ l.length ∧ fr.length = 40 ∧ fget fr 4 = .ptr H.length 0 0 ∧ fget fr 14 = v ∧ fget fr 15 = .int .i64 (l.length : Nat) ∧ fget fr 16 = .int .i64 i ∧ H.length + 1 ≤ H'.length ∧ hget H' H.length 0 = some [o] ∧ Row encW 4 true H.length H' o (l.take i) ∧ (∀ s, o = .bs s → s.b ≠ H.length) ∧ (o = .nilS ∨ l.take i ≠ []) ∧ firstE l = firstE (l.drop i)) ?_ l.length _ _
  ⟨0, .nilS, by
   have g0 : hget (H ++ [Blk.cells 0 [.nilS]]) H.length 0 = some [.nilS] := by rw [hget_new rfl, if_pos rfl]
   simp [w9, hlen, Row.nil, g0]⟩
 rintro m fr H' ⟨i, o, rfl, hi, hlen, a4, a14, a15, a16, hH, hg, hrow, hno, hne, hfe⟩ ih
 by_cases hlt : i < l.length
 ·have d3 : decide ((i : Int) < (l.length : Nat)) = true := decide_eq_true (by omega)
  have hww : IntKind.i64.wrap ((i : Int) + 1) = ((i + 1 : Nat) : Int) := by rw [wrap64 (by omega) (by omega)]; simp
  have e1 := hv.at (k := .i64) Tryz.underlying42 sz54 (fun _ => rfl) hlt
  have htk : l.take (i + 1) = l.take i ++ [l[i]] := by simp
  have hd : l.drop i = l[i] :: l.drop (i + 1) := List.drop_eq_getElem_cons hlt
  have hsx := hs l[i] (List.getElem_mem hlt)
  rw [hd, firstE] at hfe
  generalize l[i] = x at *
  have s0 : Go.Abs.hput H.length (H' ++ [Blk.cells 0 [.str [], .int .i64 0, .str []]]) H'.length 0 0 [.str x.name, .int .i64 x.kind, .str x.val] = some (H' ++ [Blk.cells 0 [.str x.name, .int .i64 x.kind, .str x.val]]) := by
   rw [hput_new rfl (by omega) (by simp) rfl]; rfl
  have gx : hget (H' ++ [Blk.cells 0 [.str x.name, .int .i64 x.kind, .str x.val]]) H'.length 0 = some [.str x.name, .int .i64 x.kind, .str x.val] := by rw [hget_new rfl, if_pos rfl]
  have hpl : H.length ≤ H'.length := by omega
  have hgn := made_gen x hsx.1 hsx.2
  rcases hgn with ⟨he, hm⟩ | ⟨he, hm⟩
  ·rw [if_neg he] at hfe
   rw [hfe, if_neg he]
   have z0 : decide (¬ madeE x = 0) = true := decide_eq_true he
   have hm2 := fun A : Blk => hm H.length (H' ++ [A]) (by simp; omega)
   have s1 : ∀ A : Blk, Go.Abs.hput H.length (H' ++ [A] ++ [Blk.cells 0 [.str [], .int .i64 0, .str [], .nil]]) (H' ++ [A]).length 0 0 [.str [], .int .i64 0, .str [], .nil] = some (H' ++ [A] ++ [Blk.cells 0 [.str [], .int .i64 0, .str [], .nil]]) := fun A => by
    rw [hput_new rfl (by simp; omega) (by simp) (by simp [AV.leaf])]; rfl
   simp only [encMt, AV.cells] at e1
   simp only [w9, simprocAttr, u54, hlen, a14, a15, a16, d3, e1, s0, gx, hm2, s1, z0]
   exact Fin_pure (l := [.nil, .int .i64 (madeE x)]) (by simp [w9, hlen]) (ff2 rfl rfl) (by simp)
  ·rw [if_pos he] at hfe
   have hm2 := fun A : Blk => hm H.length (H' ++ [A]) (by simp; omega)
   obtain ⟨hml, hms⟩ := machV_leaf x
   have hlf4 : [AV.str x.name, .int .i64 x.kind, .str x.val, machV x].all AV.leaf = true := by simp [hml, show ∀ s, AV.leaf (.str s) = true from fun _ => rfl, show ∀ k n, AV.leaf (.int k n) = true from fun _ _ => rfl]
   have s1 : ∀ A : Blk, Go.Abs.hput H.length (H' ++ [A] ++ [Blk.cells 0 [.str [], .int .i64 0, .str [], .nil]]) (H' ++ [A]).length 0 0 [.str x.name, .int .i64 x.kind, .str x.val, machV x] = some (H' ++ [A] ++ [Blk.cells 0 [.str x.name, .int .i64 x.kind, .str x.val, machV x]]) := fun A => by
    rw [hput_new rfl (by simp; omega) (by simp) hlf4]; rfl
   have g2 : ∀ A B : Blk, hget (H' ++ [A] ++ [B]) H.length 0 = some [o] := fun A B => hget_mono (hget_mono hg _) _
   have g22 : ∀ (A : Blk) Y, hget (H' ++ [A] ++ [Blk.cells 0 Y]) (H' ++ [A]).length 0 = some Y := fun A Y => by rw [hget_new rfl, if_pos rfl]
   have g3 : ∀ A B C : Blk, hget (H' ++ [A] ++ [B] ++ [C]) H.length 0 = some [o] := fun A B C => hget_mono (g2 A B) _
   have lit1 := fun K => lit1W (.str x.name) (.int .i64 x.kind) (.str x.val) (machV x) rfl rfl rfl hml K
   let A0 := Blk.cells 0 [.str x.name, .int .i64 x.kind, .str x.val]
   let B0 := Blk.cells 0 [.str x.name, .int .i64 x.kind, .str x.val, machV x]
   let K3 : Heap := H' ++ [A0] ++ [B0] ++ [B0]
   have hrow3 : Row encW 4 true H.length K3 o (l.take i) := ((hrow.more [A0]).more [B0]).more [B0]
   have hex : elemCells K3 4 (.bs ⟨(H' ++ [A0] ++ [B0]).length, 0, 0, 1, 1, 4, true, true⟩) = some (([x] : List Mt).length, cellsOf encW [x]) := by
    have hgx : hget K3 (H' ++ [A0] ++ [B0]).length 0 = some [.str x.name, .int .i64 x.kind, .str x.val, machV x] := by simp only [K3, B0]; rw [hget_new rfl, if_pos rfl]
    have hw : win [AV.str x.name, .int .i64 x.kind, .str x.val, machV x] 0 4 = some [AV.str x.name, .int .i64 x.kind, .str x.val, machV x] := rfl
    simp only [elemCells, hgx, hw, Option.bind_some, cellsOf, encW, AV.cells]
    rfl
   obtain ⟨o', H2, happ, hrow4, hle, hno', hold, hblk⟩ := hrow3.appB (prot := H.length) (xt := 95) encW_T rowW (.inl ⟨_, Tryz.underlying95⟩) hex (by simp) (by simp [roomy]; omega) (Nat.le_refl _) (by simp only [K3, List.length_append]; omega)
   have hgo : hget H2 H.length 0 = some [o] := hold _ _ _ (g3 A0 B0 B0) hno
   have hlo' : AV.leaf o' = true := by
    rcases hrow4 with ⟨h1, _⟩ | ⟨b, ver, h1, _⟩
    ·exact absurd h1 hno'
    ·rw [h1]; rfl
   have s6 : Go.Abs.hput H.length H2 H.length 0 0 [o'] = some (H2.set H.length (.cells 0 [o'])) := by
    rw [hput_eq hgo (Nat.le_refl _) (by simp) (by simp [hlo'])]; rfl
   have hoc : AV.cells o' = [o'] := by
    rcases hrow4 with ⟨h1, _⟩ | ⟨b, ver, h1, _⟩
    ·exact absurd h1 hno'
    ·rw [h1]; rfl
   have hle2 : H'.length + 3 ≤ H2.length := by simpa [K3] using hle
   have hblk' : ∀ s, o' = .bs s → s.b ≠ H.length := fun s hs => by
    rcases hblk s hs with ⟨s0, h1, h2⟩ | h2
    ·rw [h2]; exact hno s0 h1
    ·rw [h2]; simp only [K3, List.length_append]; omega
   simp only [K3, A0, B0] at happ
   simp only [encMt, AV.cells] at e1
   have hml2 := hml
   unfold AV.leaf at hml hlo'
   unfold AV.cells at hoc
   have hmc : AV.cells (machV x) = [machV x] := by
    have := hml2
    cases h : machV x <;> first | rfl | (rw [h] at this; cases this)
   unfold AV.cells at hmc
   simp only [w9, simprocAttr, u54, hlen, a4, a14, a15, a16, d3, e1, s0, gx, hm2, s1, g2, g22, lit1, happ, s6, hoc]
   refine ⟨Bool.or_eq_true_iff.2 (.inl ?_), ?_⟩
   ·rw [show befs [] _ = [0, 0, 2, 6, 14, 0, 32, 126, 255, 511, 1023] from by kernel_rfl]
    simp [w9, u54, hlen, drawOk, chained, mayAt, sameAt, bound, List.range_succ, Nat.testBit, a4, -List.append_assoc, g2, g3, lit1, avbeq_refl]
   ·refine ih _ _ (l.length - (i + 1)) (by omega) ⟨i + 1, o', rfl, by omega, by simp [w9, hlen], by simp [w9, a4], by simp [w9, a14], by simp [w9, a15], ?_, ?_, ?_, ?_, hblk', ?_, hfe⟩
    ·simp [w9, hlen]; exact hww
    ·simp; omega
    ·exact hget_set_at (hget_lt hgo)
    ·rw [htk]
     rcases hrow4 with ⟨h1, h2⟩ | ⟨b, ver, h1, h2, h3, h4⟩
     ·exact absurd h1 hno'
     ·exact .inr ⟨b, ver, h1, h2, by rw [hget_set_ne (fun h => hblk' _ h1 h)]; exact h3, h4⟩
    ·rw [htk]; simp
 ·have hil : i = l.length := by omega
  have d3 : decide ((i : Int) < (l.length : Nat)) = false := decide_eq_false (by omega)
  rw [List.drop_of_length_le (by omega)] at hfe
  have hf0 : firstE l = 0 := hfe
  rw [List.take_of_length_le (by omega)] at hrow hne
  have hf := hrow.frozen encW_T (by decide) rfl hne
  rw [hf0, if_pos rfl]
  simp only [w9, simprocAttr, hlen, a4, a15, a16, d3]
  exact Fin_pure (l := [.ptr H.length 0 0, .int .i64 0]) (by simp [w9, hlen]) (.tup (.cons (.ptr (Nat.le_refl _) hg (.cons hf .nil)) (.cons (.still rfl) .nil))) (by simp)
set_option maxRecDepth 100000
open Go Go.Abs AbsSeat Ty
def u23 := an (show tagT Tryz.prog 54 = 0 from by kernel_rfl) (an ag1 (an sz1 (an by1 (an ze1 (an Tryz.underlying1 (an ag3 (an sz3 (an by3 (an ze3 (an Tryz.underlying3 (an ag9 (an sz9 (an by9 (an ze9 (an Tryz.underlying9 (an ag42 (an sz42 (an by42 (an se42 (an ze42 (an Tryz.underlying42 (an ag54 (an sz54 (an by54 (an ze54 (an bu54 Tryz.underlying54))))))))))))))))))))))))))
def g23 : Code := .seq (mG 0 #[q 2 (.assign (.const (.pointer none))) 45, q 3 (.assign (ik 0)) 28]) (.seq (mG 1 #[mA 13 0 9, q 14 (cl 55 #[.tmp 13] #[9]) 9, mB 0 14 9]) (.seq (.region 2 #[mA 16 0 9, q 17 (cl 37 #[.tmp 16, .const (.string { data := #[123] })] #[9, 9]) 67, mA 15 17 67, mE 18 15 0 9, mE 19 15 1 4, mB 4 18 9, mB 5 19 4] false) (.seq (.region 3 #[mA 21 4 9, q 22 (cl 38 #[.tmp 21, .const (.string { data := #[125] })] #[9, 9]) 67, mA 20 22 67, mE 23 20 0 9, mE 24 20 1 4, mB 4 23 9, mB 6 24 4] false) (.seq (.seq (mG 4 #[mA 25 5 4, q 26 (.unOp .not 4 (.tmp 25)) 4, mA 27 26 4, qg 28 (.move (.tmp 6)) 4 2 false, qg 29 (.unOp .not 4 (.tmp 28)) 4 2 false, q 30 (.pick (.tmp 27) (mI true) (.tmp 29)) 4]) (.cond (.tmp 30) (.seq (mG 5 #[q 2 (.assign (.const (.pointer none))) 45, q 3 (.assign (ik 3)) 28]) .ret) .skip)) (.seq (mG 6 #[q 7 (.assign (.const (.slice none 0 0))) 42]) (.seq (.seq (mG 7 #[mA 31 4 9, q 32 (cl 56 #[.tmp 31] #[9]) 9, mB 4 32 9]) (.block 0 (.loop (.seq (.seq (mG 8 #[mA 33 4 9, mF 34 .neq 9 33 mH 9 4]) (.cond (.tmp 34) .skip (.exit 0))) (.seq (.block 1 (.seq (mG 10 #[mA 38 4 9, q 39 (cl 57 #[.tmp 38] #[9]) 104, mA 37 39 104, mE 40 37 0 54, mE 41 37 1 9, mE 42 37 2 4, q 8 (.alloc 54) 0, mD 54 8 40, mB 9 41 9, mB 10 42 4]) (.seq (.seq (mG 11 #[mA 43 10 4, q 44 (.unOp .not 4 (.tmp 43)) 4]) (.cond (.tmp 44) (.seq (mG 12 #[q 2 (.assign (.const (.pointer none))) 45, q 3 (.assign (ik 3)) 28]) .ret) .skip)) (.seq (mG 13 #[mA 45 7 42, mC 46 8 54, q 47 (.buildSlice 42 1 #[(0, .tmp 46)]) 42, q 48 (bi .append #[.tmp 45, .tmp 47] #[42, 42]) 42, mB 7 48 42]) (.seq (.region 14 #[mA 50 9 9, q 51 (cl 37 #[.tmp 50, .const (.string { data := #[44] })] #[9, 9]) 67, mA 49 51 67, mE 52 49 0 9, mE 53 49 1 4, mB 11 52 9, mB 12 53 4] false) (.seq (.seq (mG 15 #[mA 54 12 4, q 55 (.unOp .not 4 (.tmp 54)) 4, mA 56 55 4, qg 57 (.move (.tmp 9)) 9 2 true, qg 58 (.binOp .neq 9 (.tmp 57) mH 9) 4 2 true, q 59 (.pick (.tmp 56) (.tmp 58) (mI false)) 4]) (.cond (.tmp 59) (.seq (mG 16 #[q 2 (.assign (.const (.pointer none))) 45, q 3 (.assign (ik 3)) 28]) .ret) .skip)) (mG 17 #[mA 60 11 9, mB 4 60 9]))))))) (mG 9 #[mA 35 4 9, q 36 (cl 56 #[.tmp 35] #[9]) 9, mB 4 36 9])))))) (.seq (mG 18 #[mA 61 7 42, q 62 (cl 20 #[.tmp 61] #[42]) 46, mE 63 62 0 45, mE 64 62 1 28, mB 2 63 45, mB 3 64 28]) .ret)))))))
def s23 := sL Tryz.f23 g23 (by kernel_rfl)
def g38 : Code := .seq (mG 0 #[q 4 (.assign mH) 9, q 5 (.assign (mI false)) 4]) (.seq (mG 1 #[mA 6 0 9, mA 7 1 9, q 8 (cl 70 #[.tmp 6, .tmp 7] #[9, 9]) 67, mE 9 8 0 9, mE 10 8 1 4, mB 4 9 9, mB 5 10 4]) .ret)
def s38 := sL Tryz.f38 g38 (by kernel_rfl)
def g70 : Code := .seq (mG 0 #[q 4 (.assign mH) 9, q 5 (.assign (mI false)) 4]) (.seq (.seq (mG 1 #[mA 6 0 9, mA 7 1 9, q 8 (cl 106 #[.tmp 6, .tmp 7] #[9, 9]) 4, q 9 (.unOp .not 4 (.tmp 8)) 4]) (.cond (.tmp 9) (.seq (mG 2 #[mA 10 0 9, mB 4 10 9, q 5 (.assign (mI false)) 4]) .ret) .skip)) (.seq (mG 3 #[mA 11 0 9, mA 12 0 9, q 13 (bi .len #[.tmp 12] #[9]) 3, mA 14 1 9, q 15 (bi .len #[.tmp 14] #[9]) 3, mF 16 .sub 3 13 (.tmp 15) 3 3, q 17 (.slice 9 (.tmp 11) none (some (.tmp 16)) none) 9, mB 4 17 9, q 5 (.assign (mI true)) 4]) .ret))
def s70 := sL Tryz.f70 g70 (by kernel_rfl)
def g106 : Code := .seq (mG 0 #[q 4 (.assign (mI false)) 4]) (.seq (mG 1 #[mA 5 0 9, q 6 (bi .len #[.tmp 5] #[9]) 3, mA 7 1 9, q 8 (bi .len #[.tmp 7] #[9]) 3, mF 9 .geq 3 6 (.tmp 8) 3 4, mA 10 9 4, qg 11 (.move (.tmp 0)) 9 5 true, qg 12 (.move (.tmp 0)) 9 5 true, qg 13 (bi .len #[.tmp 12] #[9]) 3 5 true, qg 14 (.move (.tmp 1)) 9 5 true, qg 15 (bi .len #[.tmp 14] #[9]) 3 5 true, qg 16 (.binOp .sub 3 (.tmp 13) (.tmp 15) 3) 3 5 true, qg 17 (.slice 9 (.tmp 11) (some (.tmp 16)) none none) 9 5 true, qg 18 (.move (.tmp 1)) 9 5 true, qg 19 (.binOp .eql 9 (.tmp 17) (.tmp 18) 9) 4 5 true, q 20 (.pick (.tmp 10) (.tmp 19) (mI false)) 4, mB 4 20 4]) .ret)
def s106 := sL Tryz.f106 g106 (by kernel_rfl)
theorem leadS_out {s : List UInt8} {m : Mt} {r : List UInt8} (h : leadS s = some (m, r)) : m.name.length ≤ s.length ∧ m.val.length ≤ s.length := by
 unfold leadS at h
 have h1 := trimL_len s
 have h2 := trimL_len ((trimL s).drop (runS goC (trimL s)))
 have h3 := kindS_len (trimL ((trimL s).drop (runS goC (trimL s))))
 simp only [List.length_drop] at h2
 generalize trimL ((trimL s).drop (runS goC (trimL s))) = s2 at *
 generalize kindS s2 = q at *
 split at h
 ·cases h
 ·split at h
  ·cases h
  ·rename_i x hx
   have h5 := (qtS_out hx).1
   split at h
   ·injection h with h
    injection h with h _
    subst h
    simp only [List.length_take]
    omega
   ·cases h
theorem hasSufG_ok (s p : List UInt8) (hl : s.length ≤ 9223372036854775807) (prot : Nat) (H : Heap) (hp : prot ≤ H.length) : aLim cfg prot 106 [.str s, .str p] H = some (.bool (hasSuf s p), none) := by
 unfold hasSuf
 refine pure_slim rfl (by kernel_rfl) Tryz.func106 s106 hp rfl (by simp [Tryz.f106]) fun fr hlen h => ?_
 simp only [Has, Nat.zero_add] at h
 obtain ⟨a0, a1, -⟩ := h
 simp only [Tryz.f106] at hlen ⊢
 unfold g106
 by_cases h : p.length ≤ s.length
 ·have d1 : decide ((s.length : Int) ≥ (p.length : Int)) = true := decide_eq_true (by omega)
  have d2 : decide (p.length ≤ s.length) = true := decide_eq_true h
  have w1 : IntKind.i64.wrap ((s.length : Int) - (p.length : Int)) = ((s.length - p.length : Nat) : Int) := by rw [wrap64 (by omega) (by omega)]; omega
  have e1 := str_from (k := .i64) Tryz.underlying9 s (a := s.length - p.length) (by omega)
  rw [d2, Bool.true_and]
  generalize s.drop (s.length - p.length) = z at *
  simp only [w9, simprocAttr, hlen, a0, a1, slen, d1, w1, e1, str_eql]
  exact Fin_pure (l := [.bool (z == p)]) (by simp [w9, hlen]) (.still rfl) (by simp)
 ·have d1 : decide ((s.length : Int) ≥ (p.length : Int)) = false := decide_eq_false (by omega)
  have d2 : decide (p.length ≤ s.length) = false := decide_eq_false h
  rw [d2, Bool.false_and]
  simp only [w9, simprocAttr, hlen, a0, a1, slen, d1]
  exact Fin_pure (l := [.bool false]) (by simp [w9, hlen]) (.still rfl) (by simp)
theorem cutSufLG_ok (s p : List UInt8) (hl : s.length ≤ 9223372036854775807) (prot : Nat) (H : Heap) (hp : prot ≤ H.length) :
  aLim cfg prot 70 [.str s, .str p] H = some (if hasSuf s p then .tup [.str (s.take (s.length - p.length)), .bool true] else .tup [.str s, .bool false], none) := by
 have n1 := hasSufG_ok s p hl H.length H (Nat.le_refl _)
 cases h : hasSuf s p with
 | true =>
  rw [h] at n1
  have hlp : p.length ≤ s.length := by
   simp only [hasSuf, Bool.and_eq_true, decide_eq_true_eq] at h; exact h.1
  have w1 : IntKind.i64.wrap ((s.length : Int) - (p.length : Int)) = ((s.length - p.length : Nat) : Int) := by rw [wrap64 (by omega) (by omega)]; omega
  have e1 := str_upto (k := .i64) Tryz.underlying9 s (b := s.length - p.length) (by omega)
  simp only [if_true]
  refine pure_slim rfl (by kernel_rfl) Tryz.func70 s70 hp rfl (by simp [Tryz.f70]) fun fr hlen h => ?_
  simp only [Has, Nat.zero_add] at h
  obtain ⟨a0, a1, -⟩ := h
  simp only [Tryz.f70] at hlen ⊢
  unfold g70
  simp only [w9, simprocAttr, hlen, a0, a1, n1, slen, w1, e1]
  exact Fin_pure (l := [.str (s.take (s.length - p.length)), .bool true]) (by simp [w9, hlen]) (ff2 rfl rfl) (by simp)
 | false =>
  rw [h] at n1
  simp only [Bool.false_eq_true, if_false]
  refine pure_slim rfl (by kernel_rfl) Tryz.func70 s70 hp rfl (by simp [Tryz.f70]) fun fr hlen h => ?_
  simp only [Has, Nat.zero_add] at h
  obtain ⟨a0, a1, -⟩ := h
  simp only [Tryz.f70] at hlen ⊢
  unfold g70
  simp only [w9, simprocAttr, hlen, a0, a1, n1]
  exact Fin_pure (l := [.str s, .bool false]) (by simp [w9, hlen]) (ff2 rfl rfl) (by simp)
theorem cutSufG_ok (s p : List UInt8) (hl : s.length ≤ 9223372036854775807) (prot : Nat) (H : Heap) (hp : prot ≤ H.length) :
  aLim cfg prot 38 [.str s, .str p] H = some (if hasSuf s p then .tup [.str (s.take (s.length - p.length)), .bool true] else .tup [.str s, .bool false], none) := by
 have n1 := cutSufLG_ok s p hl H.length H (Nat.le_refl _)
 cases h : hasSuf s p with
 | true =>
  rw [h] at n1
  simp only [if_true] at n1 ⊢
  generalize s.take (s.length - p.length) = z at *
  refine pure_slim rfl (by kernel_rfl) Tryz.func38 s38 hp rfl (by simp [Tryz.f38]) fun fr hlen h => ?_
  simp only [Has, Nat.zero_add] at h
  obtain ⟨a0, a1, -⟩ := h
  simp only [Tryz.f38] at hlen ⊢
  unfold g38
  simp only [w9, simprocAttr, hlen, a0, a1, n1]
  exact Fin_pure (l := [.str z, .bool true]) (by simp [w9, hlen]) (ff2 rfl rfl) (by simp)
 | false =>
  rw [h] at n1
  simp only [Bool.false_eq_true, if_false] at n1 ⊢
  refine pure_slim rfl (by kernel_rfl) Tryz.func38 s38 hp rfl (by simp [Tryz.f38]) fun fr hlen h => ?_
  simp only [Has, Nat.zero_add] at h
  obtain ⟨a0, a1, -⟩ := h
  simp only [Tryz.f38] at hlen ⊢
  unfold g38
  simp only [w9, simprocAttr, hlen, a0, a1, n1]
  exact Fin_pure (l := [.str s, .bool false]) (by simp [w9, hlen]) (ff2 rfl rfl) (by simp)
theorem encMt_T : EncT encMt 3 true where
 len _ := rfl
 leaf x c hc := by
  simp only [encMt, AV.cells, List.mem_cons, List.not_mem_nil, or_false] at hc
  rcases hc with rfl | rfl | rfl <;> rfl
 still x c hc := by
  simp only [encMt, AV.cells, List.mem_cons, List.not_mem_nil, or_false] at hc
  rcases hc with rfl | rfl | rfl <;> rfl
 shape _ := rfl
theorem rowMt : RowT Tryz.prog 42 54 3 40 true where
 un := Tryz.underlying42
 size := sz54
 bytes := by54
 agg := ag54
 zero := ⟨_, ze54, rfl⟩
 pos := by decide
 tree := rfl
theorem litMt (x : Mt) (K : Heap) : aBuildSlice Tryz.prog K 42 1 [(0, .agg [.str x.name, .int .i64 x.kind, .str x.val])] = some (.vs ([x].map encMt) true, none) := lit1 rowMt encMt_T ze54 rfl (by decide) x rfl
theorem rowTreeMt {v : AV} {l : List Mt} {base : Nat} {H : Heap} (h : Row encMt 3 true base H v l) (hne : v ≠ .nilS) : ∃ b ver, v = .bs ⟨b, ver, 0, l.length, 0, 3, true, false⟩ ∧ base ≤ b ∧ b < H.length ∧ snap H [v] = some ([.vs (l.map encMt) false], true) := by
 rcases h with ⟨h, _⟩ | ⟨b, ver, rfl, h2, h3, h4⟩
 ·exact absurd h hne
 ·have hw : win (cellsOf encMt l) 0 (l.length * 3) = some (cellsOf encMt l) := by
   have := cellsOf_length encMt_T l
   simp only [win, Nat.zero_add, List.drop_zero]
   rw [if_pos (by omega), List.take_of_length_le (by omega)]
  have hpl : AV.plL (cellsOf encMt l) = true := by
   clear h3 hw hne
   induction l with
   | nil => rfl
   | cons x r ih =>
    rw [show cellsOf encMt (x :: r) = (encMt x).cells ++ cellsOf encMt r from by simp [cellsOf]]
    exact plL_append rfl ih
  refine ⟨b, ver, rfl, h2, hget_lt h3, ?_⟩
  have hc := chunk_cellsOf encMt_T (by decide) l
  simp [snap, h3, hw, hpl, hc]
def mofV (l : List Mt) : AV := .tup [if ofE l = 0 then listV l else .nil, .int .i64 (ofE l)]
theorem mof_live (l : List Mt) (o : AV) (prot base : Nat) (H : Heap) (ho : Row encMt 3 true base H o l) (hb : prot ≤ base) (hl : l.length < 1000000000) (hs : ∀ m ∈ l, m.name.length ≤ 9223372036854775807 ∧ m.val.length ≤ 1000) (hp : prot ≤ H.length) :
  ∃ h, aLim cfg prot 20 [o] H = some (mofV l, h) := by
 by_cases hne : o = .nilS
 ·subst hne
  have hl0 : l = [] := by
   rcases ho with ⟨_, h⟩ | ⟨b, ver, h, _⟩
   ·exact h
   ·cases h
  exact ⟨none, mof_ok l .nilS (by rw [hl0]; exact .nil) hl hs prot H hp⟩
 ·obtain ⟨b, ver, rfl, hbb, hbl, hsn⟩ := rowTreeMt ho hne
  have g2 := fun (K : Heap) (hK : prot ≤ K.length) => mof_ok l (.vs (l.map encMt) false) (.vs _ _) hl hs prot K hK
  have hfn : cfg.P.funcs[20]? = some Tryz.f20 := Tryz.func20
  have hpu : cfg.pure 20 = true := by kernel_rfl
  have hea : cfg.eats 20 = true := by kernel_rfl
  have hbo : Tryz.f20.body.isSome = true := by kernel_rfl
  unfold mofV
  by_cases h0 : ofE l = 0
  ·rw [if_pos h0] at g2 ⊢
   have hk : killA prot H [.bs ⟨b, ver, 0, l.length, 0, 3, true, false⟩] = some (H.set b .dead) := by simp [killA, Nat.le_trans hb hbb]
   exact ⟨_, lim_eat hpu hea hfn hbo hsn hk rfl rfl (by simp) (g2 H hp) (g2 _ (by simpa using hp)) rfl⟩
  ·rw [if_neg h0] at g2 ⊢
   exact ⟨none, lim_snap hpu hfn hbo hsn rfl (g2 H hp) rfl⟩
set_option maxRecDepth 100000
open Go Go.Abs AbsSeat Ty
def parseV (s : List UInt8) : AV := match parseM s with
 | none => .tup [.nil, .int .i64 3]
 | some l => mofV l
theorem partsS_end {u : List UInt8} (h : trimL u = []) : partsS u = some [] := by rw [partsS, if_pos h]
theorem partsS_bad {u : List UInt8} (h : trimL u ≠ []) (hq : leadS (trimL u) = none) : partsS u = none := by
 rw [partsS, if_neg h]
 split
 ·rfl
 ·rename_i e; rw [hq] at e; cases e
theorem partsS_one {u r : List UInt8} {m : Mt} (h : trimL u ≠ []) (hq : leadS (trimL u) = some (m, r)) : partsS u = if hasPre r [44] then (partsS (r.drop 1)).map (m :: ·) else if r = [] then some [m] else none := by
 rw [partsS, if_neg h]
 split
 ·rename_i e; rw [hq] at e; cases e
 ·rename_i x e; rw [hq] at e; cases e; rfl
theorem mparse_ok (s : List UInt8) (hl : s.length ≤ 1000000) (hV : ∀ l, parseM s = some l → ∀ m ∈ l, m.val.length ≤ 1000) (prot : Nat) (H : Heap) (hg0 : hget H 0 (gver 1) = some [ET]) (hp : prot ≤ H.length) : aLim cfg prot 23 [.str s] H = some (parseV s, none) := by
 have hH0 := hget_lt hg0
 have n1 := ctrim_ok s (by omega) H.length H (Nat.le_refl _)
 have htl : (trimL (trimR s)).length ≤ 1000000 := by
  have h1 := trimL_len (trimR s)
  have h2 : (trimR s).length ≤ s.length := by unfold trimR; rw [List.length_take]; omega
  omega
 unfold parseV parseM
 unfold parseM at hV
 generalize trimL (trimR s) = t at *
 have n2 := cutPre_ok t [123] H.length H (Nat.le_refl _)
 have n3 := fun u (hu : u.length ≤ 9223372036854775807) => cutSufG_ok u [125] hu H.length H (Nat.le_refl _)
 cases ha : hasPre t [123] with
 | false =>
  rw [ha] at n2
  have n3 := n3 t (by omega)
  simp only [Bool.false_eq_true, if_false, Bool.false_and] at n2 ⊢
  cases hb : hasSuf t [125] with
  | true =>
   rw [hb] at n3
   simp only [if_true] at n3
   refine pure_slim rfl (by kernel_rfl) Tryz.func23 s23 hp rfl (by simp [Tryz.f23]) fun fr hlen h => ?_
   simp only [Has] at h
   obtain ⟨a0, -⟩ := h
   simp only [Tryz.f23] at hlen ⊢
   unfold g23
   simp only [w9, simprocAttr, hlen, a0, n1, n2, n3]
   exact Fin_pure (l := [.nil, .int .i64 3]) (by simp [w9, hlen]) (ff2 rfl rfl) (by simp)
  | false =>
   rw [hb] at n3
   simp only [Bool.false_eq_true, if_false] at n3
   refine pure_slim rfl (by kernel_rfl) Tryz.func23 s23 hp rfl (by simp [Tryz.f23]) fun fr hlen h => ?_
   simp only [Has] at h
   obtain ⟨a0, -⟩ := h
   simp only [Tryz.f23] at hlen ⊢
   unfold g23
   simp only [w9, simprocAttr, hlen, a0, n1, n2, n3]
   exact Fin_pure (l := [.nil, .int .i64 3]) (by simp [w9, hlen]) (ff2 rfl rfl) (by simp)
 | true =>
  rw [ha] at n2 hV
  have n3 := n3 (t.drop 1) (by simp; omega)
  have hd1 : t.drop ([123] : List UInt8).length = t.drop 1 := rfl
  have ht1 : (t.drop 1).length ≤ 1000000 := by simp; omega
  simp only [if_true, Bool.true_and, hd1] at n2 hV ⊢
  generalize t.drop 1 = t1 at *
  cases hb : hasSuf t1 [125] with
  | false =>
   rw [hb] at n3
   simp only [Bool.false_eq_true, if_false] at n3 ⊢
   refine pure_slim rfl (by kernel_rfl) Tryz.func23 s23 hp rfl (by simp [Tryz.f23]) fun fr hlen h => ?_
   simp only [Has] at h
   obtain ⟨a0, -⟩ := h
   simp only [Tryz.f23] at hlen ⊢
   unfold g23
   simp only [w9, simprocAttr, hlen, a0, n1, n2, n3]
   exact Fin_pure (l := [.nil, .int .i64 3]) (by simp [w9, hlen]) (ff2 rfl rfl) (by simp)
  | true =>
   rw [hb] at n3 hV
   have hd2 : t1.take (t1.length - ([125] : List UInt8).length) = t1.take (t1.length - 1) := rfl
   have hwl : (t1.take (t1.length - 1)).length ≤ 1000000 := by rw [List.length_take]; omega
   simp only [if_true, hd2] at n3 hV ⊢
   generalize t1.take (t1.length - 1) = w at *
   have nb := fun (u : List UInt8) (hu : u.length ≤ 1000000) (K : Heap) (hK : H.length ≤ K.length) => blanks_ok u (by omega) H.length K hK
   have n4 := nb w hwl H (Nat.le_refl _)
   refine pure_slim rfl (by kernel_rfl) Tryz.func23 s23 hp rfl (by simp [Tryz.f23]) fun fr hlen h => ?_
   simp only [Has] at h
   obtain ⟨a0, -⟩ := h
   simp only [Tryz.f23] at hlen ⊢
   unfold g23
   simp only [w9, simprocAttr, hlen, a0, n1, n2, n3, n4]
   refine loop_rule (fun m fr H' => ∃ (u : List UInt8) (l0 : List Mt) (o : AV), m = u.length ∧ u.length + l0.length ≤ 1000000 ∧ fr.length = 65 ∧ fget fr 4 = .str (trimL u) ∧ fget fr 7 = o ∧ H.length ≤ H'.length ∧ hget H' 0 (gver 1) = some [ET] ∧ Row encMt 3 true H.length H' o l0
    ∧ (∀ x ∈ l0, x.name.length ≤ 9223372036854775807) ∧ partsS w = (partsS u).map (l0 ++ ·)) ?_ w.length _ _ ⟨w, [], .nilS, rfl, by simpa using hwl, by simp [w9, hlen], by simp [w9, hlen], by simp [w9, hlen], Nat.le_refl _, hg0, .nil, by simp, by cases partsS w <;> rfl⟩
   rintro m fr H' ⟨u, l0, o, rfl, hul, hlen, a4, a7, hH, hgl, hrow, hsz, hps⟩ ih
   have htu := trimL_len u
   by_cases hu : trimL u = []
   ·have e0 : aStr .neq [] [] = some (.bool false) := rfl
    rw [partsS_end hu] at hps
    have hps : partsS w = some l0 := by rw [hps]; simp
    rw [hps]
    rw [hu] at a4
    obtain ⟨h, n5⟩ := mof_live l0 o H.length H.length H' hrow (Nat.le_refl _) (by omega) (fun x hx => ⟨hsz x hx, hV l0 hps x hx⟩) hH
    unfold mofV at n5 ⊢
    have hX : still (if ofE l0 = 0 then listV l0 else .nil) = true := by split <;> rfl
    simp only
    generalize (if ofE l0 = 0 then listV l0 else .nil) = X at *
    cases h with
    | none =>
     simp only [w9, simprocAttr, hlen, a4, a7, e0, n5]
     exact Fin_pure (l := [X, .int .i64 (ofE l0)]) (by simp [w9, hlen]) (ff2 hX rfl) (by simp)
    | some K =>
     simp only [w9, simprocAttr, hlen, a4, a7, e0, n5]
     exact Fin_pure (l := [X, .int .i64 (ofE l0)]) (by simp [w9, hlen]) (ff2 hX rfl) (by simp)
   ·have e0 : aStr .neq (trimL u) [] = some (.bool true) := by
     cases h : trimL u with
     | nil => exact absurd h hu
     | cons c r => rfl
    have n6 := mlead_ok (trimL u) (by omega) H.length H' hgl hH
    unfold leadV at n6
    cases hq : leadS (trimL u) with
    | none =>
     rw [hq] at n6
     rw [partsS_bad hu hq] at hps
     have hps : partsS w = none := hps
     rw [hps]
     have hp9 : Go.Abs.hput H.length (H' ++ [Blk.cells 0 [.str [], .int .i64 0, .str []]]) H'.length 0 0 [.str [], .int .i64 0, .str []] = some (H' ++ [Blk.cells 0 [.str [], .int .i64 0, .str []]]) := by
      rw [hput_new rfl hH (by simp) rfl]; rfl
     simp only at n6 ⊢
     simp only [w9, simprocAttr, u23, hlen, a4, e0, n6, hp9]
     exact Fin_pure (l := [.nil, .int .i64 3]) (by simp [w9, hlen]) (ff2 rfl rfl) (by simp)
    | some y =>
     obtain ⟨x, r⟩ := y
     rw [hq] at n6
     rw [partsS_one hu hq] at hps
     have hrl := leadS_len hq
     obtain ⟨ho1, ho2⟩ := leadS_out hq
     have hp9 : Go.Abs.hput H.length (H' ++ [Blk.cells 0 [.str [], .int .i64 0, .str []]]) H'.length 0 0 [.str x.name, .int .i64 x.kind, .str x.val] = some (H' ++ [Blk.cells 0 [.str x.name, .int .i64 x.kind, .str x.val]]) := by
      rw [hput_new rfl hH (by simp) rfl]; rfl
     have g9 : hget (H' ++ [Blk.cells 0 [.str x.name, .int .i64 x.kind, .str x.val]]) H'.length 0 = some [.str x.name, .int .i64 x.kind, .str x.val] := by rw [hget_new rfl, if_pos rfl]
     have hrow2 := hrow.more [Blk.cells 0 [.str x.name, .int .i64 x.kind, .str x.val]]
     have hgl2 := hget_mono hgl [Blk.cells 0 [.str x.name, .int .i64 x.kind, .str x.val]]
     obtain ⟨o', H2, happ, hrow3, hle, hno, hold⟩ := hrow2.app (prot := H.length) (xt := 42) encMt_T rowMt (.inl ⟨_, Tryz.underlying42⟩) (elem_vs encMt_T [x] true) (by simp) (by simp [roomy]; omega) (Nat.le_refl _) (by simp; omega)
     have hgl3 := hold _ _ _ hgl2 fun s hs => by
      rcases hrow with ⟨q, _⟩ | ⟨b, ver, q, hb, _⟩
      ·rw [q] at hs; cases hs
      ·rw [q] at hs; cases hs; show b ≠ 0; omega
     simp only [List.length_append, List.length_cons, List.length_nil] at hle
     have hlit := litMt x
     have n7 := cutPre_ok r [44] H.length H2 (by omega)
     have hd3 : r.drop ([44] : List UInt8).length = r.drop 1 := rfl
     have hsz2 : ∀ z ∈ l0 ++ [x], z.name.length ≤ 9223372036854775807 := fun z hz => by
      rcases List.mem_append.1 hz with h | h
      ·exact hsz z h
      ·rw [List.mem_singleton.1 h]; omega
     simp only at n6
     cases hc : hasPre r [44] with
     | true =>
      rw [hc] at n7 hps
      simp only [if_true, hd3] at n7 hps
      have n8 := nb (r.drop 1) (by simp; omega) H2 (by omega)
      simp only [w9, simprocAttr, u23, hlen, a4, a7, e0, n6, hp9, g9, hlit, happ, n7, n8]
      refine ih _ _ (r.drop 1).length (by simp; omega) ⟨r.drop 1, l0 ++ [x], o', rfl, by simp; omega, by simp [w9, hlen], by simp [w9, hlen], by simp [w9, hlen], by omega, hgl3, hrow3, hsz2, ?_⟩
      rw [hps]
      cases partsS (r.drop 1) <;> simp
     | false =>
      rw [hc] at n7 hps
      simp only [Bool.false_eq_true, if_false] at n7 hps
      by_cases hr0 : r = []
      ·subst hr0
       have e3 : aStr .neq [] [] = some (.bool false) := rfl
       have n8 := nb [] (by simp) H2 (by omega)
       simp only [w9, simprocAttr, u23, hlen, a4, a7, e0, n6, hp9, g9, hlit, happ, n7, n8, e3]
       refine ih _ _ 0 (by omega) ⟨[], l0 ++ [x], o', rfl, by simp; omega, by simp [w9, hlen], by simp [w9, hlen], by simp [w9, hlen], by omega, hgl3, hrow3, hsz2, ?_⟩
       rw [hps, if_pos rfl, partsS_end (by rfl)]
       simp
      ·have e3 : aStr .neq r [] = some (.bool true) := by
        cases r with
        | nil => exact absurd rfl hr0
        | cons c r => rfl
       rw [if_neg hr0] at hps
       have hps : partsS w = none := hps
       rw [hps]
       simp only
       simp only [w9, simprocAttr, u23, hlen, a4, a7, e0, n6, hp9, g9, hlit, happ, n7, e3]
       exact Fin_pure (l := [.nil, .int .i64 3]) (by simp [w9, hlen]) (ff2 rfl rfl) (by simp)
set_option maxRecDepth 100000
open Go Go.Abs AbsSeat Ty
def u19 := an (show tagT Tryz.prog 94 = 0 from by kernel_rfl) (an ag1 (an sz1 (an by1 (an ze1 (an Tryz.underlying1 (an ag3 (an sz3 (an by3 (an ze3 (an Tryz.underlying3 (an ag9 (an sz9 (an by9 (an ze9 (an Tryz.underlying9 (an ag41 (an sz41 (an by41 (an se41 (an ze41 (an Tryz.underlying41 (an ag42 (an sz42 (an by42 (an se42 (an ze42 (an Tryz.underlying42 (an ag54 (an sz54 (an by54 (an ze54 (an bu54 (an Tryz.underlying54 (an ag94 (an sz94 (an by94 (an ze94 (an bu94 (an Tryz.underlying94 (an fa94_0 (an fd94_0 (an fa94_1 (an fd94_1 (an fa94_2 fd94_2))))))))))))))))))))))))))))))))))))))))))))
def g19 : Code := .seq (mG 0 #[q 2 (.assign (.const (.slice none 0 0))) 42, q 3 (.assign (.const (.slice none 0 0))) 41]) (.seq (mG 1 #[q 4 (.assign (.const (.slice none 0 0))) 42]) (.seq (mG 2 #[q 5 (.assign (.const (.slice none 0 0))) 41]) (.seq (.seq (mG 3 #[mA 8 0 41, q 9 (bi .len #[.tmp 8] #[41]) 3, q 10 (.move (ik 0)) 3]) (.block 0 (.loop (.seq (mG 4 #[mF 11 .lss 3 10 (.tmp 9) 3 0]) (.seq (.cond (.tmp 11) .skip (.exit 0)) (.seq (.block 1 (.seq (mG 5 #[mA 12 10 3, q 13 (.indexAddr 41 (.tmp 8) (.tmp 10)) 0, mC 14 13 94, q 7 (.alloc 94) 0, mB 6 12 3, mD 94 7 14]) (.seq (.seq (mG 6 #[mA 15 6 3, mF 16 .geq 3 15 (ik 40) 3 4]) (.cond (.tmp 16) (.exit 0) .skip)) (.seq (.seq (mG 7 #[q 17 (.fieldAddr 94 (.tmp 7) 2) 0, mC 18 17 9, q 19 (bi .len #[.tmp 18] #[9]) 3, mF 20 .gtr 3 19 (ik 30) 3 4]) (.cond (.tmp 20) (mG 8 #[q 21 (.fieldAddr 94 (.tmp 7) 2) 0, mC 22 21 9, q 23 (.slice 9 (.tmp 22) none (some (ik 30)) none) 9, q 24 (.fieldAddr 94 (.tmp 7) 2) 0, mD 9 24 23]) .skip)) (.seq (.seq (mG 9 #[q 25 (.fieldAddr 94 (.tmp 7) 0) 0, mC 26 25 9, q 27 (bi .len #[.tmp 26] #[9]) 3, mF 28 .gtr 3 27 (ik 20) 3 4]) (.cond (.tmp 28) (mG 10 #[q 29 (.fieldAddr 94 (.tmp 7) 0) 0, mC 30 29 9, q 31 (.slice 9 (.tmp 30) none (some (ik 20)) none) 9, q 32 (.fieldAddr 94 (.tmp 7) 0) 0, mD 9 32 31]) .skip)) (.seq (mG 11 #[mA 33 4 42, q 34 (.fieldAddr 94 (.tmp 7) 0) 0, mC 35 34 9, q 36 (.fieldAddr 94 (.tmp 7) 1) 0, mC 37 36 3, q 38 (.fieldAddr 94 (.tmp 7) 2) 0, mC 39 38 9, q 40 (.build 54 #[(0, .tmp 35), (1, .tmp 37), (2, .tmp 39)]) 54, q 41 (.buildSlice 42 1 #[(0, .tmp 40)]) 42, q 42 (bi .append #[.tmp 33, .tmp 41] #[42, 42]) 42, mB 4 42 42]) (mG 12 #[mA 43 5 41, mC 44 7 94, q 45 (.buildSlice 41 1 #[(0, .tmp 44)]) 41, q 46 (bi .append #[.tmp 43, .tmp 45] #[41, 41]) 41, mB 5 46 41]))))))) (mG 13 #[mF 47 .add 3 10 (ik 1) 3 3, mA 10 47 3]))))))) (.seq (mG 14 #[mA 48 4 42, mA 49 5 41, mB 2 48 42, mB 3 49 41]) .ret))))
def s19 := sL Tryz.f19 g19 (by kernel_rfl)
def g25 : Code := .seq (mG 0 #[q 4 (.assign (mI false)) 4]) (.seq (.seq (mG 1 #[mA 7 0 42, q 8 (bi .len #[.tmp 7] #[42]) 3, mA 9 1 41, q 10 (bi .len #[.tmp 9] #[41]) 3, mF 11 .neq 3 8 (.tmp 10) 3 4]) (.cond (.tmp 11) (.seq (mG 2 #[q 4 (.assign (mI false)) 4]) .ret) .skip)) (.seq (.seq (mG 3 #[mA 12 1 41, q 13 (bi .len #[.tmp 12] #[41]) 3, q 14 (.move (ik 0)) 3]) (.block 0 (.loop (.seq (mG 4 #[mF 15 .lss 3 14 (.tmp 13) 3 0]) (.seq (.cond (.tmp 15) .skip (.exit 0)) (.seq (.block 1 (.seq (mG 5 #[mA 16 14 3, q 17 (.indexAddr 41 (.tmp 12) (.tmp 14)) 0, mC 18 17 94, q 6 (.alloc 94) 0, mB 5 16 3, mD 94 6 18]) (.seq (mG 6 #[mA 19 0 42, mA 20 5 3, q 21 (.indexAddr 42 (.tmp 19) (.tmp 20)) 0, mC 22 21 54, q 23 (.fieldAddr 94 (.tmp 6) 0) 0, mC 24 23 9, q 25 (.fieldAddr 94 (.tmp 6) 1) 0, mC 26 25 3, q 27 (.fieldAddr 94 (.tmp 6) 2) 0, mC 28 27 9, q 29 (.build 54 #[(0, .tmp 24), (1, .tmp 26), (2, .tmp 28)]) 54, mF 30 .neq 54 22 (.tmp 29) 54 4]) (.cond (.tmp 30) (.seq (mG 7 #[q 4 (.assign (mI false)) 4]) .ret) .skip)))) (mG 8 #[mF 31 .add 3 14 (ik 1) 3 3, mA 14 31 3]))))))) (.seq (mG 9 #[q 4 (.assign (mI true)) 4]) .ret)))
def s25 := sL Tryz.f25 g25 (by kernel_rfl)
def cutMt (m : Mt) : Mt := ⟨m.name.take 20, m.kind, m.val.take 30⟩
def cutMs (l : List Mt) : List Mt := (l.take 40).map cutMt
theorem cutMs_len (l : List Mt) : (cutMs l).length ≤ 40 := by simp [cutMs]; omega
theorem cutMs_small (l : List Mt) : ∀ m ∈ cutMs l, m.name.length ≤ 20 ∧ m.val.length ≤ 30 := by
 intro m hm
 obtain ⟨y, _, rfl⟩ := List.mem_map.1 hm
 simp [cutMt]; omega
theorem rowRm : RowT Tryz.prog 41 94 3 40 true where
 un := Tryz.underlying41
 size := sz94
 bytes := by94
 agg := ag94
 zero := ⟨_, ze94, rfl⟩
 pos := by decide
 tree := rfl
theorem litRm (x : Mt) (K : Heap) : aBuildSlice Tryz.prog K 41 1 [(0, .agg [.str x.name, .int .i64 x.kind, .str x.val])] = some (.vs ([x].map encMt) true, none) := lit1 rowRm encMt_T ze94 rfl (by decide) x rfl
theorem mours_ok (l : List Mt) (w : AV) (hw : Sl encMt w l) (hl : l.length ≤ 9223372036854775807) (prot : Nat) (H : Heap) (hp : prot ≤ H.length) :
  aLim cfg prot 19 [w] H = some (.tup [slv encMt (cutMs l), slv encMt (cutMs l)], none) := by
 have hsnap : snap H [w] = some ([w], false) := by cases hw <;> rfl
 refine pure_slim rfl (by kernel_rfl) Tryz.func19 s19 hp hsnap (by simp [Tryz.f19]) fun fr hlen h => ?_
 simp only [Has] at h
 obtain ⟨a0, -⟩ := h
 simp only [Tryz.f19] at hlen ⊢
 unfold g19
 simp only [w9, simprocAttr, hlen, a0, hw.len Tryz.underlying41]
 refine loop_rule (fun m fr H' => ∃ (i : Nat) (o p : AV), m = l.length - i ∧ i ≤ l.length ∧ i ≤ 40 ∧ fr.length = 50 ∧ fget fr 8 = w ∧ fget fr 9 = .int .i64 l.length ∧ fget fr 10 = .int .i64 i ∧ fget fr 4 = o ∧ fget fr 5 = p
  ∧ H.length ≤ H'.length ∧ Row encMt 3 true H.length H' o (cutMs (l.take i)) ∧ Row encMt 3 true H.length H' p (cutMs (l.take i)) ∧ (i = 0 → o = .nilS ∧ p = .nilS) ∧ (∀ s1 s2, o = .bs s1 → p = .bs s2 → s1.b ≠ s2.b)) ?_ l.length _ _ ⟨0, .nilS, .nilS, by simp [w9, hlen, cutMs, Row.nil]⟩
 rintro m fr H' ⟨i, o, p, rfl, hi, hi6, hlen, a8, a9, a10, a4, a5, hH, hrow, hrowp, hnil, hapart⟩ ih
 simp only [w9, simprocAttr, hlen, a9, a10]
 have fin : ∀ (K : Heap), Row encMt 3 true H.length K o (cutMs (l.take i)) → Row encMt 3 true H.length K p (cutMs (l.take i)) → (l.length ≤ i ∨ 40 ≤ i) → Frz K H.length (packR [o, p]) (.tup [slv encMt (cutMs l), slv encMt (cutMs l)]) := fun K h1 h2 h3 => by
  have e : cutMs (l.take i) = cutMs l := by
   unfold cutMs
   congr 1
   rcases h3 with h3 | h3
   ·rw [List.take_of_length_le (l := l) h3]
   ·rw [List.take_take]
    congr 1
    omega
  have hne : ∀ q, (q = o ∨ q = p) → q = .nilS ∨ cutMs (l.take i) ≠ [] := fun q hq => by
   by_cases h0 : i = 0
   ·rcases hq with rfl | rfl
    ·exact .inl (hnil h0).1
    ·exact .inl (hnil h0).2
   ·refine .inr ?_
    intro h
    have h1 : (cutMs (l.take i)).length = 0 := by rw [h]; rfl
    have h2 : (cutMs (l.take i)).length = i := by simp [cutMs]; omega
    omega
  have f1 := h1.frozen encMt_T (by decide) rfl (hne o (.inl rfl))
  have f2 := h2.frozen encMt_T (by decide) rfl (hne p (.inr rfl))
  rw [e] at f1 f2
  exact .tup (.cons f1 (.cons f2 .nil))
 refine RC_split (fun h => ?_) (fun h => ?_)
 ·have hlt : i < l.length := by simpa using h
  have hww : IntKind.i64.wrap ((i : Int) + 1) = ((i + 1 : Nat) : Int) := by rw [wrap64 (by omega) (by omega)]; simp
  have e1 := hw.at (k := .i64) Tryz.underlying41 sz94 (fun _ => rfl) hlt
  have htk : l.take (i + 1) = l.take i ++ [l[i]] := by simp
  have hcl : (cutMs (l.take i)).length = i := by simp [cutMs]; omega
  have s0 : ∀ x : Mt, Go.Abs.hput H.length (H' ++ [Blk.cells 0 [.str [], .int .i64 0, .str []]]) H'.length 0 0 [.str x.name, .int .i64 x.kind, .str x.val] = some (H' ++ [Blk.cells 0 [.str x.name, .int .i64 x.kind, .str x.val]]) := fun x => by
   rw [hput_new rfl hH (by simp) rfl]; rfl
  have gx : ∀ Y, hget (H' ++ [Blk.cells 0 Y]) H'.length 0 = some Y := fun Y => by rw [hget_new rfl, if_pos rfl]
  by_cases h6 : (40 : Int) ≤ i
  ·generalize l[i] = x at *
   have s0 := s0 x
   simp only [w9, simprocAttr, u19, hlen, a8, a10, a4, a5, e1, encMt, s0, h6]
   have hm := fin (H' ++ [Blk.cells 0 (encMt x).cells]) (hrow.more _) (hrowp.more _) (.inr (by omega))
   simp only [encMt, AV.cells] at hm
   exact Fin_pure (l := [o, p]) (by simp [w9, hlen]) hm (by simp)
  ·have hcut : cutMs (l.take (i + 1)) = cutMs (l.take i) ++ [cutMt l[i]] := by
    have t1 : ∀ j, j ≤ 40 → (l.take j).take 40 = l.take j := fun j hj => by rw [List.take_take, Nat.min_eq_right hj]
    unfold cutMs
    rw [t1 (i + 1) (by omega), t1 i (by omega), htk, List.map_append]
    rfl
   generalize l[i] = x at *
   have s0 := s0 x
   have c1 : ∀ s : List UInt8, 20 < s.length → aSlice Tryz.prog 9 (.str s) none (some (.int .i64 20)) none = some (.str (s.take 20)) := fun s hs => str_cut Tryz.underlying9 s 20 (by omega)
   have c2 : ∀ s : List UInt8, 30 < s.length → aSlice Tryz.prog 9 (.str s) none (some (.int .i64 30)) none = some (.str (s.take 30)) := fun s hs => str_cut Tryz.underlying9 s 30 (by omega)
   have pV : ∀ (n v u : List UInt8) (k : Int), Go.Abs.hput H.length (H' ++ [Blk.cells 0 [.str n, .int .i64 k, .str v]]) H'.length 0 2 [.str u] = some (H' ++ [Blk.cells 0 [.str n, .int .i64 k, .str u]]) := fun n v u k => by
    rw [hput_new rfl hH (by simp) rfl]; rfl
   have pN : ∀ (n v u : List UInt8) (k : Int), Go.Abs.hput H.length (H' ++ [Blk.cells 0 [.str n, .int .i64 k, .str v]]) H'.length 0 0 [.str u] = some (H' ++ [Blk.cells 0 [.str u, .int .i64 k, .str v]]) := fun n v u k => by
    rw [hput_new rfl hH (by simp) rfl]; rfl
   have hrow2 := hrow.more [Blk.cells 0 (encMt (cutMt x)).cells]
   have hrowp2 := hrowp.more [Blk.cells 0 (encMt (cutMt x)).cells]
   obtain ⟨o', H2, happ, hrow3, hle, hno, hold, hblk⟩ := hrow2.appB (prot := H.length) (xt := 42) encMt_T rowMt (.inl ⟨_, Tryz.underlying42⟩) (elem_vs encMt_T [cutMt x] true) (by simp) (by simp [roomy]; omega) (Nat.le_refl _) (by simp; omega)
   have hrowp3 : Row encMt 3 true H.length H2 p (cutMs (l.take i)) := by
    rcases hrowp2 with ⟨h1, h2⟩ | ⟨b, ver, h1, h2, h3, h4⟩
    ·exact .inl ⟨h1, h2⟩
    ·exact .inr ⟨b, ver, h1, h2, hold b ver _ h3 (fun s hs => hapart _ _ hs h1), h4⟩
   obtain ⟨p', H3, happ2, hrowp4, hle2, hno2, hold2, hblk2⟩ := hrowp3.appB (prot := H.length) (xt := 41) encMt_T rowRm (.inl ⟨_, Tryz.underlying41⟩) (elem_vs encMt_T [cutMt x] true) (by simp) (by simp [roomy]; omega) (Nat.le_refl _) (by simp at hle; omega)
   have hlen2 : H'.length + 1 ≤ H2.length := by simpa using hle
   have hpb : ∀ s, p = .bs s → s.b < H'.length := fun s hs => by
    rcases hrowp with ⟨h1, _⟩ | ⟨b, ver, h1, h2, h3, h4⟩
    ·rw [h1] at hs; cases hs
    ·rw [h1] at hs; cases hs; exact hget_lt h3
   have hob : ∀ s, o = .bs s → s.b < H'.length := fun s hs => by
    rcases hrow with ⟨h1, _⟩ | ⟨b, ver, h1, h2, h3, h4⟩
    ·rw [h1] at hs; cases hs
    ·rw [h1] at hs; cases hs; exact hget_lt h3
   have hob' : ∀ s, o' = .bs s → s.b < H2.length := fun s hs => by
    rcases hrow3 with ⟨h1, _⟩ | ⟨b, ver, h1, h2, h3, h4⟩
    ·exact absurd h1 hno
    ·rw [h1] at hs; cases hs; exact hget_lt h3
   have hapart1 : ∀ s1 s2, o' = .bs s1 → p = .bs s2 → s1.b ≠ s2.b := fun s1 s2 h1 h2 => by
    rcases hblk s1 h1 with ⟨s, h3, h4⟩ | h4
    ·rw [h4]; exact hapart s s2 h3 h2
    ·have := hpb s2 h2
     rw [h4]; simp; omega
   have hrow4 : Row encMt 3 true H.length H3 o' (cutMs (l.take i) ++ [cutMt x]) := by
    rcases hrow3 with ⟨h1, h2⟩ | ⟨b, ver, h1, h2, h3, h4⟩
    ·exact absurd h1 hno
    ·exact .inr ⟨b, ver, h1, h2, hold2 b ver _ h3 (fun s hs h5 => hapart1 _ s h1 hs h5.symm), h4⟩
   have hapart2 : ∀ s1 s2, o' = .bs s1 → p' = .bs s2 → s1.b ≠ s2.b := fun s1 s2 h1 h2 => by
    rcases hblk2 s2 h2 with ⟨s, h3, h4⟩ | h4
    ·rw [h4]; exact hapart1 s1 s h1 h3
    ·have := hob' s1 h1
     rw [h4]; omega
   have hbox : hget H2 H'.length 0 = some (encMt (cutMt x)).cells := hold _ _ _ (by rw [hget_new rfl]; rfl) (fun s hs => by have := hob s hs; omega)
   have hlit1 := litMt (cutMt x)
   have hlit2 := litRm (cutMt x)
   simp only [encMt, AV.cells] at happ happ2 hbox
   have goon : ∀ (fr' : List AV), fr'.length = 50 → fget fr' 8 = w → fget fr' 9 = .int .i64 l.length → fget fr' 10 = .int .i64 ((i + 1 : Nat) : Int) → fget fr' 4 = o' → fget fr' 5 = p' → ∃ (j : Nat) (o p : AV), l.length - (i + 1) = l.length - j ∧ j ≤ l.length ∧ j ≤ 40 ∧ fr'.length = 50 ∧ fget fr' 8 = w ∧ fget fr' 9 = .int .i64 l.length ∧ fget fr' 10 = .int .i64 j ∧ fget fr' 4 = o ∧ fget fr' 5 = p
     ∧ H.length ≤ H3.length ∧ Row encMt 3 true H.length H3 o (cutMs (l.take j)) ∧ Row encMt 3 true H.length H3 p (cutMs (l.take j)) ∧ (j = 0 → o = .nilS ∧ p = .nilS) ∧ (∀ s1 s2, o = .bs s1 → p = .bs s2 → s1.b ≠ s2.b) := fun fr' b0 b1 b2 b3 b4 b5 =>
    ⟨i + 1, o', p', rfl, hlt, by omega, b0, b1, b2, b3, b4, b5, by omega, by rw [hcut]; exact hrow4, by rw [hcut]; exact hrowp4, fun h => by omega, hapart2⟩
   by_cases hn : (20 : Int) < x.name.length
   ·by_cases hv : (30 : Int) < x.val.length
    ·have hn' : 20 < x.name.length := by omega
     have hv' : 30 < x.val.length := by omega
     simp only [cutMt] at happ happ2 hlit1 hlit2 hbox
     simp only [w9, simprocAttr, u19, hlen, a8, a10, a4, a5, e1, encMt, h6, s0, gx, slen, hn, hv, c1 _ hn', pN, c2 _ hv', pV, hlit1, hlit2, happ, happ2, hbox, hww]
     refine ih _ _ (l.length - (i + 1)) (by omega) (goon _ ?_ ?_ ?_ ?_ ?_ ?_) <;> simp [w9, hlen, a8, a9]
    ·have hn' : 20 < x.name.length := by omega
     have e2 : x.val.take 30 = x.val := List.take_of_length_le (by omega)
     simp only [cutMt, e2] at happ happ2 hlit1 hlit2 hbox
     simp only [w9, simprocAttr, u19, hlen, a8, a10, a4, a5, e1, encMt, h6, s0, gx, slen, hn, hv, c1 _ hn', pN, hlit1, hlit2, happ, happ2, hbox, hww]
     refine ih _ _ (l.length - (i + 1)) (by omega) (goon _ ?_ ?_ ?_ ?_ ?_ ?_) <;> simp [w9, hlen, a8, a9]
   ·by_cases hv : (30 : Int) < x.val.length
    ·have e3 : x.name.take 20 = x.name := List.take_of_length_le (by omega)
     have hv' : 30 < x.val.length := by omega
     simp only [cutMt, e3] at happ happ2 hlit1 hlit2 hbox
     simp only [w9, simprocAttr, u19, hlen, a8, a10, a4, a5, e1, encMt, h6, s0, gx, slen, hn, hv, c2 _ hv', pV, hlit1, hlit2, happ, happ2, hbox, hww]
     refine ih _ _ (l.length - (i + 1)) (by omega) (goon _ ?_ ?_ ?_ ?_ ?_ ?_) <;> simp [w9, hlen, a8, a9]
    ·have e3 : x.name.take 20 = x.name := List.take_of_length_le (by omega)
     have e2 : x.val.take 30 = x.val := List.take_of_length_le (by omega)
     simp only [cutMt, e3, e2] at happ happ2 hlit1 hlit2 hbox
     simp only [w9, simprocAttr, u19, hlen, a8, a10, a4, a5, e1, encMt, h6, s0, gx, slen, hn, hv, hlit1, hlit2, happ, happ2, hbox, hww]
     refine ih _ _ (l.length - (i + 1)) (by omega) (goon _ ?_ ?_ ?_ ?_ ?_ ?_) <;> simp [w9, hlen, a8, a9]
 ·have hnl : ¬ i < l.length := by simpa using h
  simp only [w9, simprocAttr, hlen, a4, a5]
  exact Fin_pure (l := [o, p]) (by simp [w9, hlen]) (fin _ hrow hrowp (.inl (by omega))) (by simp)
def sameMt (a b : Mt) : Bool := (((⟨a.name.toArray⟩ : ByteArray) == ⟨b.name.toArray⟩) && ((a.kind == b.kind) && (((⟨a.val.toArray⟩ : ByteArray) == ⟨b.val.toArray⟩) && true)))
theorem sameMt_refl (a : Mt) : sameMt a a = true := by
 have : ∀ s : List UInt8, ((⟨s.toArray⟩ : ByteArray) == ⟨s.toArray⟩) = true := fun s => by
  show (s.toArray == s.toArray) = true
  simp
 simp [sameMt, this]
theorem eqFsM (a b : Mt) : EqFs Tryz.prog 9999 #[.string ⟨a.name.toArray⟩, .int .i64 a.kind, .string ⟨a.val.toArray⟩] #[.string ⟨b.name.toArray⟩, .int .i64 b.kind, .string ⟨b.val.toArray⟩]
  [{ name := "Name", type := 9, offset := 0, embedded := false, tag := "", pkgPath := "", byteOffset := 0 }, { name := "Kind", type := 3, offset := 1, embedded := false, tag := "", pkgPath := "", byteOffset := 16 }, { name := "Value", type := 9, offset := 2, embedded := false, tag := "", pkgPath := "", byteOffset := 24 }] (sameMt a b) :=
 .cons (by decide) (pureOf_part (by kernel_rfl) rfl) (pureOf_part (by kernel_rfl) rfl) (equalIn_str Tryz.underlying9 _ _ _)
  (.cons (by decide) (pureOf_part (by kernel_rfl) rfl) (pureOf_part (by kernel_rfl) rfl) (equalIn_int Tryz.underlying3 _ _ _)
   (.cons (by decide) (pureOf_part (by kernel_rfl) rfl) (pureOf_part (by kernel_rfl) rfl) (equalIn_str Tryz.underlying9 _ _ _) .nil))
theorem neMt (a b : Mt) (xo yo : Operand) : aBin Tryz.prog .neq 54 xo yo (.agg [.str a.name, .int .i64 a.kind, .str a.val]) (.agg [.str b.name, .int .i64 b.kind, .str b.val]) = some (.bool (!(sameMt a b))) :=
 bin_agg_ne (xo := xo) (yo := yo) Tryz.underlying54 (by kernel_rfl) (by kernel_rfl) (cs := [.str a.name, .int .i64 a.kind, .str a.val]) (ds := [.str b.name, .int .i64 b.kind, .str b.val]) rfl rfl (eqFsM a b)
theorem msame_ok (l : List Mt) (v w : AV) (hv : Sl encMt v l) (hw : Sl encMt w l) (hl : l.length < 1000000) (prot : Nat) (H : Heap) (hp : prot ≤ H.length) :
  aLim cfg prot 25 [v, w] H = some (.bool true, none) := by
 have hsnap : snap H [v, w] = some ([v, w], false) := by cases hv <;> cases hw <;> rfl
 have hvl := fun (K : Heap) => hv.len (P := Tryz.prog) (H := K) Tryz.underlying42
 have hwl := fun (K : Heap) => hw.len (P := Tryz.prog) (H := K) Tryz.underlying41
 refine pure_slim rfl (by kernel_rfl) Tryz.func25 s25 hp hsnap (by simp [Tryz.f25]) fun fr hlen h => ?_
 simp only [Has, Nat.zero_add] at h
 obtain ⟨a0, a1, -⟩ := h
 simp only [Tryz.f25] at hlen ⊢
 unfold g25
 simp only [w9, simprocAttr, hlen, a0, a1, hvl, hwl]
 refine loop_rule (fun k fr K => ∃ (i : Nat), k = l.length - i ∧ i ≤ l.length ∧ fr.length = 32 ∧ fget fr 0 = v ∧ fget fr 12 = w ∧ fget fr 13 = .int .i64 (l.length : Nat) ∧ fget fr 14 = .int .i64 i ∧ H.length ≤ K.length) ?_ l.length _ _ ⟨0, by simp [w9, hlen, a0]⟩
 rintro k fr K ⟨i, rfl, hi, hlen, a0, a12, a13, a14, hH⟩ ih
 by_cases hlt : i < l.length
 ·have d2 : decide ((i : Int) < (l.length : Nat)) = true := decide_eq_true (by omega)
  have hww : IntKind.i64.wrap ((i : Int) + 1) = ((i + 1 : Nat) : Int) := by rw [wrap64 (by omega) (by omega)]; simp
  have e1 := hv.at (k := .i64) Tryz.underlying42 sz54 (fun _ => rfl) hlt
  have e2 := hw.at (k := .i64) Tryz.underlying41 sz94 (fun _ => rfl) hlt
  generalize l[i] = x at *
  have s0 : Go.Abs.hput H.length (K ++ [Blk.cells 0 [.str [], .int .i64 0, .str []]]) K.length 0 0 [.str x.name, .int .i64 x.kind, .str x.val] = some (K ++ [Blk.cells 0 [.str x.name, .int .i64 x.kind, .str x.val]]) := by
   rw [hput_new rfl hH (by simp) rfl]; rfl
  have gx : hget (K ++ [Blk.cells 0 [.str x.name, .int .i64 x.kind, .str x.val]]) K.length 0 = some [.str x.name, .int .i64 x.kind, .str x.val] := by rw [hget_new rfl, if_pos rfl]
  have nq := fun xo yo => neMt x x xo yo
  rw [sameMt_refl] at nq
  simp only [encMt, AV.cells] at e1 e2
  simp only [w9, simprocAttr, u19, hlen, a0, a12, a13, a14, d2, e1, e2, s0, gx, nq]
  refine ih _ _ (l.length - (i + 1)) (by omega) ⟨i + 1, rfl, by omega, by simp [w9, hlen], by simp [w9, a0], by simp [w9, a12], by simp [w9, a13], ?_, by simp; omega⟩
  simp [w9, hlen]; exact hww
 ·have d2 : decide ((i : Int) < (l.length : Nat)) = false := decide_eq_false (by omega)
  simp only [w9, simprocAttr, hlen, a13, a14, d2]
  exact Fin_pure (l := [.bool true]) (by simp [w9, hlen]) (.still rfl) (by simp)
end Go.Proofs.YtnipaiklandliaaGreatDoor
