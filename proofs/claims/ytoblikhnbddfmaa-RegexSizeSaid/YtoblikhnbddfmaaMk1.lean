import Derived.Test.YtoblikhnbddfmaaRx16
/-! Chapter 15: may a node be a machine, walked. -/
set_option linter.unusedSimpArgs false
namespace Go.Proofs.Ytoblikhnbddfmaa
open Go Go.Abs AbsSeat Ty

/-- nodes that are not too deep. -/
inductive Dep : Nat → Nd → Prop where
  | leaf {n : Nat} {kind : Int} {no sf : Bool} {sp : List Sg} {least most : Int} {kf : Bool} : Dep n (.mk kind no sf sp least most kf [])
  | mk {n : Nat} {kind : Int} {no sf : Bool} {sp : List Sg} {least most : Int} {kf : Bool} {kids : List Nd} (h : ∀ x ∈ kids, Dep n x) : Dep (n + 1) (.mk kind no sf sp least most kf kids)
theorem Dep.up {n : Nat} : ∀ {x : Nd}, Dep n x → Dep (n + 1) x := by
  induction n with
  | zero => intro x h; cases h; exact .leaf
  | succ n ih => intro x h; cases h with
    | leaf => exact .leaf
    | mk h => exact .mk fun y hy => ih (h y hy)
theorem Dep.le {n m : Nat} (hm : n ≤ m) {x : Nd} (h : Dep n x) : Dep m x := by
  induction hm with
  | refl => exact h
  | step _ ih => exact ih.up
theorem conN_dep {n : Nat} {l : List Nd} (h : ∀ x ∈ l, Dep n x) : Dep (n + 1) (conN l) := by
  match l, h with
  | [], _ => exact .leaf
  | [x], h => exact (h x (by simp)).up
  | x :: y :: r, h => exact .mk h
theorem eitN_dep {n : Nat} {l : List Nd} (h : ∀ x ∈ l, Dep n x) : Dep (n + 1) (eitN l) := by
  match l, h with
  | [], _ => exact .leaf
  | [x], h => exact (h x (by simp)).up
  | x :: y :: r, h => exact .mk h
theorem rep_dep {n : Nat} {x : Nd} (h : Dep n x) (a b : Int) : Dep (n + 1) (ndR x a b) := .mk fun y hy => by simp at hy; subst hy; exact h
theorem readS_dep (l : List Int) : ∀ k : Nat, (∀ j d, (atomS l k j d).ok = true → Dep (3 * (16 - d)) (atomS l k j d).n) ∧ (∀ j d, (pieceS l k j d).ok = true → Dep (3 * (16 - d) + 1) (pieceS l k j d).n) ∧
    (∀ j d acc, (∀ x ∈ acc, Dep (3 * (16 - d) + 1) x) → (concatS l k j d acc).ok = true → Dep (3 * (16 - d) + 2) (concatS l k j d acc).n) ∧ ∀ j d acc, (∀ x ∈ acc, Dep (3 * (16 - d) + 2) x) → (eitherS l k j d acc).ok = true → Dep (3 * (16 - d) + 3) (eitherS l k j d acc).n
  | 0 => ⟨fun j d h => by simp [atomS] at h, fun j d h => by simp [pieceS] at h, fun j d acc _ h => by simp [concatS] at h, fun j d acc _ h => by simp [eitherS] at h⟩
  | k + 1 => by
    obtain ⟨ha, hp, hc, he⟩ := readS_dep l k
    refine ⟨fun j d h => ?_, fun j d h => ?_, fun j d acc hga h => ?_, fun j d acc hga h => ?_⟩
    · rw [atomS] at h ⊢
      dsimp only at h ⊢
      split at h
      · rename_i h1
        rw [if_pos h1]
        split at h
        · cases h
        · rename_i h2
          rw [if_neg h2]
          split at h
          · rename_i h3
            rw [if_pos h3]
            have := he (j + 1) (d + 1) [] (fun x h => by cases h) h3
            split at h
            · rename_i h4
              rw [if_pos h4]
              exact this.le (by omega)
            · cases h
          · cases h
      · rename_i h1
        rw [if_neg h1]
        split at h
        · rename_i h2
          rw [if_pos h2]
          exact .leaf
        · rename_i h2
          rw [if_neg h2]
          split at h
          · rename_i h3
            rw [if_pos h3]
            exact .leaf
          · rename_i h3
            rw [if_neg h3]
            split at h
            · rename_i h4
              rw [if_pos h4]
              exact .leaf
            · rename_i h4
              rw [if_neg h4]
              exact .leaf
    · rw [pieceS] at h ⊢
      try dsimp only at h ⊢
      split at h
      · rename_i h1
        rw [if_pos h1]
        have h0 := ha j d h1
        split at h
        · rename_i h2
          rw [if_pos h2]
          exact rep_dep h0 _ _
        · rename_i h2
          rw [if_neg h2]
          split at h
          · rename_i h3
            rw [if_pos h3]
            exact rep_dep h0 _ _
          · rename_i h3
            rw [if_neg h3]
            split at h
            · rename_i h4
              rw [if_pos h4]
              exact rep_dep h0 _ _
            · rename_i h4
              rw [if_neg h4]
              split at h
              · rename_i h5
                rw [if_pos h5]
                exact rep_dep h0 _ _
              · rename_i h5
                rw [if_neg h5]
                exact h0.up
      · rename_i h1
        exact absurd h h1
    · rw [concatS] at h ⊢
      try dsimp only at h ⊢
      split at h
      · rename_i h1
        rw [if_pos h1]
        exact conN_dep hga
      · rename_i h1
        rw [if_neg h1]
        split at h
        · rename_i h2
          rw [if_pos h2]
          refine hc _ d _ (fun x hx => ?_) h
          rcases List.mem_append.1 hx with hx | hx
          · exact hga x hx
          · simp at hx; subst hx; exact hp j d h2
        · rename_i h2
          exact absurd h h2
    · rw [eitherS] at h ⊢
      try dsimp only at h ⊢
      split at h
      · rename_i h1
        rw [if_pos h1]
        have hg0 := hc j d [] (fun x h => by cases h) h1
        have hga2 : ∀ x ∈ acc ++ [(concatS l k j d []).n], Dep (3 * (16 - d) + 2) x := fun x hx => by
          rcases List.mem_append.1 hx with hx | hx
          · exact hga x hx
          · simp at hx; subst hx; exact hg0
        split at h
        · rename_i h2
          rw [if_pos h2]
          exact he _ d _ hga2 h
        · rename_i h2
          rw [if_neg h2]
          exact eitN_dep hga2
      · rename_i h1
        exact absurd h h1
/-- what is known of a node that was read. -/
theorem parse_known (s : List UInt8) (hl : s.length ≤ 1000) : (parseU s).2 = 0 → Good (parseU s).1 ∧ Fine (parseU s).1 ∧ Dep 51 (parseU s).1 ∧ sizeN (parseU s).1 ≤ 400 := by
  intro h0
  refine ⟨?_, parse_fine s hl, ?_⟩
  all_goals
    unfold parseU at h0 ⊢
    cases hr : runesU s with
    | none => rw [hr] at h0; cases h0
    | some l =>
      have hro := runesU_ok s.length s l (Nat.le_refl _) hr
      rw [hr] at h0
      try show Good (parseL l).1
      try show Dep 51 (parseL l).1 ∧ sizeN (parseL l).1 ≤ 400
      have h0 : (parseL l).2 = 0 := h0
      unfold parseL at h0 ⊢
      dsimp only at h0 ⊢
      have hg := (readS_good l (by omega) (5 * l.length + 4)).2.2.2 0 0 [] (by omega) (by simp) (fun x h => by cases h)
      have hd := (readS_dep l (5 * l.length + 4)).2.2.2 0 0 [] (fun x h => by cases h)
      split at h0
      · rename_i h1
        rw [if_pos h1]
        split at h0
        · cases h0
        · rename_i h2
          rw [if_neg h2]
          first | exact hg h1.1 | exact ⟨hd h1.1, Nat.not_lt.1 h2⟩
      · cases h0
theorem u61 : type_of% (And.intro (show tagT Try.prog 41 = 0 from by kernel_rfl) (And.intro (show tagT Try.prog 120 = 0 from by kernel_rfl) (And.intro (show tagT Try.prog 116 = 0 from by kernel_rfl) (And.intro ag1 (And.intro sz1 (And.intro by1 (And.intro ze1 (And.intro Try.underlying1 (And.intro ag3 (And.intro sz3 (And.intro by3 (And.intro ze3 (And.intro Try.underlying3 (And.intro ag4 (And.intro sz4 (And.intro by4 (And.intro ze4 (And.intro Try.underlying4 (And.intro ag9 (And.intro sz9 (And.intro by9 (And.intro ze9 (And.intro Try.underlying9 (And.intro ag29 (And.intro sz29 (And.intro by29 (And.intro ze29 (And.intro Try.underlying29 (And.intro ag38 (And.intro sz38 (And.intro by38 (And.intro se38 (And.intro ze38 (And.intro Try.underlying38 (And.intro ag39 (And.intro sz39 (And.intro by39 (And.intro se39 (And.intro ze39 (And.intro Try.underlying39 (And.intro ag41 (And.intro sz41 (And.intro by41 (And.intro ze41 (And.intro bu41 (And.intro Try.underlying41 (And.intro ag47 (And.intro sz47 (And.intro by47 (And.intro ze47 (And.intro bu47 (And.intro Try.underlying47 (And.intro ag53 (And.intro sz53 (And.intro by53 (And.intro se53 (And.intro ze53 (And.intro Try.underlying53 (And.intro ag116 (And.intro sz116 (And.intro by116 (And.intro ze116 (And.intro bu116 (And.intro Try.underlying116 (And.intro ag118 (And.intro sz118 (And.intro by118 (And.intro ze118 (And.intro Try.underlying118 (And.intro ag120 (And.intro sz120 (And.intro by120 (And.intro ze120 (And.intro bu120 (And.intro Try.underlying120 (And.intro ag129 (And.intro sz129 (And.intro by129 (And.intro ze129 (And.intro bu129 (And.intro Try.underlying129 (And.intro fa41_0 (And.intro fd41_0 (And.intro fa41_1 (And.intro fd41_1 (And.intro fa41_2 (And.intro fd41_2 (And.intro fa41_3 (And.intro fd41_3 (And.intro fa41_4 (And.intro fd41_4 (And.intro fa41_5 (And.intro fd41_5 (And.intro fa116_3 (And.intro fd116_3 (And.intro fa120_0 fd120_0)))))))))))))))))))))))))))))))))))))))))))))))))))))))))))))))))))))))))))))))))))))))))))))))) := And.intro (show tagT Try.prog 41 = 0 from by kernel_rfl) (And.intro (show tagT Try.prog 120 = 0 from by kernel_rfl) (And.intro (show tagT Try.prog 116 = 0 from by kernel_rfl) (And.intro ag1 (And.intro sz1 (And.intro by1 (And.intro ze1 (And.intro Try.underlying1 (And.intro ag3 (And.intro sz3 (And.intro by3 (And.intro ze3 (And.intro Try.underlying3 (And.intro ag4 (And.intro sz4 (And.intro by4 (And.intro ze4 (And.intro Try.underlying4 (And.intro ag9 (And.intro sz9 (And.intro by9 (And.intro ze9 (And.intro Try.underlying9 (And.intro ag29 (And.intro sz29 (And.intro by29 (And.intro ze29 (And.intro Try.underlying29 (And.intro ag38 (And.intro sz38 (And.intro by38 (And.intro se38 (And.intro ze38 (And.intro Try.underlying38 (And.intro ag39 (And.intro sz39 (And.intro by39 (And.intro se39 (And.intro ze39 (And.intro Try.underlying39 (And.intro ag41 (And.intro sz41 (And.intro by41 (And.intro ze41 (And.intro bu41 (And.intro Try.underlying41 (And.intro ag47 (And.intro sz47 (And.intro by47 (And.intro ze47 (And.intro bu47 (And.intro Try.underlying47 (And.intro ag53 (And.intro sz53 (And.intro by53 (And.intro se53 (And.intro ze53 (And.intro Try.underlying53 (And.intro ag116 (And.intro sz116 (And.intro by116 (And.intro ze116 (And.intro bu116 (And.intro Try.underlying116 (And.intro ag118 (And.intro sz118 (And.intro by118 (And.intro ze118 (And.intro Try.underlying118 (And.intro ag120 (And.intro sz120 (And.intro by120 (And.intro ze120 (And.intro bu120 (And.intro Try.underlying120 (And.intro ag129 (And.intro sz129 (And.intro by129 (And.intro ze129 (And.intro bu129 (And.intro Try.underlying129 (And.intro fa41_0 (And.intro fd41_0 (And.intro fa41_1 (And.intro fd41_1 (And.intro fa41_2 (And.intro fd41_2 (And.intro fa41_3 (And.intro fd41_3 (And.intro fa41_4 (And.intro fd41_4 (And.intro fa41_5 (And.intro fd41_5 (And.intro fa116_3 (And.intro fd116_3 (And.intro fa120_0 fd120_0)))))))))))))))))))))))))))))))))))))))))))))))))))))))))))))))))))))))))))))))))))))))))))))))
def g61 : Code :=
  .seq (.region 0 #[q 2 (.box 41 (.tmp 0)) 0, q 4 (.assign (ik 0)) 29] false) (.seq (.seq (.region 1 #[q 8 (.move (.tmp 1)) 3, q 9 (.binOp .gtr 3 (.tmp 8) (ik 64) 3) 4] false) (.cond (.tmp 9) (.seq (.region 2 #[q 4 (.assign (ik 5)) 29] false) .ret) .skip)) (.seq (.seq (.region 3 #[q 10 (.fieldAddr 41 (.tmp 2) 0) 0, q 11 (.load 3 (.tmp 10)) 3] false) (.block 0 (.seq (.block 3 (.seq (.block 2 (.seq (.block 1 (.seq (.seq (.seq (.seq (.region 4 #[q 13 (.binOp .eql 3 (.tmp 11) (ik 0) 3) 4, q 12 (.assign (.tmp 13)) 4] false) (.cond (.tmp 12) .skip (.region 5 #[q 14 (.binOp .eql 3 (.tmp 11) (ik 1) 3) 4, q 12 (.assign (.tmp 14)) 4] false))) (.cond (.tmp 12) (.exit 1) .skip)) (.seq (.seq (.region 6 #[q 16 (.binOp .eql 3 (.tmp 11) (ik 4) 3) 4, q 15 (.assign (.tmp 16)) 4] false) (.cond (.tmp 15) (.exit 2) .skip)) (.seq (.seq (.region 7 #[q 18 (.binOp .eql 3 (.tmp 11) (ik 2) 3) 4, q 17 (.assign (.tmp 18)) 4] false) (.cond (.tmp 17) .skip (.region 8 #[q 19 (.binOp .eql 3 (.tmp 11) (ik 3) 3) 4, q 17 (.assign (.tmp 19)) 4] false))) (.cond (.tmp 17) (.exit 3) .skip)))) (.exit 0))) (.seq (.seq (.region 9 #[q 4 (.assign (ik 0)) 29] false) .ret) (.exit 0)))) (.seq (.region 10 #[q 20 (.fieldAddr 41 (.tmp 2) 5) 0, q 21 (.load 39 (.tmp 20)) 39, q 22 (bi .len #[.tmp 21] #[39]) 3, q 23 (.binOp .neq 3 (.tmp 22) (ik 1) 3) 4, q 24 (.move (.tmp 23)) 4, qg 25 (.fieldAddr 41 (.tmp 2) 3) 0 4 false, qg 26 (.load 3 (.tmp 25)) 3 4 false, qg 27 (.binOp .lss 3 (.tmp 26) (ik 0) 3) 4 4 false, q 28 (.pick (.tmp 24) (.const (.bool true)) (.tmp 27)) 4, q 29 (.move (.tmp 28)) 4, qg 30 (.fieldAddr 41 (.tmp 2) 3) 0 9 false, qg 31 (.load 3 (.tmp 30)) 3 9 false, qg 32 (.binOp .gtr 3 (.tmp 31) (ik 16) 3) 4 9 false, q 33 (.pick (.tmp 29) (.const (.bool true)) (.tmp 32)) 4, q 34 (.move (.tmp 33)) 4, qg 35 (.fieldAddr 41 (.tmp 2) 4) 0 14 false, qg 36 (.load 3 (.tmp 35)) 3 14 false, qg 37 (.binOp .neq 3 (.tmp 36) (ik (-1)) 3) 4 14 false, qg 38 (.move (.tmp 37)) 4 14 false, qg 39 (.fieldAddr 41 (.tmp 2) 4) 0 18 true, qg 40 (.load 3 (.tmp 39)) 3 18 true, qg 41 (.fieldAddr 41 (.tmp 2) 3) 0 18 true, qg 42 (.load 3 (.tmp 41)) 3 18 true, qg 43 (.binOp .lss 3 (.tmp 40) (.tmp 42) 3) 4 18 true, qg 44 (.move (.tmp 43)) 4 18 true, qg 45 (.fieldAddr 41 (.tmp 2) 4) 0 24 false, qg 46 (.load 3 (.tmp 45)) 3 24 false, qg 47 (.binOp .gtr 3 (.tmp 46) (ik 16) 3) 4 24 false, qg 48 (.pick (.tmp 44) (.const (.bool true)) (.tmp 47)) 4 18 true, qg 49 (.pick (.tmp 38) (.tmp 48) (.const (.bool false))) 4 14 false, q 50 (.pick (.tmp 34) (.const (.bool true)) (.tmp 49)) 4] false) (.cond (.tmp 50) (.seq (.region 11 #[q 4 (.assign (ik 1)) 29] false) .ret) .skip)))) (.seq (.seq (.seq (.region 12 #[q 51 (.fieldAddr 41 (.tmp 2) 5) 0, q 52 (.load 39 (.tmp 51)) 39, q 53 (bi .len #[.tmp 52] #[39]) 3, q 54 (.move (ik 0)) 3] false) (.block 4 (.loop (.seq (.region 13 #[q 55 (.binOp .lss 3 (.tmp 54) (.tmp 53) 3) 0] false) (.seq (.cond (.tmp 55) .skip (.exit 4)) (.seq (.block 5 (.seq (.region 14 #[q 56 (.indexAddr 39 (.tmp 52) (.tmp 54)) 0, q 57 (.load 41 (.tmp 56)) 41, q 6 (.alloc 41) 0, qn (.store 41 (.tmp 6) (.tmp 57)) 0] false) (.seq (.region 15 #[q 58 (.load 41 (.tmp 6)) 41, q 59 (.move (.tmp 1)) 3, q 60 (.binOp .add 3 (.tmp 59) (ik 1) 3) 3, q 61 (cl 61 #[.tmp 58, .tmp 60] #[41, 3]) 29, q 7 (.assign (.tmp 61)) 29] false) (.seq (.region 16 #[q 62 (.move (.tmp 7)) 29, q 63 (.binOp .neq 29 (.tmp 62) (ik 0) 29) 4] false) (.cond (.tmp 63) (.seq (.region 17 #[q 64 (.move (.tmp 7)) 29, q 4 (.assign (.tmp 64)) 29] false) .ret) .skip))))) (.region 18 #[q 65 (.binOp .add 3 (.tmp 54) (ik 1) 3) 3, q 54 (.move (.tmp 65)) 3] false))))))) (.seq (.region 19 #[q 4 (.assign (ik 0)) 29] false) .ret)) (.exit 0))))) (.seq (.region 20 #[q 4 (.assign (ik 1)) 29] false) .ret)))
theorem s61 : Try.f61.body.map (slim cfg) = some g61 := by kernel_rfl
def g25 : Code :=
  .seq (.region 0 #[q 1 (.box 41 (.tmp 0)) 0, q 2 (.assign (.const (.slice none 0 0))) 53, q 3 (.assign (ik 0)) 3, q 4 (.assign (ik 0)) 29] false) (.seq (.seq (.region 1 #[q 9 (.load 41 (.tmp 1)) 41, q 10 (cl 61 #[.tmp 9, ik 0] #[41, 3]) 29, q 5 (.assign (.tmp 10)) 29] false) (.seq (.region 2 #[q 11 (.move (.tmp 5)) 29, q 12 (.binOp .neq 29 (.tmp 11) (ik 0) 29) 4] false) (.cond (.tmp 12) (.seq (.region 3 #[q 13 (.move (.tmp 5)) 29, q 2 (.assign (.const (.slice none 0 0))) 53, q 3 (.assign (ik 0)) 3, q 4 (.assign (.tmp 13)) 29] false) .ret) .skip))) (.seq (.seq (.region 4 #[q 14 (.load 41 (.tmp 1)) 41, q 15 (cl 26 #[.tmp 14] #[41]) 3, q 16 (.binOp .gtr 3 (.tmp 15) (ik 400) 3) 4] false) (.cond (.tmp 16) (.seq (.region 5 #[q 2 (.assign (.const (.slice none 0 0))) 53, q 3 (.assign (ik 0)) 3, q 4 (.assign (ik 5)) 29] false) .ret) .skip)) (.seq (.region 6 #[q 17 (.build 120 #[]) 120, q 18 (.box 120 (.tmp 17)) 118, q 6 (.assign (.tmp 18)) 118] false) (.seq (.region 7 #[q 19 (.move (.tmp 6)) 118, q 20 (.build 116 #[(0, ik 3)]) 116, q 21 (cl 62 #[.tmp 19, .tmp 20] #[118, 116]) 3, q 7 (.assign (.tmp 21)) 3] false) (.seq (.region 8 #[q 22 (.move (.tmp 6)) 118, q 23 (.load 41 (.tmp 1)) 41, q 24 (.move (.tmp 7)) 3, q 25 (cl 63 #[.tmp 22, .tmp 23, .tmp 24] #[118, 41, 3]) 3, q 8 (.assign (.tmp 25)) 3] false) (.seq (.region 9 #[q 26 (.move (.tmp 6)) 118, q 27 (.nilCheck (.tmp 26)) 0, q 28 (.fieldAddr 120 (.tmp 27) 0) 0, q 29 (.load 53 (.tmp 28)) 53, q 30 (.move (.tmp 8)) 3, q 2 (.assign (.tmp 29)) 53, q 3 (.assign (.tmp 30)) 3, q 4 (.assign (ik 0)) 29] false) .ret))))))
theorem s25 : Try.f25.body.map (slim cfg) = some g25 := by kernel_rfl
def g62 : Code :=
  .seq (.region 0 #[q 3 (.box 116 (.tmp 1)) 0, q 4 (.assign (ik 0)) 3] false) (.seq (.region 1 #[{ dst := some 5, op := .move (.tmp 0), type := 118, pos := "compile.go:92", after := #[], guard := none }, { dst := some 6, op := .move (.tmp 0), type := 118, pos := "compile.go:92", after := #[], guard := none }, { dst := some 7, op := .nilCheck (.tmp 6), type := 0, pos := "compile.go:92", after := #[{ on := 1, ground := .data }], guard := none }, { dst := some 8, op := .fieldAddr 120 (.tmp 7) 0, type := 0, pos := "compile.go:92", after := #[{ on := 2, ground := .data }], guard := none }, { dst := some 9, op := .load 53 (.tmp 8), type := 53, pos := "compile.go:92", after := #[{ on := 3, ground := .data }], guard := none }, { dst := some 10, op := .load 116 (.tmp 3), type := 116, pos := "compile.go:92", after := #[], guard := none }, { dst := some 11, op := .buildSlice 53 1 #[(0, .tmp 10)], type := 53, pos := "compile.go:92", after := #[{ on := 5, ground := .data }], guard := none }, { dst := some 12, op := bi .append #[.tmp 9, .tmp 11] #[53, 53], type := 53, pos := "compile.go:92", after := #[{ on := 4, ground := .data }, { on := 6, ground := .data }], guard := none }, { dst := some 13, op := .nilCheck (.tmp 5), type := 0, pos := "compile.go:92", after := #[{ on := 0, ground := .data }, { on := 0, ground := .phase }, { on := 1, ground := .phase }, { on := 2, ground := .phase }, { on := 3, ground := .phase }, { on := 4, ground := .phase }, { on := 5, ground := .phase }, { on := 6, ground := .phase }, { on := 7, ground := .phase }], guard := none }, { dst := some 14, op := .fieldAddr 120 (.tmp 13) 0, type := 0, pos := "compile.go:92", after := #[{ on := 8, ground := .data }, { on := 0, ground := .phase }, { on := 1, ground := .phase }, { on := 2, ground := .phase }, { on := 3, ground := .phase }, { on := 4, ground := .phase }, { on := 5, ground := .phase }, { on := 6, ground := .phase }, { on := 7, ground := .phase }], guard := none }, { dst := none, op := .store 53 (.tmp 14) (.tmp 12), type := 0, pos := "compile.go:92", after := #[{ on := 9, ground := .data }, { on := 7, ground := .data }, { on := 7, ground := .chain }, { on := 0, ground := .phase }, { on := 1, ground := .phase }, { on := 2, ground := .phase }, { on := 3, ground := .phase }, { on := 4, ground := .phase }, { on := 5, ground := .phase }, { on := 6, ground := .phase }, { on := 7, ground := .phase }], guard := none }] true) (.seq (.region 2 #[q 15 (.move (.tmp 0)) 118, q 16 (.nilCheck (.tmp 15)) 0, q 17 (.fieldAddr 120 (.tmp 16) 0) 0, q 18 (.load 53 (.tmp 17)) 53, q 19 (bi .len #[.tmp 18] #[53]) 3, q 20 (.binOp .sub 3 (.tmp 19) (ik 1) 3) 3, q 4 (.assign (.tmp 20)) 3] false) .ret))
theorem s62 : Try.f62.body.map (slim cfg) = some g62 := by kernel_rfl
def g63 : Code :=
  .seq (.region 0 #[q 4 (.box 41 (.tmp 1)) 0, q 6 (.assign (ik 0)) 3] false) (.seq (.seq (.region 1 #[q 8 (.fieldAddr 41 (.tmp 4) 0) 0, q 9 (.load 3 (.tmp 8)) 3] false) (.block 0 (.seq (.region 2 #[q 11 (.binOp .eql 3 (.tmp 9) (ik 1) 3) 4, q 10 (.assign (.tmp 11)) 4] false) (.cond (.tmp 10) (.seq (.region 3 #[{ dst := some 12, op := .move (.tmp 0), type := 118, pos := "compile.go:100", after := #[], guard := none }, { dst := some 13, op := .fieldAddr 41 (.tmp 4) 1, type := 0, pos := "compile.go:100", after := #[], guard := none }, { dst := some 14, op := .load 4 (.tmp 13), type := 4, pos := "compile.go:100", after := #[{ on := 1, ground := .data }], guard := none }, { dst := some 15, op := .fieldAddr 41 (.tmp 4) 2, type := 0, pos := "compile.go:100", after := #[], guard := none }, { dst := some 16, op := .load 38 (.tmp 15), type := 38, pos := "compile.go:100", after := #[{ on := 3, ground := .data }], guard := none }, { dst := some 17, op := bi .append #[.const (.slice none 0 0), .tmp 16] #[38, 38], type := 38, pos := "compile.go:100", after := #[{ on := 4, ground := .data }], guard := none }, { dst := some 18, op := .move (.tmp 2), type := 3, pos := "compile.go:100", after := #[], guard := none }, { dst := some 19, op := .build 116 #[(0, ik 1), (1, .tmp 14), (2, .tmp 17), (3, .tmp 18)], type := 116, pos := "compile.go:100", after := #[{ on := 2, ground := .data }, { on := 5, ground := .data }, { on := 6, ground := .data }], guard := none }, { dst := some 20, op := cl 62 #[.tmp 12, .tmp 19] #[118, 116], type := 3, pos := "compile.go:100", after := #[{ on := 0, ground := .data }, { on := 7, ground := .data }, { on := 5, ground := .chain }], guard := none }, { dst := some 6, op := .assign (.tmp 20), type := 3, pos := "compile.go:100", after := #[{ on := 8, ground := .data }, { on := 8, ground := .chain }, { on := 0, ground := .phase }, { on := 1, ground := .phase }, { on := 2, ground := .phase }, { on := 3, ground := .phase }, { on := 4, ground := .phase }, { on := 5, ground := .phase }, { on := 6, ground := .phase }, { on := 7, ground := .phase }, { on := 8, ground := .phase }], guard := none }] true) .ret) (.seq (.region 4 #[q 22 (.binOp .eql 3 (.tmp 9) (ik 2) 3) 4, q 21 (.assign (.tmp 22)) 4] false) (.cond (.tmp 21) (.seq (.region 5 #[q 23 (.fieldAddr 41 (.tmp 4) 5) 0, q 24 (.load 39 (.tmp 23)) 39, q 25 (bi .len #[.tmp 24] #[39]) 3, q 26 (.binOp .sub 3 (.tmp 25) (ik 1) 3) 3, q 7 (.assign (.tmp 26)) 3] false) (.block 1 (.loop (.seq (.seq (.region 6 #[q 27 (.move (.tmp 7)) 3, q 28 (.binOp .geq 3 (.tmp 27) (ik 0) 3) 4] false) (.cond (.tmp 28) .skip (.exit 1))) (.seq (.block 2 (.region 8 #[q 31 (.move (.tmp 0)) 118, q 32 (.fieldAddr 41 (.tmp 4) 5) 0, q 33 (.load 39 (.tmp 32)) 39, q 34 (.move (.tmp 7)) 3, q 35 (.indexAddr 39 (.tmp 33) (.tmp 34)) 0, q 36 (.load 41 (.tmp 35)) 41, q 37 (.move (.tmp 2)) 3, q 38 (cl 63 #[.tmp 31, .tmp 36, .tmp 37] #[118, 41, 3]) 3, q 2 (.assign (.tmp 38)) 3] false)) (.region 7 #[q 29 (.move (.tmp 7)) 3, q 30 (.binOp .sub 3 (.tmp 29) (ik 1) 3) 3, q 7 (.assign (.tmp 30)) 3] false)))))) (.seq (.region 9 #[q 40 (.binOp .eql 3 (.tmp 9) (ik 3) 3) 4, q 39 (.assign (.tmp 40)) 4] false) (.cond (.tmp 39) (.seq (.region 10 #[q 41 (.move (.tmp 0)) 118, q 42 (.fieldAddr 41 (.tmp 4) 5) 0, q 43 (.load 39 (.tmp 42)) 39, q 44 (.move (.tmp 2)) 3, q 45 (cl 86 #[.tmp 41, .tmp 43, .tmp 44] #[118, 39, 3]) 3, q 6 (.assign (.tmp 45)) 3] false) .ret) (.seq (.region 11 #[q 47 (.binOp .eql 3 (.tmp 9) (ik 4) 3) 4, q 46 (.assign (.tmp 47)) 4] false) (.cond (.tmp 46) (.seq (.region 12 #[q 48 (.move (.tmp 0)) 118, q 49 (.load 41 (.tmp 4)) 41, q 50 (.move (.tmp 2)) 3, q 51 (cl 87 #[.tmp 48, .tmp 49, .tmp 50] #[118, 41, 3]) 3, q 6 (.assign (.tmp 51)) 3] false) .ret) .skip)))))))))) (.seq (.region 13 #[q 52 (.move (.tmp 2)) 3, q 6 (.assign (.tmp 52)) 3] false) .ret))
theorem s63 : Try.f63.body.map (slim cfg) = some g63 := by kernel_rfl
def g86 : Code :=
  .seq (.region 0 #[q 6 (.assign (ik 0)) 3] false) (.seq (.region 1 #[q 10 (.move (.tmp 2)) 3, q 7 (.assign (.tmp 10)) 3] false) (.seq (.seq (.region 2 #[q 11 (.move (.tmp 1)) 39, q 12 (bi .len #[.tmp 11] #[39]) 3, q 13 (.binOp .sub 3 (.tmp 12) (ik 1) 3) 3, q 8 (.assign (.tmp 13)) 3] false) (.block 0 (.loop (.seq (.seq (.region 3 #[q 14 (.move (.tmp 8)) 3, q 15 (.binOp .geq 3 (.tmp 14) (ik 0) 3) 4] false) (.cond (.tmp 15) .skip (.exit 0))) (.seq (.block 1 (.seq (.region 5 #[q 18 (.move (.tmp 0)) 118, q 19 (.move (.tmp 1)) 39, q 20 (.move (.tmp 8)) 3, q 21 (.indexAddr 39 (.tmp 19) (.tmp 20)) 0, q 22 (.load 41 (.tmp 21)) 41, q 23 (.move (.tmp 2)) 3, q 24 (cl 63 #[.tmp 18, .tmp 22, .tmp 23] #[118, 41, 3]) 3, q 9 (.assign (.tmp 24)) 3] false) (.seq (.seq (.region 6 #[q 25 (.move (.tmp 8)) 3, q 26 (.move (.tmp 1)) 39, q 27 (bi .len #[.tmp 26] #[39]) 3, q 28 (.binOp .sub 3 (.tmp 27) (ik 1) 3) 3, q 29 (.binOp .lss 3 (.tmp 25) (.tmp 28) 3) 4] false) (.cond (.tmp 29) (.region 7 #[q 30 (.move (.tmp 0)) 118, q 31 (.move (.tmp 9)) 3, q 32 (.move (.tmp 7)) 3, q 33 (.build 116 #[(0, ik 2), (3, .tmp 31), (4, .tmp 32)]) 116, q 34 (cl 62 #[.tmp 30, .tmp 33] #[118, 116]) 3, q 9 (.assign (.tmp 34)) 3] false) .skip)) (.region 8 #[q 35 (.move (.tmp 9)) 3, q 7 (.assign (.tmp 35)) 3] false)))) (.region 4 #[q 16 (.move (.tmp 8)) 3, q 17 (.binOp .sub 3 (.tmp 16) (ik 1) 3) 3, q 8 (.assign (.tmp 17)) 3] false)))))) (.seq (.region 9 #[q 36 (.move (.tmp 7)) 3, q 6 (.assign (.tmp 36)) 3] false) .ret)))
theorem s86 : Try.f86.body.map (slim cfg) = some g86 := by kernel_rfl
def g87 : Code :=
  .seq (.region 0 #[q 4 (.box 41 (.tmp 1)) 0, q 6 (.assign (ik 0)) 3] false) (.seq (.region 1 #[q 13 (.fieldAddr 41 (.tmp 4) 5) 0, q 14 (.load 39 (.tmp 13)) 39, q 15 (.indexAddr 39 (.tmp 14) (ik 0)) 0, q 16 (.load 41 (.tmp 15)) 41, q 7 (.alloc 41) 0, qn (.store 41 (.tmp 7) (.tmp 16)) 0] false) (.seq (.region 2 #[q 17 (.move (.tmp 2)) 3, q 18 (.fieldAddr 41 (.tmp 4) 3) 0, q 19 (.load 3 (.tmp 18)) 3, q 8 (.assign (.tmp 17)) 3, q 9 (.assign (.tmp 19)) 3] false) (.seq (.seq (.region 3 #[q 20 (.fieldAddr 41 (.tmp 4) 4) 0, q 21 (.load 3 (.tmp 20)) 3, q 22 (.binOp .eql 3 (.tmp 21) (ik (-1)) 3) 4] false) (.cond (.tmp 22) (.seq (.region 4 #[q 23 (.move (.tmp 0)) 118, q 24 (.move (.tmp 2)) 3, q 25 (.build 116 #[(0, ik 2), (4, .tmp 24)]) 116, q 26 (cl 62 #[.tmp 23, .tmp 25] #[118, 116]) 3, q 10 (.assign (.tmp 26)) 3] false) (.seq (.region 5 #[q 27 (.move (.tmp 0)) 118, q 28 (.load 41 (.tmp 7)) 41, q 29 (.move (.tmp 10)) 3, q 30 (cl 63 #[.tmp 27, .tmp 28, .tmp 29] #[118, 41, 3]) 3, q 8 (.assign (.tmp 30)) 3] false) (.seq (.region 6 #[q 31 (.move (.tmp 0)) 118, q 32 (.nilCheck (.tmp 31)) 0, q 33 (.fieldAddr 120 (.tmp 32) 0) 0, q 34 (.load 53 (.tmp 33)) 53, q 35 (.move (.tmp 10)) 3, q 36 (.move (.tmp 8)) 3, q 37 (.indexAddr 53 (.tmp 34) (.tmp 35)) 0, q 38 (.fieldAddr 116 (.tmp 37) 3) 0, qn (.store 3 (.tmp 38) (.tmp 36)) 0] false) (.seq (.seq (.region 7 #[q 39 (.move (.tmp 9)) 3, q 40 (.binOp .eql 3 (.tmp 39) (ik 0) 3) 4] false) (.cond (.tmp 40) (.seq (.region 8 #[q 41 (.move (.tmp 10)) 3, q 6 (.assign (.tmp 41)) 3] false) .ret) .skip)) (.region 9 #[q 42 (.move (.tmp 9)) 3, q 43 (.binOp .sub 3 (.tmp 42) (ik 1) 3) 3, q 9 (.assign (.tmp 43)) 3] false))))) .skip)) (.seq (.seq (.region 10 #[q 44 (.fieldAddr 41 (.tmp 4) 3) 0, q 45 (.load 3 (.tmp 44)) 3, q 11 (.assign (.tmp 45)) 3] false) (.block 0 (.loop (.seq (.seq (.region 11 #[q 46 (.move (.tmp 11)) 3, q 47 (.fieldAddr 41 (.tmp 4) 4) 0, q 48 (.load 3 (.tmp 47)) 3, q 49 (.binOp .lss 3 (.tmp 46) (.tmp 48) 3) 4] false) (.cond (.tmp 49) .skip (.exit 0))) (.seq (.block 1 (.seq (.region 13 #[q 52 (.move (.tmp 0)) 118, q 53 (.load 41 (.tmp 7)) 41, q 54 (.move (.tmp 8)) 3, q 55 (cl 63 #[.tmp 52, .tmp 53, .tmp 54] #[118, 41, 3]) 3, q 12 (.assign (.tmp 55)) 3] false) (.region 14 #[q 56 (.move (.tmp 0)) 118, q 57 (.move (.tmp 12)) 3, q 58 (.move (.tmp 2)) 3, q 59 (.build 116 #[(0, ik 2), (3, .tmp 57), (4, .tmp 58)]) 116, q 60 (cl 62 #[.tmp 56, .tmp 59] #[118, 116]) 3, q 8 (.assign (.tmp 60)) 3] false))) (.region 12 #[q 50 (.move (.tmp 11)) 3, q 51 (.binOp .add 3 (.tmp 50) (ik 1) 3) 3, q 11 (.assign (.tmp 51)) 3] false)))))) (.seq (.seq (.region 15 #[q 61 (.move (.tmp 9)) 3, q 62 (.move (ik 0)) 3] false) (.block 2 (.loop (.seq (.region 16 #[q 63 (.binOp .lss 3 (.tmp 62) (.tmp 61) 3) 4] false) (.seq (.cond (.tmp 63) .skip (.exit 2)) (.seq (.block 3 (.region 17 #[q 64 (.move (.tmp 0)) 118, q 65 (.load 41 (.tmp 7)) 41, q 66 (.move (.tmp 8)) 3, q 67 (cl 63 #[.tmp 64, .tmp 65, .tmp 66] #[118, 41, 3]) 3, q 8 (.assign (.tmp 67)) 3] false)) (.region 18 #[q 68 (.binOp .add 3 (.tmp 62) (ik 1) 3) 3, q 62 (.move (.tmp 68)) 3] false))))))) (.seq (.region 19 #[q 69 (.move (.tmp 8)) 3, q 6 (.assign (.tmp 69)) 3] false) .ret))))))
theorem s87 : Try.f87.body.map (slim cfg) = some g87 := by kernel_rfl
def g5 : Code :=
  .seq (.region 0 #[q 2 (.assign (.const (.bool false))) 4] false) (.seq (.seq (.region 1 #[q 8 (.move (.tmp 0)) 9, q 9 (bi .len #[.tmp 8] #[9]) 3, q 10 (.binOp .gtr 3 (.tmp 9) (ik 80) 3) 4] false) (.cond (.tmp 10) (.region 2 #[q 11 (.move (.tmp 0)) 9, q 12 (.slice 9 (.tmp 11) none (some (ik 80)) none) 9, q 0 (.assign (.tmp 12)) 9] false) .skip)) (.seq (.region 3 #[q 14 (.move (.tmp 0)) 9, q 15 (cl 20 #[.tmp 14] #[9]) 42, q 13 (.move (.tmp 15)) 42, q 16 (.extract (.tmp 13) 0) 41, q 17 (.extract (.tmp 13) 1) 29, q 3 (.alloc 41) 0, qn (.store 41 (.tmp 3) (.tmp 16)) 0, q 4 (.assign (.tmp 17)) 29] false) (.seq (.seq (.region 4 #[q 18 (.move (.tmp 4)) 29, q 19 (.binOp .neq 29 (.tmp 18) (ik 0) 29) 4] false) (.cond (.tmp 19) (.seq (.region 5 #[q 20 (cl 24 #[] #[]) 4, q 2 (.assign (.tmp 20)) 4] false) .ret) .skip)) (.seq (.region 6 #[q 22 (.load 41 (.tmp 3)) 41, q 23 (cl 25 #[.tmp 22] #[41]) 54, q 21 (.move (.tmp 23)) 54, q 24 (.extract (.tmp 21) 0) 53, q 25 (.extract (.tmp 21) 1) 3, q 26 (.extract (.tmp 21) 2) 29, q 5 (.assign (.tmp 24)) 53, q 6 (.assign (.tmp 25)) 3, q 7 (.assign (.tmp 26)) 29] false) (.seq (.region 7 #[q 27 (.move (.tmp 7)) 29, q 28 (.binOp .eql 29 (.tmp 27) (ik 0) 29) 4, q 29 (.move (.tmp 28)) 4, qg 30 (.load 41 (.tmp 3)) 41 2 true, qg 31 (cl 26 #[.tmp 30] #[41]) 3 2 true, qg 32 (.move (.tmp 5)) 53 2 true, qg 33 (bi .len #[.tmp 32] #[53]) 3 2 true, qg 34 (.binOp .sub 3 (.tmp 33) (ik 1) 3) 3 2 true, qg 35 (.binOp .eql 3 (.tmp 31) (.tmp 34) 3) 4 2 true, q 36 (.pick (.tmp 29) (.tmp 35) (.const (.bool false))) 4, q 37 (.move (.tmp 36)) 4, qg 38 (.load 41 (.tmp 3)) 41 10 true, qg 39 (cl 26 #[.tmp 38] #[41]) 3 10 true, qg 40 (.load 41 (.tmp 3)) 41 10 true, qg 41 (cl 23 #[.tmp 40] #[41]) 47 10 true, qg 42 (cl 27 #[.tmp 41] #[47]) 3 10 true, qg 43 (.binOp .eql 3 (.tmp 39) (.tmp 42) 3) 4 10 true, q 44 (.pick (.tmp 37) (.tmp 43) (.const (.bool false))) 4, q 45 (.move (.tmp 44)) 4, qg 46 (cl 24 #[] #[]) 4 18 true, q 47 (.pick (.tmp 45) (.tmp 46) (.const (.bool false))) 4, q 2 (.assign (.tmp 47)) 4] false) .ret)))))
theorem s5 : Try.f5.body.map (slim cfg) = some g5 := by kernel_rfl

theorem may_step (kind : Int) (no sf : Bool) (sp : List Sg) (least most : Int) (kf : Bool) (kids : List Nd) (hg : Good (.mk kind no sf sp least most kf kids)) (n : Nat) (hd : Dep n (.mk kind no sf sp least most kf kids)) (d : Nat) (hdn : d + n ≤ 64)
    (ih : ∀ x ∈ kids, ∀ n' d', Dep n' x → d' + n' ≤ 64 → ∀ (prot : Nat) (H : Heap), prot ≤ H.length → aLim cfg prot 61 [encN x, .int .i64 (d' : Nat)] H = some (.int .i64 0, none))
    (prot : Nat) (H : Heap) (hp : prot ≤ H.length) : aLim cfg prot 61 [encN (.mk kind no sf sp least most kf kids), .int .i64 (d : Nat)] H = some (.int .i64 0, none) := by
  have hsnap : snap H [encN (.mk kind no sf sp least most kf kids), .int .i64 (d : Nat)] = some ([encN (.mk kind no sf sp least most kf kids), .int .i64 (d : Nat)], false) := by rw [encN_eq]; rfl
  cases hg with
  | mk hgk hk hl =>
  have hs1 := slF_leaf sf encG sp
  have ht1 := slF_leaf kf encN kids
  have hsl := slF_sl kf encN kids
  have hkl := fun K : Heap => hsl.len (P := Try.prog) (H := K) Try.underlying39
  have d0 : decide ((64 : Int) < (d : Nat)) = false := decide_eq_false (by omega)
  have hg0 : hget (H ++ [Blk.cells 0 [.int .i64 kind, .bool no, slF sf encG sp, .int .i64 least, .int .i64 most, slF kf encN kids]]) H.length 0 = some [.int .i64 kind, .bool no, slF sf encG sp, .int .i64 least, .int .i64 most, slF kf encN kids] := by rw [hget_new rfl, if_pos rfl]
  refine pure_slim rfl (by kernel_rfl) Try.func61 s61 hp hsnap (by simp [Try.f61]) fun fr hlen h => ?_
  simp only [Has, Nat.zero_add] at h
  obtain ⟨a0, a1, -⟩ := h
  simp only [Try.f61] at hlen ⊢
  unfold g61
  rw [encN_eq] at a0
  unfold AV.leaf at hs1 ht1
  have e10 : decide ((1 : Int) = 0) = false := rfl
  have e20 : decide ((2 : Int) = 0) = false := rfl
  have e30 : decide ((3 : Int) = 0) = false := rfl
  have e40 : decide ((4 : Int) = 0) = false := rfl
  have e21 : decide ((2 : Int) = 1) = false := rfl
  have e31 : decide ((3 : Int) = 1) = false := rfl
  have e41 : decide ((4 : Int) = 1) = false := rfl
  have e24 : decide ((2 : Int) = 4) = false := rfl
  have e34 : decide ((3 : Int) = 4) = false := rfl
  have e32 : decide ((3 : Int) = 2) = false := rfl
  have ez : decide (¬ (0 : Int) = 0) = false := rfl
  have hww : ∀ i : Nat, i < kids.length → IntKind.i64.wrap ((i : Int) + 1) = ((i + 1 : Nat) : Int) := fun i hi => by rw [wrap64 (by omega) (by omega)]; simp
  have hwd : IntKind.i64.wrap ((d : Int) + 1) = ((d + 1 : Nat) : Int) := by rw [wrap64 (by omega) (by omega)]; simp
  have hkd : ∀ x ∈ kids, ∃ n', Dep n' x ∧ d + 1 + n' ≤ 64 := fun x hx => by
    cases hd with
    | leaf => cases hx
    | mk h => exact ⟨_, h x hx, by omega⟩
  rcases hk with rfl | rfl | hk
  · simp only [wk, aBuiltin, AV.cells, AV.leaf, Nat.reduceEqDiff, Nat.reduceLT, Nat.reduceAdd, Nat.reduceLeDiff, reduceCtorEq, Nat.reduceMul, cfgP, u61, hlen, a0, a1, hs1, ht1, d0, hg0, none_beq]
    exact Fin_pure (l := [.int .i64 0]) (by simp [wk, aBuiltin, AV.cells, AV.leaf, Nat.reduceEqDiff, Nat.reduceLT, Nat.reduceAdd, Nat.reduceLeDiff, reduceCtorEq, Nat.reduceMul, cfgP, u61, aResults, aResult, hlen]) (.still rfl) (by simp)
  · simp only [wk, aBuiltin, AV.cells, AV.leaf, Nat.reduceEqDiff, Nat.reduceLT, Nat.reduceAdd, Nat.reduceLeDiff, reduceCtorEq, Nat.reduceMul, cfgP, u61, hlen, a0, a1, hs1, ht1, d0, hg0, e10, none_beq]
    exact Fin_pure (l := [.int .i64 0]) (by simp [wk, aBuiltin, AV.cells, AV.leaf, Nat.reduceEqDiff, Nat.reduceLT, Nat.reduceAdd, Nat.reduceLeDiff, reduceCtorEq, Nat.reduceMul, cfgP, u61, aResults, aResult, hlen]) (.still rfl) (by simp)
  have hk' : kind = 2 ∨ kind = 3 ∨ (kind = 4 ∧ kids.length = 1 ∧ 0 ≤ least ∧ least ≤ 16 ∧ most = -1) ∨ (kind = 4 ∧ kids.length = 1 ∧ 0 ≤ least ∧ least ≤ 16 ∧ least ≤ most ∧ most ≤ 16) := by omega
  clear hk
  rcases hk' with rfl | rfl | ⟨rfl, hk1, hk2, hk3, rfl⟩ | ⟨rfl, hk1, hk2, hk3, hk5, hk6⟩
  simp only [wk, aBuiltin, AV.cells, AV.leaf, Nat.reduceEqDiff, Nat.reduceLT, Nat.reduceAdd, Nat.reduceLeDiff, reduceCtorEq, Nat.reduceMul, cfgP, u61, hlen, a0, a1, hs1, ht1, d0, hg0, hkl, e20, e21, e24, none_beq]
  rotate_left
  simp only [wk, aBuiltin, AV.cells, AV.leaf, Nat.reduceEqDiff, Nat.reduceLT, Nat.reduceAdd, Nat.reduceLeDiff, reduceCtorEq, Nat.reduceMul, cfgP, u61, hlen, a0, a1, hs1, ht1, d0, hg0, hkl, e30, e31, e34, e32, none_beq]
  rotate_left
  have c1 : decide (¬ ((kids.length : Nat) : Int) = 1) = false := decide_eq_false (by omega)
  have c2 : decide (least < 0) = false := decide_eq_false (by omega)
  have c3 : decide (16 < least) = false := decide_eq_false (by omega)
  have c4 : decide (¬ (-1 : Int) = -1) = false := rfl
  simp only [wk, aBuiltin, AV.cells, AV.leaf, Nat.reduceEqDiff, Nat.reduceLT, Nat.reduceAdd, Nat.reduceLeDiff, reduceCtorEq, Nat.reduceMul, cfgP, u61, hlen, a0, a1, hs1, ht1, d0, hg0, hkl, e40, e41, c1, c2, c3, c4, none_beq]
  rotate_left
  have c1 : decide (¬ ((kids.length : Nat) : Int) = 1) = false := decide_eq_false (by omega)
  have c2 : decide (least < 0) = false := decide_eq_false (by omega)
  have c3 : decide (16 < least) = false := decide_eq_false (by omega)
  have c4 : decide (¬ most = -1) = true := decide_eq_true (by omega)
  have c5 : decide (most < least) = false := decide_eq_false (by omega)
  have c6 : decide (16 < most) = false := decide_eq_false (by omega)
  simp only [wk, aBuiltin, AV.cells, AV.leaf, Nat.reduceEqDiff, Nat.reduceLT, Nat.reduceAdd, Nat.reduceLeDiff, reduceCtorEq, Nat.reduceMul, cfgP, u61, hlen, a0, a1, hs1, ht1, d0, hg0, hkl, e40, e41, c1, c2, c3, c4, c5, c6, none_beq]
  rotate_left
  all_goals
    refine loop_rule (fun m fr H' => ∃ (i : Nat), m = kids.length - i ∧ i ≤ kids.length ∧ fr.length = 66 ∧ fget fr 1 = .int .i64 (d : Nat) ∧ fget fr 52 = slF kf encN kids ∧ fget fr 53 = .int .i64 kids.length ∧ fget fr 54 = .int .i64 i ∧ H.length ≤ H'.length) ?_ kids.length _ _ ⟨0, by simp [wk, aBuiltin, AV.cells, AV.leaf, Nat.reduceEqDiff, Nat.reduceLT, Nat.reduceAdd, Nat.reduceLeDiff, reduceCtorEq, Nat.reduceMul, cfgP, u61, hlen, a0, a1]⟩
    clear a0 a1 hlen fr hg0
    rintro m fr H' ⟨i, rfl, hi, hlen, a1, a52, a53, a54, hH⟩ ihl
    simp only [wk, aBuiltin, AV.cells, AV.leaf, Nat.reduceEqDiff, Nat.reduceLT, Nat.reduceAdd, Nat.reduceLeDiff, reduceCtorEq, Nat.reduceMul, cfgP, u61, hlen, a1, a52, a53, a54]
    refine RC_split (fun h => ?_) (fun h => ?_)
    · have hlt : i < kids.length := by simpa using h
      have e1 := hsl.at (P := Try.prog) (k := .i64) (i := i) Try.underlying39 sz41 encN_len hlt
      obtain ⟨n', hn', hdn'⟩ := hkd kids[i] (List.getElem_mem hlt)
      have n1 := fun (K : Heap) (hK : H.length ≤ K.length) => ih kids[i] (List.getElem_mem hlt) n' (d + 1) hn' hdn' H.length K hK
      have hww := hww i hlt
      generalize kids[i] = x at *
      obtain ⟨k', no', s, x1, x2, t, hx, hs, ht, -, -⟩ := encN_sh x
      rw [hx] at e1 n1
      simp only [AV.cells] at e1
      unfold AV.leaf at hs ht
      have hle2 : ∀ Z, H.length ≤ (H' ++ [Blk.cells 0 Z]).length := fun Z => by simp; omega
      simp only [wk, aBuiltin, AV.cells, AV.leaf, Nat.reduceEqDiff, Nat.reduceLT, Nat.reduceAdd, Nat.reduceLeDiff, reduceCtorEq, Nat.reduceMul, cfgP, u61, hlen, a1, a52, a53, a54, e1, hH, hs, ht, hle2, hwd, n1, ez, hww]
      refine ihl _ _ (kids.length - (i + 1)) (by omega) ⟨i + 1, rfl, hlt, ?_⟩
      simp [wk, aBuiltin, AV.cells, AV.leaf, Nat.reduceEqDiff, Nat.reduceLT, Nat.reduceAdd, Nat.reduceLeDiff, reduceCtorEq, Nat.reduceMul, cfgP, u61, hlen, a1, a52, a53, a54]
      omega
    · simp only [wk, aBuiltin, AV.cells, AV.leaf, Nat.reduceEqDiff, Nat.reduceLT, Nat.reduceAdd, Nat.reduceLeDiff, reduceCtorEq, Nat.reduceMul, cfgP, u61, hlen, a1, a52, a53, a54]
      exact Fin_pure (l := [.int .i64 0]) (by simp [wk, aBuiltin, AV.cells, AV.leaf, Nat.reduceEqDiff, Nat.reduceLT, Nat.reduceAdd, Nat.reduceLeDiff, reduceCtorEq, Nat.reduceMul, cfgP, u61, aResults, aResult, hlen]) (.still rfl) (by simp)
theorem may_ok : ∀ (x : Nd), Good x → ∀ (n : Nat), Dep n x → ∀ (d : Nat), d + n ≤ 64 → ∀ (prot : Nat) (H : Heap), prot ≤ H.length → aLim cfg prot 61 [encN x, .int .i64 (d : Nat)] H = some (.int .i64 0, none)
  | .mk kind no sf sp least most kf kids, hg, n, hd, d, hdn => may_step kind no sf sp least most kf kids hg n hd d hdn fun x hx n' d' h1 h2 => may_ok x (by cases hg with | mk h _ _ => exact h x hx) n' h1 d' h2
termination_by x => SizeOf.sizeOf x
decreasing_by have := List.sizeOf_lt_of_mem hx; simp; omega
end Go.Proofs.Ytoblikhnbddfmaa
