import Derived.Test.YtjhgmoaabflbfaaLabel3
/-! In whatever order pairs come, the set is the same, or none: no program in sight. -/
set_option linter.unusedSimpArgs false
namespace Go.Proofs.Ytjhgmoaabflbfaa
open Go Go.Abs

-- texts by their bytes
theorem bl_irr : ∀ a : List UInt8, Op.bytesLess a a = false
  | [] => rfl
  | x :: a => by
    have := bl_irr a
    simp [Op.bytesLess, this]
theorem bl_trans : ∀ {a b c : List UInt8}, Op.bytesLess a b = true → Op.bytesLess b c = true → Op.bytesLess a c = true
  | _, [], _, h, _ => by simp [Op.bytesLess] at h
  | _, _ :: _, [], _, h => by simp [Op.bytesLess] at h
  | [], _ :: _, _ :: _, _, _ => rfl
  | x :: a, y :: b, z :: c, h1, h2 => by
    simp only [Op.bytesLess, Bool.or_eq_true, decide_eq_true_eq, Bool.and_eq_true, beq_iff_eq] at h1 h2 ⊢
    rcases h1 with h1 | ⟨rfl, h1⟩ <;> rcases h2 with h2 | ⟨rfl, h2⟩
    · exact .inl (UInt8.lt_trans h1 h2)
    · exact .inl h1
    · exact .inl h2
    · exact .inr ⟨rfl, bl_trans h1 h2⟩
theorem bl_tri : ∀ {a b : List UInt8}, Op.bytesLess a b = false → Op.bytesLess b a = false → a = b
  | [], [], _, _ => rfl
  | [], _ :: _, h, _ => by simp [Op.bytesLess] at h
  | _ :: _, [], _, h => by simp [Op.bytesLess] at h
  | x :: a, y :: b, h1, h2 => by
    simp only [Op.bytesLess, Bool.or_eq_false_iff, decide_eq_false_iff_not, Bool.and_eq_false_iff, beq_eq_false_iff_ne] at h1 h2
    have hxy : x = y := UInt8.le_antisymm (UInt8.not_lt.1 h2.1) (UInt8.not_lt.1 h1.1)
    subst hxy
    rw [bl_tri (h1.2.resolve_left fun h => h rfl) (h2.2.resolve_left fun h => h rfl)]
theorem bl_asym {a b : List UInt8} (h : Op.bytesLess a b = true) : Op.bytesLess b a = false := by
  cases h2 : Op.bytesLess b a with
  | false => rfl
  | true => rw [← bl_irr a, bl_trans h h2]
theorem lessP_bl (x y : Pr) : lessP x y = Op.bytesLess x.name y.name := by
  unfold lessP cmpS
  cases h : Op.bytesLess x.name y.name <;> simp
  split <;> simp

/-- an element put in its place among sorted ones, that stand from the last one on. -/
def insR (x : Pr) : List Pr → List Pr
  | [] => [x]
  | y :: r => if lessP x y then y :: insR x r else x :: y :: r
theorem insR_len (x : Pr) : ∀ A, (insR x A).length = A.length + 1
  | [] => rfl
  | y :: r => by
    unfold insR
    split
    · simp [insR_len x r]
    · rfl
theorem insR_perm (x : Pr) : ∀ A, (insR x A).Perm (x :: A)
  | [] => .refl _
  | y :: r => by
    unfold insR
    split
    · exact ((insR_perm x r).cons y).trans (.swap x y r)
    · exact .refl _
theorem swap_at (P B : List Pr) (x y : Pr) : swapP (P ++ y :: x :: B) (P.length + 1) = P ++ x :: y :: B := by
  have h1 : (P ++ y :: x :: B).getD P.length default = y := by simp [List.getD]
  have h2 : (P ++ y :: x :: B).getD (P.length + 1) default = x := by simp [List.getD]
  unfold swapP
  rw [Nat.add_sub_cancel, h1, h2, List.set_append_right _ _ (by omega), Nat.add_sub_cancel_left]
  simp
theorem insGo_insR (x : Pr) (B : List Pr) : ∀ A : List Pr, insGo (A.reverse ++ x :: B) A.length = (insR x A).reverse ++ B
  | [] => rfl
  | y :: r => by
    have h1 : ((y :: r).reverse ++ x :: B) = r.reverse ++ y :: x :: B := by simp
    have h2 : (r.reverse ++ y :: x :: B).getD (r.length + 1) default = x := by
      simp [List.getD, List.getElem?_append_right]
    have h3 : (r.reverse ++ y :: x :: B).getD r.length default = y := by simp [List.getD, List.getElem?_append_right]
    have h4 := swap_at r.reverse B x y
    rw [List.length_reverse] at h4
    rw [h1, List.length_cons, insGo, h2, h3, insR]
    cases hl : lessP x y with
    | true =>
      simp only [if_true]
      rw [h4, insGo_insR x (y :: B) r]
      simp
    | false => simp
theorem outGo_insR : ∀ (B A : List Pr), outGo B.length (A.reverse ++ B) A.length = (B.foldl (fun A x => insR x A) A).reverse
  | [], A => by simp [outGo]
  | x :: B, A => by
    have := outGo_insR B (insR x A)
    rw [insR_len] at this
    rw [List.length_cons, outGo, insGo_insR, this]
    rfl
theorem isortP_eq (l : List Pr) : isortP l = (l.foldl (fun A x => insR x A) []).reverse := by
  cases l with
  | nil => rfl
  | cons x B => exact outGo_insR B [x]
def Desc (A : List Pr) : Prop := A.Pairwise fun y z => lessP y z = false
theorem insR_desc (x : Pr) : ∀ {A : List Pr}, Desc A → Desc (insR x A)
  | [], _ => List.pairwise_singleton _ _
  | y :: r, h => by
    have hyr := List.pairwise_cons.1 h
    unfold insR
    cases hl : lessP x y with
    | true =>
      refine List.pairwise_cons.2 ⟨fun z hz => ?_, insR_desc x hyr.2⟩
      rcases List.mem_cons.1 ((insR_perm x r).mem_iff.1 hz) with rfl | hz
      · rw [lessP_bl] at hl ⊢; exact bl_asym hl
      · exact hyr.1 z hz
    | false =>
      refine List.pairwise_cons.2 ⟨fun z hz => ?_, h⟩
      rcases List.mem_cons.1 hz with rfl | hz
      · exact hl
      · cases hxz : lessP x z with
        | false => rfl
        | true =>
          have h1 := hyr.1 z hz
          rw [lessP_bl] at h1 hl hxz
          -- z is not above y, y is not above x
          rcases Bool.eq_false_or_eq_true (Op.bytesLess z.name y.name) with h2 | h2
          · rw [bl_trans hxz h2] at hl; cases hl
          · rw [bl_tri h1 h2] at hl; rw [hxz] at hl; cases hl
theorem fold_desc : ∀ (l A : List Pr), Desc A → Desc (l.foldl (fun A x => insR x A) A)
  | [], _, h => h
  | x :: l, _, h => fold_desc l _ (insR_desc x h)
theorem fold_perm : ∀ (l A : List Pr), (l.foldl (fun A x => insR x A) A).Perm (l ++ A)
  | [], _ => .refl _
  | x :: l, A => (fold_perm l _).trans (((insR_perm x A).append_left l).trans List.perm_middle)
theorem isortP_perm (l : List Pr) : (isortP l).Perm l := by
  rw [isortP_eq]
  exact (List.reverse_perm _).trans (by simpa using fold_perm l [])
def Asc (l : List Pr) : Prop := l.Pairwise fun y z => lessP z y = false
theorem isortP_asc (l : List Pr) : Asc (isortP l) := by
  rw [isortP_eq]
  exact List.pairwise_reverse.2 (fold_desc l [] .nil)
theorem dup_iff : ∀ {l : List Pr}, Asc l → (dupP l = false ↔ l.Pairwise fun y z => Op.bytesLess y.name z.name = true)
  | [], _ => by simp [dupP]
  | [x], _ => by simp [dupP]
  | x :: y :: r, h => by
    have hx := List.pairwise_cons.1 h
    have ih := dup_iff hx.2
    have hxy := hx.1 y (by simp)
    rw [lessP_bl] at hxy
    constructor
    · intro hd
      simp only [dupP, Bool.or_eq_false_iff, beq_eq_false_iff_ne] at hd
      have hr := ih.1 hd.2
      have h1 : Op.bytesLess x.name y.name = true := by
        cases h2 : Op.bytesLess x.name y.name with
        | true => rfl
        | false => exact absurd (bl_tri hxy h2) hd.1
      refine List.pairwise_cons.2 ⟨fun z hz => ?_, hr⟩
      rcases List.mem_cons.1 hz with rfl | hz
      · exact h1
      · exact bl_trans h1 ((List.pairwise_cons.1 hr).1 z hz)
    · intro hp
      have hp2 := List.pairwise_cons.1 hp
      have h1 := hp2.1 y (by simp)
      simp only [dupP, Bool.or_eq_false_iff, beq_eq_false_iff_ne]
      refine ⟨fun e => ?_, ih.2 hp2.2⟩
      rw [e, bl_irr] at h1; cases h1
theorem strict_unique : ∀ {l m : List Pr}, l.Perm m → l.Pairwise (fun y z => Op.bytesLess y.name z.name = true) → m.Pairwise (fun y z => Op.bytesLess y.name z.name = true) → l = m
  | [], m, h, _, _ => by rw [List.nil_perm.1 h]
  | x :: l, [], h, _, _ => by have := h.length_eq; simp at this
  | x :: l, y :: m, h, hl, hm => by
    have hl2 := List.pairwise_cons.1 hl
    have hm2 := List.pairwise_cons.1 hm
    have hxy : x = y := by
      rcases List.mem_cons.1 (h.mem_iff.1 (List.mem_cons_self (a := x) (l := l))) with h1 | h1
      · exact h1
      · rcases List.mem_cons.1 (h.mem_iff.2 (List.mem_cons_self (a := y) (l := m))) with h2 | h2
        · exact h2.symm
        · have h3 := hm2.1 x h1
          have h4 := hl2.1 y h2
          rw [bl_asym h3] at h4; cases h4
    subst hxy
    rw [strict_unique ((List.perm_cons x).1 h) hl2.2 hm2.2]
theorem ofP_perm {l m : List Pr} (h : l.Perm m) : ofP l = ofP m := by
  have hs : (isortP l).Perm (isortP m) := (isortP_perm l).trans (h.trans (isortP_perm m).symm)
  have hb : l.any badP = m.any badP := by
    rw [Bool.eq_iff_iff, List.any_eq_true, List.any_eq_true]
    exact ⟨fun ⟨x, h1, h2⟩ => ⟨x, h.mem_iff.1 h1, h2⟩, fun ⟨x, h1, h2⟩ => ⟨x, h.mem_iff.2 h1, h2⟩⟩
  have hd : ∀ {l m : List Pr}, l.Perm m → Asc l → Asc m → dupP l = false → dupP m = false := fun {l m} hp hl hm h => by
    -- names are all different
    have h1 := (dup_iff hl).1 h
    have h2 : l.Pairwise fun y z => y.name ≠ z.name := h1.imp fun h e => by rw [e, bl_irr] at h; cases h
    have h3 : m.Pairwise fun y z => y.name ≠ z.name := (hp.pairwise_iff fun h => Ne.symm h).1 h2
    refine (dup_iff hm).2 ?_
    refine (h3.and hm).imp fun {y z} h => ?_
    have h4 := h.2
    rw [lessP_bl] at h4
    cases h5 : Op.bytesLess y.name z.name with
    | true => rfl
    | false => exact absurd (bl_tri h5 h4) h.1
  have hd2 : dupP (isortP l) = dupP (isortP m) := by
    have a1 := hd hs (isortP_asc l) (isortP_asc m)
    have a2 := hd hs.symm (isortP_asc m) (isortP_asc l)
    cases h1 : dupP (isortP l) <;> cases h2 : dupP (isortP m)
    · rfl
    · rw [a1 h1] at h2; cases h2
    · rw [a2 h2] at h1; cases h1
    · rfl
  unfold ofP
  rw [hb, hd2]
  split
  · rfl
  split
  · rfl
  · rename_i hn
    have h1 : dupP (isortP m) = false := by simpa using hn
    rw [strict_unique hs ((dup_iff (isortP_asc l)).1 (by rw [hd2]; exact h1)) ((dup_iff (isortP_asc m)).1 h1)]
end Go.Proofs.Ytjhgmoaabflbfaa
