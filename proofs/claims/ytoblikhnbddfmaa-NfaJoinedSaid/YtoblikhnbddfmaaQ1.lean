import Derived.Test.YtoblikhnbddfmaaN7
/-! Chapter 16: a node's states elsewhere: plain. -/
set_option linter.unusedSimpArgs false
namespace Go.Proofs.Ytoblikhnbddfmaa
open Go Go.Abs AbsSeat Ty

/-- a number of a state, here and elsewhere. -/
def Rv (b b2 : Nat) (to to2 : Int) (n : Nat) (v v2 : Int) : Prop := (v = to ∧ v2 = to2) ∨ ((b : Int) ≤ v ∧ v < n ∧ v2 = v - b + b2)
theorem Rv.up {b b2 : Nat} {to to2 : Int} {n m : Nat} {v v2 : Int} (h : Rv b b2 to to2 n v v2) (hn : n ≤ m) : Rv b b2 to to2 m v v2 := by
  rcases h with h | ⟨h1, h2, h3⟩
  · exact .inl h
  · exact .inr ⟨h1, by omega, h3⟩
def EqS (b b2 : Nat) (to to2 : Int) (n : Nat) (s s2 : St) : Prop := s.kind = s2.kind ∧ s.no = s2.no ∧ s.sp = s2.sp ∧ (s.kind = 1 ∨ s.kind = 2) ∧ Rv b b2 to to2 n s.one s2.one ∧ (s.kind = 2 → Rv b b2 to to2 n s.two s2.two)
/-- the same states, from two places on. -/
def RelL (b b2 : Nat) (to to2 : Int) (A A2 : List St) : Prop := b ≤ A.length ∧ A.length + b2 = A2.length + b ∧ ∀ i, b + i < A.length → ∃ s s2, A[b + i]? = some s ∧ A2[b2 + i]? = some s2 ∧ EqS b b2 to to2 A.length s s2
theorem EqS.up {b b2 : Nat} {to to2 : Int} {n m : Nat} {s s2 : St} (h : EqS b b2 to to2 n s s2) (hn : n ≤ m) : EqS b b2 to to2 m s s2 := by
  obtain ⟨h1, h2, h3, h4, h5, h6⟩ := h
  exact ⟨h1, h2, h3, h4, h5.up hn, fun hk => (h6 hk).up hn⟩
def Pre (L A : List St) : Prop := ∀ (i : Nat) (s : St), L[i]? = some s → A[i]? = some s
theorem Pre.refl (L : List St) : Pre L L := fun _ _ h => h
theorem Pre.trans {L A B : List St} (h : Pre L A) (k : Pre A B) : Pre L B := fun i s hs => k i s (h i s hs)
theorem Pre.app (L X : List St) : Pre L (L ++ X) := fun i s hs => by
  have := (List.getElem?_eq_some_iff.1 hs).1
  rw [List.getElem?_append_left this]; exact hs
theorem RelL.nil (L L2 : List St) (to to2 : Int) : RelL L.length L2.length to to2 L L2 := ⟨Nat.le_refl _, Nat.add_comm _ _, fun i hi => by omega⟩
theorem Rv.out {b b2 c c2 : Nat} {to to2 t t2 v v2 : Int} {n m : Nat} (h : Rv c c2 t t2 n v v2) (hb : b ≤ c) (hc : c + b2 = c2 + b) (ht : Rv b b2 to to2 m t t2) (hm : m ≤ n) : Rv b b2 to to2 n v v2 := by
  rcases h with ⟨rfl, rfl⟩ | ⟨h1, h2, h3⟩
  · exact ht.up hm
  · exact .inr ⟨by omega, h2, by omega⟩
theorem EqS.out {b b2 c c2 : Nat} {to to2 t t2 : Int} {n m : Nat} {s s2 : St} (h : EqS c c2 t t2 n s s2) (hb : b ≤ c) (hc : c + b2 = c2 + b) (ht : Rv b b2 to to2 m t t2) (hm : m ≤ n) : EqS b b2 to to2 n s s2 := by
  obtain ⟨h1, h2, h3, h4, h5, h6⟩ := h
  exact ⟨h1, h2, h3, h4, h5.out hb hc ht hm, fun hk => (h6 hk).out hb hc ht hm⟩
/-- one piece behind another one. -/
theorem RelL.comp {b b2 : Nat} {to to2 t t2 : Int} {A A2 B B2 : List St} (h : RelL b b2 to to2 A A2) (hA : Pre A B) (hA2 : Pre A2 B2) (ht : Rv b b2 to to2 A.length t t2) (k : RelL A.length A2.length t t2 B B2) : RelL b b2 to to2 B B2 := by
  obtain ⟨h1, h2, h3⟩ := h
  obtain ⟨k1, k2, k3⟩ := k
  refine ⟨by omega, by omega, fun i hi => ?_⟩
  by_cases hc : b + i < A.length
  · obtain ⟨s, s2, e1, e2, e3⟩ := h3 i hc
    exact ⟨s, s2, hA _ _ e1, hA2 _ _ e2, e3.up k1⟩
  · obtain ⟨s, s2, e1, e2, e3⟩ := k3 (b + i - A.length) (by omega)
    refine ⟨s, s2, ?_, ?_, e3.out h1 h2 ht k1⟩
    · rw [show b + i = A.length + (b + i - A.length) by omega]; exact e1
    · rw [show b2 + i = A2.length + (b + i - A.length) by omega]; exact e2
/-- one more state. -/
theorem RelL.snoc {b b2 : Nat} {to to2 : Int} {A A2 : List St} (h : RelL b b2 to to2 A A2) {s s2 : St} (hs : EqS b b2 to to2 (A.length + 1) s s2) : RelL b b2 to to2 (A ++ [s]) (A2 ++ [s2]) := by
  obtain ⟨h1, h2, h3⟩ := h
  refine ⟨by simp; omega, by simp; omega, fun i hi => ?_⟩
  rw [List.length_append, List.length_singleton] at hi
  by_cases hc : b + i < A.length
  · obtain ⟨t, t2, e1, e2, e3⟩ := h3 i hc
    exact ⟨t, t2, Pre.app A _ _ _ e1, Pre.app A2 _ _ _ e2, e3.up (by simp)⟩
  · refine ⟨s, s2, ?_, ?_, by rw [List.length_append]; exact hs⟩
    · rw [show b + i = A.length by omega]; simp
    · rw [show b2 + i = A2.length by omega]; simp
theorem RelL.at {b b2 : Nat} {to to2 : Int} {A A2 : List St} (h : RelL b b2 to to2 A A2) : Rv b b2 to to2 (A.length + 1) (A.length : Nat) (A2.length : Nat) := .inr ⟨by have := h.1; omega, by omega, by have := h.2.1; omega⟩
/-- what a maker's function does is the same everywhere. -/
def Mov (f : List St → Int → List St × Int) : Prop := ∀ (L L2 : List St) (to to2 : Int), RelL L.length L2.length to to2 (f L to).1 (f L2 to2).1 ∧ Rv L.length L2.length to to2 (f L to).1.length (f L to).2 (f L2 to2).2 ∧ Pre L (f L to).1
theorem repK_mov {f : List St → Int → List St × Int} (hf : Mov f) : ∀ n : Nat, Mov (repK f n)
  | 0 => fun L L2 to to2 => ⟨RelL.nil _ _ _ _, .inl ⟨rfl, rfl⟩, Pre.refl _⟩
  | n + 1 => fun L L2 to to2 => by
    obtain ⟨h1, h2, h3⟩ := hf L L2 to to2
    obtain ⟨_, _, h3'⟩ := hf L2 L2 to2 to2
    obtain ⟨k1, k2, k3⟩ := repK_mov hf n (f L to).1 (f L2 to2).1 (f L to).2 (f L2 to2).2
    obtain ⟨_, _, k3'⟩ := repK_mov hf n (f L2 to2).1 (f L2 to2).1 (f L2 to2).2 (f L2 to2).2
    rw [repK, repK]
    exact ⟨h1.comp k3 k3' h2 k1, k2.out h1.1 h1.2.1 h2 k1.1, h3.trans k3⟩
/-- what is there already, and leads to a place. -/
theorem optK_mov {f : List St → Int → List St × Int} (hf : Mov f) {b b2 : Nat} {to to2 : Int} : ∀ (n : Nat) (L L2 : List St) (a a2 : Int), RelL b b2 to to2 L L2 → Rv b b2 to to2 L.length a a2 →
    RelL b b2 to to2 (optK f to n L a).1 (optK f to2 n L2 a2).1 ∧ Rv b b2 to to2 (optK f to n L a).1.length (optK f to n L a).2 (optK f to2 n L2 a2).2 ∧ Pre L (optK f to n L a).1 ∧ Pre L2 (optK f to2 n L2 a2).1
  | 0, L, L2, a, a2, h, k => ⟨h, k, Pre.refl _, Pre.refl _⟩
  | n + 1, L, L2, a, a2, h, k => by
    obtain ⟨h1, h2, h3⟩ := hf L L2 a a2
    obtain ⟨_, _, h3'⟩ := hf L2 L2 a2 a2
    have c1 := h.comp h3 h3' k h1
    have c2 := h2.out h.1 h.2.1 k h1.1
    have c3 := c1.snoc (s := ⟨2, false, [], (f L a).2, to⟩) (s2 := ⟨2, false, [], (f L2 a2).2, to2⟩) ⟨rfl, rfl, rfl, .inr rfl, c2.up (Nat.le_succ _), fun _ => .inl ⟨rfl, rfl⟩⟩
    obtain ⟨k1, k2, k3, k4⟩ := optK_mov hf n _ _ ((f L a).1.length : Nat) ((f L2 a2).1.length : Nat) c3 (by rw [List.length_append]; exact c1.at)
    rw [optK, optK]
    exact ⟨k1, k2, (h3.trans (Pre.app _ _)).trans k3, (h3'.trans (Pre.app _ _)).trans k4⟩
theorem setOne_get : ∀ (l : List St) (i : Nat) (v : Int) (j : Nat), (setOne l i v)[j]? = if j = i then (l[j]?).map (fun s => ⟨s.kind, s.no, s.sp, v, s.two⟩) else l[j]?
  | [], i, v, j => by simp [setOne]
  | s :: r, 0, v, j => by
    cases j with
    | zero => simp [setOne]
    | succ j => simp [setOne]
  | s :: r, i + 1, v, j => by
    cases j with
    | zero => simp [setOne]
    | succ j => rw [setOne]; simp [setOne_get r i v j]
theorem repS_mov {f : List St → Int → List St × Int} (hf : Mov f) (least most : Int) : Mov (repS f least most) := fun L L2 to to2 => by
  unfold repS
  by_cases h1 : most = -1
  · rw [if_pos h1, if_pos h1]
    have a := hf (L ++ [⟨2, false, [], 0, to⟩]) (L2 ++ [⟨2, false, [], 0, to2⟩]) (L.length : Nat) (L2.length : Nat)
    have a' := hf (L2 ++ [⟨2, false, [], 0, to2⟩]) (L2 ++ [⟨2, false, [], 0, to2⟩]) (L2.length : Nat) (L2.length : Nat)
    generalize f (L ++ [⟨2, false, [], 0, to⟩]) (L.length : Nat) = w at *
    generalize f (L2 ++ [⟨2, false, [], 0, to2⟩]) (L2.length : Nat) = w2 at *
    obtain ⟨⟨r1, r2, r3⟩, rv, rp⟩ := a
    obtain ⟨-, -, rp2⟩ := a'
    rw [List.length_append, List.length_append, List.length_singleton, List.length_singleton] at *
    have rvo : Rv L.length L2.length to to2 w.1.length w.2 w2.2 := by
      rcases rv with ⟨q1, q2⟩ | ⟨q1, q3, q2⟩
      · rw [q1, q2]; exact .inr ⟨by omega, by omega, by omega⟩
      · exact .inr ⟨by omega, q3, by omega⟩
    have hsl : Rv L.length L2.length to to2 w.1.length (L.length : Nat) (L2.length : Nat) := .inr ⟨by omega, by omega, by omega⟩
    have hrel : RelL L.length L2.length to to2 (setOne w.1 L.length w.2) (setOne w2.1 L2.length w2.2) := by
      refine ⟨by rw [setOne_len]; omega, by rw [setOne_len, setOne_len]; omega, fun i hi => ?_⟩
      rw [setOne_len] at hi
      rw [setOne_get, setOne_get]
      by_cases hi0 : i = 0
      · subst hi0
        have e1 := rp L.length ⟨2, false, [], 0, to⟩ (by simp)
        have e2 := rp2 L2.length ⟨2, false, [], 0, to2⟩ (by simp)
        refine ⟨⟨2, false, [], w.2, to⟩, ⟨2, false, [], w2.2, to2⟩, ?_, ?_, rfl, rfl, rfl, .inr rfl, by rw [setOne_len]; exact rvo, fun _ => .inl ⟨rfl, rfl⟩⟩
        · rw [Nat.add_zero, if_pos rfl, e1]; rfl
        · rw [Nat.add_zero, if_pos rfl, e2]; rfl
      · obtain ⟨s, s2, e1, e2, e3⟩ := r3 (i - 1) (by omega)
        rw [show L.length + 1 + (i - 1) = L.length + i by omega] at e1
        rw [show L2.length + 1 + (i - 1) = L2.length + i by omega] at e2
        refine ⟨s, s2, by rw [if_neg (by omega)]; exact e1, by rw [if_neg (by omega)]; exact e2, ?_⟩
        rw [setOne_len]
        exact e3.out (by omega) (by omega) hsl (Nat.le_refl _)
    have hpre : ∀ (X : List St) (tt : Int) (q : List St × Int), Pre (X ++ [⟨2, false, [], 0, tt⟩]) q.1 → Pre X (setOne q.1 X.length q.2) := fun X tt q hp i s hs => by
      have hlt := (List.getElem?_eq_some_iff.1 hs).1
      rw [setOne_get, if_neg (by omega)]
      exact hp i s (Pre.app X _ i s hs)
    by_cases h2 : least = 0
    · rw [if_pos h2, if_pos h2]
      exact ⟨hrel, by rw [setOne_len]; exact hsl, hpre L to w rp⟩
    · rw [if_neg h2, if_neg h2]
      obtain ⟨k1, k2, k3⟩ := repK_mov hf (least - 1).toNat (setOne w.1 L.length w.2) (setOne w2.1 L2.length w2.2) w.2 w2.2
      obtain ⟨_, _, k3'⟩ := repK_mov hf (least - 1).toNat (setOne w2.1 L2.length w2.2) (setOne w2.1 L2.length w2.2) w2.2 w2.2
      have rvo' : Rv L.length L2.length to to2 (setOne w.1 L.length w.2).length w.2 w2.2 := by rw [setOne_len]; exact rvo
      exact ⟨hrel.comp k3 k3' rvo' k1, k2.out hrel.1 hrel.2.1 rvo' k1.1, (hpre L to w rp).trans k3⟩
  · rw [if_neg h1, if_neg h1]
    obtain ⟨o1, o2, o3, o4⟩ := optK_mov hf (most - least).toNat L L2 to to2 (RelL.nil _ _ to to2) (.inl ⟨rfl, rfl⟩)
    obtain ⟨k1, k2, k3⟩ := repK_mov hf least.toNat (optK f to (most - least).toNat L to).1 (optK f to2 (most - least).toNat L2 to2).1 (optK f to (most - least).toNat L to).2 (optK f to2 (most - least).toNat L2 to2).2
    obtain ⟨_, _, k3'⟩ := repK_mov hf least.toNat (optK f to2 (most - least).toNat L2 to2).1 (optK f to2 (most - least).toNat L2 to2).1 (optK f to2 (most - least).toNat L2 to2).2 (optK f to2 (most - least).toNat L2 to2).2
    exact ⟨o1.comp k3 k3' o2 k1, k2.out o1.1 o1.2.1 o2 k1.1, o3.trans k3⟩
mutual
theorem mkN_mov : ∀ x : Nd, Mov (mkN x)
  | .mk kind no sf sp least most kf kids => fun L L2 to to2 => by
    rw [mkN.eq_def, mkN.eq_def]
    dsimp only
    by_cases h1 : kind = 1
    · rw [if_pos h1, if_pos h1]
      exact ⟨(RelL.nil L L2 to to2).snoc ⟨rfl, rfl, rfl, .inl rfl, .inl ⟨rfl, rfl⟩, fun h => by cases h⟩, by rw [List.length_append]; exact (RelL.nil L L2 to to2).at, Pre.app _ _⟩
    · rw [if_neg h1, if_neg h1]
      by_cases h2 : kind = 2
      · rw [if_pos h2, if_pos h2]; exact mkC_mov kids L L2 to to2
      · rw [if_neg h2, if_neg h2]
        by_cases h3 : kind = 3
        · rw [if_pos h3, if_pos h3]; exact mkE_mov kids L L2 to to2
        · rw [if_neg h3, if_neg h3]
          by_cases h4 : kind = 4
          · rw [if_pos h4, if_pos h4]
            match kids with
            | [] => exact ⟨RelL.nil _ _ _ _, .inl ⟨rfl, rfl⟩, Pre.refl _⟩
            | [x] => exact repS_mov (mkN_mov x) least most L L2 to to2
            | x :: y :: r => exact ⟨RelL.nil _ _ _ _, .inl ⟨rfl, rfl⟩, Pre.refl _⟩
          · rw [if_neg h4, if_neg h4]
            exact ⟨RelL.nil _ _ _ _, .inl ⟨rfl, rfl⟩, Pre.refl _⟩
theorem mkC_mov : ∀ kids : List Nd, Mov (mkC kids)
  | [] => fun L L2 to to2 => by
    rw [mkC, mkC]; exact ⟨RelL.nil _ _ _ _, .inl ⟨rfl, rfl⟩, Pre.refl _⟩
  | x :: r => fun L L2 to to2 => by
    rw [mkC, mkC]
    obtain ⟨h1, h2, h3⟩ := mkC_mov r L L2 to to2
    obtain ⟨k1, k2, k3⟩ := mkN_mov x (mkC r L to).1 (mkC r L2 to2).1 (mkC r L to).2 (mkC r L2 to2).2
    obtain ⟨_, _, k3'⟩ := mkN_mov x (mkC r L2 to2).1 (mkC r L2 to2).1 (mkC r L2 to2).2 (mkC r L2 to2).2
    exact ⟨h1.comp k3 k3' h2 k1, k2.out h1.1 h1.2.1 h2 k1.1, h3.trans k3⟩
theorem mkE_mov : ∀ kids : List Nd, Mov (mkE kids)
  | [] => fun L L2 to to2 => by
    rw [mkE, mkE]; exact ⟨RelL.nil _ _ _ _, .inl ⟨rfl, rfl⟩, Pre.refl _⟩
  | x :: r => fun L L2 to to2 => by
    rw [mkE, mkE]
    obtain ⟨h1, h2, h3⟩ := mkE_mov r L L2 to to2
    obtain ⟨k1, k2, k3⟩ := mkN_mov x (mkE r L to).1 (mkE r L2 to2).1 to to2
    obtain ⟨_, _, k3'⟩ := mkN_mov x (mkE r L2 to2).1 (mkE r L2 to2).1 to2 to2
    have ht : Rv L.length L2.length to to2 (mkE r L to).1.length to to2 := .inl ⟨rfl, rfl⟩
    have c1 := h1.comp k3 k3' ht k1
    have c2 := k2.out h1.1 h1.2.1 ht k1.1
    split
    · exact ⟨c1, c2, h3.trans k3⟩
    · exact ⟨c1.snoc ⟨rfl, rfl, rfl, .inr rfl, c2.up (Nat.le_succ _), fun _ => h2.up (by have := k1.1; omega)⟩, by rw [List.length_append]; exact c1.at, (h3.trans k3).trans (Pre.app _ _)⟩
end
end Go.Proofs.Ytoblikhnbddfmaa
