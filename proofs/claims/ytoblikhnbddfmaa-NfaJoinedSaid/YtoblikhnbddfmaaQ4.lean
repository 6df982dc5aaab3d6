import Derived.Test.YtoblikhnbddfmaaQ3
/-! Chapter 15: an expression within another one is read as alone: plain. -/
set_option linter.unusedSimpArgs false
namespace Go.Proofs.Ytoblikhnbddfmaa
open Go Go.Abs AbsSeat Ty

/-- a text stands in another one, with its end before what ends an expression. -/
structure Loc (l m : List Int) (o : Nat) (e : Int) : Prop where
  get : ∀ i, i < l.length → pk m (o + i) = pk l i
  fin : pk m (o + l.length) = e
  ends : e = -1 ∨ e = 41 ∨ e = 124
theorem Loc.iff {l m : List Int} {o : Nat} {e : Int} (h : Loc l m o e) {i : Nat} (hi : i ≤ l.length) {c : Int} (h1 : c ≠ -1) (h2 : c ≠ 41) (h3 : c ≠ 124) : pk m (o + i) = c ↔ pk l i = c := by
  by_cases hl : i < l.length
  · rw [h.get i hl]
  · have : i = l.length := by omega
    subst this
    rw [h.fin, pk_ge (Nat.le_refl _)]
    have := h.ends
    omega
theorem Loc.dig {l m : List Int} {o : Nat} {e : Int} (h : Loc l m o e) {i : Nat} (hi : i ≤ l.length) : dgC (pk m (o + i)) = dgC (pk l i) ∧ (dgC (pk l i) = true → i < l.length ∧ pk m (o + i) = pk l i) := by
  by_cases hl : i < l.length
  · rw [h.get i hl]; exact ⟨rfl, fun _ => ⟨hl, rfl⟩⟩
  · have : i = l.length := by omega
    subst this
    rw [h.fin, pk_ge (Nat.le_refl _)]
    have h1 : dgC (-1) = false := by decide
    refine ⟨?_, fun h2 => by rw [h1] at h2; cases h2⟩
    rcases h.ends with h2 | h2 | h2 <;> rw [h2] <;> decide
theorem num_loc {l m : List Int} {o : Nat} {e : Int} (h : Loc l m o e) {i : Nat} (hi : i ≤ l.length) : numL m (o + i) = numL l i ∧ numV m (o + i) = numV l i ∧ numB m (o + i) = numB l i := by
  have h1 := h.dig hi
  have a : numL m (o + i) = numL l i ∧ numV m (o + i) = numV l i := by
    unfold numL numV
    rw [h1.1]
    cases hd : dgC (pk l i) with
    | false => exact ⟨rfl, rfl⟩
    | true =>
      obtain ⟨hlt, he⟩ := h1.2 hd
      have h2 := h.dig (i := i + 1) (by omega)
      rw [show o + i + 1 = o + (i + 1) by omega, h2.1, he]
      cases hd2 : dgC (pk l (i + 1)) with
      | false => exact ⟨rfl, rfl⟩
      | true => rw [(h2.2 hd2).2]; exact ⟨rfl, rfl⟩
  refine ⟨a.1, a.2, ?_⟩
  unfold numB
  rw [a.1, a.2]
theorem times_loc {l m : List Int} {o : Nat} {e : Int} (h : Loc l m o e) {i : Nat} (hi : i ≤ l.length) (hok : (timesS l i).ok = true) : timesS m (o + i) = ⟨(timesS l i).lo, (timesS l i).hi, true, o + (timesS l i).at_⟩ := by
  have hn := num_loc h hi
  have hin := numL_in (l := l) hi
  unfold timesS at hok ⊢
  dsimp only at hok ⊢
  rw [hn.1, hn.2.1, hn.2.2]
  rw [show o + i + numL l i = o + (i + numL l i) by omega]
  generalize i + numL l i = j at *
  cases hb : numB l i with
  | false => rw [hb] at hok; cases hok
  | true =>
    rw [hb] at hok
    simp only [if_true] at hok ⊢
    have e44 := h.iff (i := j) hin (c := 44) (by decide) (by decide) (by decide)
    have e125 := h.iff (i := j) hin (c := 125) (by decide) (by decide) (by decide)
    by_cases h44 : pk l j = 44
    · rw [if_pos h44] at hok ⊢
      rw [if_pos (e44.2 h44)]
      have hj1 := pk_in (l := l) (i := j) (by rw [h44]; decide)
      have f125 := h.iff (i := j + 1) (by omega) (c := 125) (by decide) (by decide) (by decide)
      rw [show o + j + 1 = o + (j + 1) by omega]
      by_cases h5 : pk l (j + 1) = 125
      · rw [if_pos h5, if_pos (f125.2 h5)]
        exact congrArg (Tm.mk _ _ _) (show o + j + 2 = o + (j + 2) by omega)
      · rw [if_neg h5] at hok ⊢
        rw [if_neg (fun q => h5 (f125.1 q))]
        have hn2 := num_loc h (i := j + 1) (by omega)
        have hin2 := numL_in (l := l) (i := j + 1) (by omega)
        rw [hn2.1, hn2.2.1, hn2.2.2]
        split at hok
        · rename_i h6
          rw [if_pos h6]
          have g125 := h.iff (i := j + 1 + numL l (j + 1)) hin2 (c := 125) (by decide) (by decide) (by decide)
          rw [show o + (j + 1) + numL l (j + 1) = o + (j + 1 + numL l (j + 1)) by omega]
          split at hok
          · rename_i h7
            rw [if_pos (g125.2 h7), if_pos h6, if_pos h7]
            exact congrArg (Tm.mk _ _ _) (show o + (j + 1 + numL l (j + 1)) + 1 = o + (j + 1 + numL l (j + 1) + 1) by omega)
          · cases hok
        · cases hok
    · rw [if_neg h44] at hok ⊢
      rw [if_neg (fun q => h44 (e44.1 q))]
      split at hok
      · rename_i h5
        rw [if_pos (e125.2 h5), if_pos h5]
        exact congrArg (Tm.mk _ _ _) (show o + j + 1 = o + (j + 1) by omega)
      · cases hok
theorem esc_neg : (escS (-1)).2 = false := by decide
theorem classGo_loc {l m : List Int} (hl : Runes l) {o : Nat} {e : Int} (h : Loc l m o e) : ∀ (k k' j : Nat) (acc : List Sg), j ≤ l.length → (classGo l k j acc).2.2 = true → (classGo m k' (o + j) acc).2.2 = true → (classGo m k' (o + j) acc).1 = (classGo l k j acc).1 ∧ (classGo m k' (o + j) acc).2.1 = o + (classGo l k j acc).2.1
  | 0, k', j, acc, hj, h1, h2 => by rw [classGo] at h1; cases h1
  | k + 1, 0, j, acc, hj, h1, h2 => by rw [classGo] at h2; cases h2
  | k + 1, k' + 1, j, acc, hj, h1, h2 => by
    have hjl : j < l.length := by
      refine Classical.byContradiction fun hn => ?_
      have hp : pk l j = -1 := pk_ge (by omega)
      rw [classGo, hp] at h1
      simp at h1
    have hg := h.get j hjl
    have hnn := hl.2 _ (List.getElem_mem hjl)
    rw [← pk_lt hjl] at hnn
    rw [classGo] at h1 h2 ⊢
    rw [classGo]
    rw [hg] at h2 ⊢
    by_cases c1 : pk l j = 93
    · rw [if_pos c1, if_pos c1]; exact ⟨rfl, by show o + j + 1 = o + (j + 1); omega⟩
    rw [if_neg c1] at h1 h2 ⊢
    rw [if_neg c1]
    by_cases c2 : pk l j = 92
    · rw [if_pos c2] at h1 h2 ⊢
      rw [if_pos c2]
      cases he : (escS (pk l (j + 1))).2 with
      | false => rw [he] at h1; cases h1
      | true =>
        have hj1 : j + 1 < l.length := pk_in fun q => by rw [q, esc_neg] at he; cases he
        have hg1 := h.get (j + 1) hj1
        rw [show o + j + 1 = o + (j + 1) by omega, hg1] at h2 ⊢
        rw [he] at h1 h2 ⊢
        simp only [if_true] at h1 h2 ⊢
        rw [show o + j + 2 = o + (j + 2) by omega] at h2 ⊢
        exact classGo_loc hl h k k' (j + 2) _ (by omega) h1 h2
    rw [if_neg c2] at h1 h2 ⊢
    rw [if_neg c2]
    by_cases c3 : pk l j = -1 ∨ hasS cls1 (pk l j) = true
    · rw [if_pos c3] at h1; cases h1
    rw [if_neg c3] at h1 h2 ⊢
    rw [if_neg c3]
    have h45 := h.iff (i := j + 1) (by omega) (c := 45) (by decide) (by decide) (by decide)
    rw [show o + j + 1 = o + (j + 1) by omega] at h2 ⊢
    by_cases c4 : pk l (j + 1) = 45
    · have hj1 := pk_in (l := l) (i := j + 1) (by rw [c4]; decide)
      rw [if_pos c4] at h1 ⊢
      rw [if_pos (h45.2 c4)] at h2 ⊢
      by_cases c5 : pk l (j + 2) < pk l j ∨ hasS cls2 (pk l (j + 2)) = true
      · rw [if_pos c5] at h1; cases h1
      · rw [if_neg c5] at h1 ⊢
        have hj2 : j + 2 < l.length := pk_in fun q => c5 (.inl (by rw [q]; omega))
        have hg2 := h.get (j + 2) hj2
        rw [show o + j + 2 = o + (j + 2) by omega, hg2, if_neg c5] at h2 ⊢
        rw [show o + j + 3 = o + (j + 3) by omega] at h2 ⊢
        exact classGo_loc hl h k k' (j + 3) _ (by omega) h1 h2
    · rw [if_neg c4] at h1 ⊢
      rw [if_neg (fun q => c4 (h45.1 q))] at h2 ⊢
      exact classGo_loc hl h k k' (j + 1) _ (by omega) h1 h2
/-- read alike, from two places on. -/
def Dt (o : Nat) (r r' : Rd) : Prop := r'.n = r.n ∧ r'.at_ = o + r.at_
theorem class_loc {l m : List Int} (hl : Runes l) {o : Nat} {e : Int} (h : Loc l m o e) (j : Nat) (hj : j ≤ l.length) (h1 : (classS l j).ok = true) (h2 : (classS m (o + j)).ok = true) : Dt o (classS l j) (classS m (o + j)) := by
  have h94 := h.iff hj (c := 94) (by decide) (by decide) (by decide)
  unfold classS at h1 h2 ⊢
  dsimp only at h1 h2 ⊢
  simp only [Bool.and_eq_true] at h1 h2
  by_cases c : pk l j = 94
  · have hjl := pk_in (l := l) (i := j) (by rw [c]; decide)
    have c' := h94.2 c
    rw [if_pos c] at h1
    rw [if_pos c'] at h2
    rw [show o + j + 1 = o + (j + 1) by omega] at h2
    have := classGo_loc hl h _ _ (j + 1) [] (by omega) h1.1 h2.1
    unfold Dt
    dsimp only
    rw [if_pos c, if_pos c', show o + j + 1 = o + (j + 1) by omega, this.1, this.2, decide_eq_true c, decide_eq_true c']
    exact ⟨rfl, rfl⟩
  · have c' : ¬ pk m (o + j) = 94 := fun q => c (h94.1 q)
    rw [if_neg c] at h1
    rw [if_neg c'] at h2
    have := classGo_loc hl h _ _ j [] hj h1.1 h2.1
    unfold Dt
    dsimp only
    rw [if_neg c, if_neg c', this.1, this.2, decide_eq_false c, decide_eq_false c']
    exact ⟨rfl, rfl⟩
theorem read_loc {l m : List Int} (hl : Runes l) {o : Nat} {e : Int} (h : Loc l m o e) : ∀ k : Nat, (∀ k' j d d', j ≤ l.length → (atomS l k j d).ok = true → (atomS m k' (o + j) d').ok = true → Dt o (atomS l k j d) (atomS m k' (o + j) d')) ∧
    (∀ k' j d d', j ≤ l.length → (pieceS l k j d).ok = true → (pieceS m k' (o + j) d').ok = true → Dt o (pieceS l k j d) (pieceS m k' (o + j) d')) ∧
    (∀ k' j d d' acc, j ≤ l.length → (concatS l k j d acc).ok = true → (concatS m k' (o + j) d' acc).ok = true → Dt o (concatS l k j d acc) (concatS m k' (o + j) d' acc)) ∧
    (∀ k' j d d' acc, j ≤ l.length → (eitherS l k j d acc).ok = true → (eitherS m k' (o + j) d' acc).ok = true → ((eitherS l k j d acc).at_ < l.length ∨ e ≠ 124) → Dt o (eitherS l k j d acc) (eitherS m k' (o + j) d' acc))
  | 0 => ⟨fun k' j d d' _ h1 => by simp [atomS] at h1, fun k' j d d' _ h1 => by simp [pieceS] at h1, fun k' j d d' acc _ h1 => by simp [concatS] at h1, fun k' j d d' acc _ h1 => by simp [eitherS] at h1⟩
  | k + 1 => by
    obtain ⟨ha, hp, hc, he⟩ := read_loc hl h k
    obtain ⟨ia, ip, ic, ie⟩ := readS_in l k
    refine ⟨fun k' j d d' hj h1 h2 => ?_, fun k' j d d' hj h1 h2 => ?_, fun k' j d d' acc hj h1 h2 => ?_, fun k' j d d' acc hj h1 h2 h3 => ?_⟩
    · cases k' with
      | zero => simp [atomS] at h2
      | succ k' =>
        have hjl : j < l.length := by
          refine Classical.byContradiction fun hn => ?_
          have hp : pk l j = -1 := pk_ge (by omega)
          rw [atomS, hp] at h1
          simp at h1
        have hg := h.get j hjl
        rw [atomS] at h1 h2 ⊢
        rw [atomS]
        rw [hg] at h2 ⊢
        dsimp only at h1 h2 ⊢
        by_cases c1 : pk l j = 40
        · rw [if_pos c1] at h1 h2 ⊢
          rw [if_pos c1]
          by_cases d1 : 16 ≤ d
          · rw [if_pos d1] at h1; cases h1
          by_cases d2 : 16 ≤ d'
          · rw [if_pos d2] at h2; cases h2
          rw [if_neg d1] at h1 ⊢
          rw [if_neg d2] at h2 ⊢
          rw [show o + j + 1 = o + (j + 1) by omega] at h2 ⊢
          by_cases o1 : (eitherS l k (j + 1) (d + 1) []).ok = true
          · rw [if_pos o1] at h1 ⊢
            by_cases o2 : (eitherS m k' (o + (j + 1)) (d' + 1) []).ok = true
            · rw [if_pos o2] at h2 ⊢
              by_cases c41 : pk l (eitherS l k (j + 1) (d + 1) []).at_ = 41
              · have hin := pk_in (l := l) (i := (eitherS l k (j + 1) (d + 1) []).at_) (by rw [c41]; decide)
                have := he k' (j + 1) (d + 1) (d' + 1) [] (by omega) o1 o2 (.inl hin)
                have c41' : pk m (eitherS m k' (o + (j + 1)) (d' + 1) []).at_ = 41 := by rw [this.2, h.get _ hin]; exact c41
                rw [if_pos c41, if_pos c41']
                exact ⟨this.1, by show (eitherS m k' (o + (j + 1)) (d' + 1) []).at_ + 1 = _; rw [this.2]; rfl⟩
              · rw [if_neg c41] at h1; cases h1
            · rw [if_neg o2] at h2; cases h2
          · rw [if_neg o1] at h1; cases h1
        rw [if_neg c1] at h1 h2 ⊢
        rw [if_neg c1]
        by_cases c2 : pk l j = 91
        · rw [if_pos c2] at h1 h2 ⊢
          rw [if_pos c2]
          rw [show o + j + 1 = o + (j + 1) by omega] at h2 ⊢
          exact class_loc hl h (j + 1) (by omega) h1 h2
        rw [if_neg c2] at h1 h2 ⊢
        rw [if_neg c2]
        by_cases c3 : pk l j = 46
        · rw [if_pos c3, if_pos c3]; exact ⟨rfl, by show o + j + 1 = o + (j + 1); omega⟩
        rw [if_neg c3] at h1 h2 ⊢
        rw [if_neg c3]
        by_cases c4 : pk l j = 92
        · rw [if_pos c4] at h1 h2 ⊢
          rw [if_pos c4]
          have hj1 : j + 1 < l.length := pk_in fun q => by
            have h1 : (escS (pk l (j + 1))).2 = true := h1
            rw [q, esc_neg] at h1; cases h1
          have hg1 := h.get (j + 1) hj1
          rw [show o + j + 1 = o + (j + 1) by omega, hg1]
          exact ⟨rfl, by show o + j + 2 = o + (j + 2); omega⟩
        · rw [if_neg c4, if_neg c4]; exact ⟨rfl, by show o + j + 1 = o + (j + 1); omega⟩
    · cases k' with
      | zero => simp [pieceS] at h2
      | succ k' =>
        rw [pieceS] at h1 h2 ⊢
        rw [pieceS]
        try dsimp only at h1 h2 ⊢
        by_cases o1 : (atomS l k j d).ok = true
        · by_cases o2 : (atomS m k' (o + j) d').ok = true
          · have hd := ha k' j d d' hj o1 o2
            have hin := ia j d o1
            rw [if_pos o1] at h1 ⊢
            rw [if_pos o2] at h2 ⊢
            obtain ⟨n1, n2⟩ := hd
            rw [n1, n2] at h2 ⊢
            have i43 := h.iff hin.2 (c := 43) (by decide) (by decide) (by decide)
            have i42 := h.iff hin.2 (c := 42) (by decide) (by decide) (by decide)
            have i63 := h.iff hin.2 (c := 63) (by decide) (by decide) (by decide)
            have i123 := h.iff hin.2 (c := 123) (by decide) (by decide) (by decide)
            simp only [i43, i42, i63, i123] at h2 ⊢
            by_cases c1 : pk l (atomS l k j d).at_ = 43
            · rw [if_pos c1, if_pos c1]; exact ⟨rfl, by show o + _ + 1 = o + (_ + 1); omega⟩
            rw [if_neg c1] at h1 h2 ⊢
            rw [if_neg c1]
            by_cases c2 : pk l (atomS l k j d).at_ = 42
            · rw [if_pos c2, if_pos c2]; exact ⟨rfl, by show o + _ + 1 = o + (_ + 1); omega⟩
            rw [if_neg c2] at h1 h2 ⊢
            rw [if_neg c2]
            by_cases c3 : pk l (atomS l k j d).at_ = 63
            · rw [if_pos c3, if_pos c3]; exact ⟨rfl, by show o + _ + 1 = o + (_ + 1); omega⟩
            rw [if_neg c3] at h1 h2 ⊢
            rw [if_neg c3]
            by_cases c4 : pk l (atomS l k j d).at_ = 123
            · rw [if_pos c4] at h1 h2 ⊢
              rw [if_pos c4]
              have hlt := pk_in (l := l) (i := (atomS l k j d).at_) (by rw [c4]; decide)
              have ht := times_loc h (i := (atomS l k j d).at_ + 1) (by omega) h1
              rw [show o + (atomS l k j d).at_ + 1 = o + ((atomS l k j d).at_ + 1) by omega, ht]
              exact ⟨rfl, rfl⟩
            · rw [if_neg c4, if_neg c4]; exact ⟨n1, n2⟩
          · rw [if_neg o2] at h2; exact absurd h2 o2
        · rw [if_neg o1] at h1; exact absurd h1 o1
    · cases k' with
      | zero => simp [concatS] at h2
      | succ k' =>
        rw [concatS] at h1 h2 ⊢
        rw [concatS]
        try dsimp only at h1 h2 ⊢
        have hstop : (pk m (o + j) = -1 ∨ pk m (o + j) = 124 ∨ pk m (o + j) = 41) ↔ (pk l j = -1 ∨ pk l j = 124 ∨ pk l j = 41) := by
          by_cases hlt : j < l.length
          · rw [h.get j hlt]
          · have : j = l.length := by omega
            subst this
            rw [h.fin, pk_ge (Nat.le_refl _)]
            have := h.ends
            omega
        by_cases c1 : pk l j = -1 ∨ pk l j = 124 ∨ pk l j = 41
        · rw [if_pos c1, if_pos (hstop.2 c1)]; exact ⟨rfl, rfl⟩
        · rw [if_neg c1] at h1 ⊢
          rw [if_neg (fun q => c1 (hstop.1 q))] at h2 ⊢
          by_cases o1 : (pieceS l k j d).ok = true
          · by_cases o2 : (pieceS m k' (o + j) d').ok = true
            · have hd := hp k' j d d' hj o1 o2
              have hin := ip j d o1
              rw [if_pos o1] at h1 ⊢
              rw [if_pos o2] at h2 ⊢
              obtain ⟨n1, n2⟩ := hd
              rw [n1, n2] at h2 ⊢
              exact hc k' _ d d' _ hin.2 h1 h2
            · rw [if_neg o2] at h2; exact absurd h2 o2
          · rw [if_neg o1] at h1; exact absurd h1 o1
    · cases k' with
      | zero => simp [eitherS] at h2
      | succ k' =>
        rw [eitherS] at h1 h2 h3 ⊢
        rw [eitherS]
        try dsimp only at h1 h2 h3 ⊢
        by_cases o1 : (concatS l k j d []).ok = true
        · by_cases o2 : (concatS m k' (o + j) d' []).ok = true
          · have hd := hc k' j d d' [] hj o1 o2
            have hin := ic j d [] hj o1
            rw [if_pos o1] at h1 h3 ⊢
            rw [if_pos o2] at h2 ⊢
            obtain ⟨n1, n2⟩ := hd
            rw [n1, n2] at h2 ⊢
            by_cases c1 : pk l (concatS l k j d []).at_ = 124
            · have hlt := pk_in (l := l) (i := (concatS l k j d []).at_) (by rw [c1]; decide)
              rw [if_pos c1] at h1 h3 ⊢
              rw [if_pos (by rw [h.get _ hlt]; exact c1)] at h2 ⊢
              rw [show o + (concatS l k j d []).at_ + 1 = o + ((concatS l k j d []).at_ + 1) by omega] at h2 ⊢
              exact he k' _ d d' _ (by omega) h1 h2 h3
            · rw [if_neg c1] at h1 h3 ⊢
              have c1' : ¬ pk m (o + (concatS l k j d []).at_) = 124 := by
                by_cases hlt : (concatS l k j d []).at_ < l.length
                · rw [h.get _ hlt]; exact c1
                · have he2 : (concatS l k j d []).at_ = l.length := by omega
                  rw [he2, h.fin]
                  rcases h3 with h3 | h3
                  · exact absurd h3 hlt
                  · exact h3
              rw [if_neg c1']
              exact ⟨rfl, rfl⟩
          · rw [if_neg o2] at h2; exact absurd h2 o2
        · rw [if_neg o1] at h1; exact absurd h1 o1
/-- what comes ahead changes nothing of what alternatives are. -/
theorem either_acc (l : List Int) : ∀ (k j d : Nat) (acc : List Nd), (eitherS l k j d acc).ok = true → ∃ A : List Nd, A ≠ [] ∧ ∀ acc2, eitherS l k j d acc2 = ⟨eitN (acc2 ++ A), (eitherS l k j d acc).at_, true⟩
  | 0, j, d, acc, h => by simp [eitherS] at h
  | k + 1, j, d, acc, h => by
    rw [eitherS] at h
    try dsimp only at h
    by_cases o1 : (concatS l k j d []).ok = true
    · rw [if_pos o1] at h
      by_cases c1 : pk l (concatS l k j d []).at_ = 124
      · rw [if_pos c1] at h
        obtain ⟨A, h1, h2⟩ := either_acc l k _ d _ h
        refine ⟨(concatS l k j d []).n :: A, by simp, fun acc2 => ?_⟩
        rw [eitherS, eitherS]
        try dsimp only
        rw [if_pos o1, if_pos c1, if_pos o1, if_pos c1, h2]
        simp
      · refine ⟨[(concatS l k j d []).n], by simp, fun acc2 => ?_⟩
        rw [eitherS, eitherS]
        try dsimp only
        rw [if_pos o1, if_neg c1, if_pos o1, if_neg c1]
    · rw [if_neg o1] at h; exact absurd h o1
/-- alternatives ahead of others. -/
theorem either_more {l m : List Int} (hl : Runes l) {o : Nat} (h : Loc l m o 124) : ∀ (k k' j d d' : Nat) (acc acc2 : List Nd), j ≤ l.length → (eitherS l k j d acc).ok = true → (eitherS l k j d acc).at_ = l.length → (eitherS m k' (o + j) d' acc2).ok = true →
    ∃ (A : List Nd) (k2 : Nat), A ≠ [] ∧ (∀ acc3, eitherS l k j d acc3 = ⟨eitN (acc3 ++ A), l.length, true⟩) ∧ eitherS m k' (o + j) d' acc2 = eitherS m k2 (o + l.length + 1) d' (acc2 ++ A)
  | 0, k', j, d, d', acc, acc2, _, h1, _, _ => by simp [eitherS] at h1
  | k + 1, 0, j, d, d', acc, acc2, _, _, _, h2 => by simp [eitherS] at h2
  | k + 1, k' + 1, j, d, d', acc, acc2, hj, h1, h3, h2 => by
    obtain ⟨_, _, hc, _⟩ := read_loc hl h k
    obtain ⟨_, _, ic, _⟩ := readS_in l k
    rw [eitherS] at h1 h2 h3
    try dsimp only at h1 h2 h3
    by_cases o1 : (concatS l k j d []).ok = true
    · by_cases o2 : (concatS m k' (o + j) d' []).ok = true
      · obtain ⟨n1, n2⟩ := hc k' j d d' [] hj o1 o2
        have hin := ic j d [] hj o1
        rw [if_pos o1] at h1 h3
        rw [if_pos o2, n1, n2] at h2
        have hm : eitherS m (k' + 1) (o + j) d' acc2 = if pk m (o + (concatS l k j d []).at_) = 124 then eitherS m k' (o + (concatS l k j d []).at_ + 1) d' (acc2 ++ [(concatS l k j d []).n]) else ⟨eitN (acc2 ++ [(concatS l k j d []).n]), o + (concatS l k j d []).at_, true⟩ := by
          rw [eitherS]
          try dsimp only
          rw [if_pos o2, n1, n2]
        by_cases c1 : pk l (concatS l k j d []).at_ = 124
        · have hlt := pk_in (l := l) (i := (concatS l k j d []).at_) (by rw [c1]; decide)
          have c1' : pk m (o + (concatS l k j d []).at_) = 124 := by rw [h.get _ hlt]; exact c1
          rw [if_pos c1] at h1 h3
          rw [if_pos c1'] at h2 hm
          rw [show o + (concatS l k j d []).at_ + 1 = o + ((concatS l k j d []).at_ + 1) by omega] at h2 hm
          obtain ⟨A, k2, q1, q2, q3⟩ := either_more hl h k k' _ d d' _ _ (by omega) h1 h3 h2
          refine ⟨(concatS l k j d []).n :: A, k2, by simp, fun acc3 => ?_, ?_⟩
          · rw [eitherS]
            try dsimp only
            rw [if_pos o1, if_pos c1, q2]
            simp
          · rw [hm, q3]; simp
        · rw [if_neg c1] at h1 h3
          have he : (concatS l k j d []).at_ = l.length := h3
          have c1' : pk m (o + (concatS l k j d []).at_) = 124 := by rw [he, h.fin]
          rw [if_pos c1'] at hm
          refine ⟨[(concatS l k j d []).n], k', by simp, fun acc3 => ?_, ?_⟩
          · rw [eitherS]
            try dsimp only
            rw [if_pos o1, if_neg c1, he]
          · rw [hm, he]
      · rw [if_neg o2] at h2; exact absurd h2 o2
    · rw [if_neg o1] at h1; exact absurd h1 o1
end Go.Proofs.Ytoblikhnbddfmaa
