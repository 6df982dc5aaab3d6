import Derived.Test.YtgcnpcicpogmhaaChain7
/-! Chapter 18: the plain law: on rising revisions the program's chain and the reference's agree. -/
set_option linter.unusedSimpArgs false
namespace Go.Proofs.Ytgcnpcicpogmhaa
open Go Go.Abs

theorem asc_cons {x : Ver} {t : List Ver} (h : Asc (x :: t)) : (∀ y ∈ t, x.rev < y.rev) ∧ Asc t := List.pairwise_cons.1 h
theorem upTo_zero {x : Ver} {t : List Ver} {r : Int} (h : Asc (x :: t)) (hx : ¬ x.rev ≤ r) : upTo r t = 0 := by
  unfold upTo
  rw [List.countP_eq_zero]
  intro y hy
  have := (asc_cons h).1 y hy
  simp; omega
theorem upTo_cons (x : Ver) (t : List Ver) (r : Int) : upTo r (x :: t) = upTo r t + if x.rev ≤ r then 1 else 0 := by
  simp [upTo, List.countP_cons]

theorem counts_upTo (r : Int) : ∀ (l : List Ver) (i k : Int), Asc l → counts r l i k = if upTo r l = 0 then k else i + upTo r l - 1
  | [], i, k, _ => by simp [counts, upTo]
  | x :: t, i, k, h => by
    have ih := counts_upTo r t (i + 1) (if x.rev ≤ r then i else k) (asc_cons h).2
    rw [counts, ih, upTo_cons]
    by_cases hx : x.rev ≤ r
    · simp only [hx, if_true]
      by_cases hz : upTo r t = 0
      · simp [hz]
      · rw [if_neg hz, if_neg (by omega)]; omega
    · simp [hx, upTo_zero h hx]

theorem compactFrom_past (K : Int) : ∀ (l : List Ver) (i : Int), K < i → compactFrom K l i = l
  | [], _, _ => rfl
  | x :: t, i, h => by rw [compactFrom, if_pos (.inl h), compactFrom_past K t (i + 1) (by omega)]
theorem compactFrom_at : ∀ (l : List Ver) (i : Int) (n : Nat) (hn : n < l.length), compactFrom (i + n) l i = if l[n].gone then l.drop (n + 1) else l.drop n
  | x :: t, i, 0, _ => by
    have e := compactFrom_past (i + (0 : Nat)) t (i + 1) (by omega)
    simp only [compactFrom, e]
    cases hg : x.gone <;> simp [hg]
  | x :: t, i, n + 1, hn => by
    have ih := compactFrom_at t (i + 1) n (by simpa using hn)
    have e : i + ((n + 1 : Nat) : Int) = i + 1 + (n : Nat) := by omega
    rw [e, compactFrom, if_neg (by omega), ih]
    simp

theorem compact_eq {l : List Ver} (r : Int) (h : Asc l) : compactFrom (counts r l 0 (-1)) l 0 = l.drop (pSpare l r) := by
  rw [counts_upTo r l 0 (-1) h]
  unfold pSpare
  by_cases hz : upTo r l = 0
  · rw [if_pos hz, if_pos hz, compactFrom_past _ _ _ (by omega)]
    simp
  · have hle := upTo_le r l
    have hj : upTo r l - 1 < l.length := by omega
    rw [if_neg hz, if_neg hz, List.getElem?_eq_getElem hj]
    have e : (0 : Int) + (upTo r l : Int) - 1 = 0 + ((upTo r l - 1 : Nat) : Int) := by omega
    rw [e, compactFrom_at l 0 _ hj]
    have e2 : upTo r l - 1 + 1 = upTo r l := by omega
    rw [e2]
    cases hg : l[upTo r l - 1].gone <;> simp [hg]

theorem at_eq {l : List Ver} (r : Int) (h : Asc l) : pAt l r = refAt l r := by
  have hle := upTo_le r l
  unfold pAt refAt
  rw [counts_upTo r l 0 (-1) h]
  by_cases hz : upTo r l = 0
  · simp only [hz, if_true]
    split
    · rfl
    · rfl
  · have hj : upTo r l - 1 < l.length := by omega
    have e : ((0 : Int) + (upTo r l : Int) - 1).toNat = upTo r l - 1 := by omega
    simp only [hz, if_false, e, List.getElem?_eq_getElem hj]
    have e2 : ¬ ((0 : Int) + (upTo r l : Int) - 1 < 0) := by omega
    simp only [e2, false_or]

theorem asc_last {l : List Ver} (h : Asc l) {y : Ver} (hy : l.getLast? = some y) : ∀ x ∈ l, x.rev ≤ y.rev := by
  intro x hx
  obtain ⟨i, hi, rfl⟩ := List.getElem_of_mem hx
  rw [List.getLast?_eq_getElem?] at hy
  obtain ⟨hj, rfl⟩ := List.getElem?_eq_some_iff.1 hy
  by_cases hij : i = l.length - 1
  · subst hij; omega
  · have := List.pairwise_iff_getElem.1 h i (l.length - 1) hi hj (by omega)
    omega

theorem put_eq {l : List Ver} (x : Ver) (h : Asc l) : pPut l x = refPut l x := by
  unfold pPut refPut
  by_cases hk : x.rev < 1 ∨ 9007199254740991 < x.rev
  · rw [if_pos hk, if_pos hk]
  · rw [if_neg hk, if_neg hk]
    cases hl : l.getLast? with
    | none =>
      have : l = [] := by simpa using hl
      subst this
      simp
    | some y =>
      have hm := asc_last h hl
      have hy : y ∈ l := List.mem_of_getLast? hl
      by_cases hle : x.rev ≤ y.rev
      · have : l.any (fun z => decide (x.rev ≤ z.rev)) = true := List.any_eq_true.2 ⟨y, hy, by simpa using hle⟩
        simp [hle, this]
      · have : ¬ l.any (fun z => decide (x.rev ≤ z.rev)) = true := by
          rw [List.any_eq_true]
          rintro ⟨z, hz, hzx⟩
          have := hm z hz
          have : x.rev ≤ z.rev := by simpa using hzx
          omega
        rw [if_neg this]
        simp [hle]

theorem put_asc {l : List Ver} {x : Ver} (h : Asc l) (hp : pPut l x = 0) : Asc (l ++ [x]) := by
  unfold Asc
  rw [List.pairwise_append]
  refine ⟨h, by simp, fun a ha b hb => ?_⟩
  have hb : b = x := by simpa using hb
  subst hb
  unfold pPut at hp
  split at hp
  · cases hp
  · cases hl : l.getLast? with
    | none =>
      have : l = [] := by simpa using hl
      subst this; cases ha
    | some y =>
      rw [hl] at hp
      have := asc_last h hl a ha
      simp only at hp
      split at hp
      · cases hp
      · omega

theorem asc_drop {l : List Ver} (h : Asc l) (k : Nat) : Asc (l.drop k) := List.Pairwise.sublist (List.drop_sublist k l) h

theorem upTo_drop (r : Int) : ∀ (l : List Ver) (k : Nat), Asc l → upTo r (l.drop k) = upTo r l - k
  | [], k, _ => by simp [upTo]
  | x :: t, 0, _ => by simp
  | x :: t, k + 1, h => by
    have ih := upTo_drop r t k (asc_cons h).2
    rw [List.drop_succ_cons, ih, upTo_cons]
    by_cases hx : x.rev ≤ r
    · simp [hx]
    · simp [hx, upTo_zero h hx]

theorem upTo_mono {r s : Int} (h : r ≤ s) (l : List Ver) : upTo r l ≤ upTo s l := by
  unfold upTo
  refine List.countP_mono_left fun x _ hx => ?_
  have : x.rev ≤ r := by simpa using hx
  simp; omega

theorem spare_spare {l : List Ver} (r : Int) (h : Asc l) : pSpare (l.drop (pSpare l r)) r = 0 := by
  have hle := upTo_le r l
  have hd := upTo_drop r l (pSpare l r) h
  by_cases hz : upTo r l = 0
  · have e : pSpare l r = 0 := by simp [pSpare, hz]
    rw [e]
    simpa using e
  · have hj : upTo r l - 1 < l.length := by omega
    have e : pSpare l r = if l[upTo r l - 1].gone then upTo r l else upTo r l - 1 := by
      unfold pSpare; rw [if_neg hz, List.getElem?_eq_getElem hj]
    cases hg : l[upTo r l - 1].gone with
    | true =>
      have e : pSpare l r = upTo r l := by rw [e, hg]; rfl
      rw [e] at hd ⊢
      rw [Nat.sub_self] at hd
      simp [pSpare, hd]
    | false =>
      have e : pSpare l r = upTo r l - 1 := by rw [e, hg]; rfl
      rw [e] at hd ⊢
      have hd : upTo r (l.drop (upTo r l - 1)) = 1 := by omega
      unfold pSpare
      rw [hd]
      simp only [Nat.sub_self, List.getElem?_drop, Nat.add_zero, List.getElem?_eq_getElem hj, hg]
      simp

theorem at_kept {l : List Ver} {r s : Int} (h : Asc l) (hrs : r ≤ s) : pAt (l.drop (pSpare l r)) s = pAt l s := by
  have hle := upTo_le r l
  have hls := upTo_le s l
  have hm := upTo_mono hrs l
  have hd := upTo_drop s l (pSpare l r) h
  by_cases hz : upTo r l = 0
  · have e : pSpare l r = 0 := by simp [pSpare, hz]
    rw [e]; simp
  · have hj : upTo r l - 1 < l.length := by omega
    have hj2 : upTo s l - 1 < l.length := by omega
    have e : pSpare l r = if l[upTo r l - 1].gone then upTo r l else upTo r l - 1 := by
      unfold pSpare; rw [if_neg hz, List.getElem?_eq_getElem hj]
    have big : pSpare l r < upTo s l → pAt (l.drop (pSpare l r)) s = pAt l s := fun hb => by
      unfold pAt
      rw [hd, if_neg (by omega), if_neg (by omega), List.getElem?_drop]
      have : pSpare l r + (upTo s l - pSpare l r - 1) = upTo s l - 1 := by omega
      rw [this]
    cases hg : l[upTo r l - 1].gone with
    | true =>
      have e : pSpare l r = upTo r l := by rw [e, hg]; rfl
      by_cases hb : pSpare l r < upTo s l
      · exact big hb
      · have e2 : upTo s l = upTo r l := by omega
        unfold pAt
        rw [hd, if_pos (by omega), if_neg (by omega)]
        rw [e2, List.getElem?_eq_getElem hj]
        simp [hg]
    | false =>
      have e : pSpare l r = upTo r l - 1 := by rw [e, hg]; rfl
      exact big (by omega)
end Go.Proofs.Ytgcnpcicpogmhaa
