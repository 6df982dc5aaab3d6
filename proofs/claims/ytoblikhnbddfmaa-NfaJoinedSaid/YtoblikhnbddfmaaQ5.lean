import Derived.Test.YtoblikhnbddfmaaQ4
/-! Chapter 16: expressions of two expressions: plain. -/
set_option linter.unusedSimpArgs false
namespace Go.Proofs.Ytoblikhnbddfmaa
open Go Go.Abs AbsSeat Ty

theorem pk_left {a b : List Int} {i : Nat} (h : i < a.length) : pk (a ++ b) i = pk a i := by
  unfold pk; simp [List.getD, List.getElem?_append_left h]
theorem pk_right (a b : List Int) (i : Nat) : pk (a ++ b) (a.length + i) = pk b i := by
  unfold pk; simp [List.getD, List.getElem?_append_right (Nat.le_add_right a.length i)]
theorem pk_cons (c : Int) (l : List Int) (i : Nat) : pk (c :: l) (1 + i) = pk l i := by
  unfold pk; simp [List.getD, Nat.add_comm 1 i]
/-- a group. -/
theorem group_piece {l m : List Int} (hl : Runes l) {o kx : Nat} (h : Loc l m (o + 1) 41) (h40 : pk m o = 40) (hx : (eitherS l kx 0 0 []).ok = true) (hat : (eitherS l kx 0 0 []).at_ = l.length) (hn : ∀ c : Int, c = 43 ∨ c = 42 ∨ c = 63 ∨ c = 123 → pk m (o + l.length + 2) ≠ c) :
    ∀ k d, (pieceS m k o d).ok = true → pieceS m k o d = ⟨(eitherS l kx 0 0 []).n, o + l.length + 2, true⟩ := by
  intro k d hok
  cases k with
  | zero => simp [pieceS] at hok
  | succ k =>
    have hA : (atomS m k o d).ok = true := by
      refine Classical.byContradiction fun hn => ?_
      rw [pieceS] at hok
      try dsimp only at hok
      rw [if_neg hn] at hok
      exact hn hok
    have hAe : atomS m k o d = ⟨(eitherS l kx 0 0 []).n, o + l.length + 2, true⟩ := by
      cases k with
      | zero => simp [atomS] at hA
      | succ k =>
        rw [atomS] at hA ⊢
        dsimp only at hA ⊢
        rw [if_pos h40] at hA ⊢
        by_cases d1 : 16 ≤ d
        · rw [if_pos d1] at hA; cases hA
        rw [if_neg d1] at hA ⊢
        by_cases o1 : (eitherS m k (o + 1) (d + 1) []).ok = true
        · have hd := (read_loc hl h kx).2.2.2 k 0 0 (d + 1) [] (Nat.zero_le _) hx o1 (.inr (by decide))
          have n1 : (eitherS m k (o + 1) (d + 1) []).n = (eitherS l kx 0 0 []).n := hd.1
          have n2 : (eitherS m k (o + 1) (d + 1) []).at_ = o + 1 + l.length := by have := hd.2; rw [hat] at this; exact this
          rw [if_pos o1, if_pos (by rw [n2]; exact h.fin), n1, n2]
          exact congrArg (fun z => Rd.mk _ z true) (by omega)
        · rw [if_neg o1] at hA; cases hA
    rw [pieceS]
    try dsimp only
    rw [if_pos hA, hAe]
    dsimp only
    rw [if_neg (hn 43 (by simp)), if_neg (hn 42 (by simp)), if_neg (hn 63 (by simp)), if_neg (hn 123 (by simp))]
/-- the one in a group, behind the other one in a group. -/
theorem par_two {lx ly : List Int} (hlx : Runes lx) (hly : Runes ly) {kx ky K : Nat} (hx : (eitherS lx kx 0 0 []).ok = true) (hxa : (eitherS lx kx 0 0 []).at_ = lx.length) (hy : (eitherS ly ky 0 0 []).ok = true) (hya : (eitherS ly ky 0 0 []).at_ = ly.length)
    (hm : (eitherS (40 :: (lx ++ 41 :: 40 :: (ly ++ [41]))) K 0 0 []).ok = true) : (eitherS (40 :: (lx ++ 41 :: 40 :: (ly ++ [41]))) K 0 0 []).n = .mk 2 false false [] 0 0 false [(eitherS lx kx 0 0 []).n, (eitherS ly ky 0 0 []).n] := by
  generalize hmm : (40 : Int) :: (lx ++ 41 :: 40 :: (ly ++ [41])) = m at *
  have p0 : pk m 0 = 40 := by rw [← hmm]; rfl
  have pA : ∀ i, pk m (1 + (lx.length + i)) = pk (41 :: 40 :: (ly ++ [41])) i := fun i => by rw [← hmm, pk_cons, pk_right]
  have L1 : Loc lx m (0 + 1) 41 := ⟨fun i hi => by rw [← hmm, pk_cons, pk_left hi], by have := pA 0; rw [Nat.add_zero] at this; rw [Nat.zero_add, this]; rfl, .inr (.inl rfl)⟩
  have p2 : pk m (lx.length + 2) = 40 := by have := pA 1; rw [show lx.length + 2 = 1 + (lx.length + 1) by omega, this]; rfl
  have pB : ∀ i, pk m (lx.length + 2 + 1 + i) = pk (ly ++ [41]) i := fun i => by
    have := pA (1 + (1 + i))
    rw [show lx.length + 2 + 1 + i = 1 + (lx.length + (1 + (1 + i))) by omega, this, pk_cons, pk_cons]
  have L2 : Loc ly m (lx.length + 2 + 1) 41 := ⟨fun i hi => by rw [pB, pk_left hi], by rw [pB]; have := pk_right ly [41] 0; rw [Nat.add_zero] at this; rw [this]; rfl, .inr (.inl rfl)⟩
  have pE : pk m (lx.length + 2 + ly.length + 2) = -1 := by
    rw [← hmm]; refine pk_ge ?_
    simp; omega
  have g1 := group_piece hlx L1 p0 hx hxa (fun c hc => by rw [Nat.zero_add, p2]; omega)
  have g2 := group_piece hly L2 p2 hy hya (fun c hc => by rw [pE]; omega)
  rw [Nat.zero_add] at g1
  cases K with
  | zero => simp [eitherS] at hm
  | succ K =>
    rw [eitherS] at hm ⊢
    try dsimp only at hm ⊢
    have hcc : ∀ k, (concatS m k 0 0 []).ok = true → concatS m k 0 0 [] = ⟨conN [(eitherS lx kx 0 0 []).n, (eitherS ly ky 0 0 []).n], lx.length + 2 + ly.length + 2, true⟩ := fun k hk => by
      cases k with
      | zero => simp [concatS] at hk
      | succ k =>
        rw [concatS] at hk ⊢
        try dsimp only at hk ⊢
        rw [if_neg (by rw [p0]; decide)] at hk ⊢
        by_cases o1 : (pieceS m k 0 0).ok = true
        · have e1 := g1 k 0 o1
          rw [if_pos o1] at hk ⊢
          rw [e1] at hk ⊢
          dsimp only at hk ⊢
          cases k with
          | zero => simp [concatS] at hk
          | succ k =>
            rw [concatS] at hk ⊢
            try dsimp only at hk ⊢
            rw [if_neg (by rw [p2]; decide)] at hk ⊢
            by_cases o2 : (pieceS m k (lx.length + 2) 0).ok = true
            · have e2 := g2 k 0 o2
              rw [if_pos o2] at hk ⊢
              rw [e2] at hk ⊢
              dsimp only at hk ⊢
              cases k with
              | zero => simp [concatS] at hk
              | succ k =>
                rw [concatS]
                rw [if_pos (.inl pE)]
                rfl
            · rw [if_neg o2] at hk; exact absurd hk o2
        · rw [if_neg o1] at hk; exact absurd hk o1
    by_cases o1 : (concatS m K 0 0 []).ok = true
    · rw [if_pos o1, hcc K o1]
      dsimp only
      rw [if_neg (by rw [pE]; decide)]
      rfl
    · rw [if_neg o1] at hm; exact absurd hm o1
/-- the one or the other one. -/
theorem or_two {lx ly : List Int} (hlx : Runes lx) (hly : Runes ly) {kx ky K : Nat} (hx : (eitherS lx kx 0 0 []).ok = true) (hxa : (eitherS lx kx 0 0 []).at_ = lx.length) (hy : (eitherS ly ky 0 0 []).ok = true)
    (hm : (eitherS (lx ++ 124 :: ly) K 0 0 []).ok = true) : ∃ A B : List Nd, A ≠ [] ∧ B ≠ [] ∧ (eitherS lx kx 0 0 []).n = eitN A ∧ (eitherS ly ky 0 0 []).n = eitN B ∧ (eitherS (lx ++ 124 :: ly) K 0 0 []).n = eitN (A ++ B) := by
  generalize hmm : lx ++ 124 :: ly = m at *
  have L1 : Loc lx m 0 124 := ⟨fun i hi => by rw [← hmm, Nat.zero_add, pk_left hi], by have := pk_right lx (124 :: ly) 0; rw [Nat.add_zero] at this; rw [← hmm, Nat.zero_add, this]; rfl, .inr (.inr rfl)⟩
  have pB : ∀ i, pk m (lx.length + 1 + i) = pk ly i := fun i => by rw [← hmm, show lx.length + 1 + i = lx.length + (1 + i) by omega, pk_right, pk_cons]
  have L2 : Loc ly m (lx.length + 1) (-1) := ⟨fun i _ => pB i, by rw [pB, pk_ge (Nat.le_refl _)], .inl rfl⟩
  obtain ⟨A, k2, h1, h2, h3⟩ := either_more hlx L1 kx K 0 0 0 [] [] (Nat.zero_le _) hx hxa hm
  obtain ⟨B, h4, h5⟩ := either_acc ly ky 0 0 [] hy
  have h3' : eitherS m K 0 0 [] = eitherS m k2 (lx.length + 1) 0 A := by
    have := h3
    rw [show 0 + lx.length + 1 = lx.length + 1 by omega, List.nil_append] at this
    exact this
  have hyA := h5 A
  have hm2 : (eitherS m k2 (lx.length + 1 + 0) 0 A).ok = true := by rw [Nat.add_zero, ← h3']; exact hm
  have hd := (read_loc hly L2 ky).2.2.2 k2 0 0 0 A (Nat.zero_le _) (by rw [hyA]) hm2 (.inr (by decide))
  refine ⟨A, B, h1, h4, by rw [h2 []]; rfl, by rw [h5 []]; rfl, ?_⟩
  rw [h3']
  have := hd.1
  rw [Nat.add_zero] at this
  rw [this, hyA]
/-- what a text that is an expression was. -/
theorem parse_inv (s : List UInt8) (hs : s.length ≤ 1000) (h : (parseU s).2 = 0) : ∃ l, runesU s = some l ∧ Runes l ∧ (eitherS l (5 * l.length + 4) 0 0 []).ok = true ∧ (eitherS l (5 * l.length + 4) 0 0 []).at_ = l.length ∧ (parseU s).1 = (eitherS l (5 * l.length + 4) 0 0 []).n := by
  unfold parseU at h ⊢
  cases hr : runesU s with
  | none => rw [hr] at h; cases h
  | some l =>
    have hro := runesU_ok s.length s l (Nat.le_refl _) hr
    rw [hr] at h
    have h : (parseL l).2 = 0 := h
    refine ⟨l, rfl, ⟨by omega, hro.2⟩, ?_⟩
    show (eitherS l (5 * l.length + 4) 0 0 []).ok = true ∧ _ ∧ (parseL l).1 = _
    unfold parseL at h ⊢
    dsimp only at h ⊢
    split at h
    · rename_i h1
      split at h
      · cases h
      · rename_i h2
        rw [if_pos h1, if_neg h2]
        exact ⟨h1.1, h1.2, rfl⟩
    · cases h
theorem runes40 : runesU [40] = some [40] := by
  have hn : nextU [40] = (40, 1, 0) := by decide
  rw [runesU, if_neg (by simp), dif_pos (by rw [hn]), hn]
  simp [runesU_nil]
theorem runes4140 : runesU [41, 40] = some [41, 40] := by
  have hn : nextU [41, 40] = (41, 1, 0) := by decide
  rw [runesU, if_neg (by simp), dif_pos (by rw [hn]), hn]
  simp [runes40]
theorem runes41 : runesU [41] = some [41] := by
  have hn : nextU [41] = (41, 1, 0) := by decide
  rw [runesU, if_neg (by simp), dif_pos (by rw [hn]), hn]
  simp [runesU_nil]
theorem runes124 : runesU [124] = some [124] := by
  have hn : nextU [124] = (124, 1, 0) := by decide
  rw [runesU, if_neg (by simp), dif_pos (by rw [hn]), hn]
  simp [runesU_nil]
theorem runes_app {s t : List UInt8} {a b : List Int} (h1 : runesU s = some a) (h2 : runesU t = some b) : runesU (s ++ t) = some (a ++ b) := by
  rw [runesU_app s.length s t a (Nat.le_refl _) h1, h2]; rfl
/-- an expression behind another one. -/
theorem parse_par (x y : List UInt8) (hx : x.length ≤ 100) (hy : y.length ≤ 100) (h1 : (parseU x).2 = 0) (h2 : (parseU y).2 = 0) (h3 : (parseU ([40] ++ x ++ [41, 40] ++ y ++ [41])).2 = 0) :
    (parseU ([40] ++ x ++ [41, 40] ++ y ++ [41])).1 = .mk 2 false false [] 0 0 false [(parseU x).1, (parseU y).1] := by
  obtain ⟨lx, x1, x2, x3, x4, x5⟩ := parse_inv x (by omega) h1
  obtain ⟨ly, y1, y2, y3, y4, y5⟩ := parse_inv y (by omega) h2
  obtain ⟨m, m1, m2, m3, m4, m5⟩ := parse_inv _ (by simp; omega) h3
  have hm := runes_app (runes_app (runes_app (runes_app runes40 x1) runes4140) y1) runes41
  rw [hm] at m1
  have e : [40] ++ lx ++ [41, 40] ++ ly ++ [41] = (40 : Int) :: (lx ++ 41 :: 40 :: (ly ++ [41])) := by simp
  rw [e] at m1
  cases m1
  rw [m5, x5, y5]
  exact par_two x2 y2 x3 x4 y3 y4 m3
theorem parse_or (x y : List UInt8) (hx : x.length ≤ 100) (hy : y.length ≤ 100) (h1 : (parseU x).2 = 0) (h2 : (parseU y).2 = 0) (h3 : (parseU (x ++ [124] ++ y)).2 = 0) :
    ∃ A B : List Nd, A ≠ [] ∧ B ≠ [] ∧ (parseU x).1 = eitN A ∧ (parseU y).1 = eitN B ∧ (parseU (x ++ [124] ++ y)).1 = eitN (A ++ B) := by
  obtain ⟨lx, x1, x2, x3, x4, x5⟩ := parse_inv x (by omega) h1
  obtain ⟨ly, y1, y2, y3, y4, y5⟩ := parse_inv y (by omega) h2
  obtain ⟨m, m1, m2, m3, m4, m5⟩ := parse_inv _ (by simp; omega) h3
  have hm := runes_app (runes_app x1 runes124) y1
  rw [hm] at m1
  have e : lx ++ [124] ++ ly = lx ++ (124 : Int) :: ly := by simp
  rw [e] at m1
  cases m1
  rw [m5, x5, y5]
  exact or_two x2 y2 x3 x4 y3 m3
end Go.Proofs.Ytoblikhnbddfmaa
