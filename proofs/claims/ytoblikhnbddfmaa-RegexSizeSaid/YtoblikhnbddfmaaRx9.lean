import Derived.Test.YtoblikhnbddfmaaRx8
/-! Chapter 15: Parse, walked. -/
set_option linter.unusedSimpArgs false
namespace Go.Proofs.Ytoblikhnbddfmaa
open Go Go.Abs AbsSeat Ty

theorem good_zero : Good ndZ := .mk (fun x h => by cases h) (.inl rfl) (by simp)
theorem good_rune (no sf : Bool) (sp : List Sg) : Good (.mk 1 no sf sp 0 0 false []) := .mk (fun x h => by cases h) (.inr (.inl rfl)) (by simp)
theorem good_rep {x : Nd} (h : Good x) {a b : Int} (h1 : 0 ≤ a) (h2 : a ≤ 16) (h3 : b = -1 ∨ (a ≤ b ∧ b ≤ 16)) : Good (ndR x a b) :=
  .mk (fun y hy => by simp at hy; subst hy; exact h) (.inr (.inr (.inr (.inr ⟨rfl, rfl, h1, h2, h3⟩)))) (by simp)
theorem numV_in {l : List Int} {i : Nat} (h : numB l i = true) : 0 ≤ numV l i ∧ numV l i ≤ 16 := by
  unfold numB at h
  simp only [Bool.and_eq_true, decide_eq_true_eq] at h
  refine ⟨?_, h.2⟩
  unfold numV
  split
  · rename_i h1
    have h1 := dgC_iff.1 h1
    split
    · rename_i h2
      have h2 := dgC_iff.1 h2
      omega
    · omega
  · omega
theorem times_good {l : List Int} {i : Nat} (h : (timesS l i).ok = true) : 0 ≤ (timesS l i).lo ∧ (timesS l i).lo ≤ 16 ∧ ((timesS l i).hi = -1 ∨ ((timesS l i).lo ≤ (timesS l i).hi ∧ (timesS l i).hi ≤ 16)) := by
  unfold timesS at h ⊢
  dsimp only at h ⊢
  split at h
  · rename_i h1
    rw [if_pos h1]
    have hv := numV_in h1
    split at h
    · rename_i h2
      rw [if_pos h2]
      split at h
      · rename_i h3
        rw [if_pos h3]
        exact ⟨hv.1, hv.2, .inl rfl⟩
      · rename_i h3
        rw [if_neg h3]
        split at h
        · rename_i h4
          rw [if_pos h4]
          simp only [Bool.and_eq_true, decide_eq_true_eq] at h4
          have hv2 := numV_in h4.1
          split at h
          · rename_i h5
            rw [if_pos h5]
            exact ⟨hv.1, hv.2, .inr ⟨h4.2, hv2.2⟩⟩
          · cases h
        · cases h
    · rename_i h2
      rw [if_neg h2]
      split at h
      · rename_i h3
        rw [if_pos h3]
        exact ⟨hv.1, hv.2, .inr ⟨Int.le_refl _, hv.2⟩⟩
      · cases h
  · cases h
theorem conN_good {l : List Nd} (h : ∀ x ∈ l, Good x) (hl : l.length ≤ 1000000) : Good (conN l) := by
  match l, h, hl with
  | [], _, _ => exact good_zero
  | [x], h, _ => exact h x (by simp)
  | x :: y :: r, h, hl => exact .mk h (.inr (.inr (.inl rfl))) hl
theorem eitN_good {l : List Nd} (h : ∀ x ∈ l, Good x) (hl : l.length ≤ 1000000) : Good (eitN l) := by
  match l, h, hl with
  | [], h, hl => exact .mk h (.inr (.inr (.inr (.inl rfl)))) hl
  | [x], h, _ => exact h x (by simp)
  | x :: y :: r, h, hl => exact .mk h (.inr (.inr (.inr (.inl rfl)))) hl
theorem readS_good (l : List Int) (hll : l.length < 1000000) : ∀ k : Nat, (∀ j d, (atomS l k j d).ok = true → Good (atomS l k j d).n) ∧ (∀ j d, (pieceS l k j d).ok = true → Good (pieceS l k j d).n) ∧
    (∀ j d acc, j ≤ l.length → acc.length ≤ j → (∀ x ∈ acc, Good x) → (concatS l k j d acc).ok = true → Good (concatS l k j d acc).n) ∧ ∀ j d acc, j ≤ l.length → acc.length ≤ j → (∀ x ∈ acc, Good x) → (eitherS l k j d acc).ok = true → Good (eitherS l k j d acc).n
  | 0 => ⟨fun j d h => by simp [atomS] at h, fun j d h => by simp [pieceS] at h, fun j d acc _ _ _ h => by simp [concatS] at h, fun j d acc _ _ _ h => by simp [eitherS] at h⟩
  | k + 1 => by
    obtain ⟨ha, hp, hc, he⟩ := readS_good l hll k
    obtain ⟨ia, ip, ic, ie⟩ := readS_in l k
    refine ⟨fun j d h => ?_, fun j d h => ?_, fun j d acc hj hal hga h => ?_, fun j d acc hj hal hga h => ?_⟩
    · rw [atomS] at h ⊢
      dsimp only at h ⊢
      split at h
      · rename_i h1
        rw [if_pos h1]
        have hj := pk_in (l := l) (i := j) (by rw [h1]; decide)
        split at h
        · cases h
        · rename_i h2
          rw [if_neg h2]
          split at h
          · rename_i h3
            rw [if_pos h3]
            have := he (j + 1) (d + 1) [] (by omega) (by simp) (fun x h => by cases h) h3
            split at h
            · rename_i h4
              rw [if_pos h4]
              exact this
            · cases h
          · cases h
      · rename_i h1
        rw [if_neg h1]
        split at h
        · rename_i h2
          rw [if_pos h2]
          exact good_rune _ _ _
        · rename_i h2
          rw [if_neg h2]
          split at h
          · rename_i h3
            rw [if_pos h3]
            exact good_rune _ _ _
          · rename_i h3
            rw [if_neg h3]
            split at h
            · rename_i h4
              rw [if_pos h4]
              exact good_rune _ _ _
            · rename_i h4
              rw [if_neg h4]
              exact good_rune _ _ _
    · rw [pieceS] at h ⊢
      try dsimp only at h ⊢
      split at h
      · rename_i h1
        rw [if_pos h1]
        have h0 := ha j d h1
        split at h
        · rename_i h2
          rw [if_pos h2]
          exact good_rep h0 (by omega) (by omega) (.inl rfl)
        · rename_i h2
          rw [if_neg h2]
          split at h
          · rename_i h3
            rw [if_pos h3]
            exact good_rep h0 (by omega) (by omega) (.inl rfl)
          · rename_i h3
            rw [if_neg h3]
            split at h
            · rename_i h4
              rw [if_pos h4]
              exact good_rep h0 (by omega) (by omega) (.inr (by omega))
            · rename_i h4
              rw [if_neg h4]
              split at h
              · rename_i h5
                rw [if_pos h5]
                have := times_good h
                exact good_rep h0 this.1 this.2.1 this.2.2
              · rename_i h5
                rw [if_neg h5]
                exact h0
      · rename_i h1
        exact absurd h h1
    · rw [concatS] at h ⊢
      try dsimp only at h ⊢
      split at h
      · rename_i h1
        rw [if_pos h1]
        exact conN_good hga (by omega)
      · rename_i h1
        rw [if_neg h1]
        split at h
        · rename_i h2
          rw [if_pos h2]
          have h0 := ip j d h2
          refine hc _ d _ h0.2 (by simp; omega) (fun x hx => ?_) h
          rcases List.mem_append.1 hx with hx | hx
          · exact hga x hx
          · simp at hx; subst hx; exact hp j d h2
        · rename_i h2
          exact absurd h h2
    · rw [eitherS] at h ⊢
      try dsimp only at h ⊢
      split at h
      · rename_i h1
        rw [if_pos h1]
        have h0 := ic j d [] hj h1
        have hg0 := hc j d [] hj (by simp) (fun x h => by cases h) h1
        have hga2 : ∀ x ∈ acc ++ [(concatS l k j d []).n], Good x := fun x hx => by
          rcases List.mem_append.1 hx with hx | hx
          · exact hga x hx
          · simp at hx; subst hx; exact hg0
        split at h
        · rename_i h2
          rw [if_pos h2]
          have := pk_in (l := l) (i := (concatS l k j d []).at_) (by rw [h2]; decide)
          exact he _ d _ (by omega) (by simp; omega) hga2 h
        · rename_i h2
          rw [if_neg h2]
          exact eitN_good hga2 (by simp; omega)
      · rename_i h1
        exact absurd h h1
/-- a text's expression, or why there is none. -/
def parseL (l : List Int) : Nd × Int :=
  let r := eitherS l (5 * l.length + 4) 0 0 []
  if r.ok = true ∧ r.at_ = l.length then (if 400 < sizeN r.n then (ndZ, 5) else (r.n, 0)) else (ndZ, 3)
def parseU (s : List UInt8) : Nd × Int := match runesU s with
  | none => (ndZ, 3)
  | some l => parseL l
theorem encN_zero : encN ndZ = .agg [.int .i64 0, .bool false, .nilS, .int .i64 0, .int .i64 0, .nilS] := by rw [ndZ, encN_eq]; rfl

theorem parse_ok (s : List UInt8) (hl : s.length ≤ 1000) (prot : Nat) (H : Heap) (hp : prot ≤ H.length) :
    aLim cfg prot 20 [.str s] H = some (.tup [encN (parseU s).1, .int .i64 (parseU s).2], none) := by
  have hsnap : snap H [.str s] = some ([.str s], false) := rfl
  have hfz : ∀ (K : Heap) k n a x y b e, still a = true → still b = true → Frz K H.length (packR [.agg [.int .i64 k, .bool n, a, .int .i64 x, .int .i64 y, b], .int .i64 e]) (.tup [.agg [.int .i64 k, .bool n, a, .int .i64 x, .int .i64 y, b], .int .i64 e]) := fun K k n a x y b e h1 h2 =>
    .tup (.cons (.agg (.cons (.still rfl) (.cons (.still rfl) (.cons (.still h1) (.cons (.still rfl) (.cons (.still rfl) (.cons (.still h2) .nil))))))) (.cons (.still rfl) .nil))
  have hlZ : ∀ Z, (H ++ [Blk.cells 0 Z]).length = H.length + 1 := fun Z => by simp
  have hpl1 : H.length ≤ H.length + 1 := by omega
  have hv := validU_runes s
  have n1 := fun (K : Heap) (hK : H.length ≤ K.length) => valid_ok s (by omega) H.length K hK
  have hz0 : hget (H ++ [Blk.cells 0 [.int .i64 0, .bool false, .nilS, .int .i64 0, .int .i64 0, .nilS]]) H.length 0 = some [.int .i64 0, .bool false, .nilS, .int .i64 0, .int .i64 0, .nilS] := by simp [hget]
  have hp1 := hput6 (prot := H.length) hz0 rfl (Nat.le_refl _) 0 false .nilS 0 0 .nilS rfl rfl
  have hgZ : ∀ d, hget ((H ++ [Blk.cells 0 [.int .i64 0, .bool false, .nilS, .int .i64 0, .int .i64 0, .nilS]]).set H.length (.cells 0 d)) H.length 0 = some d := fun d => hget_set_at (by simp)
  unfold parseU
  refine pure_slim rfl (by kernel_rfl) Try.func20 s20 hp hsnap (by simp [Try.f20]) fun fr hlen h => ?_
  simp only [Has, Nat.zero_add] at h
  obtain ⟨a0, -⟩ := h
  simp only [Try.f20] at hlen ⊢
  unfold g20
  cases hr : runesU s with
  | none =>
    rw [hr] at hv
    rw [hv] at n1
    simp only [encN_zero]
    simp only [wk, aBuiltin, AV.cells, AV.leaf, Nat.reduceEqDiff, Nat.reduceLT, Nat.reduceAdd, Nat.reduceLeDiff, reduceCtorEq, Nat.reduceMul, cfgP, u26, hlen, a0, hlZ, hpl1, n1, Option.isSome, hp1]
    exact Fin_pure (l := [.agg [.int .i64 0, .bool false, .nilS, .int .i64 0, .int .i64 0, .nilS], .int .i64 3]) (by simp [wk, aBuiltin, AV.cells, AV.leaf, Nat.reduceEqDiff, Nat.reduceLT, Nat.reduceAdd, Nat.reduceLeDiff, reduceCtorEq, Nat.reduceMul, cfgP, u26, hlen, aResults, aResult, hgZ]) (hfz _ _ _ _ _ _ _ _ rfl rfl) (by simp)
  | some l =>
    rw [hr] at hv
    rw [hv] at n1
    have hro := runesU_ok s.length s l (Nat.le_refl _) hr
    have hl' : Runes l := ⟨by omega, hro.2⟩
    have n2 := fun (K : Heap) (hK : H.length ≤ K.length) => runes_ok s (by omega) l hr H.length K hK
    have hLl := (slv_sl encI l)
    have hlf : (slv encI l).leaf = true := by cases l <;> rfl
    have hlc : (slv encI l).cells = [slv encI l] := by cases l <;> rfl
    have hls1 : ∀ Z, (H ++ [Blk.cells 0 Z]).length = H.length + 1 := fun Z => by simp
    have hb : hget (H ++ [Blk.cells 0 [.int .i64 0, .bool false, .nilS, .int .i64 0, .int .i64 0, .nilS]] ++ [Blk.cells 0 [slv encI l, .int .i64 0]]) (H.length + 1) 0 = some [slv encI l, .int .i64 ((0 : Nat) : Int)] := by rw [hget_new (hls1 _).symm, if_pos rfl]; rfl
    have hz1 := hget_mono hz0 [Blk.cells 0 [slv encI l, .int .i64 0]]
    have hl1 : (H ++ [Blk.cells 0 [.int .i64 0, .bool false, .nilS, .int .i64 0, .int .i64 0, .nilS]] ++ [Blk.cells 0 [slv encI l, .int .i64 0]]).length = H.length + 2 := by simp
    have n3 : aLim cfg H.length 57 [.ptr (H.length + 1) 0 0, .int .i64 0] _ = _ := (read_ok l hl' (5 * l.length + 4)).1 (slv encI l) hLl 0 0 (H.length + 1) H.length _ (by omega) hb (by omega) (by omega) (by omega)
    dsimp only at n3
    have hin := (readS_in l (5 * l.length + 4)).2.2.2 0 0 [] (by omega)
    have hgd := (readS_good l hl'.1 (5 * l.length + 4)).2.2.2 0 0 [] (by omega) (by simp) (fun x h => by cases h)
    unfold parseL
    dsimp only
    generalize eitherS l (5 * l.length + 4) 0 0 [] = r at *
    obtain ⟨x, j, ok⟩ := r
    obtain ⟨k', no, s', x1, x2, t, hx, hs, ht, hs2, ht2⟩ := encN_sh x
    dsimp only at n3 hin hgd ⊢
    have n4 := fun (hg : Good x) (K : Heap) (hK : H.length ≤ K.length) => nsize_ok x hg H.length K hK
    rw [hx] at n3 n4
    have hs0 := hs
    have ht0 := ht
    unfold AV.leaf at hs ht hlf; unfold AV.cells at hlc
    generalize hK1 : H ++ [Blk.cells 0 [.int .i64 0, .bool false, .nilS, .int .i64 0, .int .i64 0, .nilS]] ++ [Blk.cells 0 [slv encI l, .int .i64 0]] = K1 at *
    have hl2 : ∀ c, (K1.set (H.length + 1) (.cells 0 c)).length = H.length + 2 := fun c => by simp [hl1]
    have hpl2 : H.length ≤ H.length + 2 := by omega
    simp only [wk, aBuiltin, AV.cells, AV.leaf, Nat.reduceEqDiff, Nat.reduceLT, Nat.reduceAdd, Nat.reduceLeDiff, reduceCtorEq, Nat.reduceMul, cfgP, u26, hlen, a0, hlZ, hpl1, n1, Option.isSome, n2, hlf, hlc, hK1, n3, hl2, hpl2, hs, ht]
    have hz2 : ∀ c, hget (K1.set (H.length + 1) (.cells 0 c) ++ [Blk.cells 0 [.int .i64 k', .bool no, s', .int .i64 x1, .int .i64 x2, t]]) H.length 0 = some [.int .i64 0, .bool false, .nilS, .int .i64 0, .int .i64 0, .nilS] := fun c => hget_mono (by rw [hget_set_ne (by omega)]; exact hz1) _
    have hb2 : ∀ c, hget (K1.set (H.length + 1) (.cells 0 c) ++ [Blk.cells 0 [.int .i64 k', .bool no, s', .int .i64 x1, .int .i64 x2, t]]) (H.length + 1) 0 = some c := fun c => hget_mono (hget_set_at (by omega)) _
    have hn2 : ∀ c, hget (K1.set (H.length + 1) (.cells 0 c) ++ [Blk.cells 0 [.int .i64 k', .bool no, s', .int .i64 x1, .int .i64 x2, t]]) (H.length + 2) 0 = some [.int .i64 k', .bool no, s', .int .i64 x1, .int .i64 x2, t] := fun c => by rw [hget_new (hl2 _).symm, if_pos rfl]
    have hl3 : H.length ≤ (K1.set (H.length + 1) (.cells 0 [slv encI l, .int .i64 (j : Nat)]) ++ [Blk.cells 0 [.int .i64 k', .bool no, s', .int .i64 x1, .int .i64 x2, t]]).length := by simp; omega
    have hz3 := hz2 [slv encI l, .int .i64 (j : Nat)]
    have hb3 := hb2 [slv encI l, .int .i64 (j : Nat)]
    have hn3 := hn2 [slv encI l, .int .i64 (j : Nat)]
    generalize K1.set (H.length + 1) (.cells 0 [slv encI l, .int .i64 (j : Nat)]) ++ [Blk.cells 0 [.int .i64 k', .bool no, s', .int .i64 x1, .int .i64 x2, t]] = K2 at *
    have hgZ2 : ∀ d, hget (K2.set H.length (.cells 0 d)) H.length 0 = some d := fun d => hget_set_at (hget_lt hz3)
    have hp0 := hput6 (prot := H.length) hz3 rfl (Nat.le_refl _) 0 false .nilS 0 0 .nilS rfl rfl
    have hlnL := hLl.len (P := Try.prog) (H := K2) Try.underlying80
    cases ok with
    | false =>
      simp only [Bool.false_eq_true, false_and, if_false, encN_zero]
      simp only [wk, aBuiltin, AV.cells, AV.leaf, Nat.reduceEqDiff, Nat.reduceLT, Nat.reduceAdd, Nat.reduceLeDiff, reduceCtorEq, Nat.reduceMul, cfgP, u26, hlen, hn3, hp0, none_beq]
      exact Fin_pure (l := [.agg [.int .i64 0, .bool false, .nilS, .int .i64 0, .int .i64 0, .nilS], .int .i64 3]) (by simp [wk, aBuiltin, AV.cells, AV.leaf, Nat.reduceEqDiff, Nat.reduceLT, Nat.reduceAdd, Nat.reduceLeDiff, reduceCtorEq, Nat.reduceMul, cfgP, u26, hlen, aResults, aResult, hgZ2]) (hfz _ _ _ _ _ _ _ _ rfl rfl) (by simp)
    | true =>
      by_cases hj : j = l.length
      · subst hj
        have d1 : decide (¬ ((l.length : Nat) : Int) = (l.length : Nat)) = false := by simp
        have hg := hgd rfl
        have n5 := n4 hg K2 hl3
        simp only [true_and, if_true]
        by_cases h4 : 400 < sizeN x
        · have d2 : decide ((400 : Int) < (sizeN x : Int)) = true := decide_eq_true (by omega)
          simp only [h4, if_true, encN_zero]
          simp only [wk, aBuiltin, AV.cells, AV.leaf, Nat.reduceEqDiff, Nat.reduceLT, Nat.reduceAdd, Nat.reduceLeDiff, reduceCtorEq, Nat.reduceMul, cfgP, u26, hlen, hb3, hlnL, d1, hn3, n5, d2, hp0, none_beq]
          exact Fin_pure (l := [.agg [.int .i64 0, .bool false, .nilS, .int .i64 0, .int .i64 0, .nilS], .int .i64 5]) (by simp [wk, aBuiltin, AV.cells, AV.leaf, Nat.reduceEqDiff, Nat.reduceLT, Nat.reduceAdd, Nat.reduceLeDiff, reduceCtorEq, Nat.reduceMul, cfgP, u26, hlen, aResults, aResult, hgZ2]) (hfz _ _ _ _ _ _ _ _ rfl rfl) (by simp)
        · have d2 : decide ((400 : Int) < (sizeN x : Int)) = false := decide_eq_false (by omega)
          have hp2 := hput6 (prot := H.length) hz3 rfl (Nat.le_refl _) k' no s' x1 x2 t hs0 ht0
          simp only [h4, if_false, hx]
          simp only [wk, aBuiltin, AV.cells, AV.leaf, Nat.reduceEqDiff, Nat.reduceLT, Nat.reduceAdd, Nat.reduceLeDiff, reduceCtorEq, Nat.reduceMul, cfgP, u26, hlen, hb3, hlnL, d1, hn3, n5, d2, hs, ht, hp2, none_beq]
          exact Fin_pure (l := [.agg [.int .i64 k', .bool no, s', .int .i64 x1, .int .i64 x2, t], .int .i64 0]) (by simp [wk, aBuiltin, AV.cells, AV.leaf, Nat.reduceEqDiff, Nat.reduceLT, Nat.reduceAdd, Nat.reduceLeDiff, reduceCtorEq, Nat.reduceMul, cfgP, u26, hlen, aResults, aResult, hgZ2]) (hfz _ _ _ _ _ _ _ _ hs2 ht2) (by simp)
      · have d1 : decide (¬ ((j : Nat) : Int) = (l.length : Nat)) = true := decide_eq_true (by omega)
        simp only [hj, and_false, if_false, encN_zero]
        simp only [wk, aBuiltin, AV.cells, AV.leaf, Nat.reduceEqDiff, Nat.reduceLT, Nat.reduceAdd, Nat.reduceLeDiff, reduceCtorEq, Nat.reduceMul, cfgP, u26, hlen, hb3, hlnL, d1, hn3, hp0, none_beq]
        exact Fin_pure (l := [.agg [.int .i64 0, .bool false, .nilS, .int .i64 0, .int .i64 0, .nilS], .int .i64 3]) (by simp [wk, aBuiltin, AV.cells, AV.leaf, Nat.reduceEqDiff, Nat.reduceLT, Nat.reduceAdd, Nat.reduceLeDiff, reduceCtorEq, Nat.reduceMul, cfgP, u26, hlen, aResults, aResult, hgZ2]) (hfz _ _ _ _ _ _ _ _ rfl rfl) (by simp)
end Go.Proofs.Ytoblikhnbddfmaa
