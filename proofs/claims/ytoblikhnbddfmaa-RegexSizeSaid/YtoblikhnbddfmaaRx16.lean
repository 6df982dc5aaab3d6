import Derived.Test.YtoblikhnbddfmaaRx14
/-! Chapter 15 of the document: Parse, walked. -/
set_option linter.unusedSimpArgs false
namespace Go.Proofs.Ytoblikhnbddfmaa
open Go Go.Abs AbsSeat Ty

theorem rall_alike {l : List Int} (hl : Runes l) : Alike (eitherS l (5 * l.length + 4) 0 0 []) (eitherR l (5 * l.length + 4) 0 0) := by
  show Alike (eitherS l (5 * l.length + 3 + 1) 0 0 []) (eitherR l (5 * l.length + 3 + 1) 0 0)
  rw [eitherR]
  exact (read_alike hl _).2.2.2 0 0 [] (by omega)

theorem rparse_ok (s : List UInt8) (hl : s.length ≤ 1000) (prot : Nat) (H : Heap) (hp : prot ≤ H.length) :
    aLim cfg prot 21 [.str s] H = some (.tup [encN (parseU s).1, .int .i64 (parseU s).2], none) := by
  have hsnap : snap H [.str s] = some ([.str s], false) := rfl
  have hfz : ∀ (K : Heap) k n a x y b e, still a = true → still b = true → Frz K H.length (packR [.agg [.int .i64 k, .bool n, a, .int .i64 x, .int .i64 y, b], .int .i64 e]) (.tup [.agg [.int .i64 k, .bool n, a, .int .i64 x, .int .i64 y, b], .int .i64 e]) := fun K k n a x y b e h1 h2 =>
    .tup (.cons (.agg (.cons (.still rfl) (.cons (.still rfl) (.cons (.still h1) (.cons (.still rfl) (.cons (.still rfl) (.cons (.still h2) .nil))))))) (.cons (.still rfl) .nil))
  have hlZ : ∀ Z, (H ++ [Blk.cells 0 Z]).length = H.length + 1 := fun Z => by simp
  have hpl1 : H.length ≤ H.length + 1 := by omega
  have n1 := fun (K : Heap) (hK : H.length ≤ K.length) => rrunes_ok s (by omega) H.length K hK
  have hz0 : hget (H ++ [Blk.cells 0 [.int .i64 0, .bool false, .nilS, .int .i64 0, .int .i64 0, .nilS]]) H.length 0 = some [.int .i64 0, .bool false, .nilS, .int .i64 0, .int .i64 0, .nilS] := by simp [hget]
  have hpu : parseU s = if (runesU s).isSome = true then parseL ((runesU s).getD []) else (ndZ, 3) := by unfold parseU; cases runesU s <;> rfl
  have hl' : Runes ((runesU s).getD []) := by
    cases hr : runesU s with
    | none => exact ⟨by simp, fun r h => by cases h⟩
    | some l =>
      have hro := runesU_ok s.length s l (Nat.le_refl _) hr
      refine ⟨?_, hro.2⟩
      simp only [Option.getD_some]
      omega
  rw [hpu]
  generalize (runesU s).isSome = sok at *
  generalize (runesU s).getD [] = l at *
  have hLl := (slv_sl encI l)
  have hlf : (slv encI l).leaf = true := by cases l <;> rfl
  have hlc : (slv encI l).cells = [slv encI l] := by cases l <;> rfl
  have hb : hget (H ++ [Blk.cells 0 [.int .i64 0, .bool false, .nilS, .int .i64 0, .int .i64 0, .nilS]] ++ [Blk.cells 0 [slv encI l, .int .i64 0, .bool false]]) (H.length + 1) 0 = some [slv encI l, .int .i64 ((0 : Nat) : Int), .bool false] := by rw [hget_new (hlZ _).symm, if_pos rfl]; rfl
  have hz1 := hget_mono hz0 [Blk.cells 0 [slv encI l, .int .i64 0, .bool false]]
  have hl1 : (H ++ [Blk.cells 0 [.int .i64 0, .bool false, .nilS, .int .i64 0, .int .i64 0, .nilS]] ++ [Blk.cells 0 [slv encI l, .int .i64 0, .bool false]]).length = H.length + 2 := by simp
  have n3 : aLim cfg H.length 58 [.ptr (H.length + 1) 0 0, .int .i64 0] _ = _ := (rread_ok l hl' (5 * l.length + 4)).1 (slv encI l) hLl 0 0 (H.length + 1) H.length _ (by omega) hb (by omega) (by omega) (by omega)
  have hin := (readS_in l (5 * l.length + 4)).2.2.2 0 0 [] (by omega)
  have hgd := (readS_good l hl'.1 (5 * l.length + 4)).2.2.2 0 0 [] (by omega) (by simp) (fun x h => by cases h)
  have hal := rall_alike hl'
  unfold parseL
  dsimp only
  generalize eitherS l (5 * l.length + 4) 0 0 [] = r at *
  generalize eitherR l (5 * l.length + 4) 0 0 = q at *
  obtain ⟨x, j, bad⟩ := q
  obtain ⟨k', no, s', x1, x2, t, hx, hs, ht, hs2, ht2⟩ := encN_sh x
  try dsimp only at n3 hin hgd hal ⊢
  have n4 := fun (hg : Good x) (K : Heap) (hK : H.length ≤ K.length) => rsize_ok x hg H.length K hK
  rw [hx] at n3 n4
  have hs0 := hs
  have ht0 := ht
  refine pure_slim rfl (by kernel_rfl) Try.func21 s21 hp hsnap (by simp [Try.f21]) fun fr hlen h => ?_
  simp only [Has, Nat.zero_add] at h
  obtain ⟨a0, -⟩ := h
  simp only [Try.f21] at hlen ⊢
  unfold g21
  unfold AV.leaf at hs ht hlf; unfold AV.cells at hlc
  generalize hK1 : H ++ [Blk.cells 0 [.int .i64 0, .bool false, .nilS, .int .i64 0, .int .i64 0, .nilS]] ++ [Blk.cells 0 [slv encI l, .int .i64 0, .bool false]] = K1 at *
  have hl2 : ∀ c, (K1.set (H.length + 1) (.cells 0 c)).length = H.length + 2 := fun c => by simp [hl1]
  have hpl2 : H.length ≤ H.length + 2 := by omega
  simp only [wk, aBuiltin, AV.cells, AV.leaf, Nat.reduceEqDiff, Nat.reduceLT, Nat.reduceAdd, Nat.reduceLeDiff, reduceCtorEq, Nat.reduceMul, cfgP, u26, hlen, a0, hlZ, hpl1, n1, hlf, hlc, hK1, n3, hl2, hpl2, hs, ht]
  have hz2 : ∀ c, hget (K1.set (H.length + 1) (.cells 0 c) ++ [Blk.cells 0 [.int .i64 k', .bool no, s', .int .i64 x1, .int .i64 x2, t]]) H.length 0 = some [.int .i64 0, .bool false, .nilS, .int .i64 0, .int .i64 0, .nilS] := fun c => hget_mono (by rw [hget_set_ne (by omega)]; exact hz1) _
  have hb2 : ∀ c, hget (K1.set (H.length + 1) (.cells 0 c) ++ [Blk.cells 0 [.int .i64 k', .bool no, s', .int .i64 x1, .int .i64 x2, t]]) (H.length + 1) 0 = some c := fun c => hget_mono (hget_set_at (by omega)) _
  have hn2 : ∀ c, hget (K1.set (H.length + 1) (.cells 0 c) ++ [Blk.cells 0 [.int .i64 k', .bool no, s', .int .i64 x1, .int .i64 x2, t]]) (H.length + 2) 0 = some [.int .i64 k', .bool no, s', .int .i64 x1, .int .i64 x2, t] := fun c => by rw [hget_new (hl2 _).symm, if_pos rfl]
  have hl3 : H.length ≤ (K1.set (H.length + 1) (.cells 0 [slv encI l, .int .i64 (j : Nat), .bool bad]) ++ [Blk.cells 0 [.int .i64 k', .bool no, s', .int .i64 x1, .int .i64 x2, t]]).length := by simp; omega
  have hz3 := hz2 [slv encI l, .int .i64 (j : Nat), .bool bad]
  have hb3 := hb2 [slv encI l, .int .i64 (j : Nat), .bool bad]
  have hn3 := hn2 [slv encI l, .int .i64 (j : Nat), .bool bad]
  generalize K1.set (H.length + 1) (.cells 0 [slv encI l, .int .i64 (j : Nat), .bool bad]) ++ [Blk.cells 0 [.int .i64 k', .bool no, s', .int .i64 x1, .int .i64 x2, t]] = K2 at *
  have hgZ2 : ∀ d, hget (K2.set H.length (.cells 0 d)) H.length 0 = some d := fun d => hget_set_at (hget_lt hz3)
  have hp0 := hput6 (prot := H.length) hz3 rfl (Nat.le_refl _) 0 false .nilS 0 0 .nilS rfl rfl
  have hlnL := hLl.len (P := Try.prog) (H := K2) Try.underlying80
  cases sok with
  | false =>
    simp only [Bool.false_eq_true, if_false, encN_zero]
    simp only [wk, aBuiltin, AV.cells, AV.leaf, Nat.reduceEqDiff, Nat.reduceLT, Nat.reduceAdd, Nat.reduceLeDiff, reduceCtorEq, Nat.reduceMul, cfgP, u26, hlen, hn3, hp0, none_beq]
    exact Fin_pure (l := [.agg [.int .i64 0, .bool false, .nilS, .int .i64 0, .int .i64 0, .nilS], .int .i64 3]) (by simp [wk, aBuiltin, AV.cells, AV.leaf, Nat.reduceEqDiff, Nat.reduceLT, Nat.reduceAdd, Nat.reduceLeDiff, reduceCtorEq, Nat.reduceMul, cfgP, u26, hlen, aResults, aResult, hgZ2]) (hfz _ _ _ _ _ _ _ _ rfl rfl) (by simp)
  | true =>
    simp only [if_true]
    cases bad with
    | true =>
      have hno : r.ok = false := Bool.eq_false_iff.2 fun h => by have := hal.yes h; cases this
      simp only [hno, Bool.false_eq_true, false_and, if_false, encN_zero]
      simp only [wk, aBuiltin, AV.cells, AV.leaf, Nat.reduceEqDiff, Nat.reduceLT, Nat.reduceAdd, Nat.reduceLeDiff, reduceCtorEq, Nat.reduceMul, cfgP, u26, hlen, hb3, hn3, hp0, none_beq]
      exact Fin_pure (l := [.agg [.int .i64 0, .bool false, .nilS, .int .i64 0, .int .i64 0, .nilS], .int .i64 3]) (by simp [wk, aBuiltin, AV.cells, AV.leaf, Nat.reduceEqDiff, Nat.reduceLT, Nat.reduceAdd, Nat.reduceLeDiff, reduceCtorEq, Nat.reduceMul, cfgP, u26, hlen, aResults, aResult, hgZ2]) (hfz _ _ _ _ _ _ _ _ rfl rfl) (by simp)
    | false =>
      obtain ⟨hok, hq⟩ := hal.good rfl
      obtain ⟨y, i, ok⟩ := r
      dsimp only at hok hq hin hgd ⊢
      subst hok
      cases hq
      by_cases hj : j = l.length
      · subst hj
        have d1 : decide (¬ ((l.length : Nat) : Int) = (l.length : Nat)) = false := by simp
        have hg := hgd rfl
        have n5 := n4 hg K2 hl3
        simp only [true_and, if_true]
        by_cases h4 : 400 < sizeN x
        · have d2 : decide ((400 : Int) < (sizeN x : Int)) = true := decide_eq_true (by omega)
          simp only [h4, if_true, encN_zero]
          simp only [wk, aBuiltin, AV.cells, AV.leaf, Nat.reduceEqDiff, Nat.reduceLT, Nat.reduceAdd, Nat.reduceLeDiff, reduceCtorEq, Nat.reduceMul, cfgP, u26, hlen, hb3, hlnL, d1, hn3, n5, d2, hp0, none_beq]
          exact Fin_pure (l := [.agg [.int .i64 0, .bool false, .nilS, .int .i64 0, .int .i64 0, .nilS], .int .i64 5]) (by simp [wk, aBuiltin, AV.cells, AV.leaf, Nat.reduceEqDiff, Nat.reduceLT, Nat.reduceAdd, Nat.reduceLeDiff, reduceCtorEq, Nat.reduceMul, cfgP, u26, hlen, aResults, aResult, hgZ2]) (hfz _ _ _ _ _ _ _ _ rfl rfl) (by simp)
        · have d2 : decide ((400 : Int) < (sizeN x : Int)) = false := decide_eq_false (by omega)
          have hp2 := hput6 (prot := H.length) hz3 rfl (Nat.le_refl _) k' no s' x1 x2 t hs0 ht0
          simp only [h4, if_false, hx]
          simp only [wk, aBuiltin, AV.cells, AV.leaf, Nat.reduceEqDiff, Nat.reduceLT, Nat.reduceAdd, Nat.reduceLeDiff, reduceCtorEq, Nat.reduceMul, cfgP, u26, hlen, hb3, hlnL, d1, hn3, n5, d2, hs, ht, hp2, none_beq]
          exact Fin_pure (l := [.agg [.int .i64 k', .bool no, s', .int .i64 x1, .int .i64 x2, t], .int .i64 0]) (by simp [wk, aBuiltin, AV.cells, AV.leaf, Nat.reduceEqDiff, Nat.reduceLT, Nat.reduceAdd, Nat.reduceLeDiff, reduceCtorEq, Nat.reduceMul, cfgP, u26, hlen, aResults, aResult, hgZ2]) (hfz _ _ _ _ _ _ _ _ hs2 ht2) (by simp)
      · have d1 : decide (¬ ((j : Nat) : Int) = (l.length : Nat)) = true := decide_eq_true (by omega)
        simp only [hj, and_false, if_false, encN_zero]
        simp only [wk, aBuiltin, AV.cells, AV.leaf, Nat.reduceEqDiff, Nat.reduceLT, Nat.reduceAdd, Nat.reduceLeDiff, reduceCtorEq, Nat.reduceMul, cfgP, u26, hlen, hb3, hlnL, d1, hn3, hp0, none_beq]
        exact Fin_pure (l := [.agg [.int .i64 0, .bool false, .nilS, .int .i64 0, .int .i64 0, .nilS], .int .i64 3]) (by simp [wk, aBuiltin, AV.cells, AV.leaf, Nat.reduceEqDiff, Nat.reduceLT, Nat.reduceAdd, Nat.reduceLeDiff, reduceCtorEq, Nat.reduceMul, cfgP, u26, hlen, aResults, aResult, hgZ2]) (hfz _ _ _ _ _ _ _ _ rfl rfl) (by simp)
end Go.Proofs.Ytoblikhnbddfmaa
/-! Chapter 15's law: nodes as the document's, and whether two are the same, walked. -/
namespace Go.Proofs.Ytoblikhnbddfmaa
open Go Go.Abs AbsSeat Ty

/-- nodes whose rows are not too long. -/
inductive Fine : Nd → Prop where
  | mk {kind : Int} {no sf : Bool} {sp : List Sg} {least most : Int} {kf : Bool} {kids : List Nd} (h : ∀ x ∈ kids, Fine x) (hs : sp.length ≤ 10000000) (hl : kids.length ≤ 1000000) : Fine (.mk kind no sf sp least most kf kids)
theorem fine_zero : Fine ndZ := .mk (fun x h => by cases h) (by simp) (by simp)
theorem fine_rune (no sf : Bool) (sp : List Sg) (h : sp.length ≤ 10000000) : Fine (.mk 1 no sf sp 0 0 false []) := .mk (fun x h => by cases h) h (by simp)
theorem fine_rep {x : Nd} (h : Fine x) (a b : Int) : Fine (ndR x a b) := .mk (fun y hy => by simp at hy; subst hy; exact h) (by simp) (by simp)
theorem conN_fine {l : List Nd} (h : ∀ x ∈ l, Fine x) (hl : l.length ≤ 1000000) : Fine (conN l) := by
  match l, h, hl with
  | [], _, _ => exact fine_zero
  | [x], h, _ => exact h x (by simp)
  | x :: y :: r, h, hl => exact .mk h (by simp) hl
theorem eitN_fine {l : List Nd} (h : ∀ x ∈ l, Fine x) (hl : l.length ≤ 1000000) : Fine (eitN l) := by
  match l, h, hl with
  | [], h, hl => exact .mk h (by simp) hl
  | [x], h, _ => exact h x (by simp)
  | x :: y :: r, h, hl => exact .mk h (by simp) hl
theorem classGo_len (l : List Int) : ∀ (k j : Nat) (acc : List Sg), (classGo l k j acc).1.length ≤ acc.length + 4 * k
  | 0, j, acc => by rw [classGo]; simp
  | k + 1, j, acc => by
    rw [classGo]
    split
    · exact Nat.le_add_right _ _
    · split
      · split
        · have := classGo_len l k (j + 2) (acc ++ (escS (pk l (j + 1))).1)
          have h2 := escS_len (pk l (j + 1))
          rw [List.length_append] at this
          omega
        · exact Nat.le_add_right _ _
      · split
        · exact Nat.le_add_right _ _
        · split
          · split
            · exact Nat.le_add_right _ _
            · have := classGo_len l k (j + 3) (acc ++ [⟨pk l j, pk l (j + 2)⟩])
              rw [List.length_append, List.length_singleton] at this
              omega
          · have := classGo_len l k (j + 1) (acc ++ [⟨pk l j, pk l j⟩])
            rw [List.length_append, List.length_singleton] at this
            omega
theorem class_fine (l : List Int) (hll : l.length < 1000000) (j : Nat) : Fine (classS l j).n := by
  unfold classS
  dsimp only
  refine fine_rune _ _ _ ?_
  have := classGo_len l (l.length + 2) (if pk l j = 94 then j + 1 else j) []
  simp only [List.length_nil] at this
  omega
theorem readS_fine (l : List Int) (hll : l.length < 1000000) : ∀ k : Nat, (∀ j d, (atomS l k j d).ok = true → Fine (atomS l k j d).n) ∧ (∀ j d, (pieceS l k j d).ok = true → Fine (pieceS l k j d).n) ∧
    (∀ j d acc, j ≤ l.length → acc.length ≤ j → (∀ x ∈ acc, Fine x) → (concatS l k j d acc).ok = true → Fine (concatS l k j d acc).n) ∧ ∀ j d acc, j ≤ l.length → acc.length ≤ j → (∀ x ∈ acc, Fine x) → (eitherS l k j d acc).ok = true → Fine (eitherS l k j d acc).n
  | 0 => ⟨fun j d h => by simp [atomS] at h, fun j d h => by simp [pieceS] at h, fun j d acc _ _ _ h => by simp [concatS] at h, fun j d acc _ _ _ h => by simp [eitherS] at h⟩
  | k + 1 => by
    obtain ⟨ha, hp, hc, he⟩ := readS_fine l hll k
    obtain ⟨ia, ip, ic, ie⟩ := readS_in l k
    refine ⟨fun j d h => ?_, fun j d h => ?_, fun j d acc hj hal hga h => ?_, fun j d acc hj hal hga h => ?_⟩
    · rw [atomS] at h ⊢
      dsimp only at h ⊢
      split at h
      · rename_i h1
        rw [if_pos h1]
        have hj := pk_in (l := l) (i := j) (by rw [h1]; decide)
        split at h
        · cases h
        · rename_i h2
          rw [if_neg h2]
          split at h
          · rename_i h3
            rw [if_pos h3]
            have := he (j + 1) (d + 1) [] (by omega) (by simp) (fun x h => by cases h) h3
            split at h
            · rename_i h4
              rw [if_pos h4]
              exact this
            · cases h
          · cases h
      · rename_i h1
        rw [if_neg h1]
        split at h
        · rename_i h2
          rw [if_pos h2]
          exact class_fine l hll _
        · rename_i h2
          rw [if_neg h2]
          split at h
          · rename_i h3
            rw [if_pos h3]
            exact fine_rune _ _ _ (by simp)
          · rename_i h3
            rw [if_neg h3]
            split at h
            · rename_i h4
              rw [if_pos h4]
              exact fine_rune _ _ _ (by have := escS_len (pk l (j + 1)); omega)
            · rename_i h4
              rw [if_neg h4]
              exact fine_rune _ _ _ (by simp)
    · rw [pieceS] at h ⊢
      try dsimp only at h ⊢
      split at h
      · rename_i h1
        rw [if_pos h1]
        have h0 := ha j d h1
        split at h
        · rename_i h2
          rw [if_pos h2]
          exact fine_rep h0 _ _
        · rename_i h2
          rw [if_neg h2]
          split at h
          · rename_i h3
            rw [if_pos h3]
            exact fine_rep h0 _ _
          · rename_i h3
            rw [if_neg h3]
            split at h
            · rename_i h4
              rw [if_pos h4]
              exact fine_rep h0 _ _
            · rename_i h4
              rw [if_neg h4]
              split at h
              · rename_i h5
                rw [if_pos h5]
                exact fine_rep h0 _ _
              · rename_i h5
                rw [if_neg h5]
                exact h0
      · rename_i h1
        exact absurd h h1
    · rw [concatS] at h ⊢
      try dsimp only at h ⊢
      split at h
      · rename_i h1
        rw [if_pos h1]
        exact conN_fine hga (by omega)
      · rename_i h1
        rw [if_neg h1]
        split at h
        · rename_i h2
          rw [if_pos h2]
          have h0 := ip j d h2
          refine hc _ d _ h0.2 (by simp; omega) (fun x hx => ?_) h
          rcases List.mem_append.1 hx with hx | hx
          · exact hga x hx
          · simp at hx; subst hx; exact hp j d h2
        · rename_i h2
          exact absurd h h2
    · rw [eitherS] at h ⊢
      try dsimp only at h ⊢
      split at h
      · rename_i h1
        rw [if_pos h1]
        have h0 := ic j d [] hj h1
        have hg0 := hc j d [] hj (by simp) (fun x h => by cases h) h1
        have hga2 : ∀ x ∈ acc ++ [(concatS l k j d []).n], Fine x := fun x hx => by
          rcases List.mem_append.1 hx with hx | hx
          · exact hga x hx
          · simp at hx; subst hx; exact hg0
        split at h
        · rename_i h2
          rw [if_pos h2]
          have := pk_in (l := l) (i := (concatS l k j d []).at_) (by rw [h2]; decide)
          exact he _ d _ (by omega) (by simp; omega) hga2 h
        · rename_i h2
          rw [if_neg h2]
          exact eitN_fine hga2 (by simp; omega)
      · rename_i h1
        exact absurd h h1
theorem parse_fine (s : List UInt8) (hl : s.length ≤ 1000) : Fine (parseU s).1 := by
  unfold parseU
  cases hr : runesU s with
  | none => exact fine_zero
  | some l =>
    have hro := runesU_ok s.length s l (Nat.le_refl _) hr
    show Fine (parseL l).1
    unfold parseL
    dsimp only
    have h := (readS_fine l (by omega) (5 * l.length + 4)).2.2.2 0 0 [] (by omega) (by simp) (fun x h => by cases h)
    split
    · rename_i h1
      split
      · exact fine_zero
      · exact h h1.1
    · exact fine_zero
mutual
/-- a node all of whose rows have what they lie in to themselves. -/
def flat : Nd → Nd
  | .mk kind no _ sp least most _ kids => .mk kind no false sp least most false (flats kids)
def flats : List Nd → List Nd
  | [] => []
  | x :: r => flat x :: flats r
end
theorem flats_map (l : List Nd) : flats l = l.map flat := by
  induction l with
  | nil => rfl
  | cons x r ih => rw [flats, ih]; rfl
theorem flat_eq (kind : Int) (no sf : Bool) (sp : List Sg) (least most : Int) (kf : Bool) (kids : List Nd) : flat (.mk kind no sf sp least most kf kids) = .mk kind no false sp least most false (kids.map flat) := by rw [flat, flats_map]
theorem u60 : type_of% (And.intro (show tagT Try.prog 129 = 0 from by kernel_rfl) (And.intro (show tagT Try.prog 41 = 0 from by kernel_rfl) (And.intro (show tagT Try.prog 47 = 0 from by kernel_rfl) (And.intro ag1 (And.intro sz1 (And.intro by1 (And.intro ze1 (And.intro Try.underlying1 (And.intro ag3 (And.intro sz3 (And.intro by3 (And.intro ze3 (And.intro Try.underlying3 (And.intro ag4 (And.intro sz4 (And.intro by4 (And.intro ze4 (And.intro Try.underlying4 (And.intro ag9 (And.intro sz9 (And.intro by9 (And.intro ze9 (And.intro Try.underlying9 (And.intro ag21 (And.intro sz21 (And.intro by21 (And.intro ze21 (And.intro Try.underlying21 (And.intro ag29 (And.intro sz29 (And.intro by29 (And.intro ze29 (And.intro Try.underlying29 (And.intro ag38 (And.intro sz38 (And.intro by38 (And.intro se38 (And.intro ze38 (And.intro Try.underlying38 (And.intro ag39 (And.intro sz39 (And.intro by39 (And.intro se39 (And.intro ze39 (And.intro Try.underlying39 (And.intro ag41 (And.intro sz41 (And.intro by41 (And.intro ze41 (And.intro bu41 (And.intro Try.underlying41 (And.intro ag44 (And.intro sz44 (And.intro by44 (And.intro se44 (And.intro ze44 (And.intro Try.underlying44 (And.intro ag45 (And.intro sz45 (And.intro by45 (And.intro se45 (And.intro ze45 (And.intro Try.underlying45 (And.intro ag47 (And.intro sz47 (And.intro by47 (And.intro ze47 (And.intro bu47 (And.intro Try.underlying47 (And.intro ag129 (And.intro sz129 (And.intro by129 (And.intro ze129 (And.intro bu129 (And.intro Try.underlying129 (And.intro ag131 (And.intro sz131 (And.intro by131 (And.intro ze131 (And.intro bu131 (And.intro Try.underlying131 (And.intro fa41_0 (And.intro fd41_0 (And.intro fa41_1 (And.intro fd41_1 (And.intro fa41_2 (And.intro fd41_2 (And.intro fa41_3 (And.intro fd41_3 (And.intro fa41_4 (And.intro fd41_4 (And.intro fa41_5 (And.intro fd41_5 (And.intro fa47_0 (And.intro fd47_0 (And.intro fa47_1 (And.intro fd47_1 (And.intro fa47_2 (And.intro fd47_2 (And.intro fa47_3 (And.intro fd47_3 (And.intro fa47_4 (And.intro fd47_4 (And.intro fa47_5 (And.intro fd47_5 (And.intro fa129_0 (And.intro fd129_0 (And.intro fa129_1 fd129_1)))))))))))))))))))))))))))))))))))))))))))))))))))))))))))))))))))))))))))))))))))))))))))))))))))))))))))) := And.intro (show tagT Try.prog 129 = 0 from by kernel_rfl) (And.intro (show tagT Try.prog 41 = 0 from by kernel_rfl) (And.intro (show tagT Try.prog 47 = 0 from by kernel_rfl) (And.intro ag1 (And.intro sz1 (And.intro by1 (And.intro ze1 (And.intro Try.underlying1 (And.intro ag3 (And.intro sz3 (And.intro by3 (And.intro ze3 (And.intro Try.underlying3 (And.intro ag4 (And.intro sz4 (And.intro by4 (And.intro ze4 (And.intro Try.underlying4 (And.intro ag9 (And.intro sz9 (And.intro by9 (And.intro ze9 (And.intro Try.underlying9 (And.intro ag21 (And.intro sz21 (And.intro by21 (And.intro ze21 (And.intro Try.underlying21 (And.intro ag29 (And.intro sz29 (And.intro by29 (And.intro ze29 (And.intro Try.underlying29 (And.intro ag38 (And.intro sz38 (And.intro by38 (And.intro se38 (And.intro ze38 (And.intro Try.underlying38 (And.intro ag39 (And.intro sz39 (And.intro by39 (And.intro se39 (And.intro ze39 (And.intro Try.underlying39 (And.intro ag41 (And.intro sz41 (And.intro by41 (And.intro ze41 (And.intro bu41 (And.intro Try.underlying41 (And.intro ag44 (And.intro sz44 (And.intro by44 (And.intro se44 (And.intro ze44 (And.intro Try.underlying44 (And.intro ag45 (And.intro sz45 (And.intro by45 (And.intro se45 (And.intro ze45 (And.intro Try.underlying45 (And.intro ag47 (And.intro sz47 (And.intro by47 (And.intro ze47 (And.intro bu47 (And.intro Try.underlying47 (And.intro ag129 (And.intro sz129 (And.intro by129 (And.intro ze129 (And.intro bu129 (And.intro Try.underlying129 (And.intro ag131 (And.intro sz131 (And.intro by131 (And.intro ze131 (And.intro bu131 (And.intro Try.underlying131 (And.intro fa41_0 (And.intro fd41_0 (And.intro fa41_1 (And.intro fd41_1 (And.intro fa41_2 (And.intro fd41_2 (And.intro fa41_3 (And.intro fd41_3 (And.intro fa41_4 (And.intro fd41_4 (And.intro fa41_5 (And.intro fd41_5 (And.intro fa47_0 (And.intro fd47_0 (And.intro fa47_1 (And.intro fd47_1 (And.intro fa47_2 (And.intro fd47_2 (And.intro fa47_3 (And.intro fd47_3 (And.intro fa47_4 (And.intro fd47_4 (And.intro fa47_5 (And.intro fd47_5 (And.intro fa129_0 (And.intro fd129_0 (And.intro fa129_1 fd129_1)))))))))))))))))))))))))))))))))))))))))))))))))))))))))))))))))))))))))))))))))))))))))))))))))))))))))))
def g60 : Code :=
  .seq (.region 0 #[q 2 (.assign (.const (.slice none 0 0))) 44] false) (.seq (.region 1 #[q 3 (.assign (.const (.slice none 0 0))) 44] false) (.seq (.seq (.region 2 #[q 6 (.move (.tmp 0)) 38, q 7 (bi .len #[.tmp 6] #[38]) 3, q 8 (.move (ik 0)) 3] false) (.block 0 (.loop (.seq (.region 3 #[q 9 (.binOp .lss 3 (.tmp 8) (.tmp 7) 3) 0] false) (.seq (.cond (.tmp 9) .skip (.exit 0)) (.seq (.block 1 (.seq (.region 4 #[q 10 (.indexAddr 38 (.tmp 6) (.tmp 8)) 0, q 11 (.load 129 (.tmp 10)) 129, q 5 (.alloc 129) 0, qn (.store 129 (.tmp 5) (.tmp 11)) 0] false) (.region 5 #[q 12 (.move (.tmp 3)) 44, q 13 (.fieldAddr 129 (.tmp 5) 0) 0, q 14 (.load 21 (.tmp 13)) 21, q 15 (.fieldAddr 129 (.tmp 5) 1) 0, q 16 (.load 21 (.tmp 15)) 21, q 17 (.build 131 #[(0, .tmp 14), (1, .tmp 16)]) 131, q 18 (.buildSlice 44 1 #[(0, .tmp 17)]) 44, q 19 (bi .append #[.tmp 12, .tmp 18] #[44, 44]) 44, q 3 (.assign (.tmp 19)) 44] false))) (.region 6 #[q 20 (.binOp .add 3 (.tmp 8) (ik 1) 3) 3, q 8 (.move (.tmp 20)) 3] false))))))) (.seq (.region 7 #[q 21 (.move (.tmp 3)) 44, q 2 (.assign (.tmp 21)) 44] false) .ret)))
theorem s60 : Try.f60.body.map (slim cfg) = some g60 := by kernel_rfl
def g23 : Code :=
  .seq (.region 0 #[q 1 (.box 41 (.tmp 0)) 0, q 2 (.alloc 47) 0] false) (.seq (.region 1 #[{ dst := some 6, op := .fieldAddr 41 (.tmp 1) 0, type := 0, pos := "law.go:39", after := #[], guard := none }, { dst := some 7, op := .load 3 (.tmp 6), type := 3, pos := "law.go:39", after := #[{ on := 0, ground := .data }], guard := none }, { dst := some 8, op := .fieldAddr 41 (.tmp 1) 1, type := 0, pos := "law.go:39", after := #[], guard := none }, { dst := some 9, op := .load 4 (.tmp 8), type := 4, pos := "law.go:39", after := #[{ on := 2, ground := .data }], guard := none }, { dst := some 10, op := .fieldAddr 41 (.tmp 1) 2, type := 0, pos := "law.go:39", after := #[], guard := none }, { dst := some 11, op := .load 38 (.tmp 10), type := 38, pos := "law.go:39", after := #[{ on := 4, ground := .data }], guard := none }, { dst := some 12, op := cl 60 #[.tmp 11] #[38], type := 44, pos := "law.go:39", after := #[{ on := 5, ground := .data }], guard := none }, { dst := some 13, op := .fieldAddr 41 (.tmp 1) 3, type := 0, pos := "law.go:39", after := #[], guard := none }, { dst := some 14, op := .load 3 (.tmp 13), type := 3, pos := "law.go:39", after := #[{ on := 7, ground := .data }], guard := none }, { dst := some 15, op := .fieldAddr 41 (.tmp 1) 4, type := 0, pos := "law.go:39", after := #[], guard := none }, { dst := some 16, op := .load 3 (.tmp 15), type := 3, pos := "law.go:39", after := #[{ on := 9, ground := .data }], guard := none }, { dst := some 17, op := .build 47 #[(0, .tmp 7), (1, .tmp 9), (2, .tmp 12), (3, .tmp 14), (4, .tmp 16)], type := 47, pos := "law.go:39", after := #[{ on := 1, ground := .data }, { on := 3, ground := .data }, { on := 6, ground := .data }, { on := 8, ground := .data }, { on := 10, ground := .data }], guard := none }, { dst := some 3, op := .alloc 47, type := 0, pos := "law.go:39", after := #[], guard := none }, { dst := none, op := .store 47 (.tmp 3) (.tmp 17), type := 0, pos := "law.go:39", after := #[{ on := 12, ground := .data }, { on := 11, ground := .data }, { on := 6, ground := .chain }, { on := 0, ground := .phase }, { on := 1, ground := .phase }, { on := 2, ground := .phase }, { on := 3, ground := .phase }, { on := 4, ground := .phase }, { on := 5, ground := .phase }, { on := 6, ground := .phase }, { on := 7, ground := .phase }, { on := 8, ground := .phase }, { on := 9, ground := .phase }, { on := 10, ground := .phase }, { on := 11, ground := .phase }, { on := 12, ground := .phase }], guard := none }] true) (.seq (.seq (.region 2 #[q 18 (.fieldAddr 41 (.tmp 1) 5) 0, q 19 (.load 39 (.tmp 18)) 39, q 20 (bi .len #[.tmp 19] #[39]) 3, q 21 (.move (ik 0)) 3] false) (.block 0 (.loop (.seq (.region 3 #[q 22 (.binOp .lss 3 (.tmp 21) (.tmp 20) 3) 0] false) (.seq (.cond (.tmp 22) .skip (.exit 0)) (.seq (.block 1 (.seq (.region 4 #[q 23 (.indexAddr 39 (.tmp 19) (.tmp 21)) 0, q 24 (.load 41 (.tmp 23)) 41, q 5 (.alloc 41) 0, qn (.store 41 (.tmp 5) (.tmp 24)) 0] false) (.region 5 #[{ dst := some 25, op := .fieldAddr 47 (.tmp 3) 5, type := 0, pos := "law.go:41", after := #[], guard := none }, { dst := some 26, op := .load 45 (.tmp 25), type := 45, pos := "law.go:41", after := #[{ on := 0, ground := .data }], guard := none }, { dst := some 27, op := .load 41 (.tmp 5), type := 41, pos := "law.go:41", after := #[], guard := none }, { dst := some 28, op := cl 23 #[.tmp 27] #[41], type := 47, pos := "law.go:41", after := #[{ on := 2, ground := .data }], guard := none }, { dst := some 29, op := .buildSlice 45 1 #[(0, .tmp 28)], type := 45, pos := "law.go:41", after := #[{ on := 3, ground := .data }], guard := none }, { dst := some 30, op := bi .append #[.tmp 26, .tmp 29] #[45, 45], type := 45, pos := "law.go:41", after := #[{ on := 1, ground := .data }, { on := 4, ground := .data }, { on := 3, ground := .chain }], guard := none }, { dst := some 31, op := .fieldAddr 47 (.tmp 3) 5, type := 0, pos := "law.go:41", after := #[{ on := 0, ground := .phase }, { on := 1, ground := .phase }, { on := 2, ground := .phase }, { on := 3, ground := .phase }, { on := 4, ground := .phase }, { on := 5, ground := .phase }], guard := none }, { dst := none, op := .store 45 (.tmp 31) (.tmp 30), type := 0, pos := "law.go:41", after := #[{ on := 6, ground := .data }, { on := 5, ground := .data }, { on := 5, ground := .chain }, { on := 0, ground := .phase }, { on := 1, ground := .phase }, { on := 2, ground := .phase }, { on := 3, ground := .phase }, { on := 4, ground := .phase }, { on := 5, ground := .phase }], guard := none }] true))) (.region 6 #[q 32 (.binOp .add 3 (.tmp 21) (ik 1) 3) 3, q 21 (.move (.tmp 32)) 3] false))))))) (.seq (.region 7 #[q 33 (.load 47 (.tmp 3)) 47, qn (.store 47 (.tmp 2) (.tmp 33)) 0] false) .ret)))
theorem s23 : Try.f23.body.map (slim cfg) = some g23 := by kernel_rfl
def g59 : Code :=
  .seq (.region 0 #[q 4 (.assign (.const (.bool false))) 4] false) (.seq (.seq (.region 1 #[q 6 (.move (.tmp 0)) 44, q 7 (bi .len #[.tmp 6] #[44]) 3, q 8 (.move (.tmp 1)) 44, q 9 (bi .len #[.tmp 8] #[44]) 3, q 10 (.binOp .neq 3 (.tmp 7) (.tmp 9) 3) 4] false) (.cond (.tmp 10) (.seq (.region 2 #[q 4 (.assign (.const (.bool false))) 4] false) .ret) .skip)) (.seq (.seq (.region 3 #[q 11 (.move (.tmp 0)) 44, q 12 (bi .len #[.tmp 11] #[44]) 3, q 13 (.move (ik 0)) 3] false) (.block 0 (.loop (.seq (.region 4 #[q 14 (.binOp .lss 3 (.tmp 13) (.tmp 12) 3) 0] false) (.seq (.cond (.tmp 14) .skip (.exit 0)) (.seq (.block 1 (.seq (.region 5 #[q 15 (.move (.tmp 13)) 3, q 5 (.assign (.tmp 15)) 3] false) (.seq (.region 6 #[q 16 (.move (.tmp 0)) 44, q 17 (.move (.tmp 5)) 3, q 18 (.indexAddr 44 (.tmp 16) (.tmp 17)) 0, q 19 (.load 131 (.tmp 18)) 131, q 20 (.move (.tmp 1)) 44, q 21 (.move (.tmp 5)) 3, q 22 (.indexAddr 44 (.tmp 20) (.tmp 21)) 0, q 23 (.load 131 (.tmp 22)) 131, q 24 (.binOp .neq 131 (.tmp 19) (.tmp 23) 131) 4] false) (.cond (.tmp 24) (.seq (.region 7 #[q 4 (.assign (.const (.bool false))) 4] false) .ret) .skip)))) (.region 8 #[q 25 (.binOp .add 3 (.tmp 13) (ik 1) 3) 3, q 13 (.move (.tmp 25)) 3] false))))))) (.seq (.region 9 #[q 4 (.assign (.const (.bool true))) 4] false) .ret)))
theorem s59 : Try.f59.body.map (slim cfg) = some g59 := by kernel_rfl
def g22 : Code :=
  .seq (.region 0 #[q 2 (.box 47 (.tmp 0)) 0, q 3 (.box 47 (.tmp 1)) 0, q 4 (.assign (.const (.bool false))) 4] false) (.seq (.seq (.region 1 #[q 6 (.fieldAddr 47 (.tmp 2) 0) 0, q 7 (.load 3 (.tmp 6)) 3, q 8 (.fieldAddr 47 (.tmp 3) 0) 0, q 9 (.load 3 (.tmp 8)) 3, q 10 (.binOp .neq 3 (.tmp 7) (.tmp 9) 3) 4, q 11 (.move (.tmp 10)) 4, qg 12 (.fieldAddr 47 (.tmp 2) 1) 0 5 false, qg 13 (.load 4 (.tmp 12)) 4 5 false, qg 14 (.fieldAddr 47 (.tmp 3) 1) 0 5 false, qg 15 (.load 4 (.tmp 14)) 4 5 false, qg 16 (.binOp .neq 4 (.tmp 13) (.tmp 15) 4) 4 5 false, q 17 (.pick (.tmp 11) (.const (.bool true)) (.tmp 16)) 4, q 18 (.move (.tmp 17)) 4, qg 19 (.fieldAddr 47 (.tmp 2) 3) 0 12 false, qg 20 (.load 3 (.tmp 19)) 3 12 false, qg 21 (.fieldAddr 47 (.tmp 3) 3) 0 12 false, qg 22 (.load 3 (.tmp 21)) 3 12 false, qg 23 (.binOp .neq 3 (.tmp 20) (.tmp 22) 3) 4 12 false, q 24 (.pick (.tmp 18) (.const (.bool true)) (.tmp 23)) 4, q 25 (.move (.tmp 24)) 4, qg 26 (.fieldAddr 47 (.tmp 2) 4) 0 19 false, qg 27 (.load 3 (.tmp 26)) 3 19 false, qg 28 (.fieldAddr 47 (.tmp 3) 4) 0 19 false, qg 29 (.load 3 (.tmp 28)) 3 19 false, qg 30 (.binOp .neq 3 (.tmp 27) (.tmp 29) 3) 4 19 false, q 31 (.pick (.tmp 25) (.const (.bool true)) (.tmp 30)) 4, q 32 (.move (.tmp 31)) 4, qg 33 (.fieldAddr 47 (.tmp 2) 2) 0 26 false, qg 34 (.load 44 (.tmp 33)) 44 26 false, qg 35 (.fieldAddr 47 (.tmp 3) 2) 0 26 false, qg 36 (.load 44 (.tmp 35)) 44 26 false, qg 37 (cl 59 #[.tmp 34, .tmp 36] #[44, 44]) 4 26 false, qg 38 (.unOp .not 4 (.tmp 37)) 4 26 false, q 39 (.pick (.tmp 32) (.const (.bool true)) (.tmp 38)) 4, q 40 (.move (.tmp 39)) 4, qg 41 (.fieldAddr 47 (.tmp 2) 5) 0 34 false, qg 42 (.load 45 (.tmp 41)) 45 34 false, qg 43 (bi .len #[.tmp 42] #[45]) 3 34 false, qg 44 (.fieldAddr 47 (.tmp 3) 5) 0 34 false, qg 45 (.load 45 (.tmp 44)) 45 34 false, qg 46 (bi .len #[.tmp 45] #[45]) 3 34 false, qg 47 (.binOp .neq 3 (.tmp 43) (.tmp 46) 3) 4 34 false, q 48 (.pick (.tmp 40) (.const (.bool true)) (.tmp 47)) 4] false) (.cond (.tmp 48) (.seq (.region 2 #[q 4 (.assign (.const (.bool false))) 4] false) .ret) .skip)) (.seq (.seq (.region 3 #[q 49 (.fieldAddr 47 (.tmp 2) 5) 0, q 50 (.load 45 (.tmp 49)) 45, q 51 (bi .len #[.tmp 50] #[45]) 3, q 52 (.move (ik 0)) 3] false) (.block 0 (.loop (.seq (.region 4 #[q 53 (.binOp .lss 3 (.tmp 52) (.tmp 51) 3) 0] false) (.seq (.cond (.tmp 53) .skip (.exit 0)) (.seq (.block 1 (.seq (.region 5 #[q 54 (.move (.tmp 52)) 3, q 5 (.assign (.tmp 54)) 3] false) (.seq (.region 6 #[q 55 (.fieldAddr 47 (.tmp 2) 5) 0, q 56 (.load 45 (.tmp 55)) 45, q 57 (.move (.tmp 5)) 3, q 58 (.indexAddr 45 (.tmp 56) (.tmp 57)) 0, q 59 (.load 47 (.tmp 58)) 47, q 60 (.fieldAddr 47 (.tmp 3) 5) 0, q 61 (.load 45 (.tmp 60)) 45, q 62 (.move (.tmp 5)) 3, q 63 (.indexAddr 45 (.tmp 61) (.tmp 62)) 0, q 64 (.load 47 (.tmp 63)) 47, q 65 (cl 22 #[.tmp 59, .tmp 64] #[47, 47]) 4, q 66 (.unOp .not 4 (.tmp 65)) 4] false) (.cond (.tmp 66) (.seq (.region 7 #[q 4 (.assign (.const (.bool false))) 4] false) .ret) .skip)))) (.region 8 #[q 67 (.binOp .add 3 (.tmp 52) (ik 1) 3) 3, q 52 (.move (.tmp 67)) 3] false))))))) (.seq (.region 9 #[q 4 (.assign (.const (.bool true))) 4] false) .ret)))
theorem s22 : Try.f22.body.map (slim cfg) = some g22 := by kernel_rfl
def g4 : Code :=
  .seq (.region 0 #[q 2 (.assign (.const (.bool false))) 4] false) (.seq (.seq (.region 1 #[q 7 (.move (.tmp 0)) 9, q 8 (bi .len #[.tmp 7] #[9]) 3, q 9 (.binOp .gtr 3 (.tmp 8) (ik 80) 3) 4] false) (.cond (.tmp 9) (.region 2 #[q 10 (.move (.tmp 0)) 9, q 11 (.slice 9 (.tmp 10) none (some (ik 80)) none) 9, q 0 (.assign (.tmp 11)) 9] false) .skip)) (.seq (.region 3 #[q 13 (.move (.tmp 0)) 9, q 14 (cl 20 #[.tmp 13] #[9]) 42, q 12 (.move (.tmp 14)) 42, q 15 (.extract (.tmp 12) 0) 41, q 16 (.extract (.tmp 12) 1) 29, q 3 (.alloc 41) 0, qn (.store 41 (.tmp 3) (.tmp 15)) 0, q 4 (.assign (.tmp 16)) 29] false) (.seq (.region 4 #[q 18 (.move (.tmp 0)) 9, q 19 (cl 21 #[.tmp 18] #[9]) 48, q 17 (.move (.tmp 19)) 48, q 20 (.extract (.tmp 17) 0) 47, q 21 (.extract (.tmp 17) 1) 29, q 5 (.alloc 47) 0, qn (.store 47 (.tmp 5) (.tmp 20)) 0, q 6 (.assign (.tmp 21)) 29] false) (.seq (.region 5 #[q 22 (.move (.tmp 4)) 29, q 23 (.move (.tmp 6)) 29, q 24 (.binOp .eql 29 (.tmp 22) (.tmp 23) 29) 4, q 25 (.move (.tmp 24)) 4, qg 26 (.load 41 (.tmp 3)) 41 3 true, qg 27 (cl 23 #[.tmp 26] #[41]) 47 3 true, qg 28 (.load 47 (.tmp 5)) 47 3 true, qg 29 (cl 22 #[.tmp 27, .tmp 28] #[47, 47]) 4 3 true, q 30 (.pick (.tmp 25) (.tmp 29) (.const (.bool false))) 4, q 31 (.move (.tmp 30)) 4, qg 32 (cl 24 #[] #[]) 4 9 true, q 33 (.pick (.tmp 31) (.tmp 32) (.const (.bool false))) 4, q 2 (.assign (.tmp 33)) 4] false) .ret))))
theorem s4 : Try.f4.body.map (slim cfg) = some g4 := by kernel_rfl
theorem lenG {v : AV} {l : List Sg} (hv : Sl encG v l) (H : Heap) : aLen Try.prog H 44 v = some (.int .i64 (l.length : Nat)) := hv.len Try.underlying44

theorem plain_ok (l : List Sg) (v : AV) (hv : Sl encG v l) (hl : l.length ≤ 10000000) (prot : Nat) (H : Heap) (hp : prot ≤ H.length) :
    aLim cfg prot 60 [v] H = some (slv encG l, none) := by
  have hsnap : snap H [v] = some ([v], false) := by cases hv <;> rfl
  refine pure_slim rfl (by kernel_rfl) Try.func60 s60 hp hsnap (by simp [Try.f60]) fun fr hlen h => ?_
  simp only [Has, Nat.zero_add] at h
  obtain ⟨a0, -⟩ := h
  simp only [Try.f60] at hlen ⊢
  unfold g60
  simp only [wk, aBuiltin, AV.cells, AV.leaf, Nat.reduceEqDiff, Nat.reduceLT, Nat.reduceAdd, Nat.reduceLeDiff, reduceCtorEq, Nat.reduceMul, cfgP, u60, hlen, a0, hv.len Try.underlying38]
  refine loop_rule (fun m fr H' => ∃ (i : Nat) (o : AV), m = l.length - i ∧ i ≤ l.length ∧ fr.length = 22 ∧ fget fr 6 = v ∧ fget fr 7 = .int .i64 l.length ∧ fget fr 8 = .int .i64 i ∧ fget fr 3 = o
    ∧ H.length ≤ H'.length ∧ Row encG 2 true H.length H' o (l.take i) ∧ (o = .nilS ∨ l.take i ≠ [])) ?_ l.length _ _ ⟨0, .nilS, by simp [wk, aBuiltin, AV.cells, AV.leaf, Nat.reduceEqDiff, Nat.reduceLT, Nat.reduceAdd, Nat.reduceLeDiff, reduceCtorEq, Nat.reduceMul, cfgP, u60, hlen, a0, Row.nil]⟩
  rintro m fr H' ⟨i, o, rfl, hi, hlen, h6, h7, h8, h3, hH, hrow, hne⟩ ih
  simp only [wk, aBuiltin, AV.cells, AV.leaf, Nat.reduceEqDiff, Nat.reduceLT, Nat.reduceAdd, Nat.reduceLeDiff, reduceCtorEq, Nat.reduceMul, cfgP, u60, hlen, h6, h7, h8, h3]
  refine RC_split (fun h => ?_) (fun h => ?_)
  · have hlt : i < l.length := by simpa using h
    have hw : IntKind.i64.wrap ((i : Int) + 1) = ((i + 1 : Nat) : Int) := by rw [wrap64 (by omega) (by omega)]; simp
    have e1 := hv.at (k := .i64) Try.underlying38 sz129 encG_len hlt
    have htk : l.take (i + 1) = l.take i ++ [l[i]] := by simp
    have hti : (l.take i).length = i := by simp; omega
    generalize l[i] = x at *
    have hrow2 := hrow.more [Blk.cells 0 (encG x).cells]
    obtain ⟨o', H2, happ, hrow3, hle, hno, hold⟩ := hrow2.app (prot := H.length) (xt := 44) encG_T rowG2 (.inl ⟨_, Try.underlying44⟩) (elem_vs encG_T [x] true) (by simp) (by simp [roomy]; omega) (Nat.le_refl _) (by simp; omega)
    simp only [encG, AV.cells] at happ hle
    simp only [wk, aBuiltin, AV.cells, AV.leaf, Nat.reduceEqDiff, Nat.reduceLT, Nat.reduceAdd, Nat.reduceLeDiff, reduceCtorEq, Nat.reduceMul, cfgP, u60, hlen, h6, h7, h8, h3, e1, encG, hH, rlitG1, happ, hw]
    refine ih _ _ (l.length - (i + 1)) (by omega) ⟨i + 1, o', rfl, hlt, ?_⟩
    rw [htk]
    simp [wk, aBuiltin, AV.cells, AV.leaf, Nat.reduceEqDiff, Nat.reduceLT, Nat.reduceAdd, Nat.reduceLeDiff, reduceCtorEq, Nat.reduceMul, cfgP, u60, hlen, h6, h7, h8, h3, hrow3]
    exact Nat.le_trans (Nat.le_trans hH (by simp)) hle
  · simp only [wk, aBuiltin, AV.cells, AV.leaf, Nat.reduceEqDiff, Nat.reduceLT, Nat.reduceAdd, Nat.reduceLeDiff, reduceCtorEq, Nat.reduceMul, cfgP, u60, hlen, h6, h7, h8, h3]
    have hnl : ¬ i < l.length := by simpa using h
    rw [List.take_of_length_le (l := l) (by omega)] at hrow hne
    exact Fin_pure (l := [o]) (by simp [wk, aBuiltin, AV.cells, AV.leaf, Nat.reduceEqDiff, Nat.reduceLT, Nat.reduceAdd, Nat.reduceLeDiff, reduceCtorEq, Nat.reduceMul, cfgP, u60, hlen, h3, aResults, aResult]) (hrow.frozen encG_T (by decide) rfl hne) (by simp)
theorem eqFsG (a : Sg) : EqFs Try.prog 9999 #[.int .i32 a.lo, .int .i32 a.hi] #[.int .i32 a.lo, .int .i32 a.hi]
    [{ name := "Lo", type := 21, offset := 0, embedded := false, tag := "", pkgPath := "", byteOffset := 0 }, { name := "Hi", type := 21, offset := 1, embedded := false, tag := "", pkgPath := "", byteOffset := 4 }] ((a.lo == a.lo) && ((a.hi == a.hi) && true)) :=
  .cons (by decide) (pureOf_part (by kernel_rfl) rfl) (pureOf_part (by kernel_rfl) rfl) (equalIn_int Try.underlying21 _ _ _)
    (.cons (by decide) (pureOf_part (by kernel_rfl) rfl) (pureOf_part (by kernel_rfl) rfl) (equalIn_int Try.underlying21 _ _ _) .nil)
theorem neSg (a : Sg) (xo yo : Operand) : aBin Try.prog .neq 131 xo yo (.agg [.int .i32 a.lo, .int .i32 a.hi]) (.agg [.int .i32 a.lo, .int .i32 a.hi]) = some (.bool false) := by
  have h := bin_agg_ne (xo := xo) (yo := yo) Try.underlying131 (by kernel_rfl) (by kernel_rfl) (cs := [.int .i32 a.lo, .int .i32 a.hi]) (ds := [.int .i32 a.lo, .int .i32 a.hi]) rfl rfl (eqFsG a)
  rw [h]
  simp

theorem same_ok (l : List Sg) (v w : AV) (hv : Sl encG v l) (hw : Sl encG w l) (hl : l.length ≤ 10000000) (prot : Nat) (H : Heap) (hp : prot ≤ H.length) :
    aLim cfg prot 59 [v, w] H = some (.bool true, none) := by
  have hsnap : snap H [v, w] = some ([v, w], false) := by cases hv <;> cases hw <;> rfl
  have hz : decide (¬ (l.length : Int) = l.length) = false := decide_eq_false (by omega)
  refine pure_slim rfl (by kernel_rfl) Try.func59 s59 hp hsnap (by simp [Try.f59]) fun fr hlen h => ?_
  simp only [Has, Nat.zero_add] at h
  obtain ⟨a0, a1, -⟩ := h
  simp only [Try.f59] at hlen ⊢
  unfold g59
  simp only [wk, aBuiltin, AV.cells, AV.leaf, Nat.reduceEqDiff, Nat.reduceLT, Nat.reduceAdd, Nat.reduceLeDiff, reduceCtorEq, Nat.reduceMul, cfgP, u60, hlen, a0, a1, hv.len Try.underlying44, hw.len Try.underlying44, hz]
  refine loop_rule (fun m fr H' => ∃ (i : Nat), m = l.length - i ∧ i ≤ l.length ∧ fr.length = 26 ∧ fget fr 0 = v ∧ fget fr 1 = w ∧ fget fr 12 = .int .i64 l.length ∧ fget fr 13 = .int .i64 i ∧ H.length ≤ H'.length) ?_ l.length _ _ ⟨0, by simp [wk, aBuiltin, AV.cells, AV.leaf, Nat.reduceEqDiff, Nat.reduceLT, Nat.reduceAdd, Nat.reduceLeDiff, reduceCtorEq, Nat.reduceMul, cfgP, u60, hlen, a0, a1]⟩
  rintro m fr H' ⟨i, rfl, hi, hlen, a0, a1, a12, a13, hH⟩ ih
  simp only [wk, aBuiltin, AV.cells, AV.leaf, Nat.reduceEqDiff, Nat.reduceLT, Nat.reduceAdd, Nat.reduceLeDiff, reduceCtorEq, Nat.reduceMul, cfgP, u60, hlen, a0, a1, a12, a13]
  refine RC_split (fun h => ?_) (fun h => ?_)
  · have hlt : i < l.length := by simpa using h
    have hww : IntKind.i64.wrap ((i : Int) + 1) = ((i + 1 : Nat) : Int) := by rw [wrap64 (by omega) (by omega)]; simp
    have e1 := hv.at (k := .i64) Try.underlying44 sz131 encG_len hlt
    have e2 := hw.at (k := .i64) Try.underlying44 sz131 encG_len hlt
    generalize l[i] = x at *
    simp only [wk, aBuiltin, AV.cells, AV.leaf, Nat.reduceEqDiff, Nat.reduceLT, Nat.reduceAdd, Nat.reduceLeDiff, reduceCtorEq, Nat.reduceMul, cfgP, u60, hlen, a0, a1, a12, a13, e1, e2, encG, hH, neSg, hww]
    refine ih _ _ (l.length - (i + 1)) (by omega) ⟨i + 1, rfl, hlt, ?_⟩
    simp [wk, aBuiltin, AV.cells, AV.leaf, Nat.reduceEqDiff, Nat.reduceLT, Nat.reduceAdd, Nat.reduceLeDiff, reduceCtorEq, Nat.reduceMul, cfgP, u60, hlen, a0, a1, a12, a13, hH]
  · simp only [wk, aBuiltin, AV.cells, AV.leaf, Nat.reduceEqDiff, Nat.reduceLT, Nat.reduceAdd, Nat.reduceLeDiff, reduceCtorEq, Nat.reduceMul, cfgP, u60, hlen, a0, a1, a12, a13]
    exact Fin_pure (l := [.bool true]) (by simp [wk, aBuiltin, AV.cells, AV.leaf, Nat.reduceEqDiff, Nat.reduceLT, Nat.reduceAdd, Nat.reduceLeDiff, reduceCtorEq, Nat.reduceMul, cfgP, u60, aResults, aResult, hlen]) (.still rfl) (by simp)
end Go.Proofs.Ytoblikhnbddfmaa
/-! Chapter 15's law: a node as the document's, walked. -/
namespace Go.Abs
open Go
/-- one row behind another one: what is below it stays. -/
theorem Row.appO {α : Type} {enc : α → AV} {sz : Nat} {ag : Bool} {base : Nat} {H : Heap} {v : AV} {l : List α} (h : Row enc sz ag base H v l) (he : EncT enc sz ag) {P : Program} {t xt e : TypeId} {by_ prot : Nat} (ht : RowT P t e sz by_ ag) (hxt : (∃ e', P.underlying xt = some (.slice e')) ∨ P.underlying xt = some .string) {x : AV} {m : List α}
    (hx : elemCells H sz x = some (m.length, cellsOf enc m)) (hm : 0 < m.length) (hr : roomy (l.length + m.length) by_ = true) (hp : prot ≤ base) (hb : base ≤ H.length) :
    ∃ v' H', aAppend P prot H #[t, xt] v x = some (v', some H') ∧ Row enc sz ag base H' v' (l ++ m) ∧ H.length ≤ H'.length ∧
      ∀ b ver cs, b < base → hget H b ver = some cs → hget H' b ver = some cs := by
  obtain ⟨v', H', h1, h2, h3, h4, h5⟩ := h.app he ht hxt hx hm hr hp hb
  refine ⟨v', H', h1, h2, h3, fun b ver cs hlt hg => h5 b ver cs hg fun s hs => ?_⟩
  rcases h with ⟨q, _⟩ | ⟨b', ver', q, hb', _⟩
  · rw [q] at hs; cases hs
  · rw [q] at hs; cases hs; simp; omega
end Go.Abs
namespace Go.Proofs.Ytoblikhnbddfmaa
open Go Go.Abs AbsSeat Ty


theorem plainN_step (kind : Int) (no sf : Bool) (sp : List Sg) (least most : Int) (kf : Bool) (kids : List Nd) (hg : Fine (.mk kind no sf sp least most kf kids)) (ih : ∀ x ∈ kids, ∀ (prot : Nat) (H : Heap), prot ≤ H.length → aLim cfg prot 23 [encN x] H = some (encN (flat x), none))
    (prot : Nat) (H : Heap) (hp : prot ≤ H.length) : aLim cfg prot 23 [encN (.mk kind no sf sp least most kf kids)] H = some (encN (flat (.mk kind no sf sp least most kf kids)), none) := by
  have hsnap : snap H [encN (.mk kind no sf sp least most kf kids)] = some ([encN (.mk kind no sf sp least most kf kids)], false) := by rw [encN_eq]; rfl
  cases hg with
  | mk hgk hs0 hl =>
  have hs1 := slF_leaf sf encG sp
  have hs2 := slF_leaf false encG sp
  have ht1 := slF_leaf kf encN kids
  have hsl := slF_sl kf encN kids
  have hkl := fun K : Heap => hsl.len (P := Try.prog) (H := K) Try.underlying39
  have n0 := fun (K : Heap) (hK : H.length ≤ K.length) => plain_ok sp (slF sf encG sp) (slF_sl sf encG sp) hs0 H.length K hK
  rw [← slF_slv encG sp] at n0
  rw [flat_eq, encN_eq kind no false sp least most false (kids.map flat), slF_slv encN]
  have hg0 : hget (H ++ [Blk.cells 0 [.int .i64 kind, .bool no, slF sf encG sp, .int .i64 least, .int .i64 most, slF kf encN kids]] ++ [Blk.cells 0 [.int .i64 0, .bool false, .nilS, .int .i64 0, .int .i64 0, .nilS]]) H.length 0 = some [.int .i64 kind, .bool no, slF sf encG sp, .int .i64 least, .int .i64 most, slF kf encN kids] := hget_mono (by rw [hget_new rfl, if_pos rfl]) _
  have hlZ : ∀ Z, (H ++ [Blk.cells 0 Z]).length = H.length + 1 := fun Z => by simp
  have hg1 : hget (H ++ [Blk.cells 0 [.int .i64 kind, .bool no, slF sf encG sp, .int .i64 least, .int .i64 most, slF kf encN kids]] ++ [Blk.cells 0 [.int .i64 0, .bool false, .nilS, .int .i64 0, .int .i64 0, .nilS]]) (H.length + 1) 0 = some [.int .i64 0, .bool false, .nilS, .int .i64 0, .int .i64 0, .nilS] := by rw [hget_new (hlZ _).symm, if_pos rfl]
  have hK0l : (H ++ [Blk.cells 0 [.int .i64 kind, .bool no, slF sf encG sp, .int .i64 least, .int .i64 most, slF kf encN kids]] ++ [Blk.cells 0 [.int .i64 0, .bool false, .nilS, .int .i64 0, .int .i64 0, .nilS]]).length = H.length + 2 := by simp
  refine pure_slim rfl (by kernel_rfl) Try.func23 s23 hp hsnap (by simp [Try.f23]) fun fr hlen h => ?_
  simp only [Has, Nat.zero_add] at h
  obtain ⟨a0, -⟩ := h
  simp only [Try.f23] at hlen ⊢
  unfold g23
  rw [encN_eq] at a0
  have hc2 := slF_cells false encG sp
  unfold AV.cells at hc2
  unfold AV.leaf at hs1 ht1 hs2
  generalize hK0 : H ++ [Blk.cells 0 [.int .i64 kind, .bool no, slF sf encG sp, .int .i64 least, .int .i64 most, slF kf encN kids]] ++ [Blk.cells 0 [.int .i64 0, .bool false, .nilS, .int .i64 0, .int .i64 0, .nilS]] = K0 at *
  have hpl : H.length ≤ H.length + 2 := by omega
  simp only [wk, aBuiltin, AV.cells, AV.leaf, Nat.reduceEqDiff, Nat.reduceLT, Nat.reduceAdd, Nat.reduceLeDiff, reduceCtorEq, Nat.reduceMul, cfgP, u60, hlen, a0, hs1, ht1, hlZ, hK0, hg0, n0, hpl, hs2, hc2, hK0l]
  refine ⟨?_, ?_⟩
  · rw [show befs [] _ = [0, 1, 0, 4, 0, 16, 48, 0, 128, 0, 512, 2047, 0, 8191] from by kernel_rfl]
    have n0b := n0 (K0 ++ [Blk.cells 0 [.int .i64 0, .bool false, .nilS, .int .i64 0, .int .i64 0, .nilS]]) (by simp; omega)
    simp [wk, aBuiltin, AV.cells, AV.leaf, Nat.reduceEqDiff, Nat.reduceLT, Nat.reduceAdd, Nat.reduceLeDiff, reduceCtorEq, Nat.reduceMul, cfgP, u60, hlen, drawOk, chained, mayAt, sameAt, bound, List.range_succ, Nat.testBit, a0, hg0, n0, n0b, hpl, hK0l, hs2, hc2, avbeq_refl]
  have hr1 : hget (K0 ++ [Blk.cells 0 [.int .i64 kind, .bool no, slF false encG sp, .int .i64 least, .int .i64 most, .nilS]]) H.length 0 = some [.int .i64 kind, .bool no, slF sf encG sp, .int .i64 least, .int .i64 most, slF kf encN kids] := hget_mono hg0 _
  have hr2 : hget (K0 ++ [Blk.cells 0 [.int .i64 kind, .bool no, slF false encG sp, .int .i64 least, .int .i64 most, .nilS]]) (H.length + 1) 0 = some [.int .i64 0, .bool false, .nilS, .int .i64 0, .int .i64 0, .nilS] := hget_mono hg1 _
  have hr3 : hget (K0 ++ [Blk.cells 0 [.int .i64 kind, .bool no, slF false encG sp, .int .i64 least, .int .i64 most, .nilS]]) (H.length + 2) 0 = some [.int .i64 kind, .bool no, slF false encG sp, .int .i64 least, .int .i64 most, .nilS] := by rw [hget_new hK0l.symm, if_pos rfl]
  have hr4 : (K0 ++ [Blk.cells 0 [.int .i64 kind, .bool no, slF false encG sp, .int .i64 least, .int .i64 most, .nilS]]).length = H.length + 3 := by simp [hK0l]
  generalize K0 ++ [Blk.cells 0 [.int .i64 kind, .bool no, slF false encG sp, .int .i64 least, .int .i64 most, .nilS]] = K1 at *
  simp only [wk, aBuiltin, AV.cells, AV.leaf, Nat.reduceEqDiff, Nat.reduceLT, Nat.reduceAdd, Nat.reduceLeDiff, reduceCtorEq, Nat.reduceMul, cfgP, u60, hlen, a0, hr1, hkl]
  refine loop_rule (fun m fr H' => ∃ (i : Nat) (v : AV), m = kids.length - i ∧ i ≤ kids.length ∧ fr.length = 34 ∧ fget fr 2 = .ptr (H.length + 1) 0 0 ∧ fget fr 3 = .ptr (H.length + 2) 0 0 ∧ fget fr 19 = slF kf encN kids ∧ fget fr 20 = .int .i64 kids.length ∧ fget fr 21 = .int .i64 i
    ∧ H.length + 3 ≤ H'.length ∧ hget H' (H.length + 1) 0 = some [.int .i64 0, .bool false, .nilS, .int .i64 0, .int .i64 0, .nilS] ∧ hget H' (H.length + 2) 0 = some [.int .i64 kind, .bool no, slF false encG sp, .int .i64 least, .int .i64 most, v]
    ∧ Row encN 6 true (H.length + 3) H' v ((kids.take i).map flat) ∧ (v = .nilS ∨ (kids.take i).map flat ≠ [])) ?_ kids.length _ _ ⟨0, .nilS, by simp [wk, aBuiltin, AV.cells, AV.leaf, Nat.reduceEqDiff, Nat.reduceLT, Nat.reduceAdd, Nat.reduceLeDiff, reduceCtorEq, Nat.reduceMul, cfgP, u60, hlen, a0, hr2, hr3, hr4, Row.nil]⟩
  clear hr1 hr2 hr3 hr4 K1 hg0 hg1 hK0l hK0 K0 a0 hlen fr
  rintro m fr H' ⟨i, v, rfl, hi, hlen, a2, a3, a19, a20, a21, hH, hz, hn, hrow, hne⟩ ihl
  simp only [wk, aBuiltin, AV.cells, AV.leaf, Nat.reduceEqDiff, Nat.reduceLT, Nat.reduceAdd, Nat.reduceLeDiff, reduceCtorEq, Nat.reduceMul, cfgP, u60, hlen, a2, a3, a19, a20, a21]
  refine RC_split (fun h => ?_) (fun h => ?_)
  · have hlt : i < kids.length := by simpa using h
    have hww : IntKind.i64.wrap ((i : Int) + 1) = ((i + 1 : Nat) : Int) := by rw [wrap64 (by omega) (by omega)]; simp
    have e1 := hsl.at (P := Try.prog) (k := .i64) (i := i) Try.underlying39 sz41 encN_len hlt
    have n1 := fun (K : Heap) (hK : H.length ≤ K.length) => ih kids[i] (List.getElem_mem hlt) H.length K hK
    have htk : (kids.take (i + 1)).map flat = (kids.take i).map flat ++ [flat kids[i]] := by
      have : kids.take (i + 1) = kids.take i ++ [kids[i]] := by simp
      rw [this, List.map_append]; rfl
    have hti : ((kids.take i).map flat).length = i := by simp; omega
    generalize kids[i] = x at *
    obtain ⟨k', no', s, x1, x2, t, hx, hs, ht, -, -⟩ := encN_sh x
    have hfx : (encN (flat x)).cells.length = 6 := encN_len _
    obtain ⟨k2, no2, s2, y1, y2, t2, hx2, hs2', ht2', -, -⟩ := encN_sh (flat x)
    rw [hx] at e1 n1
    rw [hx2] at n1
    simp only [AV.cells] at e1
    have hl1 : (H' ++ [Blk.cells 0 [.int .i64 k', .bool no', s, .int .i64 x1, .int .i64 x2, t]]).length = H'.length + 1 := by simp
    have hpl3 : H.length ≤ H'.length + 1 := by omega
    have hq1 : hget (H' ++ [Blk.cells 0 [.int .i64 k', .bool no', s, .int .i64 x1, .int .i64 x2, t]]) H'.length 0 = some [.int .i64 k', .bool no', s, .int .i64 x1, .int .i64 x2, t] := by rw [hget_new rfl, if_pos rfl]
    have hz1 := hget_mono hz [Blk.cells 0 [.int .i64 k', .bool no', s, .int .i64 x1, .int .i64 x2, t]]
    have hn1 := hget_mono hn [Blk.cells 0 [.int .i64 k', .bool no', s, .int .i64 x1, .int .i64 x2, t]]
    have hrow1 := hrow.more [Blk.cells 0 [.int .i64 k', .bool no', s, .int .i64 x1, .int .i64 x2, t]]
    generalize hK2 : H' ++ [Blk.cells 0 [.int .i64 k', .bool no', s, .int .i64 x1, .int .i64 x2, t]] = K2 at *
    have hlit := litN2 k2 no2 s2 y1 y2 t2 hs2' ht2' K2
    have hz2 := hget_mono hz1 [Blk.cells 0 [.int .i64 k2, .bool no2, s2, .int .i64 y1, .int .i64 y2, t2]]
    have hn2 := hget_mono hn1 [Blk.cells 0 [.int .i64 k2, .bool no2, s2, .int .i64 y1, .int .i64 y2, t2]]
    have hn3 : hget (K2 ++ [Blk.cells 0 [.int .i64 k2, .bool no2, s2, .int .i64 y1, .int .i64 y2, t2]]) K2.length 0 = some (encN (flat x)).cells := by rw [hget_new rfl, if_pos rfl, hx2]; rfl
    obtain ⟨o, H3, happ, hrow3, hle3, hold⟩ := (hrow1.more [Blk.cells 0 [.int .i64 k2, .bool no2, s2, .int .i64 y1, .int .i64 y2, t2]]).appO (prot := H.length) (xt := 45) encN_T rowN2 hxtN2 (elemL hn3) (by simp) (by simp [roomy]; omega) (by omega) (by simp; omega)
    have hz3 := hold _ _ _ (by omega) hz2
    have hn4 := hold _ _ _ (by omega) hn2
    have hol : o.leaf = true := by rcases hrow3 with ⟨q, _⟩ | ⟨b, ver, q, _⟩ <;> rw [q] <;> rfl
    have hol2 : o.cells = [o] := by rcases hrow3 with ⟨q, _⟩ | ⟨b, ver, q, _⟩ <;> rw [q] <;> rfl
    have hput1 : hput H.length H3 (H.length + 2) 0 5 [o] = some (H3.set (H.length + 2) (.cells 0 [.int .i64 kind, .bool no, slF false encG sp, .int .i64 least, .int .i64 most, o])) := by
      rw [hput_eq hn4 (by omega) (by simp) (by simp [hol])]; rfl
    rw [hl1] at happ
    unfold AV.leaf at hs ht hol; unfold AV.cells at hol2
    have hH0 : H.length ≤ H'.length := by omega
    simp only [wk, aBuiltin, AV.cells, AV.leaf, Nat.reduceEqDiff, Nat.reduceLT, Nat.reduceAdd, Nat.reduceLeDiff, reduceCtorEq, Nat.reduceMul, cfgP, u60, hlen, a2, a3, a19, a20, a21, e1, hH0, hs, ht, hK2, hl1, hq1, hn1, hpl3, n1, hlit, happ, hol, hol2, hput1, hww]
    refine ⟨?_, ?_⟩
    · rw [show befs [] _ = [0, 1, 0, 4, 12, 31, 63, 127] from by kernel_rfl]
      simp [wk, aBuiltin, AV.cells, AV.leaf, Nat.reduceEqDiff, Nat.reduceLT, Nat.reduceAdd, Nat.reduceLeDiff, reduceCtorEq, Nat.reduceMul, cfgP, u60, hlen, drawOk, chained, mayAt, sameAt, bound, List.range_succ, Nat.testBit, a2, a3, a19, a20, a21, hH0, hs, ht, hK2, hl1, hq1, hn1, hn2, hn4, hpl3, n1, hlit, happ, hol, hol2, hput1, avbeq_refl]
    refine ihl _ _ (kids.length - (i + 1)) (by omega) ⟨i + 1, o, rfl, hlt, ?_⟩
    rw [htk]
    exact ⟨by simp [wk, aBuiltin, AV.cells, AV.leaf, Nat.reduceEqDiff, Nat.reduceLT, Nat.reduceAdd, Nat.reduceLeDiff, reduceCtorEq, Nat.reduceMul, cfgP, u60, hlen], by simp [wk, aBuiltin, AV.cells, AV.leaf, Nat.reduceEqDiff, Nat.reduceLT, Nat.reduceAdd, Nat.reduceLeDiff, reduceCtorEq, Nat.reduceMul, cfgP, u60, hlen, a2], by simp [wk, aBuiltin, AV.cells, AV.leaf, Nat.reduceEqDiff, Nat.reduceLT, Nat.reduceAdd, Nat.reduceLeDiff, reduceCtorEq, Nat.reduceMul, cfgP, u60, hlen, a3], by simp [wk, aBuiltin, AV.cells, AV.leaf, Nat.reduceEqDiff, Nat.reduceLT, Nat.reduceAdd, Nat.reduceLeDiff, reduceCtorEq, Nat.reduceMul, cfgP, u60, hlen, a19], by simp [wk, aBuiltin, AV.cells, AV.leaf, Nat.reduceEqDiff, Nat.reduceLT, Nat.reduceAdd, Nat.reduceLeDiff, reduceCtorEq, Nat.reduceMul, cfgP, u60, hlen, a20], by simp [wk, aBuiltin, AV.cells, AV.leaf, Nat.reduceEqDiff, Nat.reduceLT, Nat.reduceAdd, Nat.reduceLeDiff, reduceCtorEq, Nat.reduceMul, cfgP, u60, hlen], by simp at hle3 ⊢; omega, by rw [hget_set_ne (by omega)]; exact hz3, hget_set_at (by simp at hle3; omega), hrow3.setne (by omega) _, .inr (by simp)⟩
  · have hnl : ¬ i < kids.length := by simpa using h
    rw [List.take_of_length_le (l := kids) (by omega)] at hrow hne
    have hvl : v.leaf = true := by rcases hrow with ⟨q, _⟩ | ⟨b, ver, q, _⟩ <;> rw [q] <;> rfl
    have hp1 := hput6 (prot := H.length) hz rfl (by omega) kind no (slF false encG sp) least most v (slF_leaf _ _ _) hvl
    have hgZ : ∀ d, hget (H'.set (H.length + 1) (.cells 0 d)) (H.length + 1) 0 = some d := fun d => hget_set_at (by omega)
    have hvc : v.cells = [v] := by rcases hrow with ⟨q, _⟩ | ⟨b, ver, q, _⟩ <;> rw [q] <;> rfl
    unfold AV.leaf at hvl; unfold AV.cells at hvc
    simp only [wk, aBuiltin, AV.cells, AV.leaf, Nat.reduceEqDiff, Nat.reduceLT, Nat.reduceAdd, Nat.reduceLeDiff, reduceCtorEq, Nat.reduceMul, cfgP, u60, hlen, a2, a3, a19, a20, a21, hn, hs2, hc2, hvl, hvc, hp1]
    have hf := ((hrow.setne (b' := H.length + 1) (by omega) (.cells 0 [.int .i64 kind, .bool no, slF false encG sp, .int .i64 least, .int .i64 most, v])).low (base' := H.length) (by omega)).frozen encN_T (by decide) rfl hne
    exact Fin_pure (l := [.agg [.int .i64 kind, .bool no, slF false encG sp, .int .i64 least, .int .i64 most, v]]) (by simp [wk, aBuiltin, AV.cells, AV.leaf, Nat.reduceEqDiff, Nat.reduceLT, Nat.reduceAdd, Nat.reduceLeDiff, reduceCtorEq, Nat.reduceMul, cfgP, u60, hlen, a2, hgZ, aResults, aResult]) (.agg (.cons (.still rfl) (.cons (.still rfl) (.cons (.still (slF_still _ _ _)) (.cons (.still rfl) (.cons (.still rfl) (.cons hf .nil))))))) (by simp)
theorem plainN_ok : ∀ (x : Nd), Fine x → ∀ (prot : Nat) (H : Heap), prot ≤ H.length → aLim cfg prot 23 [encN x] H = some (encN (flat x), none)
  | .mk kind no sf sp least most kf kids, hg => plainN_step kind no sf sp least most kf kids hg fun x hx => plainN_ok x (by cases hg with | mk h _ _ => exact h x hx)
termination_by x => SizeOf.sizeOf x
decreasing_by have := List.sizeOf_lt_of_mem hx; simp; omega

theorem sameN_step (kind : Int) (no sf : Bool) (sp : List Sg) (least most : Int) (kf : Bool) (kids : List Nd) (hg : Fine (.mk kind no sf sp least most kf kids)) (ih : ∀ x ∈ kids, ∀ (prot : Nat) (H : Heap), prot ≤ H.length → aLim cfg prot 22 [encN (flat x), encN x] H = some (.bool true, none))
    (prot : Nat) (H : Heap) (hp : prot ≤ H.length) : aLim cfg prot 22 [encN (flat (.mk kind no sf sp least most kf kids)), encN (.mk kind no sf sp least most kf kids)] H = some (.bool true, none) := by
  have hsnap : snap H [encN (flat (.mk kind no sf sp least most kf kids)), encN (.mk kind no sf sp least most kf kids)] = some ([encN (flat (.mk kind no sf sp least most kf kids)), encN (.mk kind no sf sp least most kf kids)], false) := by rw [flat_eq, encN_eq, encN_eq]; rfl
  cases hg with
  | mk hgk hs0 hl =>
  have hs1 := slF_leaf sf encG sp
  have hs2 := slF_leaf false encG sp
  have ht1 := slF_leaf kf encN kids
  have ht2 := slF_leaf false encN (kids.map flat)
  have hsl := slF_sl kf encN kids
  have hsl2 := slF_sl false encN (kids.map flat)
  have hkl := fun K : Heap => hsl.len (P := Try.prog) (H := K) Try.underlying45
  have hkl2 := fun K : Heap => hsl2.len (P := Try.prog) (H := K) Try.underlying45
  have n0 := fun (K : Heap) (hK : H.length ≤ K.length) => same_ok sp (slF false encG sp) (slF sf encG sp) (slF_sl false encG sp) (slF_sl sf encG sp) hs0 H.length K hK
  have d1 : decide (¬ kind = kind) = false := by simp
  have d2 : decide (¬ least = least) = false := by simp
  have d3 : decide (¬ most = most) = false := by simp
  have d4 : decide (¬ (kids.length : Int) = kids.length) = false := by simp
  refine pure_slim rfl (by kernel_rfl) Try.func22 s22 hp hsnap (by simp [Try.f22]) fun fr hlen h => ?_
  simp only [Has, Nat.zero_add] at h
  obtain ⟨a0, a1, -⟩ := h
  simp only [Try.f22] at hlen ⊢
  unfold g22
  rw [flat_eq, encN_eq] at a0
  rw [encN_eq] at a1
  rw [List.length_map] at hkl2
  unfold AV.leaf at hs1 ht1 hs2 ht2
  have hlZ : ∀ Z, (H ++ [Blk.cells 0 Z]).length = H.length + 1 := fun Z => by simp
  have hg0 : hget (H ++ [Blk.cells 0 [.int .i64 kind, .bool no, slF false encG sp, .int .i64 least, .int .i64 most, slF false encN (kids.map flat)]] ++ [Blk.cells 0 [.int .i64 kind, .bool no, slF sf encG sp, .int .i64 least, .int .i64 most, slF kf encN kids]]) H.length 0 = some [.int .i64 kind, .bool no, slF false encG sp, .int .i64 least, .int .i64 most, slF false encN (kids.map flat)] := hget_mono (by rw [hget_new rfl, if_pos rfl]) _
  have hg1 : hget (H ++ [Blk.cells 0 [.int .i64 kind, .bool no, slF false encG sp, .int .i64 least, .int .i64 most, slF false encN (kids.map flat)]] ++ [Blk.cells 0 [.int .i64 kind, .bool no, slF sf encG sp, .int .i64 least, .int .i64 most, slF kf encN kids]]) (H.length + 1) 0 = some [.int .i64 kind, .bool no, slF sf encG sp, .int .i64 least, .int .i64 most, slF kf encN kids] := by rw [hget_new (hlZ _).symm, if_pos rfl]
  have hK0l : (H ++ [Blk.cells 0 [.int .i64 kind, .bool no, slF false encG sp, .int .i64 least, .int .i64 most, slF false encN (kids.map flat)]] ++ [Blk.cells 0 [.int .i64 kind, .bool no, slF sf encG sp, .int .i64 least, .int .i64 most, slF kf encN kids]]).length = H.length + 2 := by simp
  generalize hK0 : H ++ [Blk.cells 0 [.int .i64 kind, .bool no, slF false encG sp, .int .i64 least, .int .i64 most, slF false encN (kids.map flat)]] ++ [Blk.cells 0 [.int .i64 kind, .bool no, slF sf encG sp, .int .i64 least, .int .i64 most, slF kf encN kids]] = K0 at *
  have hpl : H.length ≤ H.length + 2 := by omega
  have hbne : (no != no) = false := by cases no <;> rfl
  simp only [wk, aBuiltin, AV.cells, AV.leaf, Nat.reduceEqDiff, Nat.reduceLT, Nat.reduceAdd, Nat.reduceLeDiff, reduceCtorEq, Nat.reduceMul, cfgP, u60, hlen, a0, a1, hs1, ht1, hs2, ht2, hlZ, hK0, hg0, hg1, n0, hpl, hK0l, d1, d2, d3, d4, hkl, hkl2, hbne, none_beq]
  refine loop_rule (fun m fr H' => ∃ (i : Nat), m = kids.length - i ∧ i ≤ kids.length ∧ fr.length = 68 ∧ fget fr 2 = .ptr H.length 0 0 ∧ fget fr 3 = .ptr (H.length + 1) 0 0 ∧ fget fr 51 = .int .i64 kids.length ∧ fget fr 52 = .int .i64 i ∧ H' = K0) ?_ kids.length _ _ ⟨0, by simp [wk, aBuiltin, AV.cells, AV.leaf, Nat.reduceEqDiff, Nat.reduceLT, Nat.reduceAdd, Nat.reduceLeDiff, reduceCtorEq, Nat.reduceMul, cfgP, u60, hlen, a0]⟩
  clear a0 a1 hlen fr
  rintro m fr H' ⟨i, rfl, hi, hlen, a2, a3, a51, a52, rfl⟩ ihl
  simp only [wk, aBuiltin, AV.cells, AV.leaf, Nat.reduceEqDiff, Nat.reduceLT, Nat.reduceAdd, Nat.reduceLeDiff, reduceCtorEq, Nat.reduceMul, cfgP, u60, hlen, a2, a3, a51, a52]
  refine RC_split (fun h => ?_) (fun h => ?_)
  · have hlt : i < kids.length := by simpa using h
    have hww : IntKind.i64.wrap ((i : Int) + 1) = ((i + 1 : Nat) : Int) := by rw [wrap64 (by omega) (by omega)]; simp
    have e1 := hsl.at (P := Try.prog) (k := .i64) (i := i) Try.underlying45 sz47 encN_len hlt
    have e2 := hsl2.at (P := Try.prog) (k := .i64) (i := i) Try.underlying45 sz47 encN_len (by simpa using hlt)
    rw [List.getElem_map] at e2
    have n1 := fun (K : Heap) (hK : H.length ≤ K.length) => ih kids[i] (List.getElem_mem hlt) H.length K hK
    generalize kids[i] = x at *
    obtain ⟨k', no', s, x1, x2, t, hx, hs, ht, -, -⟩ := encN_sh x
    obtain ⟨k2, no2, s2, y1, y2, t2, hx2, hs2', ht2', -, -⟩ := encN_sh (flat x)
    rw [hx] at e1
    rw [hx2] at e2
    rw [hx, hx2] at n1
    simp only [AV.cells] at e1 e2
    simp only [wk, aBuiltin, AV.cells, AV.leaf, Nat.reduceEqDiff, Nat.reduceLT, Nat.reduceAdd, Nat.reduceLeDiff, reduceCtorEq, Nat.reduceMul, cfgP, u60, hlen, a2, a3, a51, a52, hg0, hg1, e1, e2, n1, hpl, hK0l, hww, none_beq]
    refine ihl _ _ (kids.length - (i + 1)) (by omega) ⟨i + 1, rfl, hlt, ?_⟩
    simp [wk, aBuiltin, AV.cells, AV.leaf, Nat.reduceEqDiff, Nat.reduceLT, Nat.reduceAdd, Nat.reduceLeDiff, reduceCtorEq, Nat.reduceMul, cfgP, u60, hlen, a2, a3, a51, a52]
  · simp only [wk, aBuiltin, AV.cells, AV.leaf, Nat.reduceEqDiff, Nat.reduceLT, Nat.reduceAdd, Nat.reduceLeDiff, reduceCtorEq, Nat.reduceMul, cfgP, u60, hlen, a2, a3, a51, a52]
    exact Fin_pure (l := [.bool true]) (by simp [wk, aBuiltin, AV.cells, AV.leaf, Nat.reduceEqDiff, Nat.reduceLT, Nat.reduceAdd, Nat.reduceLeDiff, reduceCtorEq, Nat.reduceMul, cfgP, u60, aResults, aResult, hlen]) (.still rfl) (by simp)
theorem sameN_ok : ∀ (x : Nd), Fine x → ∀ (prot : Nat) (H : Heap), prot ≤ H.length → aLim cfg prot 22 [encN (flat x), encN x] H = some (.bool true, none)
  | .mk kind no sf sp least most kf kids, hg => sameN_step kind no sf sp least most kf kids hg fun x hx => sameN_ok x (by cases hg with | mk h _ _ => exact h x hx)
termination_by x => SizeOf.sizeOf x
decreasing_by have := List.sizeOf_lt_of_mem hx; simp; omega
theorem awake15_ok (prot : Nat) (H : Heap) : aLim cfg prot 24 [] H = some (.bool true, none) :=
  lim_shut (k := 1000) (by kernel_rfl) (by kernel_rfl) (by kernel_rfl) prot H

theorem regexParse_ok (s0 : List UInt8) (prot : Nat) (H : Heap) (hp : prot ≤ H.length) : aLim cfg prot 4 [.str s0] H = some (.bool true, none) := by
  have hsnap : snap H [.str s0] = some ([.str s0], false) := rfl
  have main : ∀ (s : List UInt8), s.length ≤ 80 → ∀ (K : Heap), H.length ≤ K.length → aLim cfg H.length 20 [.str s] K = some (.tup [encN (parseU s).1, .int .i64 (parseU s).2], none) ∧ aLim cfg H.length 21 [.str s] K = some (.tup [encN (parseU s).1, .int .i64 (parseU s).2], none) ∧
      aLim cfg H.length 23 [encN (parseU s).1] K = some (encN (flat (parseU s).1), none) ∧ aLim cfg H.length 22 [encN (flat (parseU s).1), encN (parseU s).1] K = some (.bool true, none) := fun s hs K hK =>
    ⟨parse_ok s (by omega) H.length K hK, rparse_ok s (by omega) H.length K hK, plainN_ok _ (parse_fine s (by omega)) H.length K hK, sameN_ok _ (parse_fine s (by omega)) H.length K hK⟩
  have hln : ∀ (s : List UInt8) K, aLen Try.prog K 9 (.str s) = some (.int .i64 s.length) := fun s K => str_len Try.underlying9 s K
  have hpl1 : H.length ≤ H.length + 1 := by omega
  have hpl2 : H.length ≤ H.length + 2 := by omega
  have hpl3 : H.length ≤ H.length + 1 + 1 := by omega
  have hlZ : ∀ Z, (H ++ [Blk.cells 0 Z]).length = H.length + 1 := fun Z => by simp
  have hg0 : ∀ Y Z, hget (H ++ [Blk.cells 0 Y] ++ [Blk.cells 0 Z]) H.length 0 = some Y := fun Y Z => hget_mono (by rw [hget_new rfl, if_pos rfl]) _
  have hg1 : ∀ Y Z, hget (H ++ [Blk.cells 0 Y] ++ [Blk.cells 0 Z]) (H.length + 1) 0 = some Z := fun Y Z => by rw [hget_new (hlZ _).symm, if_pos rfl]
  have hl2 : ∀ Y Z, (H ++ [Blk.cells 0 Y] ++ [Blk.cells 0 Z]).length = H.length + 2 := fun Y Z => by simp
  have hde : ∀ x : Int, decide (x = x) = true := fun x => by simp
  refine pure_slim rfl (by kernel_rfl) Try.func4 s4 hp hsnap (by simp [Try.f4]) fun fr hlen h => ?_
  simp only [Has, Nat.zero_add] at h
  obtain ⟨a0, -⟩ := h
  simp only [Try.f4] at hlen ⊢
  unfold g4
  by_cases h6 : 80 < s0.length
  · have d1 : decide ((80 : Int) < (s0.length : Nat)) = true := decide_eq_true (by omega)
    have hsl : aSlice Try.prog 9 (.str s0) none (some (.int .i64 80)) none = some (.str (s0.take 80)) := str_upto (b := 80) Try.underlying9 s0 (by omega)
    have m := main (s0.take 80) (by simp; omega)
    generalize hz : parseU (s0.take 80) = z at *
    obtain ⟨x, e⟩ := z
    obtain ⟨k', no', s, x1, x2, t, hx, hs, ht, -, -⟩ := encN_sh x
    obtain ⟨k2, no2, s2, y1, y2, t2, hx2, hs2', ht2', -, -⟩ := encN_sh (flat x)
    dsimp only at m
    rw [hx, hx2] at m
    have m1 := fun K hK => (m K hK).1
    have m2 := fun K hK => (m K hK).2.1
    have m3 := fun K hK => (m K hK).2.2.1
    have m4 := fun K hK => (m K hK).2.2.2
    unfold AV.leaf at hs ht
    simp only [wk, aBuiltin, AV.cells, AV.leaf, Nat.reduceEqDiff, Nat.reduceLT, Nat.reduceAdd, Nat.reduceLeDiff, reduceCtorEq, Nat.reduceMul, cfgP, u60, hlen, a0, hln, d1, hsl, m1, m2, m3, m4, hs, ht, hpl1, hpl2, hpl3, hlZ, hg0, hg1, hl2, hde, awake15_ok]
    exact Fin_pure (l := [.bool true]) (by simp [wk, aBuiltin, AV.cells, AV.leaf, Nat.reduceEqDiff, Nat.reduceLT, Nat.reduceAdd, Nat.reduceLeDiff, reduceCtorEq, Nat.reduceMul, cfgP, u60, aResults, aResult, hlen]) (.still rfl) (by simp)
  · have d1 : decide ((80 : Int) < (s0.length : Nat)) = false := decide_eq_false (by omega)
    have m := main s0 (by omega)
    generalize hz : parseU s0 = z at *
    obtain ⟨x, e⟩ := z
    obtain ⟨k', no', s, x1, x2, t, hx, hs, ht, -, -⟩ := encN_sh x
    obtain ⟨k2, no2, s2, y1, y2, t2, hx2, hs2', ht2', -, -⟩ := encN_sh (flat x)
    dsimp only at m
    rw [hx, hx2] at m
    have m1 := fun K hK => (m K hK).1
    have m2 := fun K hK => (m K hK).2.1
    have m3 := fun K hK => (m K hK).2.2.1
    have m4 := fun K hK => (m K hK).2.2.2
    unfold AV.leaf at hs ht
    simp only [wk, aBuiltin, AV.cells, AV.leaf, Nat.reduceEqDiff, Nat.reduceLT, Nat.reduceAdd, Nat.reduceLeDiff, reduceCtorEq, Nat.reduceMul, cfgP, u60, hlen, a0, hln, d1, m1, m2, m3, m4, hs, ht, hpl1, hpl2, hpl3, hlZ, hg0, hg1, hl2, hde, awake15_ok]
    exact Fin_pure (l := [.bool true]) (by simp [wk, aBuiltin, AV.cells, AV.leaf, Nat.reduceEqDiff, Nat.reduceLT, Nat.reduceAdd, Nat.reduceLeDiff, reduceCtorEq, Nat.reduceMul, cfgP, u60, aResults, aResult, hlen]) (.still rfl) (by simp)
end Go.Proofs.Ytoblikhnbddfmaa
