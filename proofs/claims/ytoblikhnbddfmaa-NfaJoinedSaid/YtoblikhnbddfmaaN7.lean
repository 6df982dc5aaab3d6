import Derived.Test.YtoblikhnbddfmaaN5
import Derived.Test.YtoblikhnbddfmaaMk1
/-! Chapter 16: a machine of a text, and the law NfaSteps, walked. -/
set_option linter.unusedSimpArgs false
namespace Go.Proofs.Ytoblikhnbddfmaa
open Go Go.Abs AbsSeat Ty

def SpOk (l : List St) : Prop := ∀ s ∈ l, s.sp.length ≤ 10000000
theorem SpOk.snoc {l : List St} (h : SpOk l) {s : St} (hs : s.sp.length ≤ 10000000) : SpOk (l ++ [s]) := fun t ht => by
  rcases List.mem_append.1 ht with h1 | h1
  · exact h t h1
  · rw [List.mem_singleton.1 h1]; exact hs
theorem SpOk.setOne : ∀ {l : List St} (_ : SpOk l) (i : Nat) (v : Int), SpOk (setOne l i v)
  | [], h, _, _ => h
  | s :: r, h, 0, v => fun t ht => by
    rw [Proofs.Ytoblikhnbddfmaa.setOne] at ht
    rcases List.mem_cons.1 ht with h1 | h1
    · rw [h1]; exact h s (by simp)
    · exact h t (by simp [h1])
  | s :: r, h, i + 1, v => fun t ht => by
    rw [Proofs.Ytoblikhnbddfmaa.setOne] at ht
    rcases List.mem_cons.1 ht with h1 | h1
    · rw [h1]; exact h s (by simp)
    · exact SpOk.setOne (l := r) (fun u hu => h u (by simp [hu])) i v t h1
theorem repK_sp {f : List St → Int → List St × Int} (hf : ∀ l a, SpOk l → SpOk (f l a).1) : ∀ (n : Nat) (l : List St) (a : Int), SpOk l → SpOk (repK f n l a).1
  | 0, l, a, h => by rw [repK]; exact h
  | n + 1, l, a, h => by rw [repK]; exact repK_sp hf n _ _ (hf l a h)
theorem optK_sp {f : List St → Int → List St × Int} {to : Int} (hf : ∀ l a, SpOk l → SpOk (f l a).1) : ∀ (n : Nat) (l : List St) (a : Int), SpOk l → SpOk (optK f to n l a).1
  | 0, l, a, h => by rw [optK]; exact h
  | n + 1, l, a, h => by rw [optK]; exact optK_sp hf n _ _ ((hf l a h).snoc (by simp))
theorem repS_sp {f : List St → Int → List St × Int} (hf : ∀ l a, SpOk l → SpOk (f l a).1) (least most : Int) (l : List St) (to : Int) (h : SpOk l) : SpOk (repS f least most l to).1 := by
  unfold repS
  have h1 := (hf _ ((l.length : Nat) : Int) (h.snoc (s := ⟨2, false, [], 0, to⟩) (by simp))).setOne l.length (f (l ++ [⟨2, false, [], 0, to⟩]) (l.length : Nat)).2
  split
  · split
    · exact h1
    · exact repK_sp hf _ _ _ h1
  · exact repK_sp hf _ _ _ (optK_sp hf _ _ _ h)
mutual
theorem mkN_sp : ∀ (x : Nd), Fine x → ∀ (l : List St) (to : Int), SpOk l → SpOk (mkN x l to).1
  | .mk kind no sf sp least most kf kids, hf, l, to, h => by
    cases hf with
    | mk hk hs _ =>
    rw [mkN.eq_def]
    dsimp only
    by_cases h1 : kind = 1
    · rw [if_pos h1]; exact h.snoc hs
    · rw [if_neg h1]
      by_cases h2 : kind = 2
      · rw [if_pos h2]; exact mkC_sp kids hk l to h
      · rw [if_neg h2]
        by_cases h3 : kind = 3
        · rw [if_pos h3]; exact mkE_sp kids hk l to h
        · rw [if_neg h3]
          by_cases h5 : kind = 4
          · rw [if_pos h5]
            match kids, hk with
            | [], _ => exact h
            | [x], hk => exact repS_sp (fun l a hl => mkN_sp x (hk x (by simp)) l a hl) least most l to h
            | x :: y :: r, _ => exact h
          · rw [if_neg h5]; exact h
theorem mkC_sp : ∀ (kids : List Nd), (∀ x ∈ kids, Fine x) → ∀ (l : List St) (to : Int), SpOk l → SpOk (mkC kids l to).1
  | [], _, l, to, h => by rw [mkC]; exact h
  | x :: r, hk, l, to, h => by
    rw [mkC]; exact mkN_sp x (hk x (by simp)) _ _ (mkC_sp r (fun y hy => hk y (by simp [hy])) l to h)
theorem mkE_sp : ∀ (kids : List Nd), (∀ x ∈ kids, Fine x) → ∀ (l : List St) (to : Int), SpOk l → SpOk (mkE kids l to).1
  | [], _, l, to, h => by rw [mkE]; exact h
  | x :: r, hk, l, to, h => by
    rw [mkE]
    have h1 := mkN_sp x (hk x (by simp)) _ to (mkE_sp r (fun y hy => hk y (by simp [hy])) l to h)
    split
    · exact h1
    · exact h1.snoc (by simp)
end
/-- a text's machine, or why there is none. -/
def ofS (s : List UInt8) : AV := if (parseU s).2 = 0 then newS (mkN (parseU s).1 [⟨3, false, [], 0, 0⟩] 0).1 (mkN (parseU s).1 [⟨3, false, [], 0, 0⟩] 0).2 else .tup [.nil, .int .i64 (parseU s).2]
theorem rightM_of {l : List St} (h : l.all (rightB l.length) = true) : RightM l := fun s hs => by
  have h1 := List.all_eq_true.1 h s hs
  unfold rightB at h1
  split at h1
  · rename_i h2
    simp only [inN, Bool.and_eq_true, decide_eq_true_eq] at h1
    exact ⟨.inr (.inr h2), fun _ => h1.2, fun _ => h1.1⟩
  · rename_i h2
    split at h1
    · rename_i h3
      simp only [inN, Bool.and_eq_true, decide_eq_true_eq] at h1
      exact ⟨.inr (.inl h3), fun _ => h1, fun h => absurd h h2⟩
    · rename_i h3
      simp only [decide_eq_true_eq] at h1
      exact ⟨.inl h1, fun h => by omega, fun h => absurd h h2⟩
/-- what a text's machine is: right, or none. -/
theorem ofS_cases (s : List UInt8) (hs : s.length ≤ 1000) : (∃ e : Int, e ≠ 0 ∧ ofS s = .tup [.nil, .int .i64 e]) ∨ ∃ l a, RightM l ∧ SpOk l ∧ l.length ≤ 401 ∧ a < l.length ∧ ofS s = .tup [encM l a, .int .i64 0] := by
  unfold ofS
  by_cases h : (parseU s).2 = 0
  · rw [if_pos h]
    obtain ⟨-, hf, -, -⟩ := parse_known s hs h
    have hsp := mkN_sp _ hf [⟨3, false, [], 0, 0⟩] 0 (fun t ht => by rw [List.mem_singleton.1 ht]; simp)
    generalize mkN (parseU s).1 [⟨3, false, [], 0, 0⟩] 0 = w at *
    unfold newS
    by_cases hc : (decide (w.1.length ≤ 401) && inN w.1.length w.2 && w.1.all (rightB w.1.length)) = true
    · rw [if_pos hc]
      simp only [Bool.and_eq_true, decide_eq_true_eq, inN] at hc
      obtain ⟨⟨c1, c2, c3⟩, c4⟩ := hc
      refine .inr ⟨w.1, w.2.toNat, rightM_of c4, hsp, c1, by omega, ?_⟩
      unfold encM
      rw [show ((w.2.toNat : Nat) : Int) = w.2 by omega]
    · rw [if_neg hc]
      exact .inl ⟨1, by decide, rfl⟩
  · rw [if_neg h]
    exact .inl ⟨_, h, rfl⟩

theorem nof_ok (s : List UInt8) (hs : s.length ≤ 1000) (prot : Nat) (H : Heap) (hp : prot ≤ H.length) : aLim cfg prot 40 [.str s] H = some (ofS s, none) := by
  have hsnap : snap H [.str s] = some ([.str s], false) := rfl
  have n1 := fun (K : Heap) (hK : H.length ≤ K.length) => parse_ok s hs H.length K hK
  have hkn := parse_known s hs
  unfold ofS
  generalize parseU s = z at *
  obtain ⟨x, e⟩ := z
  dsimp only at n1 hkn ⊢
  obtain ⟨k', no', s', x1, x2, t, hx, hs, ht, -, -⟩ := encN_sh x
  rw [hx] at n1
  unfold AV.leaf at hs ht
  have hpl1 : H.length ≤ H.length + 1 := by omega
  have hlZ : ∀ Z, (H ++ [Blk.cells 0 Z]).length = H.length + 1 := fun Z => by simp
  have hg0 : ∀ Y, hget (H ++ [Blk.cells 0 Y]) H.length 0 = some Y := fun Y => by rw [hget_new rfl, if_pos rfl]
  by_cases he : e = 0
  · subst he
    rw [if_pos rfl]
    obtain ⟨hg, hf, hd, hsz⟩ := hkn rfl
    have hcs := cnt_size x hg (by omega)
    have hl1 := mkN_len x hg.fair [⟨3, false, [], 0, 0⟩] 0
    rw [List.length_singleton] at hl1
    have hsp := mkN_sp _ hf [⟨3, false, [], 0, 0⟩] 0 (fun t ht => by rw [List.mem_singleton.1 ht]; simp)
    have n2 := fun (K : Heap) (hK : H.length ≤ K.length) => compile_ok x hg hf hd hsz H.length K hK
    have n3 := fun (K : Heap) (hK : H.length ≤ K.length) => nnew_ok (mkN x [⟨3, false, [], 0, 0⟩] 0).1 _ (slv_sl encSt _) (by omega) hsp (mkN x [⟨3, false, [], 0, 0⟩] 0).2 H.length K hK
    rw [hx] at n2
    generalize mkN x [⟨3, false, [], 0, 0⟩] 0 = w at *
    have hsv : (slv encSt w.1).leaf = true := by cases w.1 <;> rfl
    unfold AV.leaf at hsv
    have e1 : decide (¬ (0 : Int) = 0) = false := rfl
    unfold newS at n3 ⊢
    by_cases hc : (decide (w.1.length ≤ 401) && inN w.1.length w.2 && w.1.all (rightB w.1.length)) = true
    · simp only [hc, if_true] at n3 ⊢
      refine pure_slim rfl (by kernel_rfl) Try.func40 s40 hp hsnap (by simp [Try.f40]) fun fr hlen h => ?_
      simp only [Has, Nat.zero_add] at h
      obtain ⟨a0, -⟩ := h
      simp only [Try.f40] at hlen ⊢
      unfold g40
      simp only [wk, aBuiltin, AV.cells, AV.leaf, Nat.reduceEqDiff, Nat.reduceLT, Nat.reduceAdd, Nat.reduceLeDiff, reduceCtorEq, Nat.reduceMul, cfgP, u90, hlen, a0, n1, n2, n3, hs, ht, hpl1, hlZ, hg0, e1, hsv, none_beq]
      exact Fin_pure (l := [.vptr [slv encSt w.1, .int .i64 w.2] 0, .int .i64 0]) (by simp [wk, aBuiltin, AV.cells, AV.leaf, Nat.reduceEqDiff, Nat.reduceLT, Nat.reduceAdd, Nat.reduceLeDiff, reduceCtorEq, Nat.reduceMul, cfgP, u90, hlen, aResults, aResult]) (.tup (.cons (.still rfl) (.cons (.still rfl) .nil))) (by simp)
    · have hc := Bool.eq_false_iff.2 hc
      simp only [hc, Bool.false_eq_true, if_false] at n3 ⊢
      refine pure_slim rfl (by kernel_rfl) Try.func40 s40 hp hsnap (by simp [Try.f40]) fun fr hlen h => ?_
      simp only [Has, Nat.zero_add] at h
      obtain ⟨a0, -⟩ := h
      simp only [Try.f40] at hlen ⊢
      unfold g40
      simp only [wk, aBuiltin, AV.cells, AV.leaf, Nat.reduceEqDiff, Nat.reduceLT, Nat.reduceAdd, Nat.reduceLeDiff, reduceCtorEq, Nat.reduceMul, cfgP, u90, hlen, a0, n1, n2, n3, hs, ht, hpl1, hlZ, hg0, e1, hsv, none_beq]
      exact Fin_pure (l := [.nil, .int .i64 1]) (by simp [wk, aBuiltin, AV.cells, AV.leaf, Nat.reduceEqDiff, Nat.reduceLT, Nat.reduceAdd, Nat.reduceLeDiff, reduceCtorEq, Nat.reduceMul, cfgP, u90, hlen, aResults, aResult]) (.tup (.cons (.still rfl) (.cons (.still rfl) .nil))) (by simp)
  · rw [if_neg he]
    have e1 : decide (¬ e = 0) = true := decide_eq_true he
    refine pure_slim rfl (by kernel_rfl) Try.func40 s40 hp hsnap (by simp [Try.f40]) fun fr hlen h => ?_
    simp only [Has, Nat.zero_add] at h
    obtain ⟨a0, -⟩ := h
    simp only [Try.f40] at hlen ⊢
    unfold g40
    simp only [wk, aBuiltin, AV.cells, AV.leaf, Nat.reduceEqDiff, Nat.reduceLT, Nat.reduceAdd, Nat.reduceLeDiff, reduceCtorEq, Nat.reduceMul, cfgP, u90, hlen, a0, n1, hs, ht, hpl1, hlZ, hg0, e1, none_beq]
    exact Fin_pure (l := [.nil, .int .i64 e]) (by simp [wk, aBuiltin, AV.cells, AV.leaf, Nat.reduceEqDiff, Nat.reduceLT, Nat.reduceAdd, Nat.reduceLeDiff, reduceCtorEq, Nat.reduceMul, cfgP, u90, hlen, aResults, aResult]) (.tup (.cons (.still rfl) (.cons (.still rfl) .nil))) (by simp)
end Go.Proofs.Ytoblikhnbddfmaa
/-! Chapter 16: the law NfaSteps, walked. -/
namespace Go.Proofs.Ytoblikhnbddfmaa
open Go Go.Abs AbsSeat Ty

theorem told_sum {n : Nat} : ∀ (os : List (Nat × List Nat)) (q : Nat), (∀ p ∈ os, p.2.length ≤ n) → q ≤ told (fun (q : Nat) _ (o : List Nat) => q + o.length) q os ∧ told (fun (q : Nat) _ (o : List Nat) => q + o.length) q os ≤ q + n * os.length
  | [], q, _ => by simp [told]
  | p :: r, q, h => by
    have h1 := h p (by simp)
    have h2 := told_sum r (q + p.2.length) (fun x hx => h x (by simp [hx]))
    have e : told (fun (q : Nat) _ (o : List Nat) => q + o.length) q (p :: r) = told (fun (q : Nat) _ (o : List Nat) => q + o.length) (q + p.2.length) r := rfl
    rw [e, List.length_cons, Nat.mul_succ]
    omega
theorem run_len {l : List St} {s : List UInt8} {k : Nat} {o : List Nat} {os : List (Nat × List Nat)} (h : RunRel l s k o os) : ∀ lr, runesU (s.drop k) = some lr → os.length = lr.length ∧ ∀ p ∈ os, p.2.length ≤ l.length := by
  induction h with
  | @done k o h =>
    intro lr hlr
    rw [List.drop_eq_nil_of_le h, runesU_nil] at hlr
    cases hlr
    exact ⟨rfl, by simp⟩
  | @bad k o h he =>
    intro lr hlr
    rw [runesU_step h, dif_neg he] at hlr
    cases hlr
  | @step k o o' os h he hnd hlt hm hr ih =>
    intro lr hlr
    rw [runesU_step h, dif_pos he] at hlr
    cases hd : runesU (s.drop (k + (nextU (s.drop k)).2.1)) with
    | none => rw [hd] at hlr; cases hlr
    | some l2 =>
      rw [hd] at hlr
      cases hlr
      obtain ⟨i1, i2⟩ := ih l2 hd
      refine ⟨by simp [i1], fun p hp => ?_⟩
      rcases List.mem_cons.1 hp with h | h
      · rw [h]; exact nodup_len _ _ hnd hlt
      · exact i2 p h

theorem short_ok (s : List UInt8) (prot : Nat) (H : Heap) (hp : prot ≤ H.length) : aLim cfg prot 39 [.str s] H = some (.str (s.take 24), none) := by
  have hsnap : snap H [.str s] = some ([.str s], false) := rfl
  have hln : ∀ K, aLen Try.prog K 9 (.str s) = some (.int .i64 s.length) := fun K => str_len Try.underlying9 s K
  refine pure_slim rfl (by kernel_rfl) Try.func39 s39 hp hsnap (by simp [Try.f39]) fun fr hlen h => ?_
  simp only [Has, Nat.zero_add] at h
  obtain ⟨a0, -⟩ := h
  simp only [Try.f39] at hlen ⊢
  unfold g39
  by_cases h : 24 < s.length
  · have d1 : decide ((24 : Int) < (s.length : Nat)) = true := decide_eq_true (by omega)
    have hsl : aSlice Try.prog 9 (.str s) none (some (.int .i64 24)) none = some (.str (s.take 24)) := str_upto (b := 24) Try.underlying9 s (by omega)
    simp only [wk, aBuiltin, AV.cells, AV.leaf, Nat.reduceEqDiff, Nat.reduceLT, Nat.reduceAdd, Nat.reduceLeDiff, reduceCtorEq, Nat.reduceMul, cfgP, u90, hlen, a0, hln, d1, hsl]
    exact Fin_pure (l := [.str (s.take 24)]) (by simp [wk, aBuiltin, AV.cells, AV.leaf, Nat.reduceEqDiff, Nat.reduceLT, Nat.reduceAdd, Nat.reduceLeDiff, reduceCtorEq, Nat.reduceMul, cfgP, u90, aResults, aResult, hlen]) (.still rfl) (by simp)
  · have d1 : decide ((24 : Int) < (s.length : Nat)) = false := decide_eq_false (by omega)
    rw [List.take_of_length_le (by omega)]
    simp only [wk, aBuiltin, AV.cells, AV.leaf, Nat.reduceEqDiff, Nat.reduceLT, Nat.reduceAdd, Nat.reduceLeDiff, reduceCtorEq, Nat.reduceMul, cfgP, u90, hlen, a0, hln, d1]
    exact Fin_pure (l := [.str s]) (by simp [wk, aBuiltin, AV.cells, AV.leaf, Nat.reduceEqDiff, Nat.reduceLT, Nat.reduceAdd, Nat.reduceLeDiff, reduceCtorEq, Nat.reduceMul, cfgP, u90, aResults, aResult, hlen]) (.still rfl) (by simp)

theorem nlen_ok (l : List St) (a : Nat) (prot : Nat) (H : Heap) (hp : prot ≤ H.length) : aLim cfg prot 45 [encM l a] H = some (.int .i64 (l.length : Nat), none) := by
  have hsnap : snap H [encM l a] = some ([encM l a], false) := by unfold encM; cases l <;> rfl
  have hvl := fun K : Heap => (slv_sl encSt l).len (P := Try.prog) (H := K) Try.underlying53
  refine pure_slim rfl (by kernel_rfl) Try.func45 s45 hp hsnap (by simp [Try.f45]) fun fr hlen h => ?_
  simp only [Has, Nat.zero_add] at h
  obtain ⟨a0, -⟩ := h
  simp only [Try.f45] at hlen ⊢
  unfold g45
  unfold encM at a0
  simp only [wk, aBuiltin, AV.cells, AV.leaf, Nat.reduceEqDiff, Nat.reduceLT, Nat.reduceAdd, Nat.reduceLeDiff, reduceCtorEq, Nat.reduceMul, cfgP, u90, hlen, a0, nilM, hvl, none_beq]
  exact Fin_pure (l := [.int .i64 (l.length : Nat)]) (by simp [wk, aBuiltin, AV.cells, AV.leaf, Nat.reduceEqDiff, Nat.reduceLT, Nat.reduceAdd, Nat.reduceLeDiff, reduceCtorEq, Nat.reduceMul, cfgP, u90, aResults, aResult, hlen]) (.still rfl) (by simp)

theorem steps_nil (s : List UInt8) (prot : Nat) (H : Heap) (hp : prot ≤ H.length) : aLim cfg prot 43 [.nil, .str s] H = some (.int .i64 0, none) := by
  have hsnap : snap H [.nil, .str s] = some ([.nil, .str s], false) := rfl
  refine pure_slim rfl (by kernel_rfl) Try.func43 s43 hp hsnap (by simp [Try.f43]) fun fr hlen h => ?_
  simp only [Has, Nat.zero_add] at h
  obtain ⟨a0, a1, -⟩ := h
  simp only [Try.f43] at hlen ⊢
  unfold g43
  simp only [wk, aBuiltin, AV.cells, AV.leaf, Nat.reduceEqDiff, Nat.reduceLT, Nat.reduceAdd, Nat.reduceLeDiff, reduceCtorEq, Nat.reduceMul, cfgP, u90, hlen, a0, a1, none_beq]
  exact Fin_pure (l := [.int .i64 0]) (by simp [wk, aBuiltin, AV.cells, AV.leaf, Nat.reduceEqDiff, Nat.reduceLT, Nat.reduceAdd, Nat.reduceLeDiff, reduceCtorEq, Nat.reduceMul, cfgP, u90, aResults, aResult, hlen]) (.still rfl) (by simp)
theorem awake16_ok (prot : Nat) (H : Heap) : aLim cfg prot 42 [] H = some (.bool true, none) :=
  lim_shut (k := 3000) (by kernel_rfl) (by kernel_rfl) (by kernel_rfl) prot H

theorem nfaSteps_ok (x0 s0 : List UInt8) (prot : Nat) (H : Heap) (hp : prot ≤ H.length) : aLim cfg prot 10 [.str x0, .str s0] H = some (.bool true, none) := by
  have hsnap : snap H [.str x0, .str s0] = some ([.str x0, .str s0], false) := rfl
  have hln : ∀ K, aLen Try.prog K 9 (.str x0) = some (.int .i64 x0.length) := fun K => str_len Try.underlying9 x0 K
  have sh := fun (K : Heap) (hK : H.length ≤ K.length) => short_ok s0 H.length K hK
  have hs : (s0.take 24).length ≤ 24 := by simp; omega
  generalize s0.take 24 = s at *
  have hcut : ∃ x : List UInt8, x.length ≤ 40 ∧ x = x0.take 40 := ⟨_, by simp; omega, rfl⟩
  have hsl : 40 < x0.length → aSlice Try.prog 9 (.str x0) none (some (.int .i64 40)) none = some (.str (x0.take 40)) := fun h => str_upto (b := 40) Try.underlying9 x0 (by omega)
  have hst : ¬ 40 < x0.length → x0.take 40 = x0 := fun h => List.take_of_length_le (by omega)
  obtain ⟨x, hx40, hxe⟩ := hcut
  rw [← hxe] at hsl hst
  have n1 := fun (K : Heap) (hK : H.length ≤ K.length) => nof_ok x (by omega) H.length K hK
  have d0 : ∀ h : 40 < x0.length, decide ((40 : Int) < (x0.length : Nat)) = true := fun h => decide_eq_true (by omega)
  have d1 : ¬ 40 < x0.length → decide ((40 : Int) < (x0.length : Nat)) = false := fun h => decide_eq_false (by omega)
  have aw := fun K : Heap => awake16_ok H.length K
  rcases ofS_cases x (by omega) with ⟨e, he, hof⟩ | ⟨l, a, hr, hsp, hl, ha, hof⟩
  · rw [hof] at n1
    have e1 : decide (¬ e = 0) = true := decide_eq_true he
    have n2 := fun (K : Heap) (hK : H.length ≤ K.length) => steps_nil s H.length K hK
    have e2 : decide ((0 : Int) = 0) = true := rfl
    by_cases h6 : 40 < x0.length
    · have hsl := hsl h6
      have d0 := d0 h6
      refine pure_slim rfl (by kernel_rfl) Try.func10 s10 hp hsnap (by simp [Try.f10]) fun fr hlen h => ?_
      simp only [Has, Nat.zero_add] at h
      obtain ⟨a0, a1, -⟩ := h
      simp only [Try.f10] at hlen ⊢
      unfold g10
      simp only [wk, aBuiltin, AV.cells, AV.leaf, Nat.reduceEqDiff, Nat.reduceLT, Nat.reduceAdd, Nat.reduceLeDiff, reduceCtorEq, Nat.reduceMul, cfgP, u90, hlen, a0, a1, hln, d0, hsl, sh, n1, e1, n2, e2, aw]
      exact Fin_pure (l := [.bool true]) (by simp [wk, aBuiltin, AV.cells, AV.leaf, Nat.reduceEqDiff, Nat.reduceLT, Nat.reduceAdd, Nat.reduceLeDiff, reduceCtorEq, Nat.reduceMul, cfgP, u90, aResults, aResult, hlen]) (.still rfl) (by simp)
    · have hst := hst h6
      rw [hst] at n1
      have d1 := d1 h6
      refine pure_slim rfl (by kernel_rfl) Try.func10 s10 hp hsnap (by simp [Try.f10]) fun fr hlen h => ?_
      simp only [Has, Nat.zero_add] at h
      obtain ⟨a0, a1, -⟩ := h
      simp only [Try.f10] at hlen ⊢
      unfold g10
      simp only [wk, aBuiltin, AV.cells, AV.leaf, Nat.reduceEqDiff, Nat.reduceLT, Nat.reduceAdd, Nat.reduceLeDiff, reduceCtorEq, Nat.reduceMul, cfgP, u90, hlen, a0, a1, hln, d1, sh, n1, e1, n2, e2, aw, none_beq]
      exact Fin_pure (l := [.bool true]) (by simp [wk, aBuiltin, AV.cells, AV.leaf, Nat.reduceEqDiff, Nat.reduceLT, Nat.reduceAdd, Nat.reduceLeDiff, reduceCtorEq, Nat.reduceMul, cfgP, u90, aResults, aResult, hlen]) (.still rfl) (by simp)
  · rw [hof] at n1
    have hsp' : ∀ t ∈ l, t.sp.length < 1000000000 := fun t ht => by have := hsp t ht; omega
    have e1 : decide (¬ (0 : Int) = 0) = false := rfl
    have n2 := fun (K : Heap) (hK : H.length ≤ K.length) => rrunes_ok s (by omega) H.length K hK
    obtain ⟨o0, os, ⟨h1, h2, h3, h4⟩, n3⟩ := steps_ok l hr hsp' a ha (by omega) s (by omega) H.length H (Nat.le_refl _)
    obtain ⟨o0', os', -, n4⟩ := match_ok l hr hsp' a ha (by omega) s (by omega) H.length H (Nat.le_refl _)
    have n5 := nlen_ok l a H.length H (Nat.le_refl _)
    have hrl := run_len h4
    rw [List.drop_zero] at hrl
    have hok := runesU_ok s.length s
    unfold encM at n1 n3 n4 n5
    cases hru : runesU s with
    | none =>
      rw [hru] at n2 n3 n4
      simp only [Option.isSome_none, Bool.false_eq_true, if_false, Bool.false_and, Option.getD_none] at n2 n3 n4
      have e2 : decide ((0 : Int) = 0) = true := rfl
      by_cases h6 : 40 < x0.length
      · have hsl := hsl h6
        have d0 := d0 h6
        refine pure_slim rfl (by kernel_rfl) Try.func10 s10 hp hsnap (by simp [Try.f10]) fun fr hlen h => ?_
        simp only [Has, Nat.zero_add] at h
        obtain ⟨a0, a1, -⟩ := h
        simp only [Try.f10] at hlen ⊢
        unfold g10
        simp only [wk, aBuiltin, AV.cells, AV.leaf, Nat.reduceEqDiff, Nat.reduceLT, Nat.reduceAdd, Nat.reduceLeDiff, reduceCtorEq, Nat.reduceMul, cfgP, u90, hlen, a0, a1, hln, d0, hsl, sh, n1, e1, n2, n3, n4, e2, aw, none_beq]
        exact Fin_pure (l := [.bool true]) (by simp [wk, aBuiltin, AV.cells, AV.leaf, Nat.reduceEqDiff, Nat.reduceLT, Nat.reduceAdd, Nat.reduceLeDiff, reduceCtorEq, Nat.reduceMul, cfgP, u90, aResults, aResult, hlen]) (.still rfl) (by simp)
      · have hst := hst h6
        rw [hst] at n1
        have d1 := d1 h6
        refine pure_slim rfl (by kernel_rfl) Try.func10 s10 hp hsnap (by simp [Try.f10]) fun fr hlen h => ?_
        simp only [Has, Nat.zero_add] at h
        obtain ⟨a0, a1, -⟩ := h
        simp only [Try.f10] at hlen ⊢
        unfold g10
        simp only [wk, aBuiltin, AV.cells, AV.leaf, Nat.reduceEqDiff, Nat.reduceLT, Nat.reduceAdd, Nat.reduceLeDiff, reduceCtorEq, Nat.reduceMul, cfgP, u90, hlen, a0, a1, hln, d1, sh, n1, e1, n2, n3, n4, e2, aw, none_beq]
        exact Fin_pure (l := [.bool true]) (by simp [wk, aBuiltin, AV.cells, AV.leaf, Nat.reduceEqDiff, Nat.reduceLT, Nat.reduceAdd, Nat.reduceLeDiff, reduceCtorEq, Nat.reduceMul, cfgP, u90, aResults, aResult, hlen]) (.still rfl) (by simp)
    | some lr =>
      obtain ⟨r1, r2⟩ := hrl lr hru
      have hlr := (hok lr (Nat.le_refl _) hru).1
      have ho0 := nodup_len _ _ h1 h2
      have ho1 : 1 ≤ o0.length := List.length_pos_of_mem ((h3 a).2 .refl)
      have hsum := told_sum (n := l.length) ((0, o0) :: os) 0 (fun p hp => by
        rcases List.mem_cons.1 hp with h | h
        · rw [h]; exact ho0
        · exact r2 p h)
      have hsum1 : 1 ≤ told (fun (q : Nat) _ (o : List Nat) => q + o.length) 0 ((0, o0) :: os) := by
        have e : told (fun (q : Nat) _ (o : List Nat) => q + o.length) 0 ((0, o0) :: os) = told (fun (q : Nat) _ (o : List Nat) => q + o.length) (0 + o0.length) os := rfl
        rw [e]
        have := (told_sum (n := l.length) os (0 + o0.length) r2).1
        omega
      rw [List.length_cons, r1] at hsum
      rw [hru] at n2 n3
      simp only [Option.isSome_some, if_true, Option.getD_some] at n2 n3
      generalize told (fun (q : Nat) _ (o : List Nat) => q + o.length) 0 ((0, o0) :: os) = t at *
      have hvl := fun K : Heap => (slv_sl encI lr).len (P := Try.prog) (H := K) Try.underlying80
      have hmul : l.length * (lr.length + 1) ≤ 401 * 25 := Nat.mul_le_mul hl (by omega)
      have w1 : IntKind.i64.wrap ((lr.length : Int) + 1) = ((lr.length + 1 : Nat) : Int) := by rw [wrap64 (by omega) (by omega)]; simp
      have w2 : IntKind.i64.wrap ((l.length : Int) * ((lr.length + 1 : Nat) : Int)) = ((l.length * (lr.length + 1) : Nat) : Int) := by
        rw [← Int.natCast_mul]
        exact wrap64 (by omega) (by omega)
      have c1 : decide (((t : Nat) : Int) ≤ ((l.length * (lr.length + 1) : Nat) : Int)) = true := decide_eq_true (by omega)
      have c2 : decide (((t : Nat) : Int) ≥ 1) = true := decide_eq_true (by omega)
      by_cases h6 : 40 < x0.length
      · have hsl := hsl h6
        have d0 := d0 h6
        refine pure_slim rfl (by kernel_rfl) Try.func10 s10 hp hsnap (by simp [Try.f10]) fun fr hlen h => ?_
        simp only [Has, Nat.zero_add] at h
        obtain ⟨a0, a1, -⟩ := h
        simp only [Try.f10] at hlen ⊢
        unfold g10
        simp only [wk, aBuiltin, AV.cells, AV.leaf, Nat.reduceEqDiff, Nat.reduceLT, Nat.reduceAdd, Nat.reduceLeDiff, reduceCtorEq, Nat.reduceMul, cfgP, u90, hlen, a0, a1, hln, d0, hsl, sh, n1, e1, n2, n3, n5, hvl, w1, w2, c1, c2, aw, none_beq]
        exact Fin_pure (l := [.bool true]) (by simp [wk, aBuiltin, AV.cells, AV.leaf, Nat.reduceEqDiff, Nat.reduceLT, Nat.reduceAdd, Nat.reduceLeDiff, reduceCtorEq, Nat.reduceMul, cfgP, u90, aResults, aResult, hlen]) (.still rfl) (by simp)
      · have hst := hst h6
        rw [hst] at n1
        have d1 := d1 h6
        refine pure_slim rfl (by kernel_rfl) Try.func10 s10 hp hsnap (by simp [Try.f10]) fun fr hlen h => ?_
        simp only [Has, Nat.zero_add] at h
        obtain ⟨a0, a1, -⟩ := h
        simp only [Try.f10] at hlen ⊢
        unfold g10
        simp only [wk, aBuiltin, AV.cells, AV.leaf, Nat.reduceEqDiff, Nat.reduceLT, Nat.reduceAdd, Nat.reduceLeDiff, reduceCtorEq, Nat.reduceMul, cfgP, u90, hlen, a0, a1, hln, d1, sh, n1, e1, n2, n3, n5, hvl, w1, w2, c1, c2, aw, none_beq]
        exact Fin_pure (l := [.bool true]) (by simp [wk, aBuiltin, AV.cells, AV.leaf, Nat.reduceEqDiff, Nat.reduceLT, Nat.reduceAdd, Nat.reduceLeDiff, reduceCtorEq, Nat.reduceMul, cfgP, u90, aResults, aResult, hlen]) (.still rfl) (by simp)
end Go.Proofs.Ytoblikhnbddfmaa
