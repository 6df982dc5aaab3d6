import Derived.Test.YtoblikhnbddfmaaP4
/-! Chapter 16: the law NfaRuns, walked. -/
set_option linter.unusedSimpArgs false
namespace Go.Proofs.Ytoblikhnbddfmaa
open Go Go.Abs AbsSeat Ty

def updL (l : List St) (q : Nat × Bool) (a : Nat) (o : List Nat) : Nat × Bool := if haltS l o then (a, true) else q

theorem longest1_ok (l : List St) (a0' : Nat) (c1 c2 c3 prot top : Nat) (hn : l.length ≤ 100000) (hp : prot ≤ c1) (h12 : c1 < c2) (h23 : c2 < c3) (hct : c3 < top) :
    TellOk prot 78 [.ptr c1 0 0, .ptr c2 0 0, .ptr c3 0 0] (fun q : Nat × Bool => [(c1, [encM l a0']), (c2, [.int .i64 (q.1 : Nat)]), (c3, [.bool q.2])]) (updL l) (fun _ _ => True) l.length 20000 top := by
  intro q i a sb r v o H hse hnd hlt ha hi hQ hc htr hrs
  have hol := nodup_len l.length o hnd hlt
  refine ⟨trivial, ?_⟩
  show ∃ H', _ ∧ aLim cfg prot 78 [.int .i64 (a : Nat), .ptr sb 0 0, .ptr c1 0 0, .ptr c2 0 0, .ptr c3 0 0] H = _
  have g1 := hc (c1, [encM l a0']) (by simp)
  have g2 := hc (c2, [.int .i64 (q.1 : Nat)]) (by simp)
  have g3 := hc (c3, [.bool q.2]) (by simp)
  dsimp only at g1 g2 g3
  have hl1 := hget_lt g3
  have n1 := halts_ok l a0' sb r v o H hse hlt (by omega) prot (by omega)
  unfold updL
  by_cases hh : haltS l o = true
  · rw [hh] at n1
    simp only [hh, if_true]
    have p1 : hput prot H c2 0 0 [.int .i64 (a : Nat)] = some (H.set c2 (.cells 0 [.int .i64 (a : Nat)])) := by rw [hput_eq g2 (by omega) (by simp) (by simp [AV.leaf])]; rfl
    have g3' : hget (H.set c2 (.cells 0 [.int .i64 (a : Nat)])) c3 0 = some [.bool q.2] := by rw [hget_set_ne (by omega)]; exact g3
    have p2 : hput prot (H.set c2 (.cells 0 [.int .i64 (a : Nat)])) c3 0 0 [.bool true] = some ((H.set c2 (.cells 0 [.int .i64 (a : Nat)])).set c3 (.cells 0 [.bool true])) := by rw [hput_eq g3' (by omega) (by simp) (by simp [AV.leaf])]; rfl
    have cm : ∀ {K : Heap} {c : Nat} {cs cs' : List AV}, hget K c 0 = some cs → ∀ z es, hmap K z = some es → hmap (K.set c (.cells 0 cs')) z = some es := fun {K c cs cs'} hg z es h => by
      by_cases hz : z = c
      · subst hz
        unfold hmap at h; unfold hget at hg
        split at hg
        · rename_i h2; rw [h2] at h; cases h
        · cases hg
      · rw [hmap_set_ne hz]; exact h
    have fin : Caps ((H.set c2 (.cells 0 [.int .i64 (a : Nat)])).set c3 (.cells 0 [.bool true])) [(c1, [encM l a0']), (c2, [.int .i64 (a : Nat)]), (c3, [.bool true])] ∧ H.length = ((H.set c2 (.cells 0 [.int .i64 (a : Nat)])).set c3 (.cells 0 [.bool true])).length ∧ (∀ z ver cs, top ≤ z → hget H z ver = some cs → hget ((H.set c2 (.cells 0 [.int .i64 (a : Nat)])).set c3 (.cells 0 [.bool true])) z ver = some cs) ∧ (∀ z es, hmap H z = some es → hmap ((H.set c2 (.cells 0 [.int .i64 (a : Nat)])).set c3 (.cells 0 [.bool true])) z = some es) := by
      refine ⟨fun p hp => ?_, by simp, fun z ver cs hz h => by rw [hget_set_ne (by omega), hget_set_ne (by omega)]; exact h, fun z es h => cm g3' z es (cm g2 z es h)⟩
      simp only [List.mem_cons, List.not_mem_nil, or_false] at hp
      rcases hp with rfl | rfl | rfl
      · dsimp only; rw [hget_set_ne (by omega), hget_set_ne (by omega)]; exact g1
      · dsimp only; rw [hget_set_ne (by omega)]; exact hget_set_at (hget_lt g2)
      · exact hget_set_at (hget_lt g3')
    unfold encM at n1 g1
    refine raw_slimE rfl (by kernel_rfl) (by kernel_rfl) (by kernel_rfl) Try.func78 s78 (by simp [Try.f78]) fun fr hlen h => ?_
    simp only [Has, Nat.zero_add] at h
    obtain ⟨a0, a1, a2, a3, a4, -⟩ := h
    simp only [Try.f78] at hlen ⊢
    unfold g78
    simp only [wk, aBuiltin, AV.cells, AV.leaf, Nat.reduceEqDiff, Nat.reduceLT, Nat.reduceAdd, Nat.reduceLeDiff, reduceCtorEq, Nat.reduceMul, cfgP, u90, hlen, a0, a1, a2, a3, a4, g1, n1, p1, p2]
    exact ⟨_, fin, Fin_raw (l := []) (by simp [wk, aBuiltin, AV.cells, AV.leaf, Nat.reduceEqDiff, Nat.reduceLT, Nat.reduceAdd, Nat.reduceLeDiff, reduceCtorEq, Nat.reduceMul, cfgP, u90, hlen, aResults, aResult])⟩
  · have hh := Bool.eq_false_iff.2 hh
    rw [hh] at n1
    simp only [hh, Bool.false_eq_true, if_false]
    have fin : Caps H [(c1, [encM l a0']), (c2, [.int .i64 (q.1 : Nat)]), (c3, [.bool q.2])] ∧ H.length = H.length ∧ (∀ z ver cs, top ≤ z → hget H z ver = some cs → hget H z ver = some cs) ∧ (∀ z es, hmap H z = some es → hmap H z = some es) := ⟨hc, rfl, fun _ _ _ _ h => h, fun _ _ h => h⟩
    unfold encM at n1 g1
    refine raw_slimE rfl (by kernel_rfl) (by kernel_rfl) (by kernel_rfl) Try.func78 s78 (by simp [Try.f78]) fun fr hlen h => ?_
    simp only [Has, Nat.zero_add] at h
    obtain ⟨a0, a1, a2, a3, a4, -⟩ := h
    simp only [Try.f78] at hlen ⊢
    unfold g78
    simp only [wk, aBuiltin, AV.cells, AV.leaf, Nat.reduceEqDiff, Nat.reduceLT, Nat.reduceAdd, Nat.reduceLeDiff, reduceCtorEq, Nat.reduceMul, cfgP, u90, hlen, a0, a1, a2, a3, a4, g1, n1]
    exact ⟨_, fin, Fin_raw (l := []) (by simp [wk, aBuiltin, AV.cells, AV.leaf, Nat.reduceEqDiff, Nat.reduceLT, Nat.reduceAdd, Nat.reduceLeDiff, reduceCtorEq, Nat.reduceMul, cfgP, u90, hlen, aResults, aResult])⟩

theorem longest_ok (l : List St) (hr : RightM l) (hsp : ∀ s ∈ l, s.sp.length < 1000000000) (a : Nat) (ha : a < l.length) (hln : l.length ≤ 100000) (s : List UInt8) (hs : s.length ≤ 10000) (prot : Nat) (H : Heap) (hp : prot ≤ H.length) :
    ∃ o0 os, (o0.Nodup ∧ (∀ x ∈ o0, x < l.length) ∧ (∀ x, x ∈ o0 ↔ Rch l a x) ∧ RunRel l s 0 o0 os) ∧ aLim cfg prot 52 [encM l a, .str s] H = some (.tup [.int .i64 ((told (updL l) (0, false) ((0, o0) :: os)).1 : Nat), .bool (told (updL l) (0, false) ((0, o0) :: os)).2], none) := by
  have hsnap : snap H [encM l a, .str s] = some ([encM l a, .str s], false) := by
    unfold encM; cases l <;> rfl
  have hb : ∀ X Y Z : List AV, (H ++ [Blk.cells 0 X] ++ [Blk.cells 0 Y] ++ [Blk.cells 0 Z]).length = H.length + 3 := fun X Y Z => by simp
  have hl1 : ∀ X, (H ++ [Blk.cells 0 X]).length = H.length + 1 := fun X => by simp
  have hl2 : ∀ X Y, (H ++ [Blk.cells 0 X] ++ [Blk.cells 0 Y]).length = H.length + 2 := fun X Y => by simp
  have g0 : ∀ X Y Z, hget (H ++ [Blk.cells 0 X] ++ [Blk.cells 0 Y] ++ [Blk.cells 0 Z]) H.length 0 = some X := fun X Y Z => hget_mono (hget_mono (by rw [hget_new rfl, if_pos rfl]) _) _
  have g1 : ∀ X Y Z, hget (H ++ [Blk.cells 0 X] ++ [Blk.cells 0 Y] ++ [Blk.cells 0 Z]) (H.length + 1) 0 = some Y := fun X Y Z => hget_mono (by rw [hget_new (hl1 X).symm, if_pos rfl]) _
  have g2 : ∀ X Y Z, hget (H ++ [Blk.cells 0 X] ++ [Blk.cells 0 Y] ++ [Blk.cells 0 Z]) (H.length + 2) 0 = some Z := fun X Y Z => by rw [hget_new (hl2 X Y).symm, if_pos rfl]
  obtain ⟨K, ⟨o0, os, h1, h2, h3, h4, hc⟩, n1⟩ := run_ok l hr hsp a ha hln s hs 78 [.ptr H.length 0 0, .ptr (H.length + 1) 0 0, .ptr (H.length + 2) 0 0] (fun q : Nat × Bool => [(H.length, [encM l a]), (H.length + 1, [.int .i64 (q.1 : Nat)]), (H.length + 2, [.bool q.2])]) (updL l) (fun _ _ => True) (0, false) H.length (H ++ [Blk.cells 0 [encM l a]] ++ [Blk.cells 0 [.int .i64 0]] ++ [Blk.cells 0 [.bool false]]) (by rw [hb]; omega)
    (longest1_ok l a H.length (H.length + 1) (H.length + 2) H.length _ hln (Nat.le_refl _) (by omega) (by omega) (by rw [hb]; omega)) trivial (fun p hp => by
      simp only [List.mem_cons, List.not_mem_nil, or_false] at hp
      rcases hp with rfl | rfl | rfl
      · exact g0 _ _ _
      · exact g1 _ _ _
      · exact g2 _ _ _) (fun q p hp => by
      simp only [List.mem_cons, List.not_mem_nil, or_false] at hp
      rw [hb]
      rcases hp with rfl | rfl | rfl <;> dsimp only <;> omega)
  refine ⟨o0, os, ⟨h1, h2, h3, h4⟩, ?_⟩
  have hg1 := hc (H.length + 1, [.int .i64 ((told (updL l) (0, false) ((0, o0) :: os)).1 : Nat)]) (by simp)
  have hg2 := hc (H.length + 2, [.bool (told (updL l) (0, false) ((0, o0) :: os)).2]) (by simp)
  dsimp only at hg1 hg2
  generalize told (updL l) (0, false) ((0, o0) :: os) = t at *
  generalize (runesU s).isSome = vd at *
  have hpa : hput H.length (H ++ [Blk.cells 0 [encM l a]] ++ [Blk.cells 0 [.int .i64 0]] ++ [Blk.cells 0 [.bool false]]) (H.length + 1) 0 0 [.int .i64 0] = some (H ++ [Blk.cells 0 [encM l a]] ++ [Blk.cells 0 [.int .i64 0]] ++ [Blk.cells 0 [.bool false]]) := by
    rw [hput_eq (g1 _ _ _) (by omega) (by simp) (by simp [AV.leaf])]
    have := set_self (g1 [encM l a] [.int .i64 0] [.bool false])
    exact congrArg some this
  have hpb : hput H.length (H ++ [Blk.cells 0 [encM l a]] ++ [Blk.cells 0 [.int .i64 0]] ++ [Blk.cells 0 [.bool false]]) (H.length + 2) 0 0 [.bool false] = some (H ++ [Blk.cells 0 [encM l a]] ++ [Blk.cells 0 [.int .i64 0]] ++ [Blk.cells 0 [.bool false]]) := by
    rw [hput_eq (g2 _ _ _) (by omega) (by simp) (by simp [AV.leaf])]
    have := set_self (g2 [encM l a] [.int .i64 0] [.bool false])
    exact congrArg some this
  refine pure_slim rfl (by kernel_rfl) Try.func52 s52 hp hsnap (by simp [Try.f52]) fun fr hlen h => ?_
  simp only [Has, Nat.zero_add] at h
  obtain ⟨a0, a1, -⟩ := h
  simp only [Try.f52] at hlen ⊢
  unfold g52
  unfold encM at a0 n1 hpa hpb
  simp only [wk, aBuiltin, AV.cells, AV.leaf, Nat.reduceEqDiff, Nat.reduceLT, Nat.reduceAdd, Nat.reduceLeDiff, reduceCtorEq, Nat.reduceMul, cfgP, u90, hlen, a0, a1, hl1, hl2, g0, g1, g2, hpa, hpb, nilM, n1, hg1, hg2, none_beq]
  exact Fin_pure (l := [.int .i64 (t.1 : Nat), .bool t.2]) (by simp [wk, aBuiltin, AV.cells, AV.leaf, Nat.reduceEqDiff, Nat.reduceLT, Nat.reduceAdd, Nat.reduceLeDiff, reduceCtorEq, Nat.reduceMul, cfgP, u90, hlen, aResults, aResult]) (.tup (.cons (.still rfl) (.cons (.still rfl) .nil))) (by simp)
def foldB (l : List St) (q : Nat × Bool) (T : List (Nat × List Bool)) : Nat × Bool := T.foldl (fun q p => if haltB l p.2 then (p.1, true) else q) q
def sumB (q : Nat) (T : List (Nat × List Bool)) : Nat := T.foldl (fun q p => q + cntB p.2) q
theorem told_long {l : List St} {os : List (Nat × List Nat)} {bs : List (Nat × List Bool)} (h : Two (SimP l.length) os bs) : ∀ q, told (updL l) q os = foldB l q bs := by
  induction h with
  | nil => intro q; rfl
  | @cons p b os bs h t ih =>
    intro q
    obtain ⟨h1, h2, h3, h4⟩ := h
    have e : updL l q p.1 p.2 = if haltB l b.2 then (b.1, true) else q := by unfold updL; rw [h4.halts h3, h1]
    show told (updL l) (updL l q p.1 p.2) os = foldB l (if haltB l b.2 then (b.1, true) else q) bs
    rw [ih, e]
theorem told_sums {l : List St} {os : List (Nat × List Nat)} {bs : List (Nat × List Bool)} (h : Two (SimP l.length) os bs) : ∀ q, told (fun (q : Nat) _ (o : List Nat) => q + o.length) q os = sumB q bs := by
  induction h with
  | nil => intro q; rfl
  | @cons p b os bs h t ih =>
    intro q
    obtain ⟨h1, h2, h3, h4⟩ := h
    show told (fun (q : Nat) _ (o : List Nat) => q + o.length) (q + p.2.length) os = sumB (q + cntB b.2) bs
    rw [ih, h4.count h2]
theorem told_match {l : List St} {n : Nat} {os : List (Nat × List Nat)} {bs : List (Nat × List Bool)} (h : Two (SimP l.length) os bs) : ∀ q, told (fun (_ : Bool) a o => decide (a = n) && haltS l o) q os = bs.foldl (fun _ p => decide (p.1 = n) && haltB l p.2) q := by
  induction h with
  | nil => intro q; rfl
  | @cons p b os bs h t ih =>
    intro q
    obtain ⟨h1, h2, h3, h4⟩ := h
    show told (fun (_ : Bool) a o => decide (a = n) && haltS l o) (decide (p.1 = n) && haltS l p.2) os = bs.foldl (fun _ p => decide (p.1 = n) && haltB l p.2) (decide (b.1 = n) && haltB l b.2)
    rw [ih, h4.halts h3, h1]
theorem foldl_last {α β : Type} (f : α → β) : ∀ (T : List α) (h : T ≠ []) (q : β), T.foldl (fun _ p => f p) q = f (T.getLast h)
  | [x], _, q => rfl
  | x :: y :: r, _, q => by
    rw [List.foldl_cons, List.getLast_cons (by simp)]
    exact foldl_last f (y :: r) (by simp) _
theorem run_lastB {l : List St} {s : List UInt8} {k : Nat} {cur : List Bool} {bs : List (Nat × List Bool)} (h : RunB l s k cur bs) : (bs.length ≤ s.length - k) ∧ (cur.length = l.length → ∀ p ∈ bs, p.2.length = l.length) ∧ (k ≤ s.length → (runesU (s.drop k)).isSome = true → (((k, cur) :: bs).getLast (by simp)).1 = s.length) := by
  induction h with
  | @done k o h => exact ⟨by simp, (fun _ p hp => nomatch hp), fun h1 _ => by show k = s.length; omega⟩
  | @bad k o h he => exact ⟨by simp, (fun _ p hp => nomatch hp), fun _ h2 => by rw [runesU_step h, dif_neg he] at h2; cases h2⟩
  | @step k o bs h he hr ih =>
    have hpos := nextU_pos he
    simp only [List.length_drop] at hpos
    have hlc : (closureS l (nextC l o (nextU (s.drop k)).1 l.length)).length = l.length := by rw [closureS_len, nextC_len]
    refine ⟨by have := ih.1; simp only [List.length_cons]; omega, fun _ p hp => ?_, fun h1 h2 => ?_⟩
    · rcases List.mem_cons.1 hp with h | h
      · rw [h]; exact hlc
      · exact ih.2.1 hlc p h
    · rw [runesU_step h, dif_pos he] at h2
      rw [List.getLast_cons (by simp)]
      refine ih.2.2 (by omega) ?_
      cases hd : runesU (s.drop (k + (nextU (s.drop k)).2.1)) with
      | none => rw [hd] at h2; cases h2
      | some x => rfl
theorem foldB_snoc (l : List St) (q : Nat × Bool) (T : List (Nat × List Bool)) (p : Nat × List Bool) : foldB l q (T ++ [p]) = if haltB l p.2 then (p.1, true) else foldB l q T := by simp [foldB]
theorem sumB_snoc (q : Nat) (T : List (Nat × List Bool)) (p : Nat × List Bool) : sumB q (T ++ [p]) = sumB q T + cntB p.2 := by simp [sumB]
theorem sumB_le {n : Nat} : ∀ (T : List (Nat × List Bool)) (q : Nat), (∀ p ∈ T, p.2.length = n) → sumB q T ≤ q + T.length * n
  | [], q, _ => by simp [sumB]
  | p :: r, q, h => by
    have h1 := h p (by simp)
    have h2 := sumB_le r (q + cntB p.2) (fun x hx => h x (by simp [hx]))
    have e : sumB q (p :: r) = sumB (q + cntB p.2) r := rfl
    have h3 : cntB p.2 ≤ p.2.length := by
      unfold cntB
      have := List.length_filter_le (bt p.2) (List.range p.2.length)
      simpa using this
    rw [e, List.length_cons, Nat.succ_mul]
    omega
theorem cntB_le (o : List Bool) : cntB o ≤ o.length := by
  unfold cntB
  have := List.length_filter_le (bt o) (List.range o.length)
  simpa using this
theorem rightP_of {l : List St} (h : l.all (rightB l.length) = true) : RightM l := fun s hs => by
  have h1 := List.all_eq_true.1 h s hs
  unfold rightB at h1
  split at h1
  · rename_i h2
    simp only [inN, Bool.and_eq_true, decide_eq_true_eq] at h1
    exact ⟨.inr (.inr h2), fun _ => h1.2, fun _ => h1.1⟩
  · rename_i h2
    split at h1
    · rename_i h3
      simp only [inN, Bool.and_eq_true, decide_eq_true_eq] at h1
      exact ⟨.inr (.inl h3), fun _ => h1, fun h => absurd h h2⟩
    · rename_i h3
      simp only [decide_eq_true_eq] at h1
      exact ⟨.inl h1, fun h => by omega, fun h => absurd h h2⟩

theorem shortP_ok (s : List UInt8) (prot : Nat) (H : Heap) (hp : prot ≤ H.length) : aLim cfg prot 39 [.str s] H = some (.str (s.take 24), none) := by
  have hsnap : snap H [.str s] = some ([.str s], false) := rfl
  have hln : ∀ K, aLen Try.prog K 9 (.str s) = some (.int .i64 s.length) := fun K => str_len Try.underlying9 s K
  refine pure_slim rfl (by kernel_rfl) Try.func39 s39 hp hsnap (by simp [Try.f39]) fun fr hlen h => ?_
  simp only [Has, Nat.zero_add] at h
  obtain ⟨a0, -⟩ := h
  simp only [Try.f39] at hlen ⊢
  unfold g39
  by_cases h : 24 < s.length
  · have d1 : decide ((24 : Int) < (s.length : Nat)) = true := decide_eq_true (by omega)
    have hsl : aSlice Try.prog 9 (.str s) none (some (.int .i64 24)) none = some (.str (s.take 24)) := str_upto (b := 24) Try.underlying9 s (by omega)
    simp only [wk, aBuiltin, AV.cells, AV.leaf, Nat.reduceEqDiff, Nat.reduceLT, Nat.reduceAdd, Nat.reduceLeDiff, reduceCtorEq, Nat.reduceMul, cfgP, u90, hlen, a0, hln, d1, hsl]
    exact Fin_pure (l := [.str (s.take 24)]) (by simp [wk, aBuiltin, AV.cells, AV.leaf, Nat.reduceEqDiff, Nat.reduceLT, Nat.reduceAdd, Nat.reduceLeDiff, reduceCtorEq, Nat.reduceMul, cfgP, u90, aResults, aResult, hlen]) (.still rfl) (by simp)
  · have d1 : decide ((24 : Int) < (s.length : Nat)) = false := decide_eq_false (by omega)
    rw [List.take_of_length_le (by omega)]
    simp only [wk, aBuiltin, AV.cells, AV.leaf, Nat.reduceEqDiff, Nat.reduceLT, Nat.reduceAdd, Nat.reduceLeDiff, reduceCtorEq, Nat.reduceMul, cfgP, u90, hlen, a0, hln, d1]
    exact Fin_pure (l := [.str s]) (by simp [wk, aBuiltin, AV.cells, AV.leaf, Nat.reduceEqDiff, Nat.reduceLT, Nat.reduceAdd, Nat.reduceLeDiff, reduceCtorEq, Nat.reduceMul, cfgP, u90, aResults, aResult, hlen]) (.still rfl) (by simp)

theorem nlenP_ok (l : List St) (a : Nat) (prot : Nat) (H : Heap) (hp : prot ≤ H.length) : aLim cfg prot 45 [encM l a] H = some (.int .i64 (l.length : Nat), none) := by
  have hsnap : snap H [encM l a] = some ([encM l a], false) := by unfold encM; cases l <;> rfl
  have hvl := fun K : Heap => (slv_sl encSt l).len (P := Try.prog) (H := K) Try.underlying53
  refine pure_slim rfl (by kernel_rfl) Try.func45 s45 hp hsnap (by simp [Try.f45]) fun fr hlen h => ?_
  simp only [Has, Nat.zero_add] at h
  obtain ⟨a0, -⟩ := h
  simp only [Try.f45] at hlen ⊢
  unfold g45
  unfold encM at a0
  simp only [wk, aBuiltin, AV.cells, AV.leaf, Nat.reduceEqDiff, Nat.reduceLT, Nat.reduceAdd, Nat.reduceLeDiff, reduceCtorEq, Nat.reduceMul, cfgP, u90, hlen, a0, nilM, hvl, none_beq]
  exact Fin_pure (l := [.int .i64 (l.length : Nat)]) (by simp [wk, aBuiltin, AV.cells, AV.leaf, Nat.reduceEqDiff, Nat.reduceLT, Nat.reduceAdd, Nat.reduceLeDiff, reduceCtorEq, Nat.reduceMul, cfgP, u90, aResults, aResult, hlen]) (.still rfl) (by simp)
theorem awakeP_ok (prot : Nat) (H : Heap) : aLim cfg prot 42 [] H = some (.bool true, none) :=
  lim_shut (k := 3000) (by kernel_rfl) (by kernel_rfl) (by kernel_rfl) prot H

theorem nfaRuns_ok (l0 : List S0) (v0 : AV) (hv0 : Sl enc0 v0 l0) (hl0 : l0.length ≤ 9223372036854775807) (a : Int) (s0 : List UInt8) (prot : Nat) (H : Heap) (hp : prot ≤ H.length) : aLim cfg prot 11 [v0, .int .i64 a, .str s0] H = some (.bool true, none) := by
  have hsnap : snap H [v0, .int .i64 a, .str s0] = some ([v0, .int .i64 a, .str s0], false) := by cases hv0 <;> rfl
  have fw := few_ok l0 v0 hv0 hl0 H.length H (Nat.le_refl _)
  have sh := shortP_ok s0 H.length H (Nat.le_refl _)
  have hs : (s0.take 24).length ≤ 24 := by simp; omega
  generalize s0.take 24 = s at *
  have hl : ((l0.take 20).map cut0).length ≤ 20 := by simp; omega
  have h4 : ∀ x ∈ (l0.take 20).map cut0, x.sp.length ≤ 4 := fun x hx => by
    obtain ⟨y, _, rfl⟩ := List.mem_map.1 hx
    show (y.sp.take 4).length ≤ 4
    simp; omega
  have hv := slv_sl enc0 ((l0.take 20).map cut0)
  generalize slv enc0 ((l0.take 20).map cut0) = v at *
  generalize (l0.take 20).map cut0 = l at *
  have ou := ours_ok l v hv hl h4 H.length H (Nat.le_refl _)
  have hml : (l.map S0.st).length = l.length := by simp
  have hspL : ∀ t ∈ l.map S0.st, t.sp.length ≤ 4 := fun t ht => by
    obtain ⟨x, hx, rfl⟩ := List.mem_map.1 ht
    exact h4 x hx
  have nw := nnew_ok (l.map S0.st) _ (slv_sl encSt _) (by omega) (fun t ht => by have := hspL t ht; omega) a H.length H (Nat.le_refl _)
  have ry := rmay_ok l v hv hl a H.length H (Nat.le_refl _)
  have aw := awakeP_ok H.length H
  have hsvL : (slv encSt (l.map S0.st)).leaf = true := by cases l.map S0.st <;> rfl
  unfold AV.leaf at hsvL
  unfold newS at nw
  have hmay : mayS (l.map S0.st) a = (decide ((l.map S0.st).length ≤ 401) && inN (l.map S0.st).length a && (l.map S0.st).all (rightB (l.map S0.st).length)) := rfl
  by_cases hm : mayS (l.map S0.st) a = true
  · rw [hm] at ry
    rw [hmay] at hm
    rw [if_pos hm] at nw
    simp only [Bool.and_eq_true, decide_eq_true_eq, inN] at hm
    obtain ⟨⟨m1, m2, m3⟩, m4⟩ := hm
    obtain ⟨k, rfl⟩ : ∃ k : Nat, a = (k : Nat) := ⟨a.toNat, by omega⟩
    have hk : k < (l.map S0.st).length := by omega
    have hr := rightP_of m4
    have hsp' : ∀ t ∈ l.map S0.st, t.sp.length < 1000000000 := fun t ht => by have := hspL t ht; omega
    obtain ⟨r, ⟨va, vp, bs, rfl, hva, hvp, hrb⟩, rn⟩ := rrun_ok l hr v hv hl h4 k (by omega) s (by omega) H.length H (Nat.le_refl _)
    obtain ⟨oa, osa, ⟨a1', a2', a3', a4'⟩, nS⟩ := steps_ok _ hr hsp' k hk (by omega) s (by omega) H.length H (Nat.le_refl _)
    obtain ⟨ob, osb, ⟨b1', b2', b3', b4'⟩, nM⟩ := match_ok _ hr hsp' k hk (by omega) s (by omega) H.length H (Nat.le_refl _)
    obtain ⟨oc, osc, ⟨c1', c2', c3', c4'⟩, nL⟩ := longest_ok _ hr hsp' k hk (by omega) s (by omega) H.length H (Nat.le_refl _)
    have nN := nlenP_ok (l.map S0.st) k H.length H (Nat.le_refl _)
    -- the beginning
    have hbl : ((List.replicate l.length false).set k true).length = (l.map S0.st).length := by simp
    have hc0 : ∀ x, bt (closureS (l.map S0.st) ((List.replicate l.length false).set k true)) x = true ↔ Rch (l.map S0.st) k x := fun x => by
      rw [closure_mem hr _ hbl]
      constructor
      · rintro ⟨j, h1, h2⟩
        rcases bt_set.1 h1 with ⟨rfl, _⟩ | h1
        · exact h2
        · have := bt_lt h1
          simp [bt] at h1
          simp at this
          simp [this] at h1
      · intro h
        exact ⟨k, bt_set.2 (.inl ⟨rfl, by simp; omega⟩), h⟩
    have hcl0 : (closureS (l.map S0.st) ((List.replicate l.length false).set k true)).length = (l.map S0.st).length := by rw [closureS_len]; exact hbl
    generalize closureS (l.map S0.st) ((List.replicate l.length false).set k true) = cur0 at *
    have sA : Two (SimP (l.map S0.st).length) ((0, oa) :: osa) ((0, cur0) :: bs) := .cons ⟨rfl, a1', hcl0, fun x => (a3' x).trans (hc0 x).symm⟩ (run_sim hr a4' cur0 bs hcl0 (fun x => (a3' x).trans (hc0 x).symm) hrb)
    have sB : Two (SimP (l.map S0.st).length) ((0, ob) :: osb) ((0, cur0) :: bs) := .cons ⟨rfl, b1', hcl0, fun x => (b3' x).trans (hc0 x).symm⟩ (run_sim hr b4' cur0 bs hcl0 (fun x => (b3' x).trans (hc0 x).symm) hrb)
    have sC : Two (SimP (l.map S0.st).length) ((0, oc) :: osc) ((0, cur0) :: bs) := .cons ⟨rfl, c1', hcl0, fun x => (c3' x).trans (hc0 x).symm⟩ (run_sim hr c4' cur0 bs hcl0 (fun x => (c3' x).trans (hc0 x).symm) hrb)
    rw [told_sums sA] at nS
    rw [told_match sB] at nM
    rw [told_long sC] at nL
    obtain ⟨hlen, hall, hlast⟩ := run_lastB hrb
    rw [List.drop_zero] at hlast
    have hT : ∀ p ∈ (0, cur0) :: bs, p.2.length = l.length := fun p hp => by
      rcases List.mem_cons.1 hp with h | h
      · rw [h, ← hml]; exact hcl0
      · rw [← hml]; exact hall hcl0 p h
    have hTl : ((0, cur0) :: bs).length ≤ 25 := by simp only [List.length_cons]; omega
    have hva : Sl encBB va (((0, cur0) :: bs).map (·.2)) := hva
    have hvp : Sl encK vp (((0, cur0) :: bs).map (·.1)) := hvp
    rw [foldl_last (fun p : Nat × List Bool => decide (p.1 = s.length) && haltB (l.map S0.st) p.2) ((0, cur0) :: bs) (by simp)] at nM
    have hlast2 : (runesU s).isSome = true → (((0, cur0) :: bs).getLast (by simp)).1 = s.length := hlast (Nat.zero_le _)
    have hgl : ((0, cur0) :: bs)[((0, cur0) :: bs).length - 1]? = some (((0, cur0) :: bs).getLast (by simp)) := by
      rw [List.getLast_eq_getElem]
      exact List.getElem?_eq_getElem _
    generalize ((0, cur0) :: bs).getLast _ = pl at *
    have hTne : 0 < ((0, cur0) :: bs).length := by simp
    clear sA sB sC hrb hall hlast hcl0 hc0 a1' a2' a3' a4' b1' b2' b3' b4' c1' c2' c3' c4'
    generalize hTT : (0, cur0) :: bs = T at *
    have hal := fun K : Heap => hva.len (P := Try.prog) (H := K) Try.underlying89
    rw [List.length_map] at hal
    unfold encM at nS nM nL nN
    have e0 : decide ((0 : Int) = 0) = true := rfl
    generalize hvd : (runesU s).isSome = vd at *
    refine pure_slim rfl (by kernel_rfl) Try.func11 s11 hp hsnap (by simp [Try.f11]) fun fr hlen h => ?_
    simp only [Has, Nat.zero_add] at h
    obtain ⟨a0, a1, a2, -⟩ := h
    simp only [Try.f11] at hlen ⊢
    unfold g11
    simp only [wk, aBuiltin, AV.cells, AV.leaf, Nat.reduceEqDiff, Nat.reduceLT, Nat.reduceAdd, Nat.reduceLeDiff, reduceCtorEq, Nat.reduceMul, cfgP, u46, hlen, a0, a1, a2, fw, sh, ou, hsvL, nw, ry, rn, hal, none_beq]
    have hmz := hml
    generalize hLL : l.map S0.st = L at *
    refine loop_rule (fun m fr H' => ∃ (i : Nat), m = T.length - i ∧ i ≤ T.length ∧ fr.length = 134 ∧ fget fr 0 = v ∧ fget fr 2 = .str s ∧ fget fr 7 = .vptr [slv encSt L, .int .i64 (k : Nat)] 0 ∧ fget fr 8 = .int .i64 0 ∧ fget fr 9 = va ∧ fget fr 10 = vp ∧ fget fr 11 = .bool vd ∧ fget fr 12 = .int .i64 ((foldB L (0, false) (T.take i)).1 : Nat) ∧ fget fr 13 = .bool (foldB L (0, false) (T.take i)).2 ∧ fget fr 14 = .int .i64 (sumB 0 (T.take i) : Nat) ∧ fget fr 54 = va ∧ fget fr 55 = .int .i64 (T.length : Nat) ∧ fget fr 56 = .int .i64 (i : Nat) ∧ H' = H) ?_ T.length _ _
      ⟨0, by omega, by omega, by simp [wk, aBuiltin, AV.cells, AV.leaf, Nat.reduceEqDiff, Nat.reduceLT, Nat.reduceAdd, Nat.reduceLeDiff, reduceCtorEq, Nat.reduceMul, cfgP, u46, hlen], by simp [wk, aBuiltin, AV.cells, AV.leaf, Nat.reduceEqDiff, Nat.reduceLT, Nat.reduceAdd, Nat.reduceLeDiff, reduceCtorEq, Nat.reduceMul, cfgP, u46, hlen], by simp [wk, aBuiltin, AV.cells, AV.leaf, Nat.reduceEqDiff, Nat.reduceLT, Nat.reduceAdd, Nat.reduceLeDiff, reduceCtorEq, Nat.reduceMul, cfgP, u46, hlen], by simp [wk, aBuiltin, AV.cells, AV.leaf, Nat.reduceEqDiff, Nat.reduceLT, Nat.reduceAdd, Nat.reduceLeDiff, reduceCtorEq, Nat.reduceMul, cfgP, u46, hlen], by simp [wk, aBuiltin, AV.cells, AV.leaf, Nat.reduceEqDiff, Nat.reduceLT, Nat.reduceAdd, Nat.reduceLeDiff, reduceCtorEq, Nat.reduceMul, cfgP, u46, hlen], by simp [wk, aBuiltin, AV.cells, AV.leaf, Nat.reduceEqDiff, Nat.reduceLT, Nat.reduceAdd, Nat.reduceLeDiff, reduceCtorEq, Nat.reduceMul, cfgP, u46, hlen], by simp [wk, aBuiltin, AV.cells, AV.leaf, Nat.reduceEqDiff, Nat.reduceLT, Nat.reduceAdd, Nat.reduceLeDiff, reduceCtorEq, Nat.reduceMul, cfgP, u46, hlen], by simp [wk, aBuiltin, AV.cells, AV.leaf, Nat.reduceEqDiff, Nat.reduceLT, Nat.reduceAdd, Nat.reduceLeDiff, reduceCtorEq, Nat.reduceMul, cfgP, u46, hlen], by simp [wk, aBuiltin, AV.cells, AV.leaf, Nat.reduceEqDiff, Nat.reduceLT, Nat.reduceAdd, Nat.reduceLeDiff, reduceCtorEq, Nat.reduceMul, cfgP, u46, hlen, foldB], by simp [wk, aBuiltin, AV.cells, AV.leaf, Nat.reduceEqDiff, Nat.reduceLT, Nat.reduceAdd, Nat.reduceLeDiff, reduceCtorEq, Nat.reduceMul, cfgP, u46, hlen, foldB], by simp [wk, aBuiltin, AV.cells, AV.leaf, Nat.reduceEqDiff, Nat.reduceLT, Nat.reduceAdd, Nat.reduceLeDiff, reduceCtorEq, Nat.reduceMul, cfgP, u46, hlen, sumB], by simp [wk, aBuiltin, AV.cells, AV.leaf, Nat.reduceEqDiff, Nat.reduceLT, Nat.reduceAdd, Nat.reduceLeDiff, reduceCtorEq, Nat.reduceMul, cfgP, u46, hlen], by simp [wk, aBuiltin, AV.cells, AV.leaf, Nat.reduceEqDiff, Nat.reduceLT, Nat.reduceAdd, Nat.reduceLeDiff, reduceCtorEq, Nat.reduceMul, cfgP, u46, hlen], by simp [wk, aBuiltin, AV.cells, AV.leaf, Nat.reduceEqDiff, Nat.reduceLT, Nat.reduceAdd, Nat.reduceLeDiff, reduceCtorEq, Nat.reduceMul, cfgP, u46, hlen], rfl⟩
    clear a0 a1 a2 hlen fr
    rintro m fr H' ⟨i, rfl, hi, hlen, b0, b2, b7, b8, b9, b10, b11, b12, b13, b14, b54, b55, b56, rfl⟩ ih
    by_cases hil : i < T.length
    · have d1 : decide (((i : Nat) : Int) < (T.length : Nat)) = true := decide_eq_true (by omega)
      have hw : IntKind.i64.wrap ((i : Int) + 1) = ((i + 1 : Nat) : Int) := by rw [wrap64 (by omega) (by omega)]; simp
      have e1 := hva.at (P := Try.prog) (k := .i64) (i := i) Try.underlying89 sz93 encBB_T.len (by simpa using hil)
      have e2 := hvp.at (P := Try.prog) (k := .i64) (i := i) Try.underlying90 sz3 encK_T.len (by simpa using hil)
      rw [List.getElem_map] at e1 e2
      have htk : T.take (i + 1) = T.take i ++ [T[i]] := by simp
      have hp2 := hT T[i] (List.getElem_mem _)
      have hsum := sumB_le (n := l.length) (T.take i) 0 fun p hp => hT p (List.mem_of_mem_take hp)
      have hti : (T.take i).length = i := by simp; omega
      rw [hti] at hsum
      have hmul : i * l.length ≤ 25 * 20 := Nat.mul_le_mul (by omega) hl
      generalize T[i] = p at *
      have hcell : (encBB p.2).cells = [slv encBo p.2] := by unfold encBB; cases p.2 <;> rfl
      rw [hcell] at e1
      simp only [encK, AV.cells] at e2
      have hsl : (slv encBo p.2).leaf = true := by cases p.2 <;> rfl
      unfold AV.leaf at hsl
      have n1 := rhalts_ok l v hv hl p.2 hp2 (slv encBo p.2) (slv_sl encBo p.2) H'.length H' (Nat.le_refl _)
      rw [hLL] at n1
      have hbl2 := fun K : Heap => (slv_sl encBo p.2).len (P := Try.prog) (H := K) Try.underlying93
      have hfs := foldB_snoc L (0, false) (T.take i) p
      have hss := sumB_snoc 0 (T.take i) p
      rw [← htk] at hfs hss
      have hcnt : cntB p.2 = ((List.range p.2.length).filter (bt p.2)).length := rfl
      generalize hq0 : foldB L (0, false) (T.take i) = q at *
      generalize hs0' : sumB 0 (T.take i) = sm at *
      cases hh : haltB L p.2
      · rw [hh] at n1 hfs
        rw [if_neg (by simp)] at hfs
        simp only [wk, aBuiltin, AV.cells, AV.leaf, Nat.reduceEqDiff, Nat.reduceLT, Nat.reduceAdd, Nat.reduceLeDiff, reduceCtorEq, Nat.reduceMul, cfgP, u46, hlen, b0, b2, b7, b8, b9, b10, b11, b12, b13, b14, b54, b55, b56, d1, e1, hsl, n1, hbl2]
        refine loop_rule (fun m fr H2 => ∃ (j : Nat), m = p.2.length - j ∧ j ≤ p.2.length ∧ fr.length = 134 ∧ fget fr 0 = v ∧ fget fr 2 = .str s ∧ fget fr 7 = .vptr [slv encSt L, .int .i64 (k : Nat)] 0 ∧ fget fr 8 = .int .i64 0 ∧ fget fr 9 = va ∧ fget fr 10 = vp ∧ fget fr 11 = .bool vd ∧ fget fr 12 = .int .i64 ((foldB L (0, false) (T.take (i + 1))).1 : Nat) ∧ fget fr 13 = .bool (foldB L (0, false) (T.take (i + 1))).2 ∧ fget fr 14 = .int .i64 ((sm + ((List.range j).filter (bt p.2)).length : Nat)) ∧ fget fr 54 = va ∧ fget fr 55 = .int .i64 (T.length : Nat) ∧ fget fr 56 = .int .i64 (i : Nat) ∧
          fget fr 68 = slv encBo p.2 ∧ fget fr 69 = .int .i64 (p.2.length : Nat) ∧ fget fr 70 = .int .i64 (j : Nat) ∧ H2 = H') ?_ p.2.length _ _
          ⟨0, by omega, by omega, by simp [wk, aBuiltin, AV.cells, AV.leaf, Nat.reduceEqDiff, Nat.reduceLT, Nat.reduceAdd, Nat.reduceLeDiff, reduceCtorEq, Nat.reduceMul, cfgP, u46, hlen], by simp [wk, aBuiltin, AV.cells, AV.leaf, Nat.reduceEqDiff, Nat.reduceLT, Nat.reduceAdd, Nat.reduceLeDiff, reduceCtorEq, Nat.reduceMul, cfgP, u46, hlen, b0], by simp [wk, aBuiltin, AV.cells, AV.leaf, Nat.reduceEqDiff, Nat.reduceLT, Nat.reduceAdd, Nat.reduceLeDiff, reduceCtorEq, Nat.reduceMul, cfgP, u46, hlen, b2], by simp [wk, aBuiltin, AV.cells, AV.leaf, Nat.reduceEqDiff, Nat.reduceLT, Nat.reduceAdd, Nat.reduceLeDiff, reduceCtorEq, Nat.reduceMul, cfgP, u46, hlen, b7], by simp [wk, aBuiltin, AV.cells, AV.leaf, Nat.reduceEqDiff, Nat.reduceLT, Nat.reduceAdd, Nat.reduceLeDiff, reduceCtorEq, Nat.reduceMul, cfgP, u46, hlen, b8], by simp [wk, aBuiltin, AV.cells, AV.leaf, Nat.reduceEqDiff, Nat.reduceLT, Nat.reduceAdd, Nat.reduceLeDiff, reduceCtorEq, Nat.reduceMul, cfgP, u46, hlen, b9], by simp [wk, aBuiltin, AV.cells, AV.leaf, Nat.reduceEqDiff, Nat.reduceLT, Nat.reduceAdd, Nat.reduceLeDiff, reduceCtorEq, Nat.reduceMul, cfgP, u46, hlen, b10], by simp [wk, aBuiltin, AV.cells, AV.leaf, Nat.reduceEqDiff, Nat.reduceLT, Nat.reduceAdd, Nat.reduceLeDiff, reduceCtorEq, Nat.reduceMul, cfgP, u46, hlen, b11], by rw [hfs]; simp [wk, aBuiltin, AV.cells, AV.leaf, Nat.reduceEqDiff, Nat.reduceLT, Nat.reduceAdd, Nat.reduceLeDiff, reduceCtorEq, Nat.reduceMul, cfgP, u46, hlen, b12], by rw [hfs]; simp [wk, aBuiltin, AV.cells, AV.leaf, Nat.reduceEqDiff, Nat.reduceLT, Nat.reduceAdd, Nat.reduceLeDiff, reduceCtorEq, Nat.reduceMul, cfgP, u46, hlen, b13], by simp [wk, aBuiltin, AV.cells, AV.leaf, Nat.reduceEqDiff, Nat.reduceLT, Nat.reduceAdd, Nat.reduceLeDiff, reduceCtorEq, Nat.reduceMul, cfgP, u46, hlen, b14], by simp [wk, aBuiltin, AV.cells, AV.leaf, Nat.reduceEqDiff, Nat.reduceLT, Nat.reduceAdd, Nat.reduceLeDiff, reduceCtorEq, Nat.reduceMul, cfgP, u46, hlen, b54], by simp [wk, aBuiltin, AV.cells, AV.leaf, Nat.reduceEqDiff, Nat.reduceLT, Nat.reduceAdd, Nat.reduceLeDiff, reduceCtorEq, Nat.reduceMul, cfgP, u46, hlen, b55], by simp [wk, aBuiltin, AV.cells, AV.leaf, Nat.reduceEqDiff, Nat.reduceLT, Nat.reduceAdd, Nat.reduceLeDiff, reduceCtorEq, Nat.reduceMul, cfgP, u46, hlen, b56], by simp [wk, aBuiltin, AV.cells, AV.leaf, Nat.reduceEqDiff, Nat.reduceLT, Nat.reduceAdd, Nat.reduceLeDiff, reduceCtorEq, Nat.reduceMul, cfgP, u46, hlen], by simp [wk, aBuiltin, AV.cells, AV.leaf, Nat.reduceEqDiff, Nat.reduceLT, Nat.reduceAdd, Nat.reduceLeDiff, reduceCtorEq, Nat.reduceMul, cfgP, u46, hlen], by simp [wk, aBuiltin, AV.cells, AV.leaf, Nat.reduceEqDiff, Nat.reduceLT, Nat.reduceAdd, Nat.reduceLeDiff, reduceCtorEq, Nat.reduceMul, cfgP, u46, hlen], rfl⟩
        clear b0 b2 b7 b8 b9 b10 b11 b12 b13 b14 b54 b55 b56 hlen fr
        rintro m fr H2 ⟨j, rfl, hj, hlen, b0, b2, b7, b8, b9, b10, b11, b12, b13, b14, b54, b55, b56, b68, b69, b70, rfl⟩ ih2
        by_cases hjl : j < p.2.length
        · have d2 : decide (((j : Nat) : Int) < (p.2.length : Nat)) = true := decide_eq_true (by omega)
          have hwj : IntKind.i64.wrap ((j : Int) + 1) = ((j + 1 : Nat) : Int) := by rw [wrap64 (by omega) (by omega)]; simp
          have e3 := (slv_sl encBo p.2).at (P := Try.prog) (k := .i64) (i := j) Try.underlying93 sz4 encBo_T.len hjl
          have hbk : bt p.2 j = p.2[j] := by simp [bt, hjl]
          rw [← hbk] at e3
          simp only [encBo, AV.cells] at e3
          have hfl := List.length_filter_le (bt p.2) (List.range j)
          rw [List.length_range] at hfl
          cases hb : bt p.2 j with
          | true =>
            rw [hb] at e3
            have hn : ((List.range (j + 1)).filter (bt p.2)).length = ((List.range j).filter (bt p.2)).length + 1 := by rw [List.range_succ, List.filter_append, List.length_append]; simp [hb]
            have hws : IntKind.i64.wrap (((sm + ((List.range j).filter (bt p.2)).length : Nat) : Int) + 1) = ((sm + ((List.range (j + 1)).filter (bt p.2)).length : Nat) : Int) := by rw [wrap64 (by omega) (by omega), hn]; simp; omega
            simp only [wk, aBuiltin, AV.cells, AV.leaf, Nat.reduceEqDiff, Nat.reduceLT, Nat.reduceAdd, Nat.reduceLeDiff, reduceCtorEq, Nat.reduceMul, cfgP, u46, hlen, b0, b2, b7, b8, b9, b10, b11, b12, b13, b14, b54, b55, b56, b68, b69, b70, d2, e3, hws, hwj]
            exact ih2 _ _ (p.2.length - (j + 1)) (by omega) ⟨j + 1, rfl, by omega, by simp [wk, aBuiltin, AV.cells, AV.leaf, Nat.reduceEqDiff, Nat.reduceLT, Nat.reduceAdd, Nat.reduceLeDiff, reduceCtorEq, Nat.reduceMul, cfgP, u46, hlen], by simp [wk, aBuiltin, AV.cells, AV.leaf, Nat.reduceEqDiff, Nat.reduceLT, Nat.reduceAdd, Nat.reduceLeDiff, reduceCtorEq, Nat.reduceMul, cfgP, u46, hlen, b0], by simp [wk, aBuiltin, AV.cells, AV.leaf, Nat.reduceEqDiff, Nat.reduceLT, Nat.reduceAdd, Nat.reduceLeDiff, reduceCtorEq, Nat.reduceMul, cfgP, u46, hlen, b2], by simp [wk, aBuiltin, AV.cells, AV.leaf, Nat.reduceEqDiff, Nat.reduceLT, Nat.reduceAdd, Nat.reduceLeDiff, reduceCtorEq, Nat.reduceMul, cfgP, u46, hlen, b7], by simp [wk, aBuiltin, AV.cells, AV.leaf, Nat.reduceEqDiff, Nat.reduceLT, Nat.reduceAdd, Nat.reduceLeDiff, reduceCtorEq, Nat.reduceMul, cfgP, u46, hlen, b8], by simp [wk, aBuiltin, AV.cells, AV.leaf, Nat.reduceEqDiff, Nat.reduceLT, Nat.reduceAdd, Nat.reduceLeDiff, reduceCtorEq, Nat.reduceMul, cfgP, u46, hlen, b9], by simp [wk, aBuiltin, AV.cells, AV.leaf, Nat.reduceEqDiff, Nat.reduceLT, Nat.reduceAdd, Nat.reduceLeDiff, reduceCtorEq, Nat.reduceMul, cfgP, u46, hlen, b10], by simp [wk, aBuiltin, AV.cells, AV.leaf, Nat.reduceEqDiff, Nat.reduceLT, Nat.reduceAdd, Nat.reduceLeDiff, reduceCtorEq, Nat.reduceMul, cfgP, u46, hlen, b11], by simp [wk, aBuiltin, AV.cells, AV.leaf, Nat.reduceEqDiff, Nat.reduceLT, Nat.reduceAdd, Nat.reduceLeDiff, reduceCtorEq, Nat.reduceMul, cfgP, u46, hlen, b12], by simp [wk, aBuiltin, AV.cells, AV.leaf, Nat.reduceEqDiff, Nat.reduceLT, Nat.reduceAdd, Nat.reduceLeDiff, reduceCtorEq, Nat.reduceMul, cfgP, u46, hlen, b13], by simp [wk, aBuiltin, AV.cells, AV.leaf, Nat.reduceEqDiff, Nat.reduceLT, Nat.reduceAdd, Nat.reduceLeDiff, reduceCtorEq, Nat.reduceMul, cfgP, u46, hlen], by simp [wk, aBuiltin, AV.cells, AV.leaf, Nat.reduceEqDiff, Nat.reduceLT, Nat.reduceAdd, Nat.reduceLeDiff, reduceCtorEq, Nat.reduceMul, cfgP, u46, hlen, b54], by simp [wk, aBuiltin, AV.cells, AV.leaf, Nat.reduceEqDiff, Nat.reduceLT, Nat.reduceAdd, Nat.reduceLeDiff, reduceCtorEq, Nat.reduceMul, cfgP, u46, hlen, b55], by simp [wk, aBuiltin, AV.cells, AV.leaf, Nat.reduceEqDiff, Nat.reduceLT, Nat.reduceAdd, Nat.reduceLeDiff, reduceCtorEq, Nat.reduceMul, cfgP, u46, hlen, b56], by simp [wk, aBuiltin, AV.cells, AV.leaf, Nat.reduceEqDiff, Nat.reduceLT, Nat.reduceAdd, Nat.reduceLeDiff, reduceCtorEq, Nat.reduceMul, cfgP, u46, hlen, b68], by simp [wk, aBuiltin, AV.cells, AV.leaf, Nat.reduceEqDiff, Nat.reduceLT, Nat.reduceAdd, Nat.reduceLeDiff, reduceCtorEq, Nat.reduceMul, cfgP, u46, hlen, b69], by simp [wk, aBuiltin, AV.cells, AV.leaf, Nat.reduceEqDiff, Nat.reduceLT, Nat.reduceAdd, Nat.reduceLeDiff, reduceCtorEq, Nat.reduceMul, cfgP, u46, hlen], rfl⟩
          | false =>
            rw [hb] at e3
            have hn : ((List.range (j + 1)).filter (bt p.2)).length = ((List.range j).filter (bt p.2)).length := by rw [List.range_succ, List.filter_append, List.length_append]; simp [hb]
            simp only [wk, aBuiltin, AV.cells, AV.leaf, Nat.reduceEqDiff, Nat.reduceLT, Nat.reduceAdd, Nat.reduceLeDiff, reduceCtorEq, Nat.reduceMul, cfgP, u46, hlen, b0, b2, b7, b8, b9, b10, b11, b12, b13, b14, b54, b55, b56, b68, b69, b70, d2, e3, hwj]
            exact ih2 _ _ (p.2.length - (j + 1)) (by omega) ⟨j + 1, rfl, by omega, by simp [wk, aBuiltin, AV.cells, AV.leaf, Nat.reduceEqDiff, Nat.reduceLT, Nat.reduceAdd, Nat.reduceLeDiff, reduceCtorEq, Nat.reduceMul, cfgP, u46, hlen], by simp [wk, aBuiltin, AV.cells, AV.leaf, Nat.reduceEqDiff, Nat.reduceLT, Nat.reduceAdd, Nat.reduceLeDiff, reduceCtorEq, Nat.reduceMul, cfgP, u46, hlen, b0], by simp [wk, aBuiltin, AV.cells, AV.leaf, Nat.reduceEqDiff, Nat.reduceLT, Nat.reduceAdd, Nat.reduceLeDiff, reduceCtorEq, Nat.reduceMul, cfgP, u46, hlen, b2], by simp [wk, aBuiltin, AV.cells, AV.leaf, Nat.reduceEqDiff, Nat.reduceLT, Nat.reduceAdd, Nat.reduceLeDiff, reduceCtorEq, Nat.reduceMul, cfgP, u46, hlen, b7], by simp [wk, aBuiltin, AV.cells, AV.leaf, Nat.reduceEqDiff, Nat.reduceLT, Nat.reduceAdd, Nat.reduceLeDiff, reduceCtorEq, Nat.reduceMul, cfgP, u46, hlen, b8], by simp [wk, aBuiltin, AV.cells, AV.leaf, Nat.reduceEqDiff, Nat.reduceLT, Nat.reduceAdd, Nat.reduceLeDiff, reduceCtorEq, Nat.reduceMul, cfgP, u46, hlen, b9], by simp [wk, aBuiltin, AV.cells, AV.leaf, Nat.reduceEqDiff, Nat.reduceLT, Nat.reduceAdd, Nat.reduceLeDiff, reduceCtorEq, Nat.reduceMul, cfgP, u46, hlen, b10], by simp [wk, aBuiltin, AV.cells, AV.leaf, Nat.reduceEqDiff, Nat.reduceLT, Nat.reduceAdd, Nat.reduceLeDiff, reduceCtorEq, Nat.reduceMul, cfgP, u46, hlen, b11], by simp [wk, aBuiltin, AV.cells, AV.leaf, Nat.reduceEqDiff, Nat.reduceLT, Nat.reduceAdd, Nat.reduceLeDiff, reduceCtorEq, Nat.reduceMul, cfgP, u46, hlen, b12], by simp [wk, aBuiltin, AV.cells, AV.leaf, Nat.reduceEqDiff, Nat.reduceLT, Nat.reduceAdd, Nat.reduceLeDiff, reduceCtorEq, Nat.reduceMul, cfgP, u46, hlen, b13], by rw [hn]; simp [wk, aBuiltin, AV.cells, AV.leaf, Nat.reduceEqDiff, Nat.reduceLT, Nat.reduceAdd, Nat.reduceLeDiff, reduceCtorEq, Nat.reduceMul, cfgP, u46, hlen, b14], by simp [wk, aBuiltin, AV.cells, AV.leaf, Nat.reduceEqDiff, Nat.reduceLT, Nat.reduceAdd, Nat.reduceLeDiff, reduceCtorEq, Nat.reduceMul, cfgP, u46, hlen, b54], by simp [wk, aBuiltin, AV.cells, AV.leaf, Nat.reduceEqDiff, Nat.reduceLT, Nat.reduceAdd, Nat.reduceLeDiff, reduceCtorEq, Nat.reduceMul, cfgP, u46, hlen, b55], by simp [wk, aBuiltin, AV.cells, AV.leaf, Nat.reduceEqDiff, Nat.reduceLT, Nat.reduceAdd, Nat.reduceLeDiff, reduceCtorEq, Nat.reduceMul, cfgP, u46, hlen, b56], by simp [wk, aBuiltin, AV.cells, AV.leaf, Nat.reduceEqDiff, Nat.reduceLT, Nat.reduceAdd, Nat.reduceLeDiff, reduceCtorEq, Nat.reduceMul, cfgP, u46, hlen, b68], by simp [wk, aBuiltin, AV.cells, AV.leaf, Nat.reduceEqDiff, Nat.reduceLT, Nat.reduceAdd, Nat.reduceLeDiff, reduceCtorEq, Nat.reduceMul, cfgP, u46, hlen, b69], by simp [wk, aBuiltin, AV.cells, AV.leaf, Nat.reduceEqDiff, Nat.reduceLT, Nat.reduceAdd, Nat.reduceLeDiff, reduceCtorEq, Nat.reduceMul, cfgP, u46, hlen], rfl⟩
        · have d2 : decide (((j : Nat) : Int) < (p.2.length : Nat)) = false := decide_eq_false (by omega)
          have hjj : j = p.2.length := by omega
          subst hjj
          rw [← hcnt, ← hss] at b14
          simp only [wk, aBuiltin, AV.cells, AV.leaf, Nat.reduceEqDiff, Nat.reduceLT, Nat.reduceAdd, Nat.reduceLeDiff, reduceCtorEq, Nat.reduceMul, cfgP, u46, hlen, b0, b2, b7, b8, b9, b10, b11, b12, b13, b14, b54, b55, b56, b68, b69, b70, d2, hw]
          exact ih _ _ (T.length - (i + 1)) (by omega) ⟨i + 1, rfl, by omega, by simp [wk, aBuiltin, AV.cells, AV.leaf, Nat.reduceEqDiff, Nat.reduceLT, Nat.reduceAdd, Nat.reduceLeDiff, reduceCtorEq, Nat.reduceMul, cfgP, u46, hlen], by simp [wk, aBuiltin, AV.cells, AV.leaf, Nat.reduceEqDiff, Nat.reduceLT, Nat.reduceAdd, Nat.reduceLeDiff, reduceCtorEq, Nat.reduceMul, cfgP, u46, hlen, b0], by simp [wk, aBuiltin, AV.cells, AV.leaf, Nat.reduceEqDiff, Nat.reduceLT, Nat.reduceAdd, Nat.reduceLeDiff, reduceCtorEq, Nat.reduceMul, cfgP, u46, hlen, b2], by simp [wk, aBuiltin, AV.cells, AV.leaf, Nat.reduceEqDiff, Nat.reduceLT, Nat.reduceAdd, Nat.reduceLeDiff, reduceCtorEq, Nat.reduceMul, cfgP, u46, hlen, b7], by simp [wk, aBuiltin, AV.cells, AV.leaf, Nat.reduceEqDiff, Nat.reduceLT, Nat.reduceAdd, Nat.reduceLeDiff, reduceCtorEq, Nat.reduceMul, cfgP, u46, hlen, b8], by simp [wk, aBuiltin, AV.cells, AV.leaf, Nat.reduceEqDiff, Nat.reduceLT, Nat.reduceAdd, Nat.reduceLeDiff, reduceCtorEq, Nat.reduceMul, cfgP, u46, hlen, b9], by simp [wk, aBuiltin, AV.cells, AV.leaf, Nat.reduceEqDiff, Nat.reduceLT, Nat.reduceAdd, Nat.reduceLeDiff, reduceCtorEq, Nat.reduceMul, cfgP, u46, hlen, b10], by simp [wk, aBuiltin, AV.cells, AV.leaf, Nat.reduceEqDiff, Nat.reduceLT, Nat.reduceAdd, Nat.reduceLeDiff, reduceCtorEq, Nat.reduceMul, cfgP, u46, hlen, b11], by simp [wk, aBuiltin, AV.cells, AV.leaf, Nat.reduceEqDiff, Nat.reduceLT, Nat.reduceAdd, Nat.reduceLeDiff, reduceCtorEq, Nat.reduceMul, cfgP, u46, hlen, b12], by simp [wk, aBuiltin, AV.cells, AV.leaf, Nat.reduceEqDiff, Nat.reduceLT, Nat.reduceAdd, Nat.reduceLeDiff, reduceCtorEq, Nat.reduceMul, cfgP, u46, hlen, b13], by simp [wk, aBuiltin, AV.cells, AV.leaf, Nat.reduceEqDiff, Nat.reduceLT, Nat.reduceAdd, Nat.reduceLeDiff, reduceCtorEq, Nat.reduceMul, cfgP, u46, hlen, b14], by simp [wk, aBuiltin, AV.cells, AV.leaf, Nat.reduceEqDiff, Nat.reduceLT, Nat.reduceAdd, Nat.reduceLeDiff, reduceCtorEq, Nat.reduceMul, cfgP, u46, hlen, b54], by simp [wk, aBuiltin, AV.cells, AV.leaf, Nat.reduceEqDiff, Nat.reduceLT, Nat.reduceAdd, Nat.reduceLeDiff, reduceCtorEq, Nat.reduceMul, cfgP, u46, hlen, b55], by simp [wk, aBuiltin, AV.cells, AV.leaf, Nat.reduceEqDiff, Nat.reduceLT, Nat.reduceAdd, Nat.reduceLeDiff, reduceCtorEq, Nat.reduceMul, cfgP, u46, hlen], rfl⟩
      · rw [hh] at n1 hfs
        rw [if_pos rfl] at hfs
        simp only [wk, aBuiltin, AV.cells, AV.leaf, Nat.reduceEqDiff, Nat.reduceLT, Nat.reduceAdd, Nat.reduceLeDiff, reduceCtorEq, Nat.reduceMul, cfgP, u46, hlen, b0, b2, b7, b8, b9, b10, b11, b12, b13, b14, b54, b55, b56, d1, e1, hsl, n1, e2, hbl2]
        refine loop_rule (fun m fr H2 => ∃ (j : Nat), m = p.2.length - j ∧ j ≤ p.2.length ∧ fr.length = 134 ∧ fget fr 0 = v ∧ fget fr 2 = .str s ∧ fget fr 7 = .vptr [slv encSt L, .int .i64 (k : Nat)] 0 ∧ fget fr 8 = .int .i64 0 ∧ fget fr 9 = va ∧ fget fr 10 = vp ∧ fget fr 11 = .bool vd ∧ fget fr 12 = .int .i64 ((foldB L (0, false) (T.take (i + 1))).1 : Nat) ∧ fget fr 13 = .bool (foldB L (0, false) (T.take (i + 1))).2 ∧ fget fr 14 = .int .i64 ((sm + ((List.range j).filter (bt p.2)).length : Nat)) ∧ fget fr 54 = va ∧ fget fr 55 = .int .i64 (T.length : Nat) ∧ fget fr 56 = .int .i64 (i : Nat) ∧
          fget fr 68 = slv encBo p.2 ∧ fget fr 69 = .int .i64 (p.2.length : Nat) ∧ fget fr 70 = .int .i64 (j : Nat) ∧ H2 = H') ?_ p.2.length _ _
          ⟨0, by omega, by omega, by simp [wk, aBuiltin, AV.cells, AV.leaf, Nat.reduceEqDiff, Nat.reduceLT, Nat.reduceAdd, Nat.reduceLeDiff, reduceCtorEq, Nat.reduceMul, cfgP, u46, hlen], by simp [wk, aBuiltin, AV.cells, AV.leaf, Nat.reduceEqDiff, Nat.reduceLT, Nat.reduceAdd, Nat.reduceLeDiff, reduceCtorEq, Nat.reduceMul, cfgP, u46, hlen, b0], by simp [wk, aBuiltin, AV.cells, AV.leaf, Nat.reduceEqDiff, Nat.reduceLT, Nat.reduceAdd, Nat.reduceLeDiff, reduceCtorEq, Nat.reduceMul, cfgP, u46, hlen, b2], by simp [wk, aBuiltin, AV.cells, AV.leaf, Nat.reduceEqDiff, Nat.reduceLT, Nat.reduceAdd, Nat.reduceLeDiff, reduceCtorEq, Nat.reduceMul, cfgP, u46, hlen, b7], by simp [wk, aBuiltin, AV.cells, AV.leaf, Nat.reduceEqDiff, Nat.reduceLT, Nat.reduceAdd, Nat.reduceLeDiff, reduceCtorEq, Nat.reduceMul, cfgP, u46, hlen, b8], by simp [wk, aBuiltin, AV.cells, AV.leaf, Nat.reduceEqDiff, Nat.reduceLT, Nat.reduceAdd, Nat.reduceLeDiff, reduceCtorEq, Nat.reduceMul, cfgP, u46, hlen, b9], by simp [wk, aBuiltin, AV.cells, AV.leaf, Nat.reduceEqDiff, Nat.reduceLT, Nat.reduceAdd, Nat.reduceLeDiff, reduceCtorEq, Nat.reduceMul, cfgP, u46, hlen, b10], by simp [wk, aBuiltin, AV.cells, AV.leaf, Nat.reduceEqDiff, Nat.reduceLT, Nat.reduceAdd, Nat.reduceLeDiff, reduceCtorEq, Nat.reduceMul, cfgP, u46, hlen, b11], by rw [hfs]; simp [wk, aBuiltin, AV.cells, AV.leaf, Nat.reduceEqDiff, Nat.reduceLT, Nat.reduceAdd, Nat.reduceLeDiff, reduceCtorEq, Nat.reduceMul, cfgP, u46, hlen, b12], by rw [hfs]; simp [wk, aBuiltin, AV.cells, AV.leaf, Nat.reduceEqDiff, Nat.reduceLT, Nat.reduceAdd, Nat.reduceLeDiff, reduceCtorEq, Nat.reduceMul, cfgP, u46, hlen, b13], by simp [wk, aBuiltin, AV.cells, AV.leaf, Nat.reduceEqDiff, Nat.reduceLT, Nat.reduceAdd, Nat.reduceLeDiff, reduceCtorEq, Nat.reduceMul, cfgP, u46, hlen, b14], by simp [wk, aBuiltin, AV.cells, AV.leaf, Nat.reduceEqDiff, Nat.reduceLT, Nat.reduceAdd, Nat.reduceLeDiff, reduceCtorEq, Nat.reduceMul, cfgP, u46, hlen, b54], by simp [wk, aBuiltin, AV.cells, AV.leaf, Nat.reduceEqDiff, Nat.reduceLT, Nat.reduceAdd, Nat.reduceLeDiff, reduceCtorEq, Nat.reduceMul, cfgP, u46, hlen, b55], by simp [wk, aBuiltin, AV.cells, AV.leaf, Nat.reduceEqDiff, Nat.reduceLT, Nat.reduceAdd, Nat.reduceLeDiff, reduceCtorEq, Nat.reduceMul, cfgP, u46, hlen, b56], by simp [wk, aBuiltin, AV.cells, AV.leaf, Nat.reduceEqDiff, Nat.reduceLT, Nat.reduceAdd, Nat.reduceLeDiff, reduceCtorEq, Nat.reduceMul, cfgP, u46, hlen], by simp [wk, aBuiltin, AV.cells, AV.leaf, Nat.reduceEqDiff, Nat.reduceLT, Nat.reduceAdd, Nat.reduceLeDiff, reduceCtorEq, Nat.reduceMul, cfgP, u46, hlen], by simp [wk, aBuiltin, AV.cells, AV.leaf, Nat.reduceEqDiff, Nat.reduceLT, Nat.reduceAdd, Nat.reduceLeDiff, reduceCtorEq, Nat.reduceMul, cfgP, u46, hlen], rfl⟩
        clear b0 b2 b7 b8 b9 b10 b11 b12 b13 b14 b54 b55 b56 hlen fr
        rintro m fr H2 ⟨j, rfl, hj, hlen, b0, b2, b7, b8, b9, b10, b11, b12, b13, b14, b54, b55, b56, b68, b69, b70, rfl⟩ ih2
        by_cases hjl : j < p.2.length
        · have d2 : decide (((j : Nat) : Int) < (p.2.length : Nat)) = true := decide_eq_true (by omega)
          have hwj : IntKind.i64.wrap ((j : Int) + 1) = ((j + 1 : Nat) : Int) := by rw [wrap64 (by omega) (by omega)]; simp
          have e3 := (slv_sl encBo p.2).at (P := Try.prog) (k := .i64) (i := j) Try.underlying93 sz4 encBo_T.len hjl
          have hbk : bt p.2 j = p.2[j] := by simp [bt, hjl]
          rw [← hbk] at e3
          simp only [encBo, AV.cells] at e3
          have hfl := List.length_filter_le (bt p.2) (List.range j)
          rw [List.length_range] at hfl
          cases hb : bt p.2 j with
          | true =>
            rw [hb] at e3
            have hn : ((List.range (j + 1)).filter (bt p.2)).length = ((List.range j).filter (bt p.2)).length + 1 := by rw [List.range_succ, List.filter_append, List.length_append]; simp [hb]
            have hws : IntKind.i64.wrap (((sm + ((List.range j).filter (bt p.2)).length : Nat) : Int) + 1) = ((sm + ((List.range (j + 1)).filter (bt p.2)).length : Nat) : Int) := by rw [wrap64 (by omega) (by omega), hn]; simp; omega
            simp only [wk, aBuiltin, AV.cells, AV.leaf, Nat.reduceEqDiff, Nat.reduceLT, Nat.reduceAdd, Nat.reduceLeDiff, reduceCtorEq, Nat.reduceMul, cfgP, u46, hlen, b0, b2, b7, b8, b9, b10, b11, b12, b13, b14, b54, b55, b56, b68, b69, b70, d2, e3, hws, hwj]
            exact ih2 _ _ (p.2.length - (j + 1)) (by omega) ⟨j + 1, rfl, by omega, by simp [wk, aBuiltin, AV.cells, AV.leaf, Nat.reduceEqDiff, Nat.reduceLT, Nat.reduceAdd, Nat.reduceLeDiff, reduceCtorEq, Nat.reduceMul, cfgP, u46, hlen], by simp [wk, aBuiltin, AV.cells, AV.leaf, Nat.reduceEqDiff, Nat.reduceLT, Nat.reduceAdd, Nat.reduceLeDiff, reduceCtorEq, Nat.reduceMul, cfgP, u46, hlen, b0], by simp [wk, aBuiltin, AV.cells, AV.leaf, Nat.reduceEqDiff, Nat.reduceLT, Nat.reduceAdd, Nat.reduceLeDiff, reduceCtorEq, Nat.reduceMul, cfgP, u46, hlen, b2], by simp [wk, aBuiltin, AV.cells, AV.leaf, Nat.reduceEqDiff, Nat.reduceLT, Nat.reduceAdd, Nat.reduceLeDiff, reduceCtorEq, Nat.reduceMul, cfgP, u46, hlen, b7], by simp [wk, aBuiltin, AV.cells, AV.leaf, Nat.reduceEqDiff, Nat.reduceLT, Nat.reduceAdd, Nat.reduceLeDiff, reduceCtorEq, Nat.reduceMul, cfgP, u46, hlen, b8], by simp [wk, aBuiltin, AV.cells, AV.leaf, Nat.reduceEqDiff, Nat.reduceLT, Nat.reduceAdd, Nat.reduceLeDiff, reduceCtorEq, Nat.reduceMul, cfgP, u46, hlen, b9], by simp [wk, aBuiltin, AV.cells, AV.leaf, Nat.reduceEqDiff, Nat.reduceLT, Nat.reduceAdd, Nat.reduceLeDiff, reduceCtorEq, Nat.reduceMul, cfgP, u46, hlen, b10], by simp [wk, aBuiltin, AV.cells, AV.leaf, Nat.reduceEqDiff, Nat.reduceLT, Nat.reduceAdd, Nat.reduceLeDiff, reduceCtorEq, Nat.reduceMul, cfgP, u46, hlen, b11], by simp [wk, aBuiltin, AV.cells, AV.leaf, Nat.reduceEqDiff, Nat.reduceLT, Nat.reduceAdd, Nat.reduceLeDiff, reduceCtorEq, Nat.reduceMul, cfgP, u46, hlen, b12], by simp [wk, aBuiltin, AV.cells, AV.leaf, Nat.reduceEqDiff, Nat.reduceLT, Nat.reduceAdd, Nat.reduceLeDiff, reduceCtorEq, Nat.reduceMul, cfgP, u46, hlen, b13], by simp [wk, aBuiltin, AV.cells, AV.leaf, Nat.reduceEqDiff, Nat.reduceLT, Nat.reduceAdd, Nat.reduceLeDiff, reduceCtorEq, Nat.reduceMul, cfgP, u46, hlen], by simp [wk, aBuiltin, AV.cells, AV.leaf, Nat.reduceEqDiff, Nat.reduceLT, Nat.reduceAdd, Nat.reduceLeDiff, reduceCtorEq, Nat.reduceMul, cfgP, u46, hlen, b54], by simp [wk, aBuiltin, AV.cells, AV.leaf, Nat.reduceEqDiff, Nat.reduceLT, Nat.reduceAdd, Nat.reduceLeDiff, reduceCtorEq, Nat.reduceMul, cfgP, u46, hlen, b55], by simp [wk, aBuiltin, AV.cells, AV.leaf, Nat.reduceEqDiff, Nat.reduceLT, Nat.reduceAdd, Nat.reduceLeDiff, reduceCtorEq, Nat.reduceMul, cfgP, u46, hlen, b56], by simp [wk, aBuiltin, AV.cells, AV.leaf, Nat.reduceEqDiff, Nat.reduceLT, Nat.reduceAdd, Nat.reduceLeDiff, reduceCtorEq, Nat.reduceMul, cfgP, u46, hlen, b68], by simp [wk, aBuiltin, AV.cells, AV.leaf, Nat.reduceEqDiff, Nat.reduceLT, Nat.reduceAdd, Nat.reduceLeDiff, reduceCtorEq, Nat.reduceMul, cfgP, u46, hlen, b69], by simp [wk, aBuiltin, AV.cells, AV.leaf, Nat.reduceEqDiff, Nat.reduceLT, Nat.reduceAdd, Nat.reduceLeDiff, reduceCtorEq, Nat.reduceMul, cfgP, u46, hlen], rfl⟩
          | false =>
            rw [hb] at e3
            have hn : ((List.range (j + 1)).filter (bt p.2)).length = ((List.range j).filter (bt p.2)).length := by rw [List.range_succ, List.filter_append, List.length_append]; simp [hb]
            simp only [wk, aBuiltin, AV.cells, AV.leaf, Nat.reduceEqDiff, Nat.reduceLT, Nat.reduceAdd, Nat.reduceLeDiff, reduceCtorEq, Nat.reduceMul, cfgP, u46, hlen, b0, b2, b7, b8, b9, b10, b11, b12, b13, b14, b54, b55, b56, b68, b69, b70, d2, e3, hwj]
            exact ih2 _ _ (p.2.length - (j + 1)) (by omega) ⟨j + 1, rfl, by omega, by simp [wk, aBuiltin, AV.cells, AV.leaf, Nat.reduceEqDiff, Nat.reduceLT, Nat.reduceAdd, Nat.reduceLeDiff, reduceCtorEq, Nat.reduceMul, cfgP, u46, hlen], by simp [wk, aBuiltin, AV.cells, AV.leaf, Nat.reduceEqDiff, Nat.reduceLT, Nat.reduceAdd, Nat.reduceLeDiff, reduceCtorEq, Nat.reduceMul, cfgP, u46, hlen, b0], by simp [wk, aBuiltin, AV.cells, AV.leaf, Nat.reduceEqDiff, Nat.reduceLT, Nat.reduceAdd, Nat.reduceLeDiff, reduceCtorEq, Nat.reduceMul, cfgP, u46, hlen, b2], by simp [wk, aBuiltin, AV.cells, AV.leaf, Nat.reduceEqDiff, Nat.reduceLT, Nat.reduceAdd, Nat.reduceLeDiff, reduceCtorEq, Nat.reduceMul, cfgP, u46, hlen, b7], by simp [wk, aBuiltin, AV.cells, AV.leaf, Nat.reduceEqDiff, Nat.reduceLT, Nat.reduceAdd, Nat.reduceLeDiff, reduceCtorEq, Nat.reduceMul, cfgP, u46, hlen, b8], by simp [wk, aBuiltin, AV.cells, AV.leaf, Nat.reduceEqDiff, Nat.reduceLT, Nat.reduceAdd, Nat.reduceLeDiff, reduceCtorEq, Nat.reduceMul, cfgP, u46, hlen, b9], by simp [wk, aBuiltin, AV.cells, AV.leaf, Nat.reduceEqDiff, Nat.reduceLT, Nat.reduceAdd, Nat.reduceLeDiff, reduceCtorEq, Nat.reduceMul, cfgP, u46, hlen, b10], by simp [wk, aBuiltin, AV.cells, AV.leaf, Nat.reduceEqDiff, Nat.reduceLT, Nat.reduceAdd, Nat.reduceLeDiff, reduceCtorEq, Nat.reduceMul, cfgP, u46, hlen, b11], by simp [wk, aBuiltin, AV.cells, AV.leaf, Nat.reduceEqDiff, Nat.reduceLT, Nat.reduceAdd, Nat.reduceLeDiff, reduceCtorEq, Nat.reduceMul, cfgP, u46, hlen, b12], by simp [wk, aBuiltin, AV.cells, AV.leaf, Nat.reduceEqDiff, Nat.reduceLT, Nat.reduceAdd, Nat.reduceLeDiff, reduceCtorEq, Nat.reduceMul, cfgP, u46, hlen, b13], by rw [hn]; simp [wk, aBuiltin, AV.cells, AV.leaf, Nat.reduceEqDiff, Nat.reduceLT, Nat.reduceAdd, Nat.reduceLeDiff, reduceCtorEq, Nat.reduceMul, cfgP, u46, hlen, b14], by simp [wk, aBuiltin, AV.cells, AV.leaf, Nat.reduceEqDiff, Nat.reduceLT, Nat.reduceAdd, Nat.reduceLeDiff, reduceCtorEq, Nat.reduceMul, cfgP, u46, hlen, b54], by simp [wk, aBuiltin, AV.cells, AV.leaf, Nat.reduceEqDiff, Nat.reduceLT, Nat.reduceAdd, Nat.reduceLeDiff, reduceCtorEq, Nat.reduceMul, cfgP, u46, hlen, b55], by simp [wk, aBuiltin, AV.cells, AV.leaf, Nat.reduceEqDiff, Nat.reduceLT, Nat.reduceAdd, Nat.reduceLeDiff, reduceCtorEq, Nat.reduceMul, cfgP, u46, hlen, b56], by simp [wk, aBuiltin, AV.cells, AV.leaf, Nat.reduceEqDiff, Nat.reduceLT, Nat.reduceAdd, Nat.reduceLeDiff, reduceCtorEq, Nat.reduceMul, cfgP, u46, hlen, b68], by simp [wk, aBuiltin, AV.cells, AV.leaf, Nat.reduceEqDiff, Nat.reduceLT, Nat.reduceAdd, Nat.reduceLeDiff, reduceCtorEq, Nat.reduceMul, cfgP, u46, hlen, b69], by simp [wk, aBuiltin, AV.cells, AV.leaf, Nat.reduceEqDiff, Nat.reduceLT, Nat.reduceAdd, Nat.reduceLeDiff, reduceCtorEq, Nat.reduceMul, cfgP, u46, hlen], rfl⟩
        · have d2 : decide (((j : Nat) : Int) < (p.2.length : Nat)) = false := decide_eq_false (by omega)
          have hjj : j = p.2.length := by omega
          subst hjj
          rw [← hcnt, ← hss] at b14
          simp only [wk, aBuiltin, AV.cells, AV.leaf, Nat.reduceEqDiff, Nat.reduceLT, Nat.reduceAdd, Nat.reduceLeDiff, reduceCtorEq, Nat.reduceMul, cfgP, u46, hlen, b0, b2, b7, b8, b9, b10, b11, b12, b13, b14, b54, b55, b56, b68, b69, b70, d2, hw]
          exact ih _ _ (T.length - (i + 1)) (by omega) ⟨i + 1, rfl, by omega, by simp [wk, aBuiltin, AV.cells, AV.leaf, Nat.reduceEqDiff, Nat.reduceLT, Nat.reduceAdd, Nat.reduceLeDiff, reduceCtorEq, Nat.reduceMul, cfgP, u46, hlen], by simp [wk, aBuiltin, AV.cells, AV.leaf, Nat.reduceEqDiff, Nat.reduceLT, Nat.reduceAdd, Nat.reduceLeDiff, reduceCtorEq, Nat.reduceMul, cfgP, u46, hlen, b0], by simp [wk, aBuiltin, AV.cells, AV.leaf, Nat.reduceEqDiff, Nat.reduceLT, Nat.reduceAdd, Nat.reduceLeDiff, reduceCtorEq, Nat.reduceMul, cfgP, u46, hlen, b2], by simp [wk, aBuiltin, AV.cells, AV.leaf, Nat.reduceEqDiff, Nat.reduceLT, Nat.reduceAdd, Nat.reduceLeDiff, reduceCtorEq, Nat.reduceMul, cfgP, u46, hlen, b7], by simp [wk, aBuiltin, AV.cells, AV.leaf, Nat.reduceEqDiff, Nat.reduceLT, Nat.reduceAdd, Nat.reduceLeDiff, reduceCtorEq, Nat.reduceMul, cfgP, u46, hlen, b8], by simp [wk, aBuiltin, AV.cells, AV.leaf, Nat.reduceEqDiff, Nat.reduceLT, Nat.reduceAdd, Nat.reduceLeDiff, reduceCtorEq, Nat.reduceMul, cfgP, u46, hlen, b9], by simp [wk, aBuiltin, AV.cells, AV.leaf, Nat.reduceEqDiff, Nat.reduceLT, Nat.reduceAdd, Nat.reduceLeDiff, reduceCtorEq, Nat.reduceMul, cfgP, u46, hlen, b10], by simp [wk, aBuiltin, AV.cells, AV.leaf, Nat.reduceEqDiff, Nat.reduceLT, Nat.reduceAdd, Nat.reduceLeDiff, reduceCtorEq, Nat.reduceMul, cfgP, u46, hlen, b11], by simp [wk, aBuiltin, AV.cells, AV.leaf, Nat.reduceEqDiff, Nat.reduceLT, Nat.reduceAdd, Nat.reduceLeDiff, reduceCtorEq, Nat.reduceMul, cfgP, u46, hlen, b12], by simp [wk, aBuiltin, AV.cells, AV.leaf, Nat.reduceEqDiff, Nat.reduceLT, Nat.reduceAdd, Nat.reduceLeDiff, reduceCtorEq, Nat.reduceMul, cfgP, u46, hlen, b13], by simp [wk, aBuiltin, AV.cells, AV.leaf, Nat.reduceEqDiff, Nat.reduceLT, Nat.reduceAdd, Nat.reduceLeDiff, reduceCtorEq, Nat.reduceMul, cfgP, u46, hlen, b14], by simp [wk, aBuiltin, AV.cells, AV.leaf, Nat.reduceEqDiff, Nat.reduceLT, Nat.reduceAdd, Nat.reduceLeDiff, reduceCtorEq, Nat.reduceMul, cfgP, u46, hlen, b54], by simp [wk, aBuiltin, AV.cells, AV.leaf, Nat.reduceEqDiff, Nat.reduceLT, Nat.reduceAdd, Nat.reduceLeDiff, reduceCtorEq, Nat.reduceMul, cfgP, u46, hlen, b55], by simp [wk, aBuiltin, AV.cells, AV.leaf, Nat.reduceEqDiff, Nat.reduceLT, Nat.reduceAdd, Nat.reduceLeDiff, reduceCtorEq, Nat.reduceMul, cfgP, u46, hlen], rfl⟩
    · have d1 : decide (((i : Nat) : Int) < (T.length : Nat)) = false := decide_eq_false (by omega)
      rw [List.take_of_length_le (by omega)] at b12 b13 b14
      cases vd with
      | true =>
        have hpl := hlast2 rfl
        have hwl : IntKind.i64.wrap ((T.length : Int) - 1) = ((T.length - 1 : Nat) : Int) := by rw [wrap64 (by omega) (by omega)]; omega
        have e1 := hva.at (P := Try.prog) (k := .i64) (i := T.length - 1) Try.underlying89 sz93 encBB_T.len (by simp; omega)
        rw [List.getElem_map] at e1
        have hglx : T[T.length - 1] = pl := by
          rw [List.getElem?_eq_getElem (by omega)] at hgl
          exact Option.some.inj hgl
        rw [hglx] at e1
        have hp2 := hT pl (hglx ▸ List.getElem_mem _)
        have hcell : (encBB pl.2).cells = [slv encBo pl.2] := by unfold encBB; cases pl.2 <;> rfl
        rw [hcell] at e1
        have hsl : (slv encBo pl.2).leaf = true := by cases pl.2 <;> rfl
        unfold AV.leaf at hsl
        have n1 := rhalts_ok l v hv hl pl.2 hp2 (slv encBo pl.2) (slv_sl encBo pl.2) H'.length H' (Nat.le_refl _)
        rw [hLL] at n1
        rw [decide_eq_true hpl, Bool.true_and, Bool.true_and] at nM
        rw [if_pos rfl] at nS
        rw [hmz] at nN
        have eb : ∀ x : Bool, (x == x) = true := fun x => by cases x <;> rfl
        have ee : ∀ x : Int, decide (x = x) = true := fun x => by simp
        have hvl := fun K : Heap => hv.len (P := Try.prog) (H := K) Try.underlying84
        simp only [wk, aBuiltin, AV.cells, AV.leaf, Nat.reduceEqDiff, Nat.reduceLT, Nat.reduceAdd, Nat.reduceLeDiff, reduceCtorEq, Nat.reduceMul, cfgP, u46, hlen, b0, b2, b7, b8, b9, b10, b11, b12, b13, b14, b54, b55, b56, d1, nL, hal, hwl, e1, hsl, n1, nN, hvl, nM, nS, eb, ee, aw, none_beq]
        exact Fin_pure (l := [.bool true]) (by simp [wk, aBuiltin, AV.cells, AV.leaf, Nat.reduceEqDiff, Nat.reduceLT, Nat.reduceAdd, Nat.reduceLeDiff, reduceCtorEq, Nat.reduceMul, cfgP, u46, aResults, aResult, hlen]) (.still rfl) (by simp)
      | false =>
        rw [Bool.false_and] at nM
        rw [if_neg (by simp)] at nS
        rw [hmz] at nN
        have eb : ∀ x : Bool, (x == x) = true := fun x => by cases x <;> rfl
        have ee : ∀ x : Int, decide (x = x) = true := fun x => by simp
        have hvl := fun K : Heap => hv.len (P := Try.prog) (H := K) Try.underlying84
        simp only [wk, aBuiltin, AV.cells, AV.leaf, Nat.reduceEqDiff, Nat.reduceLT, Nat.reduceAdd, Nat.reduceLeDiff, reduceCtorEq, Nat.reduceMul, cfgP, u46, hlen, b0, b2, b7, b8, b9, b10, b11, b12, b13, b14, b54, b55, b56, d1, nL, hal, nN, hvl, nM, nS, eb, ee, aw, none_beq]
        exact Fin_pure (l := [.bool true]) (by simp [wk, aBuiltin, AV.cells, AV.leaf, Nat.reduceEqDiff, Nat.reduceLT, Nat.reduceAdd, Nat.reduceLeDiff, reduceCtorEq, Nat.reduceMul, cfgP, u46, aResults, aResult, hlen]) (.still rfl) (by simp)
  · have hm := Bool.eq_false_iff.2 hm
    rw [hm] at ry
    rw [hmay] at hm
    rw [hm] at nw
    simp only [Bool.false_eq_true, if_false] at nw
    have e1 : decide ((1 : Int) = 1) = true := rfl
    refine pure_slim rfl (by kernel_rfl) Try.func11 s11 hp hsnap (by simp [Try.f11]) fun fr hlen h => ?_
    simp only [Has, Nat.zero_add] at h
    obtain ⟨a0, a1, a2, -⟩ := h
    simp only [Try.f11] at hlen ⊢
    unfold g11
    simp only [wk, aBuiltin, AV.cells, AV.leaf, Nat.reduceEqDiff, Nat.reduceLT, Nat.reduceAdd, Nat.reduceLeDiff, reduceCtorEq, Nat.reduceMul, cfgP, u46, hlen, a0, a1, a2, fw, sh, ou, hsvL, nw, ry, e1, aw]
    exact Fin_pure (l := [.bool true]) (by simp [wk, aBuiltin, AV.cells, AV.leaf, Nat.reduceEqDiff, Nat.reduceLT, Nat.reduceAdd, Nat.reduceLeDiff, reduceCtorEq, Nat.reduceMul, cfgP, u46, aResults, aResult, hlen]) (.still rfl) (by simp)
end Go.Proofs.Ytoblikhnbddfmaa
