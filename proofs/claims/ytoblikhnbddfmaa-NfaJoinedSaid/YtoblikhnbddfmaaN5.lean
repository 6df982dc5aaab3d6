import Derived.Test.YtoblikhnbddfmaaN3
/-! Chapter 16: a machine of states, walked. -/
set_option linter.unusedSimpArgs false
namespace Go.Proofs.Ytoblikhnbddfmaa
open Go Go.Abs AbsSeat Ty

inductive Two {α β : Type} (P : α → β → Prop) : List α → List β → Prop where
  | nil : Two P [] []
  | cons {a : α} {b : β} {l : List α} {m : List β} (h : P a b) (t : Two P l m) : Two P (a :: l) (b :: m)
theorem Two.length {α β : Type} {P : α → β → Prop} {l : List α} {m : List β} (h : Two P l m) : l.length = m.length := by
  induction h with
  | nil => rfl
  | cons _ _ ih => simp [ih]
theorem Two.imp {α β : Type} {P Q : α → β → Prop} (hi : ∀ a b, P a b → Q a b) {l : List α} {m : List β} (h : Two P l m) : Two Q l m := by
  induction h with
  | nil => exact .nil
  | cons h _ ih => exact .cons (hi _ _ h) ih
theorem Two.snoc {α β : Type} {P : α → β → Prop} {l : List α} {m : List β} (h : Two P l m) {a : α} {b : β} (ha : P a b) : Two P (l ++ [a]) (m ++ [b]) := by
  induction h with
  | nil => exact .cons ha .nil
  | cons h _ ih => exact .cons h ih
/-- a state as it lies in a new machine's row. -/
def LikeN (base rb : Nat) (H : Heap) (h : HS) (s : St) : Prop := (h.kind = s.kind ∧ h.no = s.no ∧ h.one = s.one ∧ h.two = s.two) ∧ Row encG 2 true base H h.sv s.sp ∧ (h.sv = .nilS ∨ s.sp ≠ []) ∧ ∀ b, h.sv = .bs b → b.b ≠ rb
theorem rowG_keep {base : Nat} {H K : Heap} {v : AV} {l : List Sg} (h : Row encG 2 true base H v l) (k : ∀ b, v = .bs b → ∀ ver cs, hget H b.b ver = some cs → hget K b.b ver = some cs) : Row encG 2 true base K v l := by
  rcases h with h | ⟨b, ver, rfl, g2, g3, g4⟩
  · exact .inl h
  · exact .inr ⟨b, ver, rfl, g2, k _ rfl _ _ g3, g4⟩
theorem rowG_lt {base : Nat} {H : Heap} {v : AV} {l : List Sg} (h : Row encG 2 true base H v l) : ∀ b, v = .bs b → base ≤ b.b ∧ b.b < H.length := by
  intro b hb
  rcases h with ⟨q, _⟩ | ⟨c, ver, q, g2, g3, g4⟩
  · rw [q] at hb; cases hb
  · rw [q] at hb; cases hb; exact ⟨g2, hget_lt g3⟩
/-- a new machine's row. -/
def NRow (base : Nat) (H : Heap) (v : AV) (l : List St) : Prop := (v = .nilS ∧ l = []) ∨ ∃ rb ver hls, v = .bs ⟨rb, ver, 0, l.length, 0, 5, true, false⟩ ∧ base ≤ rb ∧ hget H rb ver = some (cellsOf encH hls) ∧ Two (LikeN base rb H) hls l ∧ ver % 4 = 0 ∧ l ≠ []
theorem NRow.keep {base : Nat} {H K : Heap} {v : AV} {l : List St} (h : NRow base H v l) (k : ∀ z ver cs, base ≤ z → hget H z ver = some cs → hget K z ver = some cs) : NRow base K v l := by
  rcases h with h | ⟨rb, ver, hls, h1, h2, h3, h4, h5⟩
  · exact .inl h
  · refine .inr ⟨rb, ver, hls, h1, h2, k _ _ _ h2 h3, h4.imp fun a b ⟨q1, q2, q3, q4⟩ => ⟨q1, rowG_keep q2 fun b hb ver cs hg => k _ _ _ (rowG_lt q2 b hb).1 hg, q3, q4⟩, h5⟩
theorem NRow.cell {base : Nat} {H : Heap} {v : AV} {l : List St} (h : NRow base H v l) : v.leaf = true ∧ v.cells = [v] := by
  rcases h with ⟨q, _⟩ | ⟨rb, ver, hls, q, _⟩ <;> rw [q] <;> exact ⟨rfl, rfl⟩
theorem two_frozen {base rb low : Nat} {H : Heap} (hlow : low ≤ base) {hl : List HS} {l : List St} (h : Two (LikeN base rb H) hl l) : FrzL H low (cellsOf encH hl) (cellsOf encSt l) := by
  induction h with
  | nil => exact .nil
  | @cons h s hl l a b ih =>
    obtain ⟨⟨a1, a2, a3, a4⟩, a5, a6, -⟩ := a
    have e1 : cellsOf encH (h :: hl) = .int .i64 h.kind :: .bool h.no :: h.sv :: .int .i64 h.one :: .int .i64 h.two :: cellsOf encH hl := by simp [cellsOf, encH, AV.cells]
    have e2 : cellsOf encSt (s :: l) = .int .i64 s.kind :: .bool s.no :: slv encG s.sp :: .int .i64 s.one :: .int .i64 s.two :: cellsOf encSt l := by simp [cellsOf, encSt, AV.cells]
    rw [e1, e2, a1, a2, a3, a4]
    exact .cons (.still rfl) (.cons (.still rfl) (.cons ((a5.low hlow).frozen encG_T (by decide) rfl a6) (.cons (.still rfl) (.cons (.still rfl) ih))))
theorem NRow.frozen {base low : Nat} {H : Heap} {v : AV} {l : List St} (h : NRow base H v l) (hlow : low ≤ base) : Frz H low v (slv encSt l) := by
  rcases h with ⟨rfl, rfl⟩ | ⟨rb, ver, hls, rfl, h2, h3, h4, h5⟩
  · exact .still rfl
  · have hll := h4.length
    have hw : win (cellsOf encH hls) 0 (l.length * 5) = some (cellsOf encH hls) := by
      have := encH_L.length hls
      simp only [win, Nat.zero_add, List.drop_zero]
      rw [if_pos (by omega), List.take_of_length_le (by omega)]
    have := Frz.bs (H := H) (base := low) (s := ⟨rb, ver, 0, l.length, 0, 5, true, false⟩) (Nat.le_trans hlow h2) (Nat.succ_pos 4) rfl h3 hw (two_frozen hlow h4)
    rw [chunk_cellsOf encSt_T (by decide)] at this
    cases l with
    | nil => exact absurd rfl h5.2
    | cons x r => exact this
/-- one state more in a new machine's row. -/
theorem nrow_put {K3 : Heap} {b0 base prot : Nat} {vr ia : AV} {l0 : List St} {x : HS} {s : St} (hb : b0 < base) (hbase : base ≤ K3.length) (hg : hget K3 b0 0 = some [vr, ia]) (hn : NRow base K3 vr l0) (h1 : x.kind = s.kind ∧ x.no = s.no ∧ x.one = s.one ∧ x.two = s.two) (h2 : Row encG 2 true base K3 x.sv s.sp) (h3 : x.sv = .nilS ∨ s.sp ≠ [])
    (hf : ∀ b, x.sv = .bs b → ∀ b', vr = .bs b' → b'.b ≠ b.b) (hl : l0.length ≤ 100000) (hp : prot ≤ b0) :
    ∃ K5 K6 v', aAppend Try.prog prot (K3 ++ [Blk.cells 0 (encH x).cells]) #[53, 53] vr (.bs ⟨K3.length, 0, 0, 1, 1, 5, true, true⟩) = some (v', some K5) ∧ (v'.leaf = true ∧ v'.cells = [v']) ∧ hput prot K5 b0 0 0 [v'] = some K6 ∧ hget K6 b0 0 = some [v', ia] ∧ NRow base K6 v' (l0 ++ [s]) ∧ K3.length ≤ K6.length := by
  have hel := elemH x K3
  have hg2 := hget_mono hg [Blk.cells 0 (encH x).cells]
  have hlt := hget_lt hg
  rcases hn with ⟨rfl, rfl⟩ | ⟨rb, ver, hls, rfl, n2, n3, n4, n5, n6⟩
  · have happ := encH_L.app0 (prot := prot) (m := [x]) rowSt hxtSt hel (by simp) (show roomy 1 56 = true from by decide)
    have g3 := hget_mono hg2 [Blk.cells 0 (cellsOf encH [x])]
    have hl4 : (K3 ++ [Blk.cells 0 (encH x).cells]).length = K3.length + 1 := by simp
    have g4 : hget (K3 ++ [Blk.cells 0 (encH x).cells] ++ [Blk.cells 0 (cellsOf encH [x])]) (K3.length + 1) 0 = some (cellsOf encH [x]) := by rw [hget_new hl4.symm, if_pos rfl]
    rw [hl4] at happ
    have hk : ∀ z ver cs, z ≠ b0 → hget K3 z ver = some cs → hget ((K3 ++ [Blk.cells 0 (encH x).cells] ++ [Blk.cells 0 (cellsOf encH [x])]).set b0 (.cells 0 [.bs ⟨K3.length + 1, 0, 0, 1, 0, 5, true, false⟩, ia])) z ver = some cs := fun z ver cs hz h => by rw [hget_set_ne hz]; exact hget_mono (hget_mono h _) _
    refine ⟨_, _, _, happ, ⟨rfl, rfl⟩, by rw [hput_eq g3 hp (by simp) (by simp [AV.leaf])]; rfl, hget_set_at (hget_lt g3), .inr ⟨K3.length + 1, 0, [x], rfl, by omega, by rw [hget_set_ne (by omega)]; exact g4, .cons ⟨h1, rowG_keep h2 fun b hb ver cs h => hk _ _ _ (by have := rowG_lt h2 b hb; omega) h, h3, fun b hb => by have := rowG_lt h2 b hb; omega⟩ .nil, rfl, by simp⟩, by simp⟩
  · have hll := n4.length
    have g2' := hget_mono n3 [Blk.cells 0 (encH x).cells]
    have happ := encH_L.app (prot := prot) (m := [x]) rowSt hxtSt g2' n5 hel (by simp) (by simp [roomy]; omega) (by omega)
    rw [hll] at happ
    have g3 : hget ((K3 ++ [Blk.cells 0 (encH x).cells]).set rb (.cells (ver + 4) (cellsOf encH (hls ++ [x])))) b0 0 = some [.bs ⟨rb, ver, 0, l0.length, 0, 5, true, false⟩, ia] := by rw [hget_set_ne (by omega)]; exact hg2
    have g4 : hget ((K3 ++ [Blk.cells 0 (encH x).cells]).set rb (.cells (ver + 4) (cellsOf encH (hls ++ [x])))) rb (ver + 4) = some (cellsOf encH (hls ++ [x])) := by rw [hget_set_same (hget_lt g2'), if_pos rfl]
    have hk : ∀ z v cs, z ≠ b0 → z ≠ rb → hget K3 z v = some cs → hget (((K3 ++ [Blk.cells 0 (encH x).cells]).set rb (.cells (ver + 4) (cellsOf encH (hls ++ [x])))).set b0 (.cells 0 [.bs ⟨rb, ver + 4, 0, l0.length + [x].length, 0, 5, true, false⟩, ia])) z v = some cs := fun z v cs hz hz2 h => by rw [hget_set_ne hz, hget_set_ne hz2]; exact hget_mono h _
    refine ⟨_, _, _, happ, ⟨rfl, rfl⟩, by rw [hput_eq g3 hp (by simp) (by simp [AV.leaf])]; rfl, hget_set_at (hget_lt g3), .inr ⟨rb, ver + 4, hls ++ [x], by rw [List.length_append]; rfl, n2, by rw [hget_set_ne (by omega)]; exact g4, Two.snoc (n4.imp fun a b ⟨q1, q2, q3, q4⟩ => ⟨q1, rowG_keep q2 fun b hb ver cs h => hk _ _ _ (by have := rowG_lt q2 b hb; omega) (q4 b hb) h, q3, q4⟩) ⟨h1, rowG_keep h2 fun b hb ver cs h => hk _ _ _ (by have := rowG_lt h2 b hb; omega) (Ne.symm (hf b hb _ rfl)) h, h3, fun b hb => Ne.symm (hf b hb _ rfl)⟩, by omega, by simp⟩, by simp⟩
def inN (n : Nat) (k : Int) : Bool := decide (0 ≤ k) && decide (k < n)
def rightB (n : Nat) (s : St) : Bool := if s.kind = 2 then inN n s.two && inN n s.one else if s.kind = 1 then inN n s.one else decide (s.kind = 3)

theorem inn_ok (l : List St) (v : AV) (hv : Sl encSt v l) (k : Int) (prot : Nat) (H : Heap) (hp : prot ≤ H.length) : aLim cfg prot 75 [v, .int .i64 k] H = some (.bool (inN l.length k), none) := by
  have hsnap : snap H [v, .int .i64 k] = some ([v, .int .i64 k], false) := by cases hv <;> rfl
  have hvl := hv.len (P := Try.prog) (H := H) Try.underlying53
  unfold inN
  refine pure_slim rfl (by kernel_rfl) Try.func75 s75 hp hsnap (by simp [Try.f75]) fun fr hlen h => ?_
  simp only [Has, Nat.zero_add] at h
  obtain ⟨a0, a1, -⟩ := h
  simp only [Try.f75] at hlen ⊢
  unfold g75
  by_cases h : 0 ≤ k
  · have d1 : decide (k ≥ 0) = true := decide_eq_true h
    rw [decide_eq_true h, Bool.true_and]
    simp only [wk, aBuiltin, AV.cells, AV.leaf, Nat.reduceEqDiff, Nat.reduceLT, Nat.reduceAdd, Nat.reduceLeDiff, reduceCtorEq, Nat.reduceMul, cfgP, u90, hlen, a0, a1, d1, hvl]
    exact Fin_pure (l := [.bool (decide (k < (l.length : Nat)))]) (by simp [wk, aBuiltin, AV.cells, AV.leaf, Nat.reduceEqDiff, Nat.reduceLT, Nat.reduceAdd, Nat.reduceLeDiff, reduceCtorEq, Nat.reduceMul, cfgP, u90, aResults, aResult, hlen]) (.still rfl) (by simp)
  · have d1 : decide (k ≥ 0) = false := decide_eq_false h
    rw [decide_eq_false h, Bool.false_and]
    simp only [wk, aBuiltin, AV.cells, AV.leaf, Nat.reduceEqDiff, Nat.reduceLT, Nat.reduceAdd, Nat.reduceLeDiff, reduceCtorEq, Nat.reduceMul, cfgP, u90, hlen, a0, a1, d1, hvl, none_beq]
    exact Fin_pure (l := [.bool false]) (by simp [wk, aBuiltin, AV.cells, AV.leaf, Nat.reduceEqDiff, Nat.reduceLT, Nat.reduceAdd, Nat.reduceLeDiff, reduceCtorEq, Nat.reduceMul, cfgP, u90, aResults, aResult, hlen]) (.still rfl) (by simp)

theorem rightN_ok (l : List St) (v : AV) (hv : Sl encSt v l) (s : St) (prot : Nat) (H : Heap) (hp : prot ≤ H.length) : aLim cfg prot 76 [v, encSt s] H = some (.bool (rightB l.length s), none) := by
  have hsnap : snap H [v, encSt s] = some ([v, encSt s], false) := by
    have := slvG_leaf s.sp
    unfold encSt
    cases hv <;> cases s.sp <;> rfl
  have n1 := fun (k : Int) (K : Heap) (hK : H.length ≤ K.length) => inn_ok l v hv k H.length K hK
  have hspl := slvG_leaf s.sp
  have hle : ∀ Z, H.length ≤ (H ++ [Blk.cells 0 Z]).length := fun Z => by simp
  unfold AV.leaf at hspl
  unfold rightB
  refine pure_slim rfl (by kernel_rfl) Try.func76 s76 hp hsnap (by simp [Try.f76]) fun fr hlen h => ?_
  simp only [Has, Nat.zero_add] at h
  obtain ⟨a0, a1, -⟩ := h
  simp only [Try.f76] at hlen ⊢
  unfold g76
  unfold encSt at a1
  by_cases h2 : s.kind = 2
  · have d2 : decide (s.kind = 2) = true := decide_eq_true h2
    rw [if_pos h2]
    by_cases ht : inN l.length s.two = true
    · have n1t := fun (K : Heap) (hK : H.length ≤ K.length) => n1 s.two K hK
      rw [ht] at n1t ⊢
      rw [Bool.true_and]
      simp only [wk, aBuiltin, AV.cells, AV.leaf, Nat.reduceEqDiff, Nat.reduceLT, Nat.reduceAdd, Nat.reduceLeDiff, reduceCtorEq, Nat.reduceMul, cfgP, u90, hlen, a0, a1, hspl, d2, hle, n1t, n1]
      exact Fin_pure (l := [.bool (inN l.length s.one)]) (by simp [wk, aBuiltin, AV.cells, AV.leaf, Nat.reduceEqDiff, Nat.reduceLT, Nat.reduceAdd, Nat.reduceLeDiff, reduceCtorEq, Nat.reduceMul, cfgP, u90, aResults, aResult, hlen]) (.still rfl) (by simp)
    · have ht := Bool.eq_false_iff.2 ht
      rw [ht, Bool.false_and]
      simp only [wk, aBuiltin, AV.cells, AV.leaf, Nat.reduceEqDiff, Nat.reduceLT, Nat.reduceAdd, Nat.reduceLeDiff, reduceCtorEq, Nat.reduceMul, cfgP, u90, hlen, a0, a1, hspl, d2, hle, n1, ht]
      exact Fin_pure (l := [.bool false]) (by simp [wk, aBuiltin, AV.cells, AV.leaf, Nat.reduceEqDiff, Nat.reduceLT, Nat.reduceAdd, Nat.reduceLeDiff, reduceCtorEq, Nat.reduceMul, cfgP, u90, aResults, aResult, hlen]) (.still rfl) (by simp)
  · have d2 : decide (s.kind = 2) = false := decide_eq_false h2
    rw [if_neg h2]
    by_cases h1 : s.kind = 1
    · have d1 : decide (s.kind = 1) = true := decide_eq_true h1
      rw [if_pos h1]
      simp only [wk, aBuiltin, AV.cells, AV.leaf, Nat.reduceEqDiff, Nat.reduceLT, Nat.reduceAdd, Nat.reduceLeDiff, reduceCtorEq, Nat.reduceMul, cfgP, u90, hlen, a0, a1, hspl, d2, d1, hle, n1, none_beq]
      exact Fin_pure (l := [.bool (inN l.length s.one)]) (by simp [wk, aBuiltin, AV.cells, AV.leaf, Nat.reduceEqDiff, Nat.reduceLT, Nat.reduceAdd, Nat.reduceLeDiff, reduceCtorEq, Nat.reduceMul, cfgP, u90, aResults, aResult, hlen]) (.still rfl) (by simp)
    · have d1 : decide (s.kind = 1) = false := decide_eq_false h1
      rw [if_neg h1]
      simp only [wk, aBuiltin, AV.cells, AV.leaf, Nat.reduceEqDiff, Nat.reduceLT, Nat.reduceAdd, Nat.reduceLeDiff, reduceCtorEq, Nat.reduceMul, cfgP, u90, hlen, a0, a1, hspl, d2, d1, hle, none_beq]
      exact Fin_pure (l := [.bool (decide (s.kind = 3))]) (by simp [wk, aBuiltin, AV.cells, AV.leaf, Nat.reduceEqDiff, Nat.reduceLT, Nat.reduceAdd, Nat.reduceLeDiff, reduceCtorEq, Nat.reduceMul, cfgP, u90, aResults, aResult, hlen]) (.still rfl) (by simp)
/-- a new machine, or why there is none. -/
def newS (l : List St) (a : Int) : AV := if decide (l.length ≤ 401) && inN l.length a && l.all (rightB l.length) then .tup [.vptr [slv encSt l, .int .i64 a] 0, .int .i64 0] else .tup [.nil, .int .i64 1]
end Go.Proofs.Ytoblikhnbddfmaa
/-! Chapter 16: New, walked. -/
namespace Go.Proofs.Ytoblikhnbddfmaa
open Go Go.Abs AbsSeat Ty


theorem nnew_ok (l : List St) (v : AV) (hv : Sl encSt v l) (hll : l.length ≤ 100000) (hsp : ∀ s ∈ l, s.sp.length ≤ 10000000) (a : Int) (prot : Nat) (H : Heap) (hp : prot ≤ H.length) : aLim cfg prot 47 [v, .int .i64 a] H = some (newS l a, none) := by
  have hsnap : snap H [v, .int .i64 a] = some ([v, .int .i64 a], false) := by cases hv <;> rfl
  have hvl := fun K : Heap => hv.len (P := Try.prog) (H := K) Try.underlying53
  have n1 := fun (K : Heap) (hK : H.length ≤ K.length) => inn_ok l v hv a H.length K hK
  unfold newS
  by_cases hg : l.length ≤ 401
  · have d1 : decide ((401 : Int) < (l.length : Nat)) = false := decide_eq_false (by omega)
    rw [decide_eq_true hg, Bool.true_and]
    by_cases hin : inN l.length a = true
    · rw [hin] at n1 ⊢
      rw [Bool.true_and]
      have hm0 : hget (H ++ [Blk.cells 0 [.nilS, .int .i64 a]]) H.length 0 = some [.nilS, .int .i64 a] := by rw [hget_new rfl, if_pos rfl]
      refine pure_slim rfl (by kernel_rfl) Try.func47 s47 hp hsnap (by simp [Try.f47]) fun fr hlen h => ?_
      simp only [Has, Nat.zero_add] at h
      obtain ⟨a0, a1, -⟩ := h
      simp only [Try.f47] at hlen ⊢
      unfold g47
      simp only [wk, aBuiltin, AV.cells, AV.leaf, Nat.reduceEqDiff, Nat.reduceLT, Nat.reduceAdd, Nat.reduceLeDiff, reduceCtorEq, Nat.reduceMul, cfgP, u90, hlen, a0, a1, hvl, d1, n1, none_beq]
      refine loop_rule (fun m fr H' => ∃ (i : Nat) (vr : AV), m = l.length - i ∧ i ≤ l.length ∧ fr.length = 47 ∧ fget fr 0 = v ∧ fget fr 6 = .ptr H.length 0 0 ∧ fget fr 21 = v ∧ fget fr 22 = .int .i64 (l.length : Nat) ∧ fget fr 23 = .int .i64 (i : Nat) ∧ H.length + 1 ≤ H'.length ∧
        hget H' H.length 0 = some [vr, .int .i64 a] ∧ NRow (H.length + 1) H' vr (l.take i) ∧ (∀ s ∈ l.take i, rightB l.length s = true)) ?_ l.length _ _
        ⟨0, .nilS, by omega, by omega, by simp [wk, aBuiltin, AV.cells, AV.leaf, Nat.reduceEqDiff, Nat.reduceLT, Nat.reduceAdd, Nat.reduceLeDiff, reduceCtorEq, Nat.reduceMul, cfgP, u90, hlen], by simp [wk, aBuiltin, AV.cells, AV.leaf, Nat.reduceEqDiff, Nat.reduceLT, Nat.reduceAdd, Nat.reduceLeDiff, reduceCtorEq, Nat.reduceMul, cfgP, u90, hlen, a0], by simp [wk, aBuiltin, AV.cells, AV.leaf, Nat.reduceEqDiff, Nat.reduceLT, Nat.reduceAdd, Nat.reduceLeDiff, reduceCtorEq, Nat.reduceMul, cfgP, u90, hlen], by simp [wk, aBuiltin, AV.cells, AV.leaf, Nat.reduceEqDiff, Nat.reduceLT, Nat.reduceAdd, Nat.reduceLeDiff, reduceCtorEq, Nat.reduceMul, cfgP, u90, hlen], by simp [wk, aBuiltin, AV.cells, AV.leaf, Nat.reduceEqDiff, Nat.reduceLT, Nat.reduceAdd, Nat.reduceLeDiff, reduceCtorEq, Nat.reduceMul, cfgP, u90, hlen], by simp [wk, aBuiltin, AV.cells, AV.leaf, Nat.reduceEqDiff, Nat.reduceLT, Nat.reduceAdd, Nat.reduceLeDiff, reduceCtorEq, Nat.reduceMul, cfgP, u90, hlen], by simp, hm0, .inl ⟨rfl, rfl⟩, by simp⟩
      clear a0 a1 hlen fr hm0
      rintro m fr H' ⟨i, vr, rfl, hi, hlen, b0, b6, b21, b22, b23, hH, hm, hrow, hrt⟩ ih
      by_cases hil : i < l.length
      · have d2 : decide (((i : Nat) : Int) < (l.length : Nat)) = true := decide_eq_true (by omega)
        have hw : IntKind.i64.wrap ((i : Int) + 1) = ((i + 1 : Nat) : Int) := by rw [wrap64 (by omega) (by omega)]; simp
        have e1 := hv.at (P := Try.prog) (k := .i64) (i := i) Try.underlying53 sz116 encSt_T.len hil
        have htk : l.take (i + 1) = l.take i ++ [l[i]] := by simp
        have hsi := hsp l[i] (List.getElem_mem _)
        have hmem := List.getElem_mem hil
        have n2 := fun (K : Heap) (hK : H.length ≤ K.length) => rightN_ok l v hv l[i] H.length K hK
        generalize l[i] = s at *
        have hspl := slvG_leaf s.sp
        unfold AV.leaf at hspl
        simp only [encSt, AV.cells] at e1 n2
        have hlZ : ∀ Z, (H' ++ [Blk.cells 0 Z]).length = H'.length + 1 := fun Z => by simp
        have hpl : H.length ≤ H'.length + 1 := by omega
        have hH0 : H.length ≤ H'.length := by omega
        by_cases hr : rightB l.length s = true
        · rw [hr] at n2
          have g8 : hget (H' ++ [Blk.cells 0 [.int .i64 s.kind, .bool s.no, slv encG s.sp, .int .i64 s.one, .int .i64 s.two]]) H'.length 0 = some [.int .i64 s.kind, .bool s.no, slv encG s.sp, .int .i64 s.one, .int .i64 s.two] := by rw [hget_new rfl, if_pos rfl]
          have hm1 := hget_mono hm [Blk.cells 0 [.int .i64 s.kind, .bool s.no, slv encG s.sp, .int .i64 s.one, .int .i64 s.two]]
          have hrow1 := hrow.keep (K := H' ++ [Blk.cells 0 [.int .i64 s.kind, .bool s.no, slv encG s.sp, .int .i64 s.one, .int .i64 s.two]]) fun z ver cs _ h => hget_mono h _
          have hrt2 : ∀ t ∈ l.take (i + 1), rightB l.length t = true := fun t ht => by
            rw [htk] at ht
            rcases List.mem_append.1 ht with h | h
            · exact hrt t h
            · rw [List.mem_singleton.1 h]; exact hr
          have hsa := spans_app (slv encG s.sp) s.sp (slv_sl encG s.sp) hsi H.length (H.length + 1) (H' ++ [Blk.cells 0 [.int .i64 s.kind, .bool s.no, slv encG s.sp, .int .i64 s.one, .int .i64 s.two]]) (by rw [hlZ]; omega)
          have hlt1 : ∀ b, vr = .bs b → b.b < H'.length := fun b hb => by
            rcases hrow with ⟨q, _⟩ | ⟨rb, ver, hls, q, q2, q3, _⟩
            · rw [q] at hb; cases hb
            · rw [q] at hb; cases hb; exact hget_lt q3
          rcases hsa with ⟨hsp0, happ⟩ | ⟨hne, K', happ, hKe, hrowG⟩
          · have g8' : hget (H' ++ [Blk.cells 0 [.int .i64 s.kind, .bool s.no, slv encG s.sp, .int .i64 s.one, .int .i64 s.two]]) H'.length 0 = some [.int .i64 s.kind, .bool s.no, slv encG s.sp, .int .i64 s.one, .int .i64 s.two] := g8
            have hput1 : hput H.length (H' ++ [Blk.cells 0 [.int .i64 s.kind, .bool s.no, slv encG s.sp, .int .i64 s.one, .int .i64 s.two]]) H'.length 0 2 [.nilS] = some ((H' ++ [Blk.cells 0 [.int .i64 s.kind, .bool s.no, slv encG s.sp, .int .i64 s.one, .int .i64 s.two]]).set H'.length (.cells 0 [.int .i64 s.kind, .bool s.no, .nilS, .int .i64 s.one, .int .i64 s.two])) := by rw [hput_eq g8' (by omega) (by simp) (by simp [AV.leaf])]; rfl
            have k3a : hget ((H' ++ [Blk.cells 0 [.int .i64 s.kind, .bool s.no, slv encG s.sp, .int .i64 s.one, .int .i64 s.two]]).set H'.length (.cells 0 [.int .i64 s.kind, .bool s.no, .nilS, .int .i64 s.one, .int .i64 s.two])) H'.length 0 = some [.int .i64 s.kind, .bool s.no, .nilS, .int .i64 s.one, .int .i64 s.two] := hget_set_at (hget_lt g8')
            have k3m : hget ((H' ++ [Blk.cells 0 [.int .i64 s.kind, .bool s.no, slv encG s.sp, .int .i64 s.one, .int .i64 s.two]]).set H'.length (.cells 0 [.int .i64 s.kind, .bool s.no, .nilS, .int .i64 s.one, .int .i64 s.two])) H.length 0 = some [vr, .int .i64 a] := by rw [hget_set_ne (by omega)]; exact hm1
            have k3k : ∀ z ver cs, H.length + 1 ≤ z → hget H' z ver = some cs → hget ((H' ++ [Blk.cells 0 [.int .i64 s.kind, .bool s.no, slv encG s.sp, .int .i64 s.one, .int .i64 s.two]]).set H'.length (.cells 0 [.int .i64 s.kind, .bool s.no, .nilS, .int .i64 s.one, .int .i64 s.two])) z ver = some cs := fun z ver cs _ h => by rw [hget_set_ne (by have := hget_lt h; omega)]; exact hget_mono h _
            have k3l : ((H' ++ [Blk.cells 0 [.int .i64 s.kind, .bool s.no, slv encG s.sp, .int .i64 s.one, .int .i64 s.two]]).set H'.length (.cells 0 [.int .i64 s.kind, .bool s.no, .nilS, .int .i64 s.one, .int .i64 s.two])).length = H'.length + 1 := by simp
            have hrow3 := hrow.keep k3k
            generalize (H' ++ [Blk.cells 0 [.int .i64 s.kind, .bool s.no, slv encG s.sp, .int .i64 s.one, .int .i64 s.two]]).set H'.length (.cells 0 [.int .i64 s.kind, .bool s.no, .nilS, .int .i64 s.one, .int .i64 s.two]) = K3 at *
            obtain ⟨K5, K6, v', q1, ⟨q2, q2'⟩, q3, q4, q5, q6⟩ := nrow_put (prot := H.length) (x := ⟨s.kind, s.no, .nilS, rfl, s.one, s.two⟩) (s := s) (by omega) (by omega) k3m hrow3 ⟨rfl, rfl, rfl, rfl⟩ (by rw [hsp0]; exact Row.nil) (.inl rfl) (fun b hb => nomatch hb) (by simp; omega) (Nat.le_refl _)
            have hlit := litH ⟨s.kind, s.no, .nilS, rfl, s.one, s.two⟩ K3
            simp only [encH, AV.cells] at hlit q1
            rw [k3l] at hlit q1
            unfold AV.leaf at q2; unfold AV.cells at q2'
            have hk3m := hget_mono k3m [Blk.cells 0 [.int .i64 s.kind, .bool s.no, .nilS, .int .i64 s.one, .int .i64 s.two]]
            simp only [wk, aBuiltin, AV.cells, AV.leaf, Nat.reduceEqDiff, Nat.reduceLT, Nat.reduceAdd, Nat.reduceLeDiff, reduceCtorEq, Nat.reduceMul, cfgP, u90, hlen, b0, b6, b21, b22, b23, d2, e1, hspl, hlZ, hH0, hpl, n2, g8, happ, g8', hput1, k3m, k3a, hlit, q1, q2, q2', q3, hw, k3l]
            refine ⟨?_, ?_⟩
            · rw [show befs [] _ = [0, 0, 2, 6, 14, 0, 32, 126, 255, 511, 1023] from by kernel_rfl]
              simp [wk, aBuiltin, AV.cells, AV.leaf, Nat.reduceEqDiff, Nat.reduceLT, Nat.reduceAdd, Nat.reduceLeDiff, reduceCtorEq, Nat.reduceMul, cfgP, u90, hlen, drawOk, chained, mayAt, sameAt, bound, List.range_succ, Nat.testBit, b0, b6, k3m, k3a, hk3m, hlit, q1, q2, q2', q3, k3l, avbeq_refl]
            refine ih _ _ (l.length - (i + 1)) (by omega) ⟨i + 1, v', rfl, by omega, by simp [wk, aBuiltin, AV.cells, AV.leaf, Nat.reduceEqDiff, Nat.reduceLT, Nat.reduceAdd, Nat.reduceLeDiff, reduceCtorEq, Nat.reduceMul, cfgP, u90, hlen], by simp [wk, aBuiltin, AV.cells, AV.leaf, Nat.reduceEqDiff, Nat.reduceLT, Nat.reduceAdd, Nat.reduceLeDiff, reduceCtorEq, Nat.reduceMul, cfgP, u90, hlen, b0], by simp [wk, aBuiltin, AV.cells, AV.leaf, Nat.reduceEqDiff, Nat.reduceLT, Nat.reduceAdd, Nat.reduceLeDiff, reduceCtorEq, Nat.reduceMul, cfgP, u90, hlen, b6], by simp [wk, aBuiltin, AV.cells, AV.leaf, Nat.reduceEqDiff, Nat.reduceLT, Nat.reduceAdd, Nat.reduceLeDiff, reduceCtorEq, Nat.reduceMul, cfgP, u90, hlen, b21], by simp [wk, aBuiltin, AV.cells, AV.leaf, Nat.reduceEqDiff, Nat.reduceLT, Nat.reduceAdd, Nat.reduceLeDiff, reduceCtorEq, Nat.reduceMul, cfgP, u90, hlen, b22], by simp [wk, aBuiltin, AV.cells, AV.leaf, Nat.reduceEqDiff, Nat.reduceLT, Nat.reduceAdd, Nat.reduceLeDiff, reduceCtorEq, Nat.reduceMul, cfgP, u90, hlen], by omega, q4, by rw [htk]; exact q5, hrt2⟩
          · subst hKe
            rw [hlZ] at happ hrowG
            have g8' : hget ((H' ++ [Blk.cells 0 [.int .i64 s.kind, .bool s.no, slv encG s.sp, .int .i64 s.one, .int .i64 s.two]]) ++ [Blk.cells 0 (cellsOf encG s.sp)]) H'.length 0 = some [.int .i64 s.kind, .bool s.no, slv encG s.sp, .int .i64 s.one, .int .i64 s.two] := hget_mono g8 _
            have hput1 : hput H.length ((H' ++ [Blk.cells 0 [.int .i64 s.kind, .bool s.no, slv encG s.sp, .int .i64 s.one, .int .i64 s.two]]) ++ [Blk.cells 0 (cellsOf encG s.sp)]) H'.length 0 2 [(.bs ⟨H'.length + 1, 0, 0, s.sp.length, 0, 2, true, false⟩)] = some (((H' ++ [Blk.cells 0 [.int .i64 s.kind, .bool s.no, slv encG s.sp, .int .i64 s.one, .int .i64 s.two]]) ++ [Blk.cells 0 (cellsOf encG s.sp)]).set H'.length (.cells 0 [.int .i64 s.kind, .bool s.no, (.bs ⟨H'.length + 1, 0, 0, s.sp.length, 0, 2, true, false⟩), .int .i64 s.one, .int .i64 s.two])) := by rw [hput_eq g8' (by omega) (by simp) (by simp [AV.leaf])]; rfl
            have k3a : hget (((H' ++ [Blk.cells 0 [.int .i64 s.kind, .bool s.no, slv encG s.sp, .int .i64 s.one, .int .i64 s.two]]) ++ [Blk.cells 0 (cellsOf encG s.sp)]).set H'.length (.cells 0 [.int .i64 s.kind, .bool s.no, (.bs ⟨H'.length + 1, 0, 0, s.sp.length, 0, 2, true, false⟩), .int .i64 s.one, .int .i64 s.two])) H'.length 0 = some [.int .i64 s.kind, .bool s.no, (.bs ⟨H'.length + 1, 0, 0, s.sp.length, 0, 2, true, false⟩), .int .i64 s.one, .int .i64 s.two] := hget_set_at (hget_lt g8')
            have k3m : hget (((H' ++ [Blk.cells 0 [.int .i64 s.kind, .bool s.no, slv encG s.sp, .int .i64 s.one, .int .i64 s.two]]) ++ [Blk.cells 0 (cellsOf encG s.sp)]).set H'.length (.cells 0 [.int .i64 s.kind, .bool s.no, (.bs ⟨H'.length + 1, 0, 0, s.sp.length, 0, 2, true, false⟩), .int .i64 s.one, .int .i64 s.two])) H.length 0 = some [vr, .int .i64 a] := by rw [hget_set_ne (by omega)]; exact hget_mono hm1 _
            have k3k : ∀ z ver cs, H.length + 1 ≤ z → hget H' z ver = some cs → hget (((H' ++ [Blk.cells 0 [.int .i64 s.kind, .bool s.no, slv encG s.sp, .int .i64 s.one, .int .i64 s.two]]) ++ [Blk.cells 0 (cellsOf encG s.sp)]).set H'.length (.cells 0 [.int .i64 s.kind, .bool s.no, (.bs ⟨H'.length + 1, 0, 0, s.sp.length, 0, 2, true, false⟩), .int .i64 s.one, .int .i64 s.two])) z ver = some cs := fun z ver cs _ h => by rw [hget_set_ne (by have := hget_lt h; omega)]; exact hget_mono (hget_mono h _) _
            have hrowG3 : Row encG 2 true (H.length + 1) (((H' ++ [Blk.cells 0 [.int .i64 s.kind, .bool s.no, slv encG s.sp, .int .i64 s.one, .int .i64 s.two]]) ++ [Blk.cells 0 (cellsOf encG s.sp)]).set H'.length (.cells 0 [.int .i64 s.kind, .bool s.no, (.bs ⟨H'.length + 1, 0, 0, s.sp.length, 0, 2, true, false⟩), .int .i64 s.one, .int .i64 s.two])) (.bs ⟨H'.length + 1, 0, 0, s.sp.length, 0, 2, true, false⟩) s.sp := rowG_keep hrowG fun b hb ver cs h => by cases hb; rw [hget_set_ne (by simp)]; exact h
            have k3l : (((H' ++ [Blk.cells 0 [.int .i64 s.kind, .bool s.no, slv encG s.sp, .int .i64 s.one, .int .i64 s.two]]) ++ [Blk.cells 0 (cellsOf encG s.sp)]).set H'.length (.cells 0 [.int .i64 s.kind, .bool s.no, (.bs ⟨H'.length + 1, 0, 0, s.sp.length, 0, 2, true, false⟩), .int .i64 s.one, .int .i64 s.two])).length = H'.length + 2 := by simp
            have hrow3 := hrow.keep k3k
            generalize ((H' ++ [Blk.cells 0 [.int .i64 s.kind, .bool s.no, slv encG s.sp, .int .i64 s.one, .int .i64 s.two]]) ++ [Blk.cells 0 (cellsOf encG s.sp)]).set H'.length (.cells 0 [.int .i64 s.kind, .bool s.no, (.bs ⟨H'.length + 1, 0, 0, s.sp.length, 0, 2, true, false⟩), .int .i64 s.one, .int .i64 s.two]) = K3 at *
            obtain ⟨K5, K6, v', q1, ⟨q2, q2'⟩, q3, q4, q5, q6⟩ := nrow_put (prot := H.length) (x := ⟨s.kind, s.no, (.bs ⟨H'.length + 1, 0, 0, s.sp.length, 0, 2, true, false⟩), rfl, s.one, s.two⟩) (s := s) (by omega) (by omega) k3m hrow3 ⟨rfl, rfl, rfl, rfl⟩ hrowG3 (.inr hne) (fun b hb b' hb' => by cases hb; have := hlt1 b' hb'; simp; omega) (by simp; omega) (Nat.le_refl _)
            have hlit := litH ⟨s.kind, s.no, (.bs ⟨H'.length + 1, 0, 0, s.sp.length, 0, 2, true, false⟩), rfl, s.one, s.two⟩ K3
            simp only [encH, AV.cells] at hlit q1
            rw [k3l] at hlit q1
            unfold AV.leaf at q2; unfold AV.cells at q2'
            have hk3m := hget_mono k3m [Blk.cells 0 [.int .i64 s.kind, .bool s.no, (.bs ⟨H'.length + 1, 0, 0, s.sp.length, 0, 2, true, false⟩), .int .i64 s.one, .int .i64 s.two]]
            simp only [wk, aBuiltin, AV.cells, AV.leaf, Nat.reduceEqDiff, Nat.reduceLT, Nat.reduceAdd, Nat.reduceLeDiff, reduceCtorEq, Nat.reduceMul, cfgP, u90, hlen, b0, b6, b21, b22, b23, d2, e1, hspl, hlZ, hH0, hpl, n2, g8, happ, g8', hput1, k3m, k3a, hlit, q1, q2, q2', q3, hw, k3l]
            refine ⟨?_, ?_⟩
            · rw [show befs [] _ = [0, 0, 2, 6, 14, 0, 32, 126, 255, 511, 1023] from by kernel_rfl]
              simp [wk, aBuiltin, AV.cells, AV.leaf, Nat.reduceEqDiff, Nat.reduceLT, Nat.reduceAdd, Nat.reduceLeDiff, reduceCtorEq, Nat.reduceMul, cfgP, u90, hlen, drawOk, chained, mayAt, sameAt, bound, List.range_succ, Nat.testBit, b0, b6, k3m, k3a, hk3m, hlit, q1, q2, q2', q3, k3l, avbeq_refl]
            refine ih _ _ (l.length - (i + 1)) (by omega) ⟨i + 1, v', rfl, by omega, by simp [wk, aBuiltin, AV.cells, AV.leaf, Nat.reduceEqDiff, Nat.reduceLT, Nat.reduceAdd, Nat.reduceLeDiff, reduceCtorEq, Nat.reduceMul, cfgP, u90, hlen], by simp [wk, aBuiltin, AV.cells, AV.leaf, Nat.reduceEqDiff, Nat.reduceLT, Nat.reduceAdd, Nat.reduceLeDiff, reduceCtorEq, Nat.reduceMul, cfgP, u90, hlen, b0], by simp [wk, aBuiltin, AV.cells, AV.leaf, Nat.reduceEqDiff, Nat.reduceLT, Nat.reduceAdd, Nat.reduceLeDiff, reduceCtorEq, Nat.reduceMul, cfgP, u90, hlen, b6], by simp [wk, aBuiltin, AV.cells, AV.leaf, Nat.reduceEqDiff, Nat.reduceLT, Nat.reduceAdd, Nat.reduceLeDiff, reduceCtorEq, Nat.reduceMul, cfgP, u90, hlen, b21], by simp [wk, aBuiltin, AV.cells, AV.leaf, Nat.reduceEqDiff, Nat.reduceLT, Nat.reduceAdd, Nat.reduceLeDiff, reduceCtorEq, Nat.reduceMul, cfgP, u90, hlen, b22], by simp [wk, aBuiltin, AV.cells, AV.leaf, Nat.reduceEqDiff, Nat.reduceLT, Nat.reduceAdd, Nat.reduceLeDiff, reduceCtorEq, Nat.reduceMul, cfgP, u90, hlen], by omega, q4, by rw [htk]; exact q5, hrt2⟩
        · have hr := Bool.eq_false_iff.2 hr
          rw [hr] at n2
          have hal : l.all (rightB l.length) = false := by
            rw [List.all_eq_false]
            exact ⟨s, hmem, by simp [hr]⟩
          rw [hal]
          simp only [wk, aBuiltin, AV.cells, AV.leaf, Nat.reduceEqDiff, Nat.reduceLT, Nat.reduceAdd, Nat.reduceLeDiff, reduceCtorEq, Nat.reduceMul, cfgP, u90, hlen, b0, b6, b21, b22, b23, d2, e1, hspl, hlZ, hH0, hpl, n2]
          exact Fin_pure (l := [.nil, .int .i64 1]) (by simp [wk, aBuiltin, AV.cells, AV.leaf, Nat.reduceEqDiff, Nat.reduceLT, Nat.reduceAdd, Nat.reduceLeDiff, reduceCtorEq, Nat.reduceMul, cfgP, u90, hlen, aResults, aResult]) (.tup (.cons (.still rfl) (.cons (.still rfl) .nil))) (by simp)
      · have d2 : decide (((i : Nat) : Int) < (l.length : Nat)) = false := decide_eq_false (by omega)
        rw [List.take_of_length_le (by omega)] at hrow hrt
        have hal : l.all (rightB l.length) = true := List.all_eq_true.2 hrt
        rw [hal]
        simp only [wk, aBuiltin, AV.cells, AV.leaf, Nat.reduceEqDiff, Nat.reduceLT, Nat.reduceAdd, Nat.reduceLeDiff, reduceCtorEq, Nat.reduceMul, cfgP, u90, hlen, b0, b6, b21, b22, b23, d2]
        exact Fin_pure (l := [.ptr H.length 0 0, .int .i64 0]) (by simp [wk, aBuiltin, AV.cells, AV.leaf, Nat.reduceEqDiff, Nat.reduceLT, Nat.reduceAdd, Nat.reduceLeDiff, reduceCtorEq, Nat.reduceMul, cfgP, u90, hlen, aResults, aResult]) (.tup (.cons (.ptr (Nat.le_refl _) hm (.cons (hrow.frozen (by omega)) (.cons (.still rfl) .nil))) (.cons (.still rfl) .nil))) (by simp)
    · have hin := Bool.eq_false_iff.2 hin
      rw [hin] at n1 ⊢
      rw [Bool.false_and]
      refine pure_slim rfl (by kernel_rfl) Try.func47 s47 hp hsnap (by simp [Try.f47]) fun fr hlen h => ?_
      simp only [Has, Nat.zero_add] at h
      obtain ⟨a0, a1, -⟩ := h
      simp only [Try.f47] at hlen ⊢
      unfold g47
      simp only [wk, aBuiltin, AV.cells, AV.leaf, Nat.reduceEqDiff, Nat.reduceLT, Nat.reduceAdd, Nat.reduceLeDiff, reduceCtorEq, Nat.reduceMul, cfgP, u90, hlen, a0, a1, hvl, d1, n1, none_beq]
      exact Fin_pure (l := [.nil, .int .i64 1]) (by simp [wk, aBuiltin, AV.cells, AV.leaf, Nat.reduceEqDiff, Nat.reduceLT, Nat.reduceAdd, Nat.reduceLeDiff, reduceCtorEq, Nat.reduceMul, cfgP, u90, hlen, aResults, aResult]) (.tup (.cons (.still rfl) (.cons (.still rfl) .nil))) (by simp)
  · have d1 : decide ((401 : Int) < (l.length : Nat)) = true := decide_eq_true (by omega)
    rw [decide_eq_false hg, Bool.false_and, Bool.false_and]
    refine pure_slim rfl (by kernel_rfl) Try.func47 s47 hp hsnap (by simp [Try.f47]) fun fr hlen h => ?_
    simp only [Has, Nat.zero_add] at h
    obtain ⟨a0, a1, -⟩ := h
    simp only [Try.f47] at hlen ⊢
    unfold g47
    simp only [wk, aBuiltin, AV.cells, AV.leaf, Nat.reduceEqDiff, Nat.reduceLT, Nat.reduceAdd, Nat.reduceLeDiff, reduceCtorEq, Nat.reduceMul, cfgP, u90, hlen, a0, a1, hvl, d1, none_beq]
    exact Fin_pure (l := [.nil, .int .i64 1]) (by simp [wk, aBuiltin, AV.cells, AV.leaf, Nat.reduceEqDiff, Nat.reduceLT, Nat.reduceAdd, Nat.reduceLeDiff, reduceCtorEq, Nat.reduceMul, cfgP, u90, hlen, aResults, aResult]) (.tup (.cons (.still rfl) (.cons (.still rfl) .nil))) (by simp)
end Go.Proofs.Ytoblikhnbddfmaa
