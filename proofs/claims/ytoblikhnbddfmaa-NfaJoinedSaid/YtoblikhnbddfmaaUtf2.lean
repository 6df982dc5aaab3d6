import Derived.Test.YtoblikhnbddfmaaUtf
/-! Chapter 2: valid texts, walked. -/
set_option linter.unusedSimpArgs false
namespace Go.Proofs.Ytoblikhnbddfmaa
open Go Go.Abs AbsSeat Ty

theorem nextU_pos {b : List UInt8} (h : (nextU b).2.2 = 0) : 0 < (nextU b).2.1 ∧ (nextU b).2.1 ≤ b.length := by
  by_cases hb : b = []
  · subst hb; simp [nextU] at h
  · obtain ⟨c, r, hb⟩ := List.exists_cons_of_ne_nil hb
    rw [nextU_eq hb] at h ⊢
    by_cases h1 : wantedU c.toNat = 0 ∨ fitsU c b (wantedU c.toNat) = false
    · rw [if_pos h1] at h; simp at h
    · rw [if_neg h1] at h ⊢
      by_cases h2 : b.length < wantedU c.toNat
      · rw [if_pos h2] at h; simp at h
      · rw [if_neg h2] at h ⊢
        simp only [not_or] at h1
        simp only
        omega
theorem nextU_err (b : List UInt8) : (nextU b).2.2 = 0 ∨ (nextU b).2.2 = 3 ∨ (nextU b).2.2 = 6 ∨ (nextU b).2.2 = 11 := by
  by_cases hb : b = []
  · subst hb; simp [nextU]
  · obtain ⟨c, r, hb⟩ := List.exists_cons_of_ne_nil hb
    rw [nextU_eq hb]
    split
    · simp
    · split <;> simp

/-- how many runes stand at the beginning of bytes, and how many bytes these are. -/
def walkU (b : List UInt8) : Nat × Nat :=
  if _h : (nextU b).2.2 = 0 then ((walkU (b.drop (nextU b).2.1)).1 + 1, (walkU (b.drop (nextU b).2.1)).2 + (nextU b).2.1) else (0, 0)
termination_by b.length
decreasing_by all_goals (have := nextU_pos _h; simp; omega)

theorem conv_sb {P : Program} {s d e : TypeId} (h1 : P.underlying s = some .string) (h2 : P.underlying d = some (.slice e)) (h3 : P.underlying e = some (.int .u8)) (H : Heap) (x : List UInt8) :
    aConvert P H s d (.str x) = some (.bs ⟨H.length, 0, 0, x.length, 0, 1, false, false⟩, some (H ++ [Blk.cells 0 (cellsOf encB x)])) := by
  simp only [aConvert, h1, h2, h3, ← cellsB]


theorem walk_ok (s : List UInt8) (hl : s.length ≤ 9223372036854775807) (prot : Nat) (H : Heap) (hp : prot ≤ H.length) :
    aLim cfg prot 80 [.str s] H = some (.tup [.int .i64 (walkU s).1, .int .i64 (walkU s).2], none) := by
  have hsnap : snap H [.str s] = some ([.str s], false) := rfl
  refine pure_slim rfl (by kernel_rfl) Try.func80 s80 hp hsnap (by simp [Try.f80]) fun fr hlen h => ?_
  simp only [Has, Nat.zero_add] at h
  obtain ⟨a0, -⟩ := h
  simp only [Try.f80] at hlen ⊢
  unfold g80
  have hfz : ∀ (K : Heap) (x y : AV), still x = true → still y = true → Frz K H.length (packR [x, y]) (.tup [x, y]) := fun K x y h1 h2 => .tup (.cons (.still h1) (.cons (.still h2) .nil))
  have cv := fun K => conv_sb Try.underlying9 Try.underlying141 Try.underlying5 K s
  have hg : hget (H ++ [Blk.cells 0 (cellsOf encB s)]) H.length 0 = some (cellsOf encB s) := by rw [hget_new rfl]; rfl
  have hbl : ∀ K, aLen Try.prog K 141 (.bs ⟨H.length, 0, 0, s.length, 0, 1, false, false⟩) = some (.int .i64 s.length) := fun K => by simp [aLen, Try.underlying141]
  simp only [wk, aBuiltin, AV.cells, AV.leaf, Nat.reduceEqDiff, Nat.reduceLT, Nat.reduceAdd, Nat.reduceLeDiff, reduceCtorEq, Nat.reduceMul, cfgP, u98, hlen, a0, cv]
  refine loop_rule (fun m fr H' => ∃ (k n : Nat), m = s.length - k ∧ k ≤ s.length ∧ n ≤ k ∧ fr.length = 33 ∧ fget fr 4 = .bs ⟨H.length, 0, 0, s.length, 0, 1, false, false⟩ ∧ fget fr 5 = .int .i64 k ∧ fget fr 6 = .int .i64 n
    ∧ H' = H ++ [Blk.cells 0 (cellsOf encB s)] ∧ walkU s = ((walkU (s.drop k)).1 + n, (walkU (s.drop k)).2 + k)) ?_ s.length _ _ ⟨0, 0, by simp [wk, aBuiltin, AV.cells, AV.leaf, Nat.reduceEqDiff, Nat.reduceLT, Nat.reduceAdd, Nat.reduceLeDiff, reduceCtorEq, Nat.reduceMul, cfgP, u98, hlen, a0]⟩
  rintro m fr H' ⟨k, n, rfl, hk, hnk, hlen, a4, a5, a6, hHe, hc⟩ ih
  subst hHe
  simp only [wk, aBuiltin, AV.cells, AV.leaf, Nat.reduceEqDiff, Nat.reduceLT, Nat.reduceAdd, Nat.reduceLeDiff, reduceCtorEq, Nat.reduceMul, cfgP, u98, hlen, a4, a5, a6, hbl]
  refine RC_split (fun h => ?_) (fun h => ?_)
  · have hlt : k < s.length := by simpa using h
    obtain ⟨o, e1, e2⟩ := bytes_cut Try.underlying141 sz5 hg hlt
    have e3 := next_ok (s.drop k) o _ true (.vs _ _) (by simp; omega) H.length (H ++ [Blk.cells 0 (cellsOf encB s)]) (by simp) e2
    have hpos := nextU_pos (b := s.drop k)
    have hw : walkU (s.drop k) = if h : (nextU (s.drop k)).2.2 = 0 then ((walkU ((s.drop k).drop (nextU (s.drop k)).2.1)).1 + 1, (walkU ((s.drop k).drop (nextU (s.drop k)).2.1)).2 + (nextU (s.drop k)).2.1) else (0, 0) := by rw [walkU]
    simp only [List.drop_drop, List.length_drop] at hw hpos
    generalize nextU (s.drop k) = q at *
    obtain ⟨r, w, e⟩ := q
    simp only at hw hpos e3
    by_cases he : e = 0
    · subst he
      obtain ⟨hw0, hwl⟩ := hpos rfl
      have w1 : IntKind.i64.wrap ((k : Int) + (w : Int)) = ((k + w : Nat) : Int) := by rw [wrap64 (by omega) (by omega)]; simp
      have w2 : IntKind.i64.wrap ((n : Int) + 1) = ((n + 1 : Nat) : Int) := by rw [wrap64 (by omega) (by omega)]; simp
      rw [dif_pos rfl] at hw
      simp only [wk, aBuiltin, AV.cells, AV.leaf, Nat.reduceEqDiff, Nat.reduceLT, Nat.reduceAdd, Nat.reduceLeDiff, reduceCtorEq, Nat.reduceMul, cfgP, u98, hlen, a4, a5, a6, e1, e3, w1, w2]
      refine ih _ _ (s.length - (k + w)) (by omega) ⟨k + w, n + 1, rfl, by omega, by omega, ?_⟩
      rw [hc, hw]
      simp [wk, aBuiltin, AV.cells, AV.leaf, Nat.reduceEqDiff, Nat.reduceLT, Nat.reduceAdd, Nat.reduceLeDiff, reduceCtorEq, Nat.reduceMul, cfgP, u98, hlen, a4]
      omega
    · have hed : decide (e = 0) = false := by simpa using he
      rw [dif_neg he] at hw
      rw [hc, hw]
      simp only [Nat.zero_add]
      have hnd : decide (¬ e = 0) = true := by simpa using he
      simp only [wk, aBuiltin, AV.cells, AV.leaf, Nat.reduceEqDiff, Nat.reduceLT, Nat.reduceAdd, Nat.reduceLeDiff, reduceCtorEq, Nat.reduceMul, cfgP, u98, hlen, a4, a5, a6, e1, e3, hnd]
      exact Fin_pure (l := [.int .i64 n, .int .i64 k]) (by simp [wk, aBuiltin, AV.cells, AV.leaf, Nat.reduceEqDiff, Nat.reduceLT, Nat.reduceAdd, Nat.reduceLeDiff, reduceCtorEq, Nat.reduceMul, cfgP, u98, hlen, aResults, aResult]) (hfz _ _ _ rfl rfl) (by simp)
  · have hnl : ¬ k < s.length := by simpa using h
    have hd : s.drop k = [] := by simp; omega
    have hw0 : walkU [] = (0, 0) := by rw [walkU]; simp [nextU]
    rw [hd, hw0] at hc
    rw [hc]
    simp only [Nat.zero_add]
    simp only [wk, aBuiltin, AV.cells, AV.leaf, Nat.reduceEqDiff, Nat.reduceLT, Nat.reduceAdd, Nat.reduceLeDiff, reduceCtorEq, Nat.reduceMul, cfgP, u98, hlen, a4, a5, a6]
    exact Fin_pure (l := [.int .i64 n, .int .i64 k]) (by simp [wk, aBuiltin, AV.cells, AV.leaf, Nat.reduceEqDiff, Nat.reduceLT, Nat.reduceAdd, Nat.reduceLeDiff, reduceCtorEq, Nat.reduceMul, cfgP, u98, hlen, aResults, aResult]) (hfz _ _ _ rfl rfl) (by simp)

def validU (s : List UInt8) : Bool := decide ((walkU s).2 = s.length)

theorem valid_ok (s : List UInt8) (hl : s.length ≤ 9223372036854775807) (prot : Nat) (H : Heap) (hp : prot ≤ H.length) : aLim cfg prot 55 [.str s] H = some (.bool (validU s), none) := by
  have hsnap : snap H [.str s] = some ([.str s], false) := rfl
  refine pure_slim rfl (by kernel_rfl) Try.func55 s55 hp hsnap (by simp [Try.f55]) fun fr hlen h => ?_
  simp only [Has, Nat.zero_add] at h
  obtain ⟨a0, -⟩ := h
  simp only [Try.f55] at hlen ⊢
  unfold g55
  have h1 := walk_ok s hl H.length H (Nat.le_refl _)
  have h2 : ∀ K, aLen Try.prog K 9 (.str s) = some (.int .i64 s.length) := fun K => by simp [aLen, Try.underlying9]
  have e : decide (((walkU s).2 : Int) = (s.length : Int)) = validU s := by unfold validU; rw [decide_eq_decide]; omega
  simp only [wk, aBuiltin, AV.cells, AV.leaf, Nat.reduceEqDiff, Nat.reduceLT, Nat.reduceAdd, Nat.reduceLeDiff, reduceCtorEq, Nat.reduceMul, cfgP, u98, hlen, a0, h1, h2, e]
  exact Fin_pure (l := [.bool (validU s)]) (by simp [wk, aBuiltin, AV.cells, AV.leaf, Nat.reduceEqDiff, Nat.reduceLT, Nat.reduceAdd, Nat.reduceLeDiff, reduceCtorEq, Nat.reduceMul, cfgP, u98, aResults, aResult, hlen]) (.still rfl) (by simp)
end Go.Proofs.Ytoblikhnbddfmaa
