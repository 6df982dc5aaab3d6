import Derived.Test.YtoblikhnbddfmaaRx1
import Derived.Test.YtoblikhnbddfmaaRef02
/-! Chapter 15: a text's runes, walked. -/
set_option linter.unusedSimpArgs false
namespace Go.Proofs.Ytoblikhnbddfmaa
open Go Go.Abs AbsSeat Ty

/-- a text's runes; none: it is not valid. -/
def runesU (b : List UInt8) : Option (List Int) := if b = [] then some [] else if _h : (nextU b).2.2 = 0 then (runesU (b.drop (nextU b).2.1)).map ((nextU b).1 :: ·) else none
termination_by b.length
decreasing_by have := nextU_pos _h; simp; omega
theorem walkU_le : ∀ (n : Nat) (b : List UInt8), b.length ≤ n → (walkU b).2 ≤ b.length ∧ ((walkU b).2 = b.length ↔ (runesU b).isSome = true)
  | 0, b, h => by
    have hb : b = [] := by simpa using h
    subst hb
    have hw0 : walkU [] = (0, 0) := by rw [walkU]; simp [nextU]
    rw [hw0, runesU]; simp
  | n + 1, b, h => by
    by_cases hb : b = []
    · subst hb
      have hw0 : walkU [] = (0, 0) := by rw [walkU]; simp [nextU]
      rw [hw0, runesU]; simp
    rw [walkU, runesU, if_neg hb]
    by_cases he : (nextU b).2.2 = 0
    · have hp := nextU_pos he
      obtain ⟨h1, h2⟩ := walkU_le n (b.drop (nextU b).2.1) (by simp; omega)
      rw [dif_pos he, dif_pos he]
      rw [List.length_drop] at h1 h2
      rw [Option.isSome_map, ← h2]
      dsimp only
      omega
    · rw [dif_neg he, dif_neg he]
      have : 0 < b.length := by cases b with
        | nil => exact absurd rfl hb
        | cons => simp
      simp
      exact fun h => hb (by simpa using h.symm)
theorem validU_runes (s : List UInt8) : validU s = (runesU s).isSome := by
  rw [Bool.eq_iff_iff, ← (walkU_le s.length s (Nat.le_refl _)).2]
  simp [validU]
theorem nextU_isI {b : List UInt8} (h : (nextU b).2.2 = 0) : 0 ≤ (nextU b).1 ∧ (nextU b).1 ≤ 1114111 := by
  obtain ⟨h1, h2, _⟩ := (nextU_match b).1 h
  unfold matchN at h1
  rw [h2] at h1
  simp [isI] at h1
  omega
theorem runesU_ok : ∀ (n : Nat) (b : List UInt8) (o : List Int), b.length ≤ n → runesU b = some o → o.length ≤ b.length ∧ ∀ r ∈ o, 0 ≤ r ∧ r < 2147483648
  | 0, b, o, h, ho => by
    have hb : b = [] := by simpa using h
    subst hb
    rw [runesU] at ho
    simp at ho; subst ho; simp
  | n + 1, b, o, h, ho => by
    by_cases hb : b = []
    · subst hb
      rw [runesU] at ho
      simp at ho; subst ho; simp
    rw [runesU, if_neg hb] at ho
    by_cases he : (nextU b).2.2 = 0
    · have hp := nextU_pos he
      rw [dif_pos he, Option.map_eq_some_iff] at ho
      obtain ⟨o', ho', rfl⟩ := ho
      obtain ⟨h1, h2⟩ := runesU_ok n _ o' (by simp; omega) ho'
      rw [List.length_drop] at h1
      refine ⟨by simp; omega, fun r hr => ?_⟩
      rcases List.mem_cons.1 hr with rfl | hr
      · have := nextU_isI he; omega
      · exact h2 r hr
    · rw [dif_neg he] at ho; cases ho
theorem runesU_step {s : List UInt8} {k : Nat} (hk : k < s.length) : runesU (s.drop k) = if _h : (nextU (s.drop k)).2.2 = 0 then (runesU (s.drop (k + (nextU (s.drop k)).2.1))).map ((nextU (s.drop k)).1 :: ·) else none := by
  have hne : s.drop k ≠ [] := fun h => by have := congrArg List.length h; simp at this; omega
  rw [runesU, if_neg hne, List.drop_drop]
theorem rowI : RowT Try.prog 80 21 1 4 false where
  un := Try.underlying80
  size := sz21
  bytes := by21
  agg := ag21
  zero := ⟨_, ze21, rfl⟩
  pos := by decide
  tree := rfl
theorem hxtI : (∃ e', Try.prog.underlying 80 = some (.slice e')) ∨ Try.prog.underlying 80 = some .string := .inl ⟨_, Try.underlying80⟩
theorem litI (n : Int) (H : Heap) : aBuildSlice Try.prog H 80 1 [(0, .int .i32 n)] = some (.vs ([n].map encI) true, none) :=
  lit1 rowI encI_T ze21 rfl (by decide) n rfl
theorem map_two (q : Option (List Int)) (acc : List Int) (r : Int) : (q.map (r :: ·)).map (acc ++ ·) = q.map ((acc ++ [r]) ++ ·) := by cases q <;> simp
theorem runesU_nil : runesU [] = some [] := by rw [runesU]; simp
theorem u56 : type_of% (And.intro (fun (K : Heap) (n : Int) => conv_int Try.underlying3 Try.underlying21 K n) (And.intro ag1 (And.intro sz1 (And.intro by1 (And.intro ze1 (And.intro Try.underlying1 (And.intro ag3 (And.intro sz3 (And.intro by3 (And.intro ze3 (And.intro Try.underlying3 (And.intro ag5 (And.intro sz5 (And.intro by5 (And.intro ze5 (And.intro Try.underlying5 (And.intro ag9 (And.intro sz9 (And.intro by9 (And.intro ze9 (And.intro Try.underlying9 (And.intro ag21 (And.intro sz21 (And.intro by21 (And.intro ze21 (And.intro Try.underlying21 (And.intro ag29 (And.intro sz29 (And.intro by29 (And.intro ze29 (And.intro Try.underlying29 (And.intro ag80 (And.intro sz80 (And.intro by80 (And.intro se80 (And.intro ze80 (And.intro Try.underlying80 (And.intro ag141 (And.intro sz141 (And.intro by141 (And.intro se141 (And.intro ze141 Try.underlying141)))))))))))))))))))))))))))))))))))))))))) := And.intro (fun (K : Heap) (n : Int) => conv_int Try.underlying3 Try.underlying21 K n) (And.intro ag1 (And.intro sz1 (And.intro by1 (And.intro ze1 (And.intro Try.underlying1 (And.intro ag3 (And.intro sz3 (And.intro by3 (And.intro ze3 (And.intro Try.underlying3 (And.intro ag5 (And.intro sz5 (And.intro by5 (And.intro ze5 (And.intro Try.underlying5 (And.intro ag9 (And.intro sz9 (And.intro by9 (And.intro ze9 (And.intro Try.underlying9 (And.intro ag21 (And.intro sz21 (And.intro by21 (And.intro ze21 (And.intro Try.underlying21 (And.intro ag29 (And.intro sz29 (And.intro by29 (And.intro ze29 (And.intro Try.underlying29 (And.intro ag80 (And.intro sz80 (And.intro by80 (And.intro se80 (And.intro ze80 (And.intro Try.underlying80 (And.intro ag141 (And.intro sz141 (And.intro by141 (And.intro se141 (And.intro ze141 Try.underlying141)))))))))))))))))))))))))))))))))))))))))
def g56 : Code :=
  .seq (.region 0 #[q 2 (.assign (.const (.slice none 0 0))) 80] false) (.seq (.region 1 #[q 3 (.assign (.const (.slice none 0 0))) 80] false) (.seq (.region 2 #[q 9 (.move (.tmp 0)) 9, q 10 (.convert 9 141 (.tmp 9)) 141, q 4 (.assign (.tmp 10)) 141] false) (.seq (.seq (.region 3 #[q 5 (.assign (ik 0)) 3] false) (.block 0 (.loop (.seq (.seq (.region 4 #[q 11 (.move (.tmp 5)) 3, q 12 (.move (.tmp 4)) 141, q 13 (bi .len #[.tmp 12] #[141]) 3, q 14 (.binOp .lss 3 (.tmp 11) (.tmp 13) 3) 4] false) (.cond (.tmp 14) .skip (.exit 0))) (.block 1 (.seq (.region 5 #[q 16 (.move (.tmp 4)) 141, q 17 (.move (.tmp 5)) 3, q 18 (.slice 141 (.tmp 16) (some (.tmp 17)) none none) 141, q 19 (cl 81 #[.tmp 18] #[141]) 151, q 15 (.move (.tmp 19)) 151, q 20 (.extract (.tmp 15) 0) 21, q 21 (.extract (.tmp 15) 1) 3, q 22 (.extract (.tmp 15) 2) 29, q 6 (.assign (.tmp 20)) 21, q 7 (.assign (.tmp 21)) 3, q 8 (.assign (.tmp 22)) 29] false) (.seq (.seq (.region 6 #[q 23 (.move (.tmp 8)) 29, q 24 (.binOp .neq 29 (.tmp 23) (ik 0) 29) 4] false) (.cond (.tmp 24) (.seq (.region 7 #[q 2 (.assign (.const (.slice none 0 0))) 80] false) .ret) .skip)) (.seq (.region 8 #[q 25 (.move (.tmp 3)) 80, q 26 (.move (.tmp 6)) 21, q 27 (.buildSlice 80 1 #[(0, .tmp 26)]) 80, q 28 (bi .append #[.tmp 25, .tmp 27] #[80, 80]) 80, q 3 (.assign (.tmp 28)) 80] false) (.region 9 #[q 29 (.move (.tmp 5)) 3, q 30 (.move (.tmp 7)) 3, q 31 (.binOp .add 3 (.tmp 29) (.tmp 30) 3) 3, q 5 (.assign (.tmp 31)) 3] false))))))))) (.seq (.region 10 #[q 32 (.move (.tmp 3)) 80, q 2 (.assign (.tmp 32)) 80] false) .ret))))
theorem s56 : Try.f56.body.map (slim cfg) = some g56 := by kernel_rfl
def g44 : Code :=
  .seq (.region 0 #[q 2 (.assign (.const (.slice none 0 0))) 80, q 3 (.assign (.const (.bool false))) 4] false) (.seq (.region 1 #[q 4 (.assign (.const (.slice none 0 0))) 80] false) (.seq (.seq (.region 2 #[q 5 (.assign (ik 0)) 3] false) (.block 0 (.loop (.seq (.seq (.region 3 #[q 8 (.move (.tmp 5)) 3, q 9 (.move (.tmp 0)) 9, q 10 (bi .len #[.tmp 9] #[9]) 3, q 11 (.binOp .lss 3 (.tmp 8) (.tmp 10) 3) 4] false) (.cond (.tmp 11) .skip (.exit 0))) (.block 1 (.seq (.region 4 #[q 13 (.move (.tmp 0)) 9, q 14 (.move (.tmp 5)) 3, q 15 (.slice 9 (.tmp 13) (some (.tmp 14)) none none) 9, q 16 (.convert 9 141 (.tmp 15)) 141, q 17 (cl 74 #[.tmp 16] #[141]) 139, q 12 (.move (.tmp 17)) 139, q 18 (.extract (.tmp 12) 0) 3, q 19 (.extract (.tmp 12) 1) 3, q 6 (.assign (.tmp 18)) 3, q 7 (.assign (.tmp 19)) 3] false) (.seq (.seq (.region 5 #[q 20 (.move (.tmp 7)) 3, q 21 (.binOp .lss 3 (.tmp 20) (ik 1) 3) 4] false) (.cond (.tmp 21) (.seq (.region 6 #[q 2 (.assign (.const (.slice none 0 0))) 80, q 3 (.assign (.const (.bool false))) 4] false) .ret) .skip)) (.seq (.region 7 #[q 22 (.move (.tmp 4)) 80, q 23 (.move (.tmp 6)) 3, q 24 (.convert 3 21 (.tmp 23)) 21, q 25 (.buildSlice 80 1 #[(0, .tmp 24)]) 80, q 26 (bi .append #[.tmp 22, .tmp 25] #[80, 80]) 80, q 4 (.assign (.tmp 26)) 80] false) (.region 8 #[q 27 (.move (.tmp 5)) 3, q 28 (.move (.tmp 7)) 3, q 29 (.binOp .add 3 (.tmp 27) (.tmp 28) 3) 3, q 5 (.assign (.tmp 29)) 3] false))))))))) (.seq (.region 9 #[q 30 (.move (.tmp 4)) 80, q 2 (.assign (.tmp 30)) 80, q 3 (.assign (.const (.bool true))) 4] false) .ret)))
theorem s44 : Try.f44.body.map (slim cfg) = some g44 := by kernel_rfl

theorem runes_ok (s : List UInt8) (hl : s.length ≤ 100000) (o : List Int) (ho : runesU s = some o) (prot : Nat) (H : Heap) (hp : prot ≤ H.length) :
    aLim cfg prot 56 [.str s] H = some (slv encI o, none) := by
  have hsnap : snap H [.str s] = some ([.str s], false) := rfl
  have hol := (runesU_ok s.length s o (Nat.le_refl _) ho).1
  refine pure_slim rfl (by kernel_rfl) Try.func56 s56 hp hsnap (by simp [Try.f56]) fun fr hlen h => ?_
  simp only [Has, Nat.zero_add] at h
  obtain ⟨a0, -⟩ := h
  simp only [Try.f56] at hlen ⊢
  unfold g56
  have cv := fun K => conv_sb Try.underlying9 Try.underlying141 Try.underlying5 K s
  have hg0 : hget (H ++ [Blk.cells 0 (cellsOf encB s)]) H.length 0 = some (cellsOf encB s) := by rw [hget_new rfl]; rfl
  have hbl : ∀ K, aLen Try.prog K 141 (.bs ⟨H.length, 0, 0, s.length, 0, 1, false, false⟩) = some (.int .i64 s.length) := fun K => by simp [aLen, Try.underlying141]
  simp only [wk, aBuiltin, AV.cells, AV.leaf, Nat.reduceEqDiff, Nat.reduceLT, Nat.reduceAdd, Nat.reduceLeDiff, reduceCtorEq, Nat.reduceMul, cfgP, u56, hlen, a0, cv]
  refine loop_rule (fun m fr H' => ∃ (k : Nat) (acc : List Int) (v : AV), m = s.length - k ∧ k ≤ s.length ∧ acc.length ≤ k ∧ fr.length = 33 ∧ fget fr 4 = .bs ⟨H.length, 0, 0, s.length, 0, 1, false, false⟩ ∧ fget fr 5 = .int .i64 k ∧ fget fr 3 = v
    ∧ H.length + 1 ≤ H'.length ∧ hget H' H.length 0 = some (cellsOf encB s) ∧ Row encI 1 false (H.length + 1) H' v acc ∧ (v = .nilS ∨ acc ≠ []) ∧ some o = (runesU (s.drop k)).map (acc ++ ·)) ?_ s.length _ _ ⟨0, [], .nilS, by simp [wk, aBuiltin, AV.cells, AV.leaf, Nat.reduceEqDiff, Nat.reduceLT, Nat.reduceAdd, Nat.reduceLeDiff, reduceCtorEq, Nat.reduceMul, cfgP, u56, hlen, a0, hg0, Row.nil, ho]⟩
  rintro m fr H' ⟨k, acc, v, rfl, hk, hak, hlen, a4, a5, a3, hH, hg, hrow, hne, hc⟩ ih
  simp only [wk, aBuiltin, AV.cells, AV.leaf, Nat.reduceEqDiff, Nat.reduceLT, Nat.reduceAdd, Nat.reduceLeDiff, reduceCtorEq, Nat.reduceMul, cfgP, u56, hlen, a4, a5, a3, hbl]
  refine RC_split (fun h => ?_) (fun h => ?_)
  · have hlt : k < s.length := by simpa using h
    obtain ⟨b2, e1, e2⟩ := bytes_cut Try.underlying141 sz5 hg hlt
    have e3 := next_ok (s.drop k) b2 _ true (.vs _ _) (by simp; omega) H.length H' (by omega) e2
    have hpos := nextU_pos (b := s.drop k)
    have hst := runesU_step hlt
    rw [hst] at hc
    simp only [List.length_drop] at hpos
    generalize nextU (s.drop k) = q at *
    obtain ⟨r, w, e⟩ := q
    simp only at hpos e3 hc
    by_cases he : e = 0
    · subst he
      obtain ⟨hw0, hwl⟩ := hpos rfl
      rw [dif_pos rfl] at hc
      have w1 : IntKind.i64.wrap ((k : Int) + (w : Int)) = ((k + w : Nat) : Int) := by rw [wrap64 (by omega) (by omega)]; simp
      obtain ⟨v', H3, happ, hrow3, hle3, hno, hold⟩ := hrow.app (prot := H.length) (xt := 80) encI_T rowI hxtI (elem_vs encI_T [r] true) (by simp) (by simp [roomy]; omega) (by omega) (by omega)
      have hg3 := hold _ _ _ hg fun s' hs => by
        rcases hrow with ⟨q, _⟩ | ⟨b, ver, q, hb, _⟩
        · rw [q] at hs; cases hs
        · rw [q] at hs; cases hs; simp; omega
      have hlit := litI r
      simp only [wk, aBuiltin, AV.cells, AV.leaf, Nat.reduceEqDiff, Nat.reduceLT, Nat.reduceAdd, Nat.reduceLeDiff, reduceCtorEq, Nat.reduceMul, cfgP, u56, hlen, a4, a5, a3, e1, e3, hlit, happ, w1]
      refine ih _ _ (s.length - (k + w)) (by omega) ⟨k + w, acc ++ [r], v', rfl, by omega, by simp; omega, ?_⟩
      refine ⟨by simp [wk, aBuiltin, AV.cells, AV.leaf, Nat.reduceEqDiff, Nat.reduceLT, Nat.reduceAdd, Nat.reduceLeDiff, reduceCtorEq, Nat.reduceMul, cfgP, u56, hlen], by simp [wk, aBuiltin, AV.cells, AV.leaf, Nat.reduceEqDiff, Nat.reduceLT, Nat.reduceAdd, Nat.reduceLeDiff, reduceCtorEq, Nat.reduceMul, cfgP, u56, hlen, a4], by simp [wk, aBuiltin, AV.cells, AV.leaf, Nat.reduceEqDiff, Nat.reduceLT, Nat.reduceAdd, Nat.reduceLeDiff, reduceCtorEq, Nat.reduceMul, cfgP, u56, hlen], by simp [wk, aBuiltin, AV.cells, AV.leaf, Nat.reduceEqDiff, Nat.reduceLT, Nat.reduceAdd, Nat.reduceLeDiff, reduceCtorEq, Nat.reduceMul, cfgP, u56, hlen], by omega, hg3, hrow3, .inr (by simp), ?_⟩
      rw [hc, map_two]
    · rw [dif_neg he] at hc; cases hc
  · have hnl : ¬ k < s.length := by simpa using h
    have hd : s.drop k = [] := by simp; omega
    rw [hd, runesU_nil, Option.map_some, List.append_nil] at hc
    cases hc
    simp only [wk, aBuiltin, AV.cells, AV.leaf, Nat.reduceEqDiff, Nat.reduceLT, Nat.reduceAdd, Nat.reduceLeDiff, reduceCtorEq, Nat.reduceMul, cfgP, u56, hlen, a4, a5, a3]
    exact Fin_pure (l := [v]) (by simp [wk, aBuiltin, AV.cells, AV.leaf, Nat.reduceEqDiff, Nat.reduceLT, Nat.reduceAdd, Nat.reduceLeDiff, reduceCtorEq, Nat.reduceMul, cfgP, u56, hlen, aResults, aResult, a3]) ((hrow.low (by omega)).frozen encI_T (by decide) rfl hne) (by simp)

theorem rrunes_ok (s : List UInt8) (hl : s.length ≤ 100000) (prot : Nat) (H : Heap) (hp : prot ≤ H.length) :
    aLim cfg prot 44 [.str s] H = some (.tup [slv encI ((runesU s).getD []), .bool (runesU s).isSome], none) := by
  have hsnap : snap H [.str s] = some ([.str s], false) := rfl
  refine pure_slim rfl (by kernel_rfl) Try.func44 s44 hp hsnap (by simp [Try.f44]) fun fr hlen h => ?_
  simp only [Has, Nat.zero_add] at h
  obtain ⟨a0, -⟩ := h
  simp only [Try.f44] at hlen ⊢
  unfold g44
  simp only [wk, aBuiltin, AV.cells, AV.leaf, Nat.reduceEqDiff, Nat.reduceLT, Nat.reduceAdd, Nat.reduceLeDiff, reduceCtorEq, Nat.reduceMul, cfgP, u56, hlen, a0]
  refine loop_rule (fun m fr H' => ∃ (k : Nat) (acc : List Int) (v : AV), m = s.length - k ∧ k ≤ s.length ∧ acc.length ≤ k ∧ fr.length = 31 ∧ fget fr 0 = .str s ∧ fget fr 5 = .int .i64 k ∧ fget fr 4 = v
    ∧ H.length ≤ H'.length ∧ Row encI 1 false H.length H' v acc ∧ (v = .nilS ∨ acc ≠ []) ∧ runesU s = (runesU (s.drop k)).map (acc ++ ·)) ?_ s.length _ _ ⟨0, [], .nilS, by simp [wk, aBuiltin, AV.cells, AV.leaf, Nat.reduceEqDiff, Nat.reduceLT, Nat.reduceAdd, Nat.reduceLeDiff, reduceCtorEq, Nat.reduceMul, cfgP, u56, hlen, a0, Row.nil]⟩
  rintro m fr H' ⟨k, acc, v, rfl, hk, hak, hlen, a0, a5, a4, hH, hrow, hne, hc⟩ ih
  simp only [wk, aBuiltin, AV.cells, AV.leaf, Nat.reduceEqDiff, Nat.reduceLT, Nat.reduceAdd, Nat.reduceLeDiff, reduceCtorEq, Nat.reduceMul, cfgP, u56, hlen, a0, a5, a4, str_len Try.underlying9]
  refine RC_split (fun h => ?_) (fun h => ?_)
  · have hlt : k < s.length := by simpa using h
    have e1 := str_from (P := Try.prog) Try.underlying9 s (k := .i64) hk
    have cv := fun K => conv_sb Try.underlying9 Try.underlying141 Try.underlying5 K (s.drop k)
    have hg : hget (H' ++ [Blk.cells 0 (cellsOf encB (s.drop k))]) H'.length 0 = some (cellsOf encB (s.drop k)) := by rw [hget_new rfl]; rfl
    have e3 := rnext_bs hg (by simp; omega) H.length (by simp; omega)
    have hpos := nextU_pos (b := s.drop k)
    have hval := nextU_isI (b := s.drop k)
    obtain ⟨hle, heq⟩ := nextR_le (s.drop k)
    have hv1 : (nextU (s.drop k)).2.2 = 0 → (nextR (s.drop k)).1 = (nextU (s.drop k)).1 := fun h => by unfold nextR; rw [if_pos h]
    have hst := runesU_step hlt
    rw [hst] at hc
    simp only [List.length_drop] at hpos e3
    have hdl : (s.drop k).length = s.length - k := List.length_drop ..
    rw [hdl] at cv
    generalize nextU (s.drop k) = q at *
    obtain ⟨r, w, e⟩ := q
    simp only at hpos hle heq hc hval hv1
    have hrow2 := hrow.more [Blk.cells 0 (cellsOf encB (s.drop k))]
    by_cases he : e = 0
    · subst he
      obtain ⟨hw0, hwl⟩ := hpos rfl
      have hrn := heq rfl
      have hval := hval rfl
      have hpn : decide ((nextR (s.drop k)).2 < 1) = false := decide_eq_false (by omega)
      have w1 : IntKind.i64.wrap ((k : Int) + (w : Int)) = ((k + w : Nat) : Int) := by rw [wrap64 (by omega) (by omega)]; simp
      have w2 : IntKind.i32.wrap r = r := by simp [IntKind.wrap, IntKind.bits, IntKind.signed]; omega
      rw [dif_pos rfl] at hc
      rw [hrn, hv1 rfl] at e3
      rw [hrn] at hpn
      obtain ⟨v', H3, happ, hrow3, hle3, hno, hold⟩ := hrow2.app (prot := H.length) (xt := 80) encI_T rowI hxtI (elem_vs encI_T [r] true) (by simp) (by simp [roomy]; omega) (by omega) (by simp; omega)
      have hlit := litI r
      simp only [wk, aBuiltin, AV.cells, AV.leaf, Nat.reduceEqDiff, Nat.reduceLT, Nat.reduceAdd, Nat.reduceLeDiff, reduceCtorEq, Nat.reduceMul, cfgP, u56, hlen, a0, a5, a4, e1, cv, e3, hpn, w1, w2, hlit, happ]
      refine ih _ _ (s.length - (k + w)) (by omega) ⟨k + w, acc ++ [r], v', rfl, by omega, by simp; omega, ?_⟩
      refine ⟨by simp [wk, aBuiltin, AV.cells, AV.leaf, Nat.reduceEqDiff, Nat.reduceLT, Nat.reduceAdd, Nat.reduceLeDiff, reduceCtorEq, Nat.reduceMul, cfgP, u56, hlen], by simp [wk, aBuiltin, AV.cells, AV.leaf, Nat.reduceEqDiff, Nat.reduceLT, Nat.reduceAdd, Nat.reduceLeDiff, reduceCtorEq, Nat.reduceMul, cfgP, u56, hlen, a0], by simp [wk, aBuiltin, AV.cells, AV.leaf, Nat.reduceEqDiff, Nat.reduceLT, Nat.reduceAdd, Nat.reduceLeDiff, reduceCtorEq, Nat.reduceMul, cfgP, u56, hlen], by simp [wk, aBuiltin, AV.cells, AV.leaf, Nat.reduceEqDiff, Nat.reduceLT, Nat.reduceAdd, Nat.reduceLeDiff, reduceCtorEq, Nat.reduceMul, cfgP, u56, hlen], by simp at hle3; omega, hrow3, .inr (by simp), ?_⟩
      rw [hc, map_two]
    · have hpn : decide ((nextR (s.drop k)).2 < 1) = true := decide_eq_true (by have := hle.2 he; omega)
      rw [dif_neg he] at hc
      rw [hc]
      simp only [wk, aBuiltin, AV.cells, AV.leaf, Nat.reduceEqDiff, Nat.reduceLT, Nat.reduceAdd, Nat.reduceLeDiff, reduceCtorEq, Nat.reduceMul, cfgP, u56, hlen, a0, a5, a4, e1, cv, e3, hpn]
      exact Fin_pure (l := [.nilS, .bool false]) (by simp [wk, aBuiltin, AV.cells, AV.leaf, Nat.reduceEqDiff, Nat.reduceLT, Nat.reduceAdd, Nat.reduceLeDiff, reduceCtorEq, Nat.reduceMul, cfgP, u56, hlen, aResults, aResult]) (.tup (.cons (.still rfl) (.cons (.still rfl) .nil))) (by simp)
  · have hnl : ¬ k < s.length := by simpa using h
    have hd : s.drop k = [] := by simp; omega
    rw [hd, runesU_nil, Option.map_some, List.append_nil] at hc
    rw [hc]
    simp only [wk, aBuiltin, AV.cells, AV.leaf, Nat.reduceEqDiff, Nat.reduceLT, Nat.reduceAdd, Nat.reduceLeDiff, reduceCtorEq, Nat.reduceMul, cfgP, u56, hlen, a0, a5, a4]
    exact Fin_pure (l := [v, .bool true]) (by simp [wk, aBuiltin, AV.cells, AV.leaf, Nat.reduceEqDiff, Nat.reduceLT, Nat.reduceAdd, Nat.reduceLeDiff, reduceCtorEq, Nat.reduceMul, cfgP, u56, hlen, aResults, aResult, a4]) (.tup (.cons (hrow.frozen encI_T (by decide) rfl hne) (.cons (.still rfl) .nil))) (by simp)
end Go.Proofs.Ytoblikhnbddfmaa
