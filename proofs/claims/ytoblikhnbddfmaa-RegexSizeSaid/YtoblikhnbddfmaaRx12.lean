import Derived.Test.YtoblikhnbddfmaaRx10
/-! Chapter 15 of the document: classes, walked. -/
set_option linter.unusedSimpArgs false
namespace Go.Proofs.Ytoblikhnbddfmaa
open Go Go.Abs AbsSeat Ty

theorem hxtG2 : (∃ e', Try.prog.underlying 44 = some (.slice e')) ∨ Try.prog.underlying 44 = some .string := .inl ⟨_, Try.underlying44⟩
/-- the document's reading of a class: its spans, where it ends, whether it is wrong. -/
def rclassGo (l : List Int) : Nat → Nat → Bool → List Sg → List Sg × Nat × Bool
  | 0, j, _, acc => (acc, j, true)
  | k + 1, j, bad, acc =>
    if bad = true then (acc, j, true)
    else if pk l j = 93 then (acc, j + 1, false)
    else if pk l j = 92 then rclassGo l k (j + 2) (!(escS (pk l (j + 1))).2) (acc ++ (escS (pk l (j + 1))).1)
    else if pk l (j + 1) = 45 then rclassGo l k (j + 3) (hasS cls1 (pk l j) || (hasS cls2 (pk l (j + 2)) || decide (pk l (j + 2) < pk l j))) (acc ++ [⟨pk l j, pk l (j + 2)⟩])
    else rclassGo l k (j + 1) (decide (l.length ≤ j) || hasS cls1 (pk l j)) (acc ++ [⟨pk l j, pk l j⟩])
theorem rclassGo_bad (l : List Int) (k j : Nat) (acc : List Sg) : rclassGo l k j true acc = (acc, j, true) := by cases k <;> simp [rclassGo]
theorem rclassGo_eq {l : List Int} (hl : Runes l) : ∀ (k j : Nat) (acc : List Sg), if (classGo l k j acc).2.2 = true then rclassGo l k j false acc = ((classGo l k j acc).1, (classGo l k j acc).2.1, false) else (rclassGo l k j false acc).2.2 = true
  | 0, j, acc => by simp [classGo, rclassGo]
  | k + 1, j, acc => by
    rw [classGo, rclassGo, if_neg (by simp : ¬ false = true)]
    by_cases h1 : pk l j = 93
    · simp [h1]
    · rw [if_neg h1, if_neg h1]
      by_cases h2 : pk l j = 92
      · rw [if_pos h2, if_pos h2]
        cases h3 : (escS (pk l (j + 1))).2 with
        | true => rw [if_pos rfl]; exact rclassGo_eq hl k _ _
        | false => simp [rclassGo_bad]
      · rw [if_neg h2, if_neg h2]
        by_cases h3 : pk l j = -1 ∨ hasS cls1 (pk l j) = true
        · rw [if_pos h3]
          have hne : ¬ (((acc, j + 1, false) : List Sg × Nat × Bool).2.2 = true) := by simp
          rw [if_neg hne]
          rcases h3 with h3 | h3
          · have hge : l.length ≤ j := by
              refine Classical.byContradiction fun hn => ?_
              rw [pk_lt (by omega)] at h3
              have := hl.2 _ (List.getElem_mem (l := l) (n := j) (by omega))
              omega
            rw [if_neg (by rw [pk_ge (by omega)]; decide), decide_eq_true hge, Bool.true_or, rclassGo_bad]
          · rw [h3, Bool.true_or, Bool.or_true]
            split <;> rw [rclassGo_bad]
        · rw [if_neg h3]
          have h4 : hasS cls1 (pk l j) = false := Bool.eq_false_iff.2 fun h => h3 (.inr h)
          have h5 := pk_in (l := l) (i := j) fun h => h3 (.inl h)
          rw [h4, Bool.false_or, Bool.or_false, decide_eq_false (by omega : ¬ l.length ≤ j)]
          by_cases h6 : pk l (j + 1) = 45
          · rw [if_pos h6, if_pos h6]
            by_cases h7 : pk l (j + 2) < pk l j ∨ hasS cls2 (pk l (j + 2)) = true
            · rw [if_pos h7, if_neg (by simp)]
              have : (hasS cls2 (pk l (j + 2)) || decide (pk l (j + 2) < pk l j)) = true := by
                rcases h7 with h7 | h7 <;> simp [h7]
              rw [this, rclassGo_bad]
            · rw [if_neg h7]
              have : (hasS cls2 (pk l (j + 2)) || decide (pk l (j + 2) < pk l j)) = false := by
                rw [decide_eq_false fun h => h7 (.inl h), Bool.or_false]
                exact Bool.eq_false_iff.2 fun h => h7 (.inr h)
              rw [this]
              exact rclassGo_eq hl k _ _
          · rw [if_neg h6, if_neg h6]
            exact rclassGo_eq hl k _ _
structure Rb where
  n : Nd
  at_ : Nat
  bad : Bool
def classR (l : List Int) (j : Nat) : Rb :=
  let i := if pk l j = 94 then j + 1 else j
  let g := rclassGo l (l.length + 2) i false []
  ⟨.mk 1 (decide (pk l j = 94)) false g.1 0 0 false [], g.2.1, g.2.2 || decide (g.1.length = 0)⟩
theorem rcls_end {prot : Nat} {res : List ResultVar} {fr : List AV} {H K : Heap} {b : Nat} {c : List AV} {v : AV} {acc : List Sg} {X : Blk} {nt : Bool} (kp : Kp H b c K) (hrow : Row encG 2 true (H.length + 2) K v acc) (hne : v = .nilS ∨ acc ≠ [])
    (h1 : aResults cfg.P fr (K.set H.length X) res = some [.agg [.int .i64 1, .bool nt, v, .int .i64 0, .int .i64 0, .nilS]]) :
    Fin ⟨cfg, prot, res, .trim H⟩ fr (K.set H.length X) (encN (.mk 1 nt false acc 0 0 false []), some (H.set b (.cells 0 c))) := by
  have hf := ((hrow.setne (b' := H.length) (by omega) X).low (base' := H.length) (by omega)).frozen encG_T (by decide) rfl hne
  refine (kp.new (Nat.le_refl _) X).fin h1 ?_
  rw [encN_eq, slF_slv]
  exact .agg (.cons (.still rfl) (.cons (.still rfl) (.cons hf (.cons (.still rfl) (.cons (.still rfl) (.cons (.still rfl) .nil))))))
def spQ (H' : Heap) (b : Nat) (X S : List AV) : Heap := H'.set b (.cells 0 X) ++ [Blk.cells 0 S]

theorem rclass_ok (l : List Int) (L : AV) (hL : Sl encI L l) (hl : Runes l) (at_ b : Nat) (hat : at_ ≤ l.length) (prot : Nat) (H : Heap) (hp : prot ≤ b) (hg : hget H b 0 = some [L, .int .i64 at_, .bool false]) :
    aLim cfg prot 132 [.ptr b 0 0] H = some (encN (classR l at_).n, some (H.set b (.cells 0 [L, .int .i64 ((classR l at_).at_ : Nat), .bool (classR l at_).bad]))) := by
  have hb := hget_lt hg
  have hll := hl.1
  have hlZ : ∀ Z, (H ++ [Blk.cells 0 Z]).length = H.length + 1 := fun Z => by simp
  have hpl1 : prot ≤ H.length + 1 := by omega
  have hLb : ∀ (x : Int) (y : Bool), AV.blwL H.length [L, .int .i64 x, .bool y] = true := fun x y => plL_blwL _ _ (slI_plain3 hL _ _)
  have hK0l : (H ++ [Blk.cells 0 [.int .i64 0, .bool false, .nilS, .int .i64 0, .int .i64 0, .nilS]] ++ [Blk.cells 0 [.int .i64 1, .bool false, .nilS, .int .i64 0, .int .i64 0, .nilS]]).length = H.length + 2 := by simp
  have hK0k : Kp H b [L, .int .i64 at_, .bool false] (H ++ [Blk.cells 0 [.int .i64 0, .bool false, .nilS, .int .i64 0, .int .i64 0, .nilS]] ++ [Blk.cells 0 [.int .i64 1, .bool false, .nilS, .int .i64 0, .int .i64 0, .nilS]]) := ((Kp.start hg).app _).app _
  have hK0z : hget (H ++ [Blk.cells 0 [.int .i64 0, .bool false, .nilS, .int .i64 0, .int .i64 0, .nilS]] ++ [Blk.cells 0 [.int .i64 1, .bool false, .nilS, .int .i64 0, .int .i64 0, .nilS]]) H.length 0 = some [.int .i64 0, .bool false, .nilS, .int .i64 0, .int .i64 0, .nilS] := hget_mono (by simp [hget]) _
  have hK0n : hget (H ++ [Blk.cells 0 [.int .i64 0, .bool false, .nilS, .int .i64 0, .int .i64 0, .nilS]] ++ [Blk.cells 0 [.int .i64 1, .bool false, .nilS, .int .i64 0, .int .i64 0, .nilS]]) (H.length + 1) 0 = some [.int .i64 1, .bool false, .nilS, .int .i64 0, .int .i64 0, .nilS] := by
    rw [← hlZ [.int .i64 0, .bool false, .nilS, .int .i64 0, .int .i64 0, .nilS]]; simp [hget]
  have hcS : classR l at_ = ⟨.mk 1 (decide (pk l at_ = 94)) false (rclassGo l (l.length + 2) (if pk l at_ = 94 then at_ + 1 else at_) false []).1 0 0 false [], (rclassGo l (l.length + 2) (if pk l at_ = 94 then at_ + 1 else at_) false []).2.1, (rclassGo l (l.length + 2) (if pk l at_ = 94 then at_ + 1 else at_) false []).2.2 || decide ((rclassGo l (l.length + 2) (if pk l at_ = 94 then at_ + 1 else at_) false []).1.length = 0)⟩ := rfl
  rw [hcS]
  have hj0 : (if pk l at_ = 94 then at_ + 1 else at_) ≤ l.length := by
    split
    · rename_i h; have := pk_in (l := l) (i := at_) (by rw [h]; decide); omega
    · exact hat
  refine trim_slim rfl (by kernel_rfl) (by kernel_rfl) (by kernel_rfl) Try.func132 s132 (by simp [Try.f132]) fun fr hlen h => ?_
  simp only [Has, Nat.zero_add] at h
  obtain ⟨a0, -⟩ := h
  simp only [Try.f132] at hlen ⊢
  unfold g132
  simp only [wk, aBuiltin, AV.cells, AV.leaf, Nat.reduceEqDiff, Nat.reduceLT, Nat.reduceAdd, Nat.reduceLeDiff, reduceCtorEq, Nat.reduceMul, cfgP, u85, hlen, a0, hpl1, hlZ]
  generalize H ++ [Blk.cells 0 [.int .i64 0, .bool false, .nilS, .int .i64 0, .int .i64 0, .nilS]] ++ [Blk.cells 0 [.int .i64 1, .bool false, .nilS, .int .i64 0, .int .i64 0, .nilS]] = K0 at *
  have n1 := ris15_ok l L hL hl at_ b false 94 (by decide) prot K0 hp hK0k.get
  generalize hnt : decide (pk l at_ = 94) = nt at *
  generalize (if pk l at_ = 94 then at_ + 1 else at_) = i at *
  have hK1k := hK0k.put (hLb (i : Nat) false)
  have hK1z : hget (K0.set b (.cells 0 [L, .int .i64 (i : Nat), .bool false])) H.length 0 = some [.int .i64 0, .bool false, .nilS, .int .i64 0, .int .i64 0, .nilS] := by rw [hget_set_ne (by omega)]; exact hK0z
  have hK1n : hget (K0.set b (.cells 0 [L, .int .i64 (i : Nat), .bool false])) (H.length + 1) 0 = some [.int .i64 1, .bool false, .nilS, .int .i64 0, .int .i64 0, .nilS] := by rw [hget_set_ne (by omega)]; exact hK0n
  have hK1l : (K0.set b (.cells 0 [L, .int .i64 (i : Nat), .bool false])).length = H.length + 2 := by simp [hK0l]
  generalize K0.set b (.cells 0 [L, .int .i64 (i : Nat), .bool false]) = K1 at *
  have hput1 : hput prot K1 (H.length + 1) 0 1 [.bool nt] = some (K1.set (H.length + 1) (.cells 0 [.int .i64 1, .bool nt, .nilS, .int .i64 0, .int .i64 0, .nilS])) := by
    rw [hput_eq hK1n (by omega) (by simp) (by simp [AV.leaf])]; rfl
  have hK2k := hK1k.new (b' := H.length + 1) (by omega) (.cells 0 [.int .i64 1, .bool nt, .nilS, .int .i64 0, .int .i64 0, .nilS])
  have hK2z : hget (K1.set (H.length + 1) (.cells 0 [.int .i64 1, .bool nt, .nilS, .int .i64 0, .int .i64 0, .nilS])) H.length 0 = some [.int .i64 0, .bool false, .nilS, .int .i64 0, .int .i64 0, .nilS] := by rw [hget_set_ne (by omega)]; exact hK1z
  have hK2n : hget (K1.set (H.length + 1) (.cells 0 [.int .i64 1, .bool nt, .nilS, .int .i64 0, .int .i64 0, .nilS])) (H.length + 1) 0 = some [.int .i64 1, .bool nt, .nilS, .int .i64 0, .int .i64 0, .nilS] := by rw [hget_set_at (by omega)]
  have hK2l : (K1.set (H.length + 1) (.cells 0 [.int .i64 1, .bool nt, .nilS, .int .i64 0, .int .i64 0, .nilS])).length = H.length + 2 := by simp [hK1l]
  simp only [wk, aBuiltin, AV.cells, AV.leaf, Nat.reduceEqDiff, Nat.reduceLT, Nat.reduceAdd, Nat.reduceLeDiff, reduceCtorEq, Nat.reduceMul, cfgP, u85, hlen, a0, n1, hput1]
  generalize K1.set (H.length + 1) (.cells 0 [.int .i64 1, .bool nt, .nilS, .int .i64 0, .int .i64 0, .nilS]) = K2 at *
  refine loop_rule (fun m fr H' => ∃ (j : Nat) (bad : Bool) (acc : List Sg) (v : AV), (bad = false → j ≤ l.length ∧ l.length < j + m ∧ acc.length ≤ 4 * j) ∧ fr.length = 69 ∧ fget fr 0 = .ptr b 0 0 ∧ fget fr 2 = .ptr H.length 0 0 ∧ fget fr 3 = .ptr (H.length + 1) 0 0
    ∧ H.length + 2 ≤ H'.length ∧ Kp H b [L, .int .i64 (j : Nat), .bool bad] H' ∧ hget H' H.length 0 = some [.int .i64 0, .bool false, .nilS, .int .i64 0, .int .i64 0, .nilS] ∧ hget H' (H.length + 1) 0 = some [.int .i64 1, .bool nt, v, .int .i64 0, .int .i64 0, .nilS]
    ∧ Row encG 2 true (H.length + 2) H' v acc ∧ (v = .nilS ∨ acc ≠ []) ∧ rclassGo l (l.length + 2) i false [] = rclassGo l m j bad acc) ?_ (l.length + 2) _ _ ⟨i, false, [], .nilS, by
      refine ⟨fun _ => ⟨hj0, by omega, by simp⟩, ?_⟩
      simp [wk, aBuiltin, AV.cells, AV.leaf, Nat.reduceEqDiff, Nat.reduceLT, Nat.reduceAdd, Nat.reduceLeDiff, reduceCtorEq, Nat.reduceMul, cfgP, u85, hlen, a0, hK2l, hK2k, hK2z, hK2n, Row.nil]⟩
  clear hK2k hK2z hK2n hK2l K2 hput1 hK1k hK1z hK1n hK1l n1 hK0k hK0z hK0n hK0l a0 hlen fr
  rintro m fr H' ⟨j, bad, acc, v, hjk, hlen, a0, a2, a3, hH', kp, hz, hn, hrow, hne, hc⟩ ih
  have hbe : b < H'.length := by omega
  have hset : ∀ (c d : List AV), (H'.set b (.cells 0 c)).set b (.cells 0 d) = H'.set b (.cells 0 d) := fun c d => List.set_set ..
  have hgs : ∀ c, hget (H'.set b (.cells 0 c)) b 0 = some c := fun c => hget_set_at hbe
  have kps := fun (x : Int) (y : Bool) => kp.put (hLb x y)
  have hzs : ∀ c, hget (H'.set b (.cells 0 c)) H.length 0 = some [.int .i64 0, .bool false, .nilS, .int .i64 0, .int .i64 0, .nilS] := fun c => by rw [hget_set_ne (by omega)]; exact hz
  have hns : ∀ c, hget (H'.set b (.cells 0 c)) (H.length + 1) 0 = some [.int .i64 1, .bool nt, v, .int .i64 0, .int .i64 0, .nilS] := fun c => by rw [hget_set_ne (by omega)]; exact hn
  have hrs : ∀ c, Row encG 2 true (H.length + 2) (H'.set b (.cells 0 c)) v acc := fun c => hrow.setne (by omega) _
  have hvl : v.leaf = true := by rcases hrow with ⟨q, _⟩ | ⟨b, ver, q, _⟩ <;> rw [q] <;> rfl
  have hput2 : ∀ (c : Int) (y : Bool), hput prot (H'.set b (.cells 0 [L, .int .i64 c, .bool y])) b 0 2 [.bool true] = some (H'.set b (.cells 0 [L, .int .i64 c, .bool true])) := fun c y => by
    have := (hput3 (prot := prot) (a' := 0) (x' := true) (hgs [L, .int .i64 c, .bool y]) hp).2
    rw [List.set_set] at this; exact this
  have hset0 := set_self kp.get
  have hputZ : ∀ c, hput prot (H'.set b (.cells 0 c)) H.length 0 0 [.int .i64 1, .bool nt, v, .int .i64 0, .int .i64 0, .nilS] = some ((H'.set b (.cells 0 c)).set H.length (.cells 0 [.int .i64 1, .bool nt, v, .int .i64 0, .int .i64 0, .nilS])) := fun c => hput6 (hzs c) rfl (by omega) 1 nt v 0 0 .nilS hvl rfl
  have hgZ : ∀ c d, hget ((H'.set b (.cells 0 c)).set H.length (.cells 0 d)) H.length 0 = some d := fun c d => hget_set_at (by simp; omega)
  have hlenS : ∀ c, aLen Try.prog (H'.set b (.cells 0 c)) 44 v = some (.int .i64 (acc.length : Nat)) := fun c => (hrs c).len Try.underlying44
  have hl0 : decide (((acc.length : Nat) : Int) = 0) = decide (acc.length = 0) := by rw [decide_eq_decide]; omega
  cases bad with
  | true =>
    rw [hc, rclassGo_bad]
    dsimp only
    have hg1 := kp.get
    rw [← hset0] at hg1 ⊢
    rw [Bool.true_or]
    cases h0 : decide (acc.length = 0) with
    | true =>
      rw [h0] at hl0
      simp only [wk, aBuiltin, AV.cells, AV.leaf, Nat.reduceEqDiff, Nat.reduceLT, Nat.reduceAdd, Nat.reduceLeDiff, reduceCtorEq, Nat.reduceMul, cfgP, u85, hlen, a0, a2, a3, hgs, hns, hlenS, hl0, hput2, hputZ, none_beq]
      exact rcls_end (kps _ _) (hrs _) hne (by simp [wk, aBuiltin, AV.cells, AV.leaf, Nat.reduceEqDiff, Nat.reduceLT, Nat.reduceAdd, Nat.reduceLeDiff, reduceCtorEq, Nat.reduceMul, cfgP, u85, hlen, a0, a2, a3, hgZ, aResults, aResult])
    | false =>
      rw [h0] at hl0
      simp only [wk, aBuiltin, AV.cells, AV.leaf, Nat.reduceEqDiff, Nat.reduceLT, Nat.reduceAdd, Nat.reduceLeDiff, reduceCtorEq, Nat.reduceMul, cfgP, u85, hlen, a0, a2, a3, hgs, hns, hlenS, hl0, hputZ, none_beq]
      exact rcls_end (kps _ _) (hrs _) hne (by simp [wk, aBuiltin, AV.cells, AV.leaf, Nat.reduceEqDiff, Nat.reduceLT, Nat.reduceAdd, Nat.reduceLeDiff, reduceCtorEq, Nat.reduceMul, cfgP, u85, hlen, a0, a2, a3, hgZ, aResults, aResult])
  | false =>
  obtain ⟨hjl, hjk, hal⟩ := hjk rfl
  obtain ⟨k, rfl⟩ : ∃ m', m = m' + 1 := ⟨m - 1, by omega⟩
  have n1 := ris15_ok l L hL hl j b false 93 (by decide) prot H' hp kp.get
  by_cases h1 : pk l j = 93
  · have e : rclassGo l (k + 1) j false acc = (acc, j + 1, false) := by simp [rclassGo, h1]
    rw [hc, e]
    dsimp only
    rw [Bool.false_or]
    simp only [h1, if_true, decide_true] at n1
    cases h0 : decide (acc.length = 0) with
    | true =>
      rw [h0] at hl0
      simp only [wk, aBuiltin, AV.cells, AV.leaf, Nat.reduceEqDiff, Nat.reduceLT, Nat.reduceAdd, Nat.reduceLeDiff, reduceCtorEq, Nat.reduceMul, cfgP, u85, hlen, a0, a2, a3, kp.get, n1, hgs, hns, hlenS, hl0, hput2, hputZ, none_beq]
      exact rcls_end (kps _ _) (hrs _) hne (by simp [wk, aBuiltin, AV.cells, AV.leaf, Nat.reduceEqDiff, Nat.reduceLT, Nat.reduceAdd, Nat.reduceLeDiff, reduceCtorEq, Nat.reduceMul, cfgP, u85, hlen, a0, a2, a3, hgZ, aResults, aResult])
    | false =>
      rw [h0] at hl0
      simp only [wk, aBuiltin, AV.cells, AV.leaf, Nat.reduceEqDiff, Nat.reduceLT, Nat.reduceAdd, Nat.reduceLeDiff, reduceCtorEq, Nat.reduceMul, cfgP, u85, hlen, a0, a2, a3, kp.get, n1, hgs, hns, hlenS, hl0, hputZ, none_beq]
      exact rcls_end (kps _ _) (hrs _) hne (by simp [wk, aBuiltin, AV.cells, AV.leaf, Nat.reduceEqDiff, Nat.reduceLT, Nat.reduceAdd, Nat.reduceLeDiff, reduceCtorEq, Nat.reduceMul, cfgP, u85, hlen, a0, a2, a3, hgZ, aResults, aResult])
  simp only [h1, if_false, decide_false] at n1
  rw [hset0] at n1
  have n2 := rnext15_ok l L hL hl j b false (by omega) prot H' hp kp.get
  rw [Bool.false_or] at n2
  have step : ∀ (K : Heap) (c : List AV) (es : List Sg), H.length + 2 ≤ K.length → Kp H b c K → hget K H.length 0 = some [.int .i64 0, .bool false, .nilS, .int .i64 0, .int .i64 0, .nilS] → hget K (H.length + 1) 0 = some [.int .i64 1, .bool nt, v, .int .i64 0, .int .i64 0, .nilS] → Row encG 2 true (H.length + 2) K v acc → 0 < es.length → acc.length + es.length ≤ 10000000 →
      ∃ o H3, aAppend Try.prog prot K #[44, 44] v (.vs (es.map encG) true) = some (o, some H3) ∧ hget H3 (H.length + 1) 0 = some [.int .i64 1, .bool nt, v, .int .i64 0, .int .i64 0, .nilS] ∧
      hput prot H3 (H.length + 1) 0 2 [o] = some (H3.set (H.length + 1) (.cells 0 [.int .i64 1, .bool nt, o, .int .i64 0, .int .i64 0, .nilS])) ∧ (o.leaf = true ∧ o.cells = [o]) ∧ H.length + 2 ≤ (H3.set (H.length + 1) (.cells 0 [.int .i64 1, .bool nt, o, .int .i64 0, .int .i64 0, .nilS])).length ∧
      Kp H b c (H3.set (H.length + 1) (.cells 0 [.int .i64 1, .bool nt, o, .int .i64 0, .int .i64 0, .nilS])) ∧ hget (H3.set (H.length + 1) (.cells 0 [.int .i64 1, .bool nt, o, .int .i64 0, .int .i64 0, .nilS])) H.length 0 = some [.int .i64 0, .bool false, .nilS, .int .i64 0, .int .i64 0, .nilS] ∧ hget (H3.set (H.length + 1) (.cells 0 [.int .i64 1, .bool nt, o, .int .i64 0, .int .i64 0, .nilS])) (H.length + 1) 0 = some [.int .i64 1, .bool nt, o, .int .i64 0, .int .i64 0, .nilS] ∧
      Row encG 2 true (H.length + 2) (H3.set (H.length + 1) (.cells 0 [.int .i64 1, .bool nt, o, .int .i64 0, .int .i64 0, .nilS])) o (acc ++ es) ∧ (o = .nilS ∨ acc ++ es ≠ []) := fun K c es hK kpK hzK hnK hrK h0 hle => by
    obtain ⟨o, H3, happ, hrow3, hle3, hno, hk3, hold⟩ := hrK.appK (prot := prot) (xt := 44) encG_T rowG2 hxtG2 (elem_vs encG_T es true) h0 (by simp [roomy]; omega) (by omega) hK kpK (by omega)
    have hz3 := hold _ _ _ (by omega) hzK
    have hn3 := hold _ _ _ (by omega) hnK
    have hol : o.leaf = true := by rcases hrow3 with ⟨q, _⟩ | ⟨b, ver, q, _⟩ <;> rw [q] <;> rfl
    have hol2 : o.cells = [o] := by rcases hrow3 with ⟨q, _⟩ | ⟨b, ver, q, _⟩ <;> rw [q] <;> rfl
    have hle4 : H.length + 2 ≤ H3.length := by omega
    refine ⟨o, H3, happ, hn3, ?_, ⟨hol, hol2⟩, by simpa using hle4, hk3.new (by omega) _, by rw [hget_set_ne (by omega)]; exact hz3, hget_set_at (by omega), hrow3.setne (by omega) _, .inr (by intro h; have := congrArg List.length h; rw [List.length_append, List.length_nil] at this; omega)⟩
    rw [hput_eq hn3 (by omega) (by simp) (by simp only [List.all_cons, List.all_nil, hol]; rfl)]; rfl
  by_cases h2 : pk l j = 92
  · have hj1 := pk_in (l := l) (i := j) (by rw [h2]; decide)
    have e : rclassGo l (k + 1) j false acc = rclassGo l k (j + 2) (!(escS (pk l (j + 1))).2) (acc ++ (escS (pk l (j + 1))).1) := by simp [rclassGo, h2]
    rw [e] at hc
    rw [decide_eq_false (by omega : ¬ l.length ≤ j)] at n2
    have n3 := resc_ok l L hL hl (j + 1) b (by omega) false prot _ hp (hgs [L, .int .i64 ((j + 1 : Nat)), .bool false])
    rw [hset, Bool.false_or] at n3
    have h3 := escS_len (pk l (j + 1))
    obtain ⟨o, H3, happ, hn3, hput3, ⟨hol, hol2⟩, hres⟩ := step _ _ (escS (pk l (j + 1))).1 (by simp; omega) (kps (j + 2 : Nat) (!(escS (pk l (j + 1))).2)) (hzs _) (hns _) (hrs _) h3.1 (by omega)
    unfold AV.leaf at hol; unfold AV.cells at hol2
    simp only [wk, aBuiltin, AV.cells, AV.leaf, Nat.reduceEqDiff, Nat.reduceLT, Nat.reduceAdd, Nat.reduceLeDiff, reduceCtorEq, Nat.reduceMul, cfgP, u85, hlen, a0, a2, a3, kp.get, n1, n2, h2, hns, n3, happ, hol, hol2, hput3, none_beq]
    refine ⟨?_, ?_⟩
    · rw [show befs [] _ = [0, 1, 0, 4, 15, 31, 63] from by kernel_rfl]
      simp [wk, aBuiltin, AV.cells, AV.leaf, Nat.reduceEqDiff, Nat.reduceLT, Nat.reduceAdd, Nat.reduceLeDiff, reduceCtorEq, Nat.reduceMul, cfgP, u85, hlen, drawOk, chained, mayAt, sameAt, bound, List.range_succ, Nat.testBit, a0, a2, a3, hns, hn3, n3, happ, hol, hol2, hput3, avbeq_refl]
    refine ih _ _ k (by omega) ⟨j + 2, !(escS (pk l (j + 1))).2, acc ++ (escS (pk l (j + 1))).1, o, fun hb0 => ?_, ?_⟩
    · have hok : (escS (pk l (j + 1))).2 = true := by simpa using hb0
      have : j + 1 < l.length := pk_in (l := l) fun h => by rw [h] at hok; exact absurd hok (by decide)
      rw [List.length_append]; omega
    · exact ⟨by simp [wk, aBuiltin, AV.cells, AV.leaf, Nat.reduceEqDiff, Nat.reduceLT, Nat.reduceAdd, Nat.reduceLeDiff, reduceCtorEq, Nat.reduceMul, cfgP, u85, hlen], by simp [wk, aBuiltin, AV.cells, AV.leaf, Nat.reduceEqDiff, Nat.reduceLT, Nat.reduceAdd, Nat.reduceLeDiff, reduceCtorEq, Nat.reduceMul, cfgP, u85, hlen, a0], by simp [wk, aBuiltin, AV.cells, AV.leaf, Nat.reduceEqDiff, Nat.reduceLT, Nat.reduceAdd, Nat.reduceLeDiff, reduceCtorEq, Nat.reduceMul, cfgP, u85, hlen, a2], by simp [wk, aBuiltin, AV.cells, AV.leaf, Nat.reduceEqDiff, Nat.reduceLT, Nat.reduceAdd, Nat.reduceLeDiff, reduceCtorEq, Nat.reduceMul, cfgP, u85, hlen, a3], hres.1, hres.2.1, hres.2.2.1, hres.2.2.2.1, hres.2.2.2.2.1, hres.2.2.2.2.2, hc⟩
  have d2 : decide (pk l j = 92) = false := decide_eq_false h2
  have hl1 : ∀ c, (H'.set b (.cells 0 c)).length = H'.length := fun c => by simp
  have hplH : prot ≤ H'.length := by omega
  -- the span's block
  have hQ : ∀ X S, H'.set b (.cells 0 X) ++ [Blk.cells 0 S] = spQ H' b X S := fun _ _ => rfl
  have qb : ∀ X S, hget (spQ H' b X S) b 0 = some X := fun X S => hget_mono (hgs X) _
  have qset : ∀ X Y S, (spQ H' b X S).set b (.cells 0 Y) = spQ H' b Y S := fun X Y S => by unfold spQ; rw [set_app (by rw [hl1]; exact hbe), hset]
  have qz : ∀ X S, hget (spQ H' b X S) H.length 0 = some [.int .i64 0, .bool false, .nilS, .int .i64 0, .int .i64 0, .nilS] := fun X S => hget_mono (hzs X) _
  have qn : ∀ X S, hget (spQ H' b X S) (H.length + 1) 0 = some [.int .i64 1, .bool nt, v, .int .i64 0, .int .i64 0, .nilS] := fun X S => hget_mono (hns X) _
  have qs : ∀ X S, hget (spQ H' b X S) H'.length 0 = some S := fun X S => by unfold spQ; rw [hget_new (hl1 _).symm, if_pos rfl]
  have qr : ∀ X S, Row encG 2 true (H.length + 2) (spQ H' b X S) v acc := fun X S => (hrs X).more _
  have qk : ∀ (x : Int) (y : Bool) S, Kp H b [L, .int .i64 x, .bool y] (spQ H' b [L, .int .i64 x, .bool y] S) := fun x y S => (kps x y).app _
  have ql : ∀ X S, (spQ H' b X S).length = H'.length + 1 := fun X S => by simp [spQ]
  have qp2 : ∀ (x : Int) (y : Bool) S, hput prot (spQ H' b [L, .int .i64 x, .bool y] S) b 0 2 [.bool true] = some (spQ H' b [L, .int .i64 x, .bool true] S) := fun x y S => by
    have := (hput3 (prot := prot) (a' := 0) (x' := true) (qb [L, .int .i64 x, .bool y] S) hp).2
    rw [qset] at this; exact this
  have qpS : ∀ X (x y z : Int), hput prot (spQ H' b X [.int .i32 x, .int .i32 y]) H'.length 0 1 [.int .i32 z] = some (spQ H' b X [.int .i32 x, .int .i32 z]) := fun X x y z => by
    rw [hput_eq (qs X _) (by omega) (by simp) (by simp [AV.leaf])]
    unfold spQ
    rw [List.set_append_right _ _ (by rw [hl1]; omega), hl1, Nat.sub_self]
    rfl
  have hpq : ∀ X S, prot ≤ (spQ H' b X S).length := fun X S => by rw [ql]; omega
  have hq := fun X S => rone_ok cls1 (pk l j) (by decide) prot (spQ H' b X S) (hpq X S)
  have hq2 := fun X S => rone_ok cls2 (pk l (j + 2)) (by decide) prot (spQ H' b X S) (hpq X S)
  unfold cls1 at hq
  unfold cls2 at hq2
  have n4 := fun (y : Bool) S => ris15_ok l L hL hl (j + 1) b y 45 (by decide) prot _ hp (qb [L, .int .i64 ((j + 1 : Nat)), .bool y] S)
  simp only [qset] at n4
  simp only [wk, aBuiltin, AV.cells, AV.leaf, Nat.reduceEqDiff, Nat.reduceLT, Nat.reduceAdd, Nat.reduceLeDiff, reduceCtorEq, Nat.reduceMul, cfgP, u85, hlen, a0, a2, a3, kp.get, n1, n2, d2, hl1, hplH, none_beq]
  simp only [hQ]
  by_cases h45 : pk l (j + 1) = 45
  · have hj1 := pk_in (l := l) (i := j + 1) (by rw [h45]; decide)
    have hc0 : 0 ≤ pk l j := by rw [pk_lt (by omega)]; exact (hl.2 _ (List.getElem_mem _)).1
    simp only [h45, if_true, decide_true] at n4
    have e : rclassGo l (k + 1) j false acc = rclassGo l k (j + 3) (hasS cls1 (pk l j) || (hasS cls2 (pk l (j + 2)) || decide (pk l (j + 2) < pk l j))) (acc ++ [⟨pk l j, pk l (j + 2)⟩]) := by simp [rclassGo, h1, h2, h45]
    rw [e] at hc
    unfold cls1 cls2 at hc
    rw [decide_eq_false (by omega : ¬ l.length ≤ j)]
    have n5 := fun (y : Bool) S => rnext15_ok l L hL hl (j + 1 + 1) b y (by omega) prot _ hp (qb [L, .int .i64 ((j + 1 + 1 : Nat)), .bool y] S)
    simp only [qset] at n5
    cases hq1 : hasS [91, 93, 94, 45] (pk l j) with
    | true =>
      simp only [hq1] at hq
      rw [hq1] at hc; simp only [Bool.true_or] at hc
      cases hv2 : hasS [91, 93, 94, 45, 92] (pk l (j + 2)) with
      | true =>
        have dlt : True := trivial
        simp only [hv2] at hq2
        skip
        obtain ⟨o, H3, happ, hn3, hput3, ⟨hol, hol2⟩, hres⟩ := step _ _ [⟨pk l j, pk l (j + 2)⟩] (by rw [ql]; omega) (qk ((j + 3 : Nat) : Int) (true) [.int .i32 (pk l j), .int .i32 (pk l (j + 2))]) (qz _ _) (qn _ _) (qr _ _) (by simp) (by simp; omega)
        unfold AV.leaf at hol; unfold AV.cells at hol2
        simp only [wk, aBuiltin, AV.cells, AV.leaf, Nat.reduceEqDiff, Nat.reduceLT, Nat.reduceAdd, Nat.reduceLeDiff, reduceCtorEq, Nat.reduceMul, cfgP, u85, hlen, a0, a2, a3, hq, hpq, qp2, n4, n5, qpS, hq2, dlt, qn, qs, rlitG1, happ, hol, hol2, hput3, none_beq]
        refine ih _ _ k (by omega) ⟨j + 3, true, acc ++ [⟨pk l j, pk l (j + 2)⟩], o, (fun h => by cases h), ?_⟩
        refine ⟨by simp [wk, aBuiltin, AV.cells, AV.leaf, Nat.reduceEqDiff, Nat.reduceLT, Nat.reduceAdd, Nat.reduceLeDiff, reduceCtorEq, Nat.reduceMul, cfgP, u85, hlen], by simp [wk, aBuiltin, AV.cells, AV.leaf, Nat.reduceEqDiff, Nat.reduceLT, Nat.reduceAdd, Nat.reduceLeDiff, reduceCtorEq, Nat.reduceMul, cfgP, u85, hlen, a0], by simp [wk, aBuiltin, AV.cells, AV.leaf, Nat.reduceEqDiff, Nat.reduceLT, Nat.reduceAdd, Nat.reduceLeDiff, reduceCtorEq, Nat.reduceMul, cfgP, u85, hlen, a2], by simp [wk, aBuiltin, AV.cells, AV.leaf, Nat.reduceEqDiff, Nat.reduceLT, Nat.reduceAdd, Nat.reduceLeDiff, reduceCtorEq, Nat.reduceMul, cfgP, u85, hlen, a3], hres.1, hres.2.1, hres.2.2.1, hres.2.2.2.1, hres.2.2.2.2.1, hres.2.2.2.2.2, ?_⟩
        rw [hc]
      | false =>
        simp only [hv2] at hq2
        by_cases hlt : pk l (j + 2) < pk l j
        · have dlt : decide (pk l (j + 2) < pk l j) = true := decide_eq_true hlt
          skip
          obtain ⟨o, H3, happ, hn3, hput3, ⟨hol, hol2⟩, hres⟩ := step _ _ [⟨pk l j, pk l (j + 2)⟩] (by rw [ql]; omega) (qk ((j + 3 : Nat) : Int) (true) [.int .i32 (pk l j), .int .i32 (pk l (j + 2))]) (qz _ _) (qn _ _) (qr _ _) (by simp) (by simp; omega)
          unfold AV.leaf at hol; unfold AV.cells at hol2
          simp only [wk, aBuiltin, AV.cells, AV.leaf, Nat.reduceEqDiff, Nat.reduceLT, Nat.reduceAdd, Nat.reduceLeDiff, reduceCtorEq, Nat.reduceMul, cfgP, u85, hlen, a0, a2, a3, hq, hpq, qp2, n4, n5, qpS, hq2, dlt, qn, qs, rlitG1, happ, hol, hol2, hput3, none_beq]
          refine ih _ _ k (by omega) ⟨j + 3, true, acc ++ [⟨pk l j, pk l (j + 2)⟩], o, (fun h => by cases h), ?_⟩
          refine ⟨by simp [wk, aBuiltin, AV.cells, AV.leaf, Nat.reduceEqDiff, Nat.reduceLT, Nat.reduceAdd, Nat.reduceLeDiff, reduceCtorEq, Nat.reduceMul, cfgP, u85, hlen], by simp [wk, aBuiltin, AV.cells, AV.leaf, Nat.reduceEqDiff, Nat.reduceLT, Nat.reduceAdd, Nat.reduceLeDiff, reduceCtorEq, Nat.reduceMul, cfgP, u85, hlen, a0], by simp [wk, aBuiltin, AV.cells, AV.leaf, Nat.reduceEqDiff, Nat.reduceLT, Nat.reduceAdd, Nat.reduceLeDiff, reduceCtorEq, Nat.reduceMul, cfgP, u85, hlen, a2], by simp [wk, aBuiltin, AV.cells, AV.leaf, Nat.reduceEqDiff, Nat.reduceLT, Nat.reduceAdd, Nat.reduceLeDiff, reduceCtorEq, Nat.reduceMul, cfgP, u85, hlen, a3], hres.1, hres.2.1, hres.2.2.1, hres.2.2.2.1, hres.2.2.2.2.1, hres.2.2.2.2.2, ?_⟩
          rw [hc]
        · have dlt : decide (pk l (j + 2) < pk l j) = false := decide_eq_false hlt
          skip
          have hin2 : decide (l.length ≤ j + 2) = false := decide_eq_false (by have := pk_in (l := l) (i := j + 2) (by omega); omega)
          obtain ⟨o, H3, happ, hn3, hput3, ⟨hol, hol2⟩, hres⟩ := step _ _ [⟨pk l j, pk l (j + 2)⟩] (by rw [ql]; omega) (qk ((j + 3 : Nat) : Int) ((true || decide (l.length ≤ j + 2))) [.int .i32 (pk l j), .int .i32 (pk l (j + 2))]) (qz _ _) (qn _ _) (qr _ _) (by simp) (by simp; omega)
          unfold AV.leaf at hol; unfold AV.cells at hol2
          simp only [wk, aBuiltin, AV.cells, AV.leaf, Nat.reduceEqDiff, Nat.reduceLT, Nat.reduceAdd, Nat.reduceLeDiff, reduceCtorEq, Nat.reduceMul, cfgP, u85, hlen, a0, a2, a3, hq, hpq, qp2, n4, n5, qpS, hq2, dlt, qn, qs, rlitG1, happ, hol, hol2, hput3, none_beq]
          refine ih _ _ k (by omega) ⟨j + 3, (true || decide (l.length ≤ j + 2)), acc ++ [⟨pk l j, pk l (j + 2)⟩], o, (fun h => by simp at h), ?_⟩
          refine ⟨by simp [wk, aBuiltin, AV.cells, AV.leaf, Nat.reduceEqDiff, Nat.reduceLT, Nat.reduceAdd, Nat.reduceLeDiff, reduceCtorEq, Nat.reduceMul, cfgP, u85, hlen], by simp [wk, aBuiltin, AV.cells, AV.leaf, Nat.reduceEqDiff, Nat.reduceLT, Nat.reduceAdd, Nat.reduceLeDiff, reduceCtorEq, Nat.reduceMul, cfgP, u85, hlen, a0], by simp [wk, aBuiltin, AV.cells, AV.leaf, Nat.reduceEqDiff, Nat.reduceLT, Nat.reduceAdd, Nat.reduceLeDiff, reduceCtorEq, Nat.reduceMul, cfgP, u85, hlen, a2], by simp [wk, aBuiltin, AV.cells, AV.leaf, Nat.reduceEqDiff, Nat.reduceLT, Nat.reduceAdd, Nat.reduceLeDiff, reduceCtorEq, Nat.reduceMul, cfgP, u85, hlen, a3], hres.1, hres.2.1, hres.2.2.1, hres.2.2.2.1, hres.2.2.2.2.1, hres.2.2.2.2.2, ?_⟩
          rw [hc]; rw [Bool.true_or]
    | false =>
      simp only [hq1] at hq
      rw [hq1] at hc; simp only [Bool.false_or] at hc
      cases hv2 : hasS [91, 93, 94, 45, 92] (pk l (j + 2)) with
      | true =>
        have dlt : True := trivial
        simp only [hv2] at hq2
        rw [hv2] at hc; simp only [Bool.true_or, Bool.or_true] at hc
        obtain ⟨o, H3, happ, hn3, hput3, ⟨hol, hol2⟩, hres⟩ := step _ _ [⟨pk l j, pk l (j + 2)⟩] (by rw [ql]; omega) (qk ((j + 3 : Nat) : Int) (true) [.int .i32 (pk l j), .int .i32 (pk l (j + 2))]) (qz _ _) (qn _ _) (qr _ _) (by simp) (by simp; omega)
        unfold AV.leaf at hol; unfold AV.cells at hol2
        simp only [wk, aBuiltin, AV.cells, AV.leaf, Nat.reduceEqDiff, Nat.reduceLT, Nat.reduceAdd, Nat.reduceLeDiff, reduceCtorEq, Nat.reduceMul, cfgP, u85, hlen, a0, a2, a3, hq, hpq, qp2, n4, n5, qpS, hq2, dlt, qn, qs, rlitG1, happ, hol, hol2, hput3, none_beq]
        refine ih _ _ k (by omega) ⟨j + 3, true, acc ++ [⟨pk l j, pk l (j + 2)⟩], o, (fun h => by cases h), ?_⟩
        refine ⟨by simp [wk, aBuiltin, AV.cells, AV.leaf, Nat.reduceEqDiff, Nat.reduceLT, Nat.reduceAdd, Nat.reduceLeDiff, reduceCtorEq, Nat.reduceMul, cfgP, u85, hlen], by simp [wk, aBuiltin, AV.cells, AV.leaf, Nat.reduceEqDiff, Nat.reduceLT, Nat.reduceAdd, Nat.reduceLeDiff, reduceCtorEq, Nat.reduceMul, cfgP, u85, hlen, a0], by simp [wk, aBuiltin, AV.cells, AV.leaf, Nat.reduceEqDiff, Nat.reduceLT, Nat.reduceAdd, Nat.reduceLeDiff, reduceCtorEq, Nat.reduceMul, cfgP, u85, hlen, a2], by simp [wk, aBuiltin, AV.cells, AV.leaf, Nat.reduceEqDiff, Nat.reduceLT, Nat.reduceAdd, Nat.reduceLeDiff, reduceCtorEq, Nat.reduceMul, cfgP, u85, hlen, a3], hres.1, hres.2.1, hres.2.2.1, hres.2.2.2.1, hres.2.2.2.2.1, hres.2.2.2.2.2, ?_⟩
        rw [hc]
      | false =>
        simp only [hv2] at hq2
        by_cases hlt : pk l (j + 2) < pk l j
        · have dlt : decide (pk l (j + 2) < pk l j) = true := decide_eq_true hlt
          rw [hv2, dlt] at hc; simp only [Bool.false_or, Bool.or_true] at hc
          obtain ⟨o, H3, happ, hn3, hput3, ⟨hol, hol2⟩, hres⟩ := step _ _ [⟨pk l j, pk l (j + 2)⟩] (by rw [ql]; omega) (qk ((j + 3 : Nat) : Int) (true) [.int .i32 (pk l j), .int .i32 (pk l (j + 2))]) (qz _ _) (qn _ _) (qr _ _) (by simp) (by simp; omega)
          unfold AV.leaf at hol; unfold AV.cells at hol2
          simp only [wk, aBuiltin, AV.cells, AV.leaf, Nat.reduceEqDiff, Nat.reduceLT, Nat.reduceAdd, Nat.reduceLeDiff, reduceCtorEq, Nat.reduceMul, cfgP, u85, hlen, a0, a2, a3, hq, hpq, qp2, n4, n5, qpS, hq2, dlt, qn, qs, rlitG1, happ, hol, hol2, hput3, none_beq]
          refine ih _ _ k (by omega) ⟨j + 3, true, acc ++ [⟨pk l j, pk l (j + 2)⟩], o, (fun h => by cases h), ?_⟩
          refine ⟨by simp [wk, aBuiltin, AV.cells, AV.leaf, Nat.reduceEqDiff, Nat.reduceLT, Nat.reduceAdd, Nat.reduceLeDiff, reduceCtorEq, Nat.reduceMul, cfgP, u85, hlen], by simp [wk, aBuiltin, AV.cells, AV.leaf, Nat.reduceEqDiff, Nat.reduceLT, Nat.reduceAdd, Nat.reduceLeDiff, reduceCtorEq, Nat.reduceMul, cfgP, u85, hlen, a0], by simp [wk, aBuiltin, AV.cells, AV.leaf, Nat.reduceEqDiff, Nat.reduceLT, Nat.reduceAdd, Nat.reduceLeDiff, reduceCtorEq, Nat.reduceMul, cfgP, u85, hlen, a2], by simp [wk, aBuiltin, AV.cells, AV.leaf, Nat.reduceEqDiff, Nat.reduceLT, Nat.reduceAdd, Nat.reduceLeDiff, reduceCtorEq, Nat.reduceMul, cfgP, u85, hlen, a3], hres.1, hres.2.1, hres.2.2.1, hres.2.2.2.1, hres.2.2.2.2.1, hres.2.2.2.2.2, ?_⟩
          rw [hc]
        · have dlt : decide (pk l (j + 2) < pk l j) = false := decide_eq_false hlt
          rw [hv2, dlt] at hc; simp only [Bool.or_false] at hc
          have hin2 : decide (l.length ≤ j + 2) = false := decide_eq_false (by have := pk_in (l := l) (i := j + 2) (by omega); omega)
          obtain ⟨o, H3, happ, hn3, hput3, ⟨hol, hol2⟩, hres⟩ := step _ _ [⟨pk l j, pk l (j + 2)⟩] (by rw [ql]; omega) (qk ((j + 3 : Nat) : Int) ((false || decide (l.length ≤ j + 2))) [.int .i32 (pk l j), .int .i32 (pk l (j + 2))]) (qz _ _) (qn _ _) (qr _ _) (by simp) (by simp; omega)
          unfold AV.leaf at hol; unfold AV.cells at hol2
          simp only [wk, aBuiltin, AV.cells, AV.leaf, Nat.reduceEqDiff, Nat.reduceLT, Nat.reduceAdd, Nat.reduceLeDiff, reduceCtorEq, Nat.reduceMul, cfgP, u85, hlen, a0, a2, a3, hq, hpq, qp2, n4, n5, qpS, hq2, dlt, qn, qs, rlitG1, happ, hol, hol2, hput3, none_beq]
          refine ih _ _ k (by omega) ⟨j + 3, (false || decide (l.length ≤ j + 2)), acc ++ [⟨pk l j, pk l (j + 2)⟩], o, (fun _ => by have := of_decide_eq_false hin2; simp; omega), ?_⟩
          refine ⟨by simp [wk, aBuiltin, AV.cells, AV.leaf, Nat.reduceEqDiff, Nat.reduceLT, Nat.reduceAdd, Nat.reduceLeDiff, reduceCtorEq, Nat.reduceMul, cfgP, u85, hlen], by simp [wk, aBuiltin, AV.cells, AV.leaf, Nat.reduceEqDiff, Nat.reduceLT, Nat.reduceAdd, Nat.reduceLeDiff, reduceCtorEq, Nat.reduceMul, cfgP, u85, hlen, a0], by simp [wk, aBuiltin, AV.cells, AV.leaf, Nat.reduceEqDiff, Nat.reduceLT, Nat.reduceAdd, Nat.reduceLeDiff, reduceCtorEq, Nat.reduceMul, cfgP, u85, hlen, a2], by simp [wk, aBuiltin, AV.cells, AV.leaf, Nat.reduceEqDiff, Nat.reduceLT, Nat.reduceAdd, Nat.reduceLeDiff, reduceCtorEq, Nat.reduceMul, cfgP, u85, hlen, a3], hres.1, hres.2.1, hres.2.2.1, hres.2.2.2.1, hres.2.2.2.2.1, hres.2.2.2.2.2, ?_⟩
          rw [hc]; rw [hin2, Bool.or_false]
  · simp only [h45, if_false, decide_false] at n4
    have e : rclassGo l (k + 1) j false acc = rclassGo l k (j + 1) (decide (l.length ≤ j) || hasS cls1 (pk l j)) (acc ++ [⟨pk l j, pk l j⟩]) := by simp [rclassGo, h1, h2, h45]
    rw [e] at hc
    unfold cls1 at hc
    cases hq1 : hasS [91, 93, 94, 45] (pk l j) with
    | true =>
      rw [hq1, Bool.or_true] at hc
      simp only [hq1] at hq
      obtain ⟨o, H3, happ, hn3, hput3, ⟨hol, hol2⟩, hres⟩ := step _ _ [⟨pk l j, pk l j⟩] (by rw [ql]; omega) (qk ((j + 1 : Nat) : Int) true [.int .i32 (pk l j), .int .i32 (pk l j)]) (qz _ _) (qn _ _) (qr _ _) (by simp) (by simp; omega)
      unfold AV.leaf at hol; unfold AV.cells at hol2
      simp only [wk, aBuiltin, AV.cells, AV.leaf, Nat.reduceEqDiff, Nat.reduceLT, Nat.reduceAdd, Nat.reduceLeDiff, reduceCtorEq, Nat.reduceMul, cfgP, u85, hlen, a0, a2, a3, hq, hpq, qp2, n4, qn, qs, rlitG1, happ, hol, hol2, hput3, none_beq]
      refine ih _ _ k (by omega) ⟨j + 1, true, acc ++ [⟨pk l j, pk l j⟩], o, (fun h => by cases h), ?_⟩
      exact ⟨by simp [wk, aBuiltin, AV.cells, AV.leaf, Nat.reduceEqDiff, Nat.reduceLT, Nat.reduceAdd, Nat.reduceLeDiff, reduceCtorEq, Nat.reduceMul, cfgP, u85, hlen], by simp [wk, aBuiltin, AV.cells, AV.leaf, Nat.reduceEqDiff, Nat.reduceLT, Nat.reduceAdd, Nat.reduceLeDiff, reduceCtorEq, Nat.reduceMul, cfgP, u85, hlen, a0], by simp [wk, aBuiltin, AV.cells, AV.leaf, Nat.reduceEqDiff, Nat.reduceLT, Nat.reduceAdd, Nat.reduceLeDiff, reduceCtorEq, Nat.reduceMul, cfgP, u85, hlen, a2], by simp [wk, aBuiltin, AV.cells, AV.leaf, Nat.reduceEqDiff, Nat.reduceLT, Nat.reduceAdd, Nat.reduceLeDiff, reduceCtorEq, Nat.reduceMul, cfgP, u85, hlen, a3], hres.1, hres.2.1, hres.2.2.1, hres.2.2.2.1, hres.2.2.2.2.1, hres.2.2.2.2.2, hc⟩
    | false =>
      rw [hq1, Bool.or_false] at hc
      simp only [hq1] at hq
      obtain ⟨o, H3, happ, hn3, hput3, ⟨hol, hol2⟩, hres⟩ := step _ _ [⟨pk l j, pk l j⟩] (by rw [ql]; omega) (qk ((j + 1 : Nat) : Int) (decide (l.length ≤ j)) [.int .i32 (pk l j), .int .i32 (pk l j)]) (qz _ _) (qn _ _) (qr _ _) (by simp) (by simp; omega)
      unfold AV.leaf at hol; unfold AV.cells at hol2
      simp only [wk, aBuiltin, AV.cells, AV.leaf, Nat.reduceEqDiff, Nat.reduceLT, Nat.reduceAdd, Nat.reduceLeDiff, reduceCtorEq, Nat.reduceMul, cfgP, u85, hlen, a0, a2, a3, hq, hpq, qp2, n4, qn, qs, rlitG1, happ, hol, hol2, hput3, none_beq]
      refine ih _ _ k (by omega) ⟨j + 1, decide (l.length ≤ j), acc ++ [⟨pk l j, pk l j⟩], o, (fun h => by have := of_decide_eq_false h; simp; omega), ?_⟩
      exact ⟨by simp [wk, aBuiltin, AV.cells, AV.leaf, Nat.reduceEqDiff, Nat.reduceLT, Nat.reduceAdd, Nat.reduceLeDiff, reduceCtorEq, Nat.reduceMul, cfgP, u85, hlen], by simp [wk, aBuiltin, AV.cells, AV.leaf, Nat.reduceEqDiff, Nat.reduceLT, Nat.reduceAdd, Nat.reduceLeDiff, reduceCtorEq, Nat.reduceMul, cfgP, u85, hlen, a0], by simp [wk, aBuiltin, AV.cells, AV.leaf, Nat.reduceEqDiff, Nat.reduceLT, Nat.reduceAdd, Nat.reduceLeDiff, reduceCtorEq, Nat.reduceMul, cfgP, u85, hlen, a2], by simp [wk, aBuiltin, AV.cells, AV.leaf, Nat.reduceEqDiff, Nat.reduceLT, Nat.reduceAdd, Nat.reduceLeDiff, reduceCtorEq, Nat.reduceMul, cfgP, u85, hlen, a3], hres.1, hres.2.1, hres.2.2.1, hres.2.2.2.1, hres.2.2.2.2.1, hres.2.2.2.2.2, hc⟩
end Go.Proofs.Ytoblikhnbddfmaa
/-! Chapter 15 of the document: what its reader reads is what the program's one reads. -/
namespace Go.Proofs.Ytoblikhnbddfmaa
open Go Go.Abs AbsSeat Ty

/-- how often, as the document's reader reads it. -/
def timesR (l : List Int) (i : Nat) : Int × Int × Nat × Bool :=
  let j := i + numL l i
  if pk l j = 44 then
    if pk l (j + 1) = 125 then (numV l i, -1, j + 2, !numB l i)
    else
      let m := j + 1 + numL l (j + 1)
      if numV l (j + 1) < numV l i then (numV l i, numV l (j + 1), m, true)
      else if pk l m = 125 then (numV l i, numV l (j + 1), m + 1, !numB l i || !numB l (j + 1)) else (numV l i, numV l (j + 1), m, true)
  else if pk l j = 125 then (numV l i, numV l i, j + 1, !numB l i) else (numV l i, numV l i, j, true)
theorem timesR_eq (l : List Int) (i : Nat) : if (timesS l i).ok = true then timesR l i = ((timesS l i).lo, (timesS l i).hi, (timesS l i).at_, false) else (timesR l i).2.2.2 = true := by
  unfold timesS timesR
  dsimp only
  cases h1 : numB l i with
  | false =>
    simp only [Bool.false_eq_true, if_false, Bool.not_false, Bool.true_or]
    repeat' split
    all_goals rfl
  | true =>
    simp only [if_true, Bool.not_true, Bool.false_or]
    by_cases h2 : pk l (i + numL l i) = 44
    · simp only [h2, if_true]
      by_cases h3 : pk l (i + numL l i + 1) = 125
      · simp [h3]
      · simp only [h3, if_false]
        cases h4 : numB l (i + numL l i + 1) with
        | false =>
          simp only [Bool.false_and, Bool.false_eq_true, if_false, Bool.not_false]
          repeat' split
          all_goals rfl
        | true =>
          by_cases h5 : numV l i ≤ numV l (i + numL l i + 1)
          · have h6 : ¬ numV l (i + numL l i + 1) < numV l i := by omega
            simp only [h5, h6, Bool.true_and, decide_true, if_true, if_false, Bool.not_true]
            by_cases h7 : pk l (i + numL l i + 1 + numL l (i + numL l i + 1)) = 125 <;> simp [h7]
          · have h6 : numV l (i + numL l i + 1) < numV l i := by omega
            simp [h5, h6]
    · simp only [h2, if_false]
      by_cases h3 : pk l (i + numL l i) = 125 <;> simp [h3]
mutual
def atomR (l : List Int) : Nat → Nat → Nat → Rb
  | 0, j, _ => ⟨ndZ, j, true⟩
  | k + 1, j, d =>
    if pk l j = 46 then ⟨.mk 1 true false [] 0 0 false [], j + 1, false⟩
    else if pk l j = 92 then ⟨.mk 1 false true (escS (pk l (j + 1))).1 0 0 false [], j + 2, !(escS (pk l (j + 1))).2⟩
    else if pk l j = 91 then classR l (j + 1)
    else if pk l j = 40 then
      if 16 ≤ d then ⟨ndZ, j + 1, true⟩
      else
        let r := eitherR l k (j + 1) (d + 1)
        if pk l r.at_ = 41 then ⟨r.n, r.at_ + 1, r.bad⟩ else ⟨r.n, r.at_, true⟩
    else ⟨.mk 1 false true [⟨pk l j, pk l j⟩] 0 0 false [], j + 1, hasS ats (pk l j)⟩
def pieceR (l : List Int) : Nat → Nat → Nat → Rb
  | 0, j, _ => ⟨ndZ, j, true⟩
  | k + 1, j, d =>
    let r := atomR l k j d
    if r.bad = true then r
    else if pk l r.at_ = 42 then ⟨ndR r.n 0 (-1), r.at_ + 1, false⟩
    else if pk l r.at_ = 43 then ⟨ndR r.n 1 (-1), r.at_ + 1, false⟩
    else if pk l r.at_ = 63 then ⟨ndR r.n 0 1, r.at_ + 1, false⟩
    else if pk l r.at_ = 123 then ⟨ndR r.n (timesR l (r.at_ + 1)).1 (timesR l (r.at_ + 1)).2.1, (timesR l (r.at_ + 1)).2.2.1, (timesR l (r.at_ + 1)).2.2.2⟩
    else r
def concatR (l : List Int) : Nat → Nat → Bool → Nat → List Nd → Rb
  | 0, j, _, _, acc => ⟨conN acc, j, true⟩
  | k + 1, j, bad, d, acc =>
    if bad = true then ⟨conN acc, j, true⟩
    else if pk l j = -1 ∨ pk l j = 124 ∨ pk l j = 41 then ⟨conN acc, j, false⟩
    else concatR l k (pieceR l k j d).at_ (pieceR l k j d).bad d (acc ++ [(pieceR l k j d).n])
def eitGo (l : List Int) : Nat → Nat → Bool → Nat → List Nd → Rb
  | 0, j, _, _, acc => ⟨eitN acc, j, true⟩
  | k + 1, j, bad, d, acc =>
    if bad = true then ⟨eitN acc, j, true⟩
    else if pk l j = 124 then eitGo l k (concatR l k (j + 1) false d []).at_ (concatR l k (j + 1) false d []).bad d (acc ++ [(concatR l k (j + 1) false d []).n])
    else ⟨eitN acc, j, false⟩
def eitherR (l : List Int) : Nat → Nat → Nat → Rb
  | 0, j, _ => ⟨ndZ, j, true⟩
  | k + 1, j, d => eitGo l k (concatR l k j false d []).at_ (concatR l k j false d []).bad d [(concatR l k j false d []).n]
end
theorem concatR_bad (l : List Int) (k j d : Nat) (acc : List Nd) : (concatR l k j true d acc) = ⟨conN acc, j, true⟩ := by cases k <;> simp [concatR]
theorem eitGo_bad (l : List Int) (k j d : Nat) (acc : List Nd) : (eitGo l k j true d acc) = ⟨eitN acc, j, true⟩ := by cases k <;> simp [eitGo]
/-- the two readings are alike. -/
def Alike (r : Rd) (q : Rb) : Prop := if r.ok = true then q = ⟨r.n, r.at_, false⟩ else q.bad = true
theorem Alike.yes {r : Rd} {q : Rb} (h : Alike r q) (hr : r.ok = true) : q = ⟨r.n, r.at_, false⟩ := by unfold Alike at h; rw [if_pos hr] at h; exact h
theorem Alike.no {r : Rd} {q : Rb} (h : Alike r q) (hr : ¬ r.ok = true) : q.bad = true := by unfold Alike at h; rw [if_neg hr] at h; exact h
theorem Alike.bad {r : Rd} {q : Rb} (hr : r.ok = false) (h : q.bad = true) : Alike r q := by unfold Alike; rw [hr]; exact h
theorem Alike.same (n : Nd) (j : Nat) : Alike ⟨n, j, true⟩ ⟨n, j, false⟩ := rfl
theorem class_alike {l : List Int} (hl : Runes l) (j : Nat) : Alike (classS l j) (classR l j) := by
  unfold classS classR
  dsimp only
  have h := rclassGo_eq hl (l.length + 2) (if pk l j = 94 then j + 1 else j) []
  generalize (if pk l j = 94 then j + 1 else j) = i at *
  generalize classGo l (l.length + 2) i [] = g at *
  generalize rclassGo l (l.length + 2) i false [] = q at *
  obtain ⟨a, b, c⟩ := g
  dsimp only at h ⊢
  cases c with
  | true =>
    rw [if_pos rfl] at h
    subst h
    dsimp only
    rw [Bool.true_and, Bool.false_or]
    by_cases h0 : 0 < a.length
    · rw [decide_eq_true h0, decide_eq_false (by omega : ¬ a.length = 0)]; exact .same _ _
    · rw [decide_eq_false h0, decide_eq_true (by omega : a.length = 0)]; exact .bad rfl rfl
  | false =>
    rw [if_neg (by simp)] at h
    exact .bad rfl (by simp [h])
theorem read_alike {l : List Int} (hl : Runes l) : ∀ k : Nat, (∀ j d, j < l.length → Alike (atomS l k j d) (atomR l k j d)) ∧ (∀ j d, j < l.length → Alike (pieceS l k j d) (pieceR l k j d)) ∧
    (∀ j d acc, j ≤ l.length → Alike (concatS l k j d acc) (concatR l k j false d acc)) ∧
    (∀ j d acc, j ≤ l.length → Alike (eitherS l (k + 1) j d acc) (eitGo l k (concatR l k j false d []).at_ (concatR l k j false d []).bad d (acc ++ [(concatR l k j false d []).n])))
  | 0 => ⟨fun j d _ => .bad (by simp [atomS]) (by simp [atomR]), fun j d _ => .bad (by simp [pieceS]) (by simp [pieceR]), fun j d acc _ => .bad (by simp [concatS]) (by simp [concatR]), fun j d acc _ => .bad (by simp [eitherS, concatS]) (by simp [eitGo])⟩
  | k + 1 => by
    obtain ⟨ha, hp, hc, he⟩ := read_alike hl k
    have hcc : ∀ j d acc, j ≤ l.length → Alike (concatS l (k + 1) j d acc) (concatR l (k + 1) j false d acc) := fun j d acc hj => by
      rw [concatS, concatR, if_neg (by simp : ¬ false = true)]
      by_cases h1 : pk l j = -1 ∨ pk l j = 124 ∨ pk l j = 41
      · rw [if_pos h1, if_pos h1]; exact .same _ _
      · rw [if_neg h1, if_neg h1]
        have hjl := pk_in (l := l) (i := j) fun h => h1 (.inl h)
        have h2 := hp j d hjl
        try dsimp only
        by_cases h3 : (pieceS l k j d).ok = true
        · rw [if_pos h3, h2.yes h3]
          exact hc _ _ _ ((readS_in l k).2.1 j d h3).2
        · rw [if_neg h3, h2.no h3, concatR_bad]
          exact .bad (Bool.eq_false_iff.2 h3) rfl
    refine ⟨fun j d hj => ?_, fun j d hj => ?_, hcc, fun j d acc hj => ?_⟩
    · rw [atomS, atomR]
      try dsimp only
      by_cases h1 : pk l j = 40
      · rw [if_pos h1, if_neg (show ¬ pk l j = 46 by omega), if_neg (show ¬ pk l j = 92 by omega), if_neg (show ¬ pk l j = 91 by omega), if_pos h1]
        by_cases h2 : 16 ≤ d
        · rw [if_pos h2, if_pos h2]; exact .bad rfl rfl
        · rw [if_neg h2, if_neg h2]
          have h3 : Alike (eitherS l k (j + 1) (d + 1) []) (eitherR l k (j + 1) (d + 1)) := by
            cases k with
            | zero => exact .bad (by simp [eitherS]) (by simp [eitherR])
            | succ k => rw [eitherR]; exact (read_alike hl k).2.2.2 (j + 1) (d + 1) [] hj
          by_cases h4 : (eitherS l k (j + 1) (d + 1) []).ok = true
          · rw [if_pos h4, h3.yes h4]
            try dsimp only
            split
            · exact .same _ _
            · exact .bad rfl rfl
          · rw [if_neg h4]
            have := h3.no h4
            split
            · exact .bad rfl this
            · exact .bad rfl rfl
      · rw [if_neg h1]
        by_cases h2 : pk l j = 91
        · rw [if_pos h2, if_neg (show ¬ pk l j = 46 by omega), if_neg (show ¬ pk l j = 92 by omega), if_pos h2]
          exact class_alike hl _
        · rw [if_neg h2]
          by_cases h3 : pk l j = 46
          · rw [if_pos h3, if_pos h3]; exact .same _ _
          · rw [if_neg h3, if_neg h3]
            by_cases h4 : pk l j = 92
            · rw [if_pos h4, if_pos h4]
              cases (escS (pk l (j + 1))).2
              · exact .bad rfl rfl
              · exact .same _ _
            · rw [if_neg h4, if_neg h4, if_neg h2, if_neg h1]
              have h5 : pk l j ≠ -1 := by rw [pk_lt hj]; have := (hl.2 _ (List.getElem_mem hj)).1; omega
              rw [decide_eq_true h5, Bool.true_and]
              cases hasS ats (pk l j)
              · exact .same _ _
              · exact .bad rfl rfl
    · rw [pieceS, pieceR]
      try dsimp only
      have h0 := ha j d hj
      by_cases h1 : (atomS l k j d).ok = true
      · rw [if_pos h1, h0.yes h1]
        dsimp only
        rw [if_neg (show ¬ false = true by simp)]
        by_cases h2 : pk l (atomS l k j d).at_ = 43
        · rw [if_pos h2, if_neg (show ¬ pk l (atomS l k j d).at_ = 42 by omega), if_pos h2]; exact .same _ _
        · rw [if_neg h2]
          by_cases h3 : pk l (atomS l k j d).at_ = 42
          · rw [if_pos h3, if_pos h3]; exact .same _ _
          · rw [if_neg h3, if_neg h3, if_neg h2]
            by_cases h4 : pk l (atomS l k j d).at_ = 63
            · rw [if_pos h4, if_pos h4]; exact .same _ _
            · rw [if_neg h4, if_neg h4]
              by_cases h5 : pk l (atomS l k j d).at_ = 123
              · rw [if_pos h5, if_pos h5]
                have h6 := timesR_eq l ((atomS l k j d).at_ + 1)
                by_cases h7 : (timesS l ((atomS l k j d).at_ + 1)).ok = true
                · rw [if_pos h7] at h6
                  rw [h6, h7]; exact .same _ _
                · rw [if_neg h7] at h6
                  exact .bad (Bool.eq_false_iff.2 h7) h6
              · rw [if_neg h5, if_neg h5]
                unfold Alike; rw [if_pos h1]
      · rw [if_neg h1, if_pos (h0.no h1)]
        exact .bad (Bool.eq_false_iff.2 h1) (h0.no h1)
    · rw [eitherS]
      try dsimp only
      have h0 := hcc j d [] hj
      by_cases h1 : (concatS l (k + 1) j d []).ok = true
      · rw [if_pos h1, h0.yes h1]
        try dsimp only
        rw [eitGo, if_neg (by simp : ¬ false = true)]
        by_cases h2 : pk l (concatS l (k + 1) j d []).at_ = 124
        · rw [if_pos h2, if_pos h2]
          have := pk_in (l := l) (i := (concatS l (k + 1) j d []).at_) (by rw [h2]; decide)
          exact he _ d _ (by omega)
        · rw [if_neg h2, if_neg h2]; exact .same _ _
      · rw [if_neg h1, h0.no h1, eitGo_bad]
        exact .bad (Bool.eq_false_iff.2 h1) rfl
end Go.Proofs.Ytoblikhnbddfmaa
