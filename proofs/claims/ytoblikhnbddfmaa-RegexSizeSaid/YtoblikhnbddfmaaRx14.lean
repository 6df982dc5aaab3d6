import Derived.Test.YtoblikhnbddfmaaRx12
/-! Chapter 15 of the document: atoms and pieces, walked. -/
set_option linter.unusedSimpArgs false
namespace Go.Proofs.Ytoblikhnbddfmaa
open Go Go.Abs AbsSeat Ty

theorem Alike.good {r : Rd} {q : Rb} (h : Alike r q) (hq : q.bad = false) : r.ok = true ∧ q = ⟨r.n, r.at_, false⟩ := by
  by_cases hr : r.ok = true
  · exact ⟨hr, h.yes hr⟩
  · rw [h.no hr] at hq; cases hq
/-- the document's reader does what is said, if there is fuel. -/
def RRok (f need : Nat) (l : List Int) (k : Nat) (S : Nat → Nat → Rb) (far : Nat) : Prop := ∀ (L : AV), Sl encI L l → ∀ (at_ d b prot : Nat) (H : Heap), prot ≤ b → hget H b 0 = some [L, .int .i64 (at_ : Nat), .bool false] → at_ + far ≤ l.length → d ≤ 16 → 5 * (l.length - at_) + need ≤ k →
  aLim cfg prot f [.ptr b 0 0, .int .i64 (d : Nat)] H = some (encN (S at_ d).n, some (H.set b (.cells 0 [L, .int .i64 ((S at_ d).at_ : Nat), .bool (S at_ d).bad])))
theorem nd_end2 {prot : Nat} {res : List ResultVar} {fr : List AV} {H K : Heap} {b : Nat} {cs : List AV} {s t : AV} {X : Blk} {no : Bool} {k a c : Int} (kp : Kp H b cs K) (hs : still s = true) (ht : still t = true)
    (h1 : aResults cfg.P fr (K.set H.length X) res = some [.agg [.int .i64 k, .bool no, s, .int .i64 a, .int .i64 c, t]]) :
    Fin ⟨cfg, prot, res, .trim H⟩ fr (K.set H.length X) (.agg [.int .i64 k, .bool no, s, .int .i64 a, .int .i64 c, t], some (H.set b (.cells 0 cs))) :=
  (kp.new (Nat.le_refl _) X).fin h1 (.agg (.cons (.still rfl) (.cons (.still rfl) (.cons (.still hs) (.cons (.still rfl) (.cons (.still rfl) (.cons (.still ht) .nil)))))))

theorem ratom_ok (l : List Int) (hl : Runes l) (k : Nat) (hE : RRok 58 4 l k (eitherR l k) 0) : RRok 117 1 l (k + 1) (atomR l (k + 1)) 1 := by
  intro L hL at_ d b prot H hp hg hat hd hk
  have hb := hget_lt hg
  have hll := hl.1
  have hlZ : ∀ Z, (H ++ [Blk.cells 0 Z]).length = H.length + 1 := fun Z => by simp
  have hLb : ∀ (x : Int) (y : Bool), AV.blwL H.length [L, .int .i64 x, .bool y] = true := fun x y => plL_blwL _ _ (slI_plain3 hL _ _)
  have kp0 : Kp H b [L, .int .i64 at_, .bool false] (H ++ [Blk.cells 0 [.int .i64 0, .bool false, .nilS, .int .i64 0, .int .i64 0, .nilS]]) := (Kp.start hg).app _
  have hz0 : hget (H ++ [Blk.cells 0 [.int .i64 0, .bool false, .nilS, .int .i64 0, .int .i64 0, .nilS]]) H.length 0 = some [.int .i64 0, .bool false, .nilS, .int .i64 0, .int .i64 0, .nilS] := by simp [hget]
  have hK0l := hlZ [.int .i64 0, .bool false, .nilS, .int .i64 0, .int .i64 0, .nilS]
  have hwd : IntKind.i64.wrap ((d : Int) + 1) = ((d + 1 : Nat) : Int) := by rw [wrap64 (by omega) (by omega)]; simp
  refine trim_slim rfl (by kernel_rfl) (by kernel_rfl) (by kernel_rfl) Try.func117 s117 (by simp [Try.f117]) fun fr hlen h => ?_
  simp only [Has, Nat.zero_add] at h
  obtain ⟨a0, a1, -⟩ := h
  simp only [Try.f117] at hlen ⊢
  unfold g117
  simp only [wk, aBuiltin, AV.cells, AV.leaf, Nat.reduceEqDiff, Nat.reduceLT, Nat.reduceAdd, Nat.reduceLeDiff, reduceCtorEq, Nat.reduceMul, cfgP, u85, hlen, a0, a1, hlZ]
  generalize H ++ [Blk.cells 0 [.int .i64 0, .bool false, .nilS, .int .i64 0, .int .i64 0, .nilS]] = K0 at *
  have hbe : b < K0.length := by omega
  have n1 := rnext15_ok l L hL hl at_ b false (by omega) prot K0 hp kp0.get
  rw [decide_eq_false (by omega : ¬ l.length ≤ at_), Bool.or_false] at n1
  have hset : ∀ (c d : List AV), (K0.set b (.cells 0 c)).set b (.cells 0 d) = K0.set b (.cells 0 d) := fun c d => List.set_set ..
  have hgs : ∀ c, hget (K0.set b (.cells 0 c)) b 0 = some c := fun c => hget_set_at hbe
  have kps := fun (x : Int) (y : Bool) => kp0.put (hLb x y)
  have hzs : ∀ c, hget (K0.set b (.cells 0 c)) H.length 0 = some [.int .i64 0, .bool false, .nilS, .int .i64 0, .int .i64 0, .nilS] := fun c => by rw [hget_set_ne (by omega)]; exact hz0
  have hputZ : ∀ c k n s x y t, s.leaf = true → t.leaf = true → hput prot (K0.set b (.cells 0 c)) H.length 0 0 [.int .i64 k, .bool n, s, .int .i64 x, .int .i64 y, t] = some ((K0.set b (.cells 0 c)).set H.length (.cells 0 [.int .i64 k, .bool n, s, .int .i64 x, .int .i64 y, t])) := fun c k n s x y t h1 h2 =>
    hput6 (hzs c) rfl (by omega) k n s x y t h1 h2
  have hput2 : ∀ (c : Int) (y : Bool), hput prot (K0.set b (.cells 0 [L, .int .i64 c, .bool y])) b 0 2 [.bool true] = some (K0.set b (.cells 0 [L, .int .i64 c, .bool true])) := fun c y => by
    have := (hput3 (prot := prot) (a' := 0) (x' := true) (hgs [L, .int .i64 c, .bool y]) hp).2
    rw [List.set_set] at this; exact this
  have hgZ : ∀ c d, hget ((K0.set b (.cells 0 c)).set H.length (.cells 0 d)) H.length 0 = some d := fun c d => hget_set_at (by simp; omega)
  have hlK : ∀ c, prot ≤ (K0.set b (.cells 0 c)).length := fun c => by simp; omega
  unfold atomR
  by_cases h1 : pk l at_ = 46
  · simp only [h1, if_true]
    have hp1 := hputZ [L, .int .i64 ((at_ + 1 : Nat)), .bool false] 1 true .nilS 0 0 .nilS rfl rfl
    have e : encN (.mk 1 true false [] 0 0 false []) = .agg [.int .i64 1, .bool true, .nilS, .int .i64 0, .int .i64 0, .nilS] := by rw [encN_eq]; rfl
    rw [e]
    simp only [wk, aBuiltin, AV.cells, AV.leaf, Nat.reduceEqDiff, Nat.reduceLT, Nat.reduceAdd, Nat.reduceLeDiff, reduceCtorEq, Nat.reduceMul, cfgP, u85, hlen, a0, a1, n1, h1, hp1]
    exact nd_end2 (s := .nilS) (t := .nilS) (kps _ _) rfl rfl (by simp [wk, aBuiltin, AV.cells, AV.leaf, Nat.reduceEqDiff, Nat.reduceLT, Nat.reduceAdd, Nat.reduceLeDiff, reduceCtorEq, Nat.reduceMul, cfgP, u85, hlen, a0, a1, hgZ, aResults, aResult])
  have c1 : decide (pk l at_ = 46) = false := decide_eq_false h1
  simp only [h1, if_false]
  by_cases h2 : pk l at_ = 92
  · simp only [h2, if_true]
    have d1 : decide ((92 : Int) = 46) = false := by decide
    have n2 := resc_ok l L hL hl (at_ + 1) b (by omega) false prot _ hp (hgs [L, .int .i64 ((at_ + 1 : Nat)), .bool false])
    rw [hset, Bool.false_or] at n2
    have he := escS_len (pk l (at_ + 1))
    rw [encN_eq, slF_ne true encG he.1]
    generalize hes : escS (pk l (at_ + 1)) = q at *
    obtain ⟨es, ok⟩ := q
    dsimp only at n2 he ⊢
    have hp1 := hputZ [L, .int .i64 ((at_ + 1 + 1 : Nat)), .bool (!ok)] 1 false (.vs (es.map encG) true) 0 0 .nilS rfl rfl
    simp only [wk, aBuiltin, AV.cells, AV.leaf, Nat.reduceEqDiff, Nat.reduceLT, Nat.reduceAdd, Nat.reduceLeDiff, reduceCtorEq, Nat.reduceMul, cfgP, u85, hlen, a0, a1, n1, h2, d1, n2, hp1]
    exact nd_end2 (s := .vs (es.map encG) true) (t := .nilS) (kps _ _) rfl rfl (by simp [wk, aBuiltin, AV.cells, AV.leaf, Nat.reduceEqDiff, Nat.reduceLT, Nat.reduceAdd, Nat.reduceLeDiff, reduceCtorEq, Nat.reduceMul, cfgP, u85, hlen, a0, a1, hgZ, aResults, aResult])
  have c2 : decide (pk l at_ = 92) = false := decide_eq_false h2
  simp only [h2, if_false]
  by_cases h3 : pk l at_ = 91
  · simp only [h3, if_true]
    have d1 : decide ((91 : Int) = 46) = false := by decide
    have d2 : decide ((91 : Int) = 92) = false := by decide
    have n2 := rclass_ok l L hL hl (at_ + 1) b (by omega) prot _ hp (hgs [L, .int .i64 ((at_ + 1 : Nat)), .bool false])
    rw [hset] at n2
    generalize hr : classR l (at_ + 1) = r at *
    obtain ⟨x, j, bad⟩ := r
    obtain ⟨k', no, s, x1, x2, t, hx, hs, ht, hs2, ht2⟩ := encN_sh x
    dsimp only at n2 ⊢
    rw [hx] at n2 ⊢
    have hp1 := hputZ [L, .int .i64 (j : Nat), .bool bad] k' no s x1 x2 t hs ht
    unfold AV.leaf at hs ht
    simp only [wk, aBuiltin, AV.cells, AV.leaf, Nat.reduceEqDiff, Nat.reduceLT, Nat.reduceAdd, Nat.reduceLeDiff, reduceCtorEq, Nat.reduceMul, cfgP, u85, hlen, a0, a1, n1, h3, d1, d2, n2, hs, ht, hp1]
    exact nd_end2 (kps _ _) hs2 ht2 (by simp [wk, aBuiltin, AV.cells, AV.leaf, Nat.reduceEqDiff, Nat.reduceLT, Nat.reduceAdd, Nat.reduceLeDiff, reduceCtorEq, Nat.reduceMul, cfgP, u85, hlen, a0, a1, hgZ, aResults, aResult])
  have c3 : decide (pk l at_ = 91) = false := decide_eq_false h3
  simp only [h3, if_false]
  by_cases h4 : pk l at_ = 40
  · simp only [h4, if_true]
    have d1 : decide ((40 : Int) = 46) = false := by decide
    have d2 : decide ((40 : Int) = 92) = false := by decide
    have d3 : decide ((40 : Int) = 91) = false := by decide
    by_cases h5 : 16 ≤ d
    · simp only [h5, if_true, encN_zero]
      have d4 : decide (16 ≤ (d : Int)) = true := decide_eq_true (by omega)
      have hp1 := hputZ [L, .int .i64 ((at_ + 1 : Nat)), .bool true] 0 false .nilS 0 0 .nilS rfl rfl
      simp only [wk, aBuiltin, AV.cells, AV.leaf, Nat.reduceEqDiff, Nat.reduceLT, Nat.reduceAdd, Nat.reduceLeDiff, reduceCtorEq, Nat.reduceMul, cfgP, u85, hlen, a0, a1, n1, h4, d1, d2, d3, d4, hput2, hp1]
      exact nd_end2 (s := .nilS) (t := .nilS) (kps _ _) rfl rfl (by simp [wk, aBuiltin, AV.cells, AV.leaf, Nat.reduceEqDiff, Nat.reduceLT, Nat.reduceAdd, Nat.reduceLeDiff, reduceCtorEq, Nat.reduceMul, cfgP, u85, hlen, a0, a1, hgZ, aResults, aResult])
    · simp only [h5, if_false]
      have d4 : decide (16 ≤ (d : Int)) = false := decide_eq_false (by omega)
      have n2 := hE L hL (at_ + 1) (d + 1) b prot _ hp (hgs [L, .int .i64 ((at_ + 1 : Nat)), .bool false]) (by omega) (by omega) (by omega)
      rw [hset] at n2
      generalize hr : eitherR l k (at_ + 1) (d + 1) = r at *
      obtain ⟨x, j, bad⟩ := r
      obtain ⟨k', no, s, x1, x2, t, hx, hs, ht, hs2, ht2⟩ := encN_sh x
      dsimp only at n2 ⊢
      rw [hx] at n2
      have hs' := hs
      have ht' := ht
      unfold AV.leaf at hs ht
      have hls : ∀ c, (K0.set b (.cells 0 c)).length = H.length + 1 := fun c => by simp [hK0l]
      have hpl1 : prot ≤ H.length + 1 := by omega
      have kp2 := (kps (j : Nat) bad).app [Blk.cells 0 [.int .i64 k', .bool no, s, .int .i64 x1, .int .i64 x2, t]]
      have hz2 := hget_mono (hzs [L, .int .i64 (j : Nat), .bool bad]) [Blk.cells 0 [.int .i64 k', .bool no, s, .int .i64 x1, .int .i64 x2, t]]
      have hn2 : hget (K0.set b (.cells 0 [L, .int .i64 (j : Nat), .bool bad]) ++ [Blk.cells 0 [.int .i64 k', .bool no, s, .int .i64 x1, .int .i64 x2, t]]) (H.length + 1) 0 = some [.int .i64 k', .bool no, s, .int .i64 x1, .int .i64 x2, t] := by
        rw [hget_new (hls _).symm, if_pos rfl]
      have hl2 : (K0.set b (.cells 0 [L, .int .i64 (j : Nat), .bool bad]) ++ [Blk.cells 0 [.int .i64 k', .bool no, s, .int .i64 x1, .int .i64 x2, t]]).length = H.length + 2 := by simp [hK0l]
      simp only [wk, aBuiltin, AV.cells, AV.leaf, Nat.reduceEqDiff, Nat.reduceLT, Nat.reduceAdd, Nat.reduceLeDiff, reduceCtorEq, Nat.reduceMul, cfgP, u85, hlen, a0, a1, n1, h4, d1, d2, d3, d4, hwd, n2, hs, ht, hls, hpl1]
      generalize K0.set b (.cells 0 [L, .int .i64 (j : Nat), .bool bad]) ++ [Blk.cells 0 [.int .i64 k', .bool no, s, .int .i64 x1, .int .i64 x2, t]] = K2 at *
      have hgs2 : ∀ c, hget (K2.set b (.cells 0 c)) b 0 = some c := fun c => hget_set_at (by omega)
      have hns : ∀ c, hget (K2.set b (.cells 0 c)) (H.length + 1) 0 = some [.int .i64 k', .bool no, s, .int .i64 x1, .int .i64 x2, t] := fun c => by rw [hget_set_ne (by omega)]; exact hn2
      have hzs2 : ∀ c, hget (K2.set b (.cells 0 c)) H.length 0 = some [.int .i64 0, .bool false, .nilS, .int .i64 0, .int .i64 0, .nilS] := fun c => by rw [hget_set_ne (by omega)]; exact hz2
      have hp1 := fun c => hput6 (hzs2 c) rfl (by omega : prot ≤ H.length) k' no s x1 x2 t hs' ht'
      have hput4 : ∀ (c : Int) (y : Bool), hput prot (K2.set b (.cells 0 [L, .int .i64 c, .bool y])) b 0 2 [.bool true] = some (K2.set b (.cells 0 [L, .int .i64 c, .bool true])) := fun c y => by
        have := (hput3 (prot := prot) (a' := 0) (x' := true) (hgs2 [L, .int .i64 c, .bool y]) hp).2
        rw [List.set_set] at this; exact this
      have hgZ3 : ∀ c d, hget ((K2.set b (.cells 0 c)).set H.length (.cells 0 d)) H.length 0 = some d := fun c d => hget_set_at (by simp; omega)
      have n3 := ris15_ok l L hL hl j b bad 41 (by decide) prot K2 hp kp2.get
      by_cases h6 : pk l j = 41
      · simp only [h6, if_true, decide_true, hx] at n3 ⊢
        simp only [wk, aBuiltin, AV.cells, AV.leaf, Nat.reduceEqDiff, Nat.reduceLT, Nat.reduceAdd, Nat.reduceLeDiff, reduceCtorEq, Nat.reduceMul, cfgP, u85, hlen, a0, a1, n3, hns, hp1, hs, ht]
        exact nd_end2 (kp2.put (hLb _ _)) hs2 ht2 (by simp [wk, aBuiltin, AV.cells, AV.leaf, Nat.reduceEqDiff, Nat.reduceLT, Nat.reduceAdd, Nat.reduceLeDiff, reduceCtorEq, Nat.reduceMul, cfgP, u85, hlen, a0, a1, hgZ3, aResults, aResult])
      · simp only [h6, if_false, decide_false, hx] at n3 ⊢
        simp only [wk, aBuiltin, AV.cells, AV.leaf, Nat.reduceEqDiff, Nat.reduceLT, Nat.reduceAdd, Nat.reduceLeDiff, reduceCtorEq, Nat.reduceMul, cfgP, u85, hlen, a0, a1, n3, hput4, hns, hp1, hs, ht]
        exact nd_end2 (kp2.put (hLb _ _)) hs2 ht2 (by simp [wk, aBuiltin, AV.cells, AV.leaf, Nat.reduceEqDiff, Nat.reduceLT, Nat.reduceAdd, Nat.reduceLeDiff, reduceCtorEq, Nat.reduceMul, cfgP, u85, hlen, a0, a1, hgZ3, aResults, aResult])
  have c4 : decide (pk l at_ = 40) = false := decide_eq_false h4
  simp only [h4, if_false]
  have n4 := rone_ok ats (pk l at_) (by decide) prot (K0.set b (.cells 0 [L, .int .i64 ((at_ + 1 : Nat)), .bool false])) (hlK _)
  unfold ats at n4
  rw [encN_eq, slF_ne true encG (by simp)]
  have hp1 := fun y => hputZ [L, .int .i64 ((at_ + 1 : Nat)), .bool y] 1 false (.vs ([(⟨pk l at_, pk l at_⟩ : Sg)].map encG) true) 0 0 .nilS rfl rfl
  unfold ats
  cases hq : hasS [124, 42, 43, 63, 41, 93, 123, 125] (pk l at_) with
  | true =>
    rw [hq] at n4
    simp only [wk, aBuiltin, AV.cells, AV.leaf, Nat.reduceEqDiff, Nat.reduceLT, Nat.reduceAdd, Nat.reduceLeDiff, reduceCtorEq, Nat.reduceMul, cfgP, u85, hlen, a0, a1, n1, c1, c2, c3, c4, n4, hput2, rlitG1, hp1, none_beq]
    exact nd_end2 (s := .vs ([(⟨pk l at_, pk l at_⟩ : Sg)].map encG) true) (t := .nilS) (kps _ _) rfl rfl (by simp [wk, aBuiltin, AV.cells, AV.leaf, Nat.reduceEqDiff, Nat.reduceLT, Nat.reduceAdd, Nat.reduceLeDiff, reduceCtorEq, Nat.reduceMul, cfgP, u85, hlen, a0, a1, hgZ, aResults, aResult])
  | false =>
    rw [hq] at n4
    simp only [wk, aBuiltin, AV.cells, AV.leaf, Nat.reduceEqDiff, Nat.reduceLT, Nat.reduceAdd, Nat.reduceLeDiff, reduceCtorEq, Nat.reduceMul, cfgP, u85, hlen, a0, a1, n1, c1, c2, c3, c4, n4, rlitG1, hp1, none_beq]
    exact nd_end2 (s := .vs ([(⟨pk l at_, pk l at_⟩ : Sg)].map encG) true) (t := .nilS) (kps _ _) rfl rfl (by simp [wk, aBuiltin, AV.cells, AV.leaf, Nat.reduceEqDiff, Nat.reduceLT, Nat.reduceAdd, Nat.reduceLeDiff, reduceCtorEq, Nat.reduceMul, cfgP, u85, hlen, a0, a1, hgZ, aResults, aResult])

theorem rowN2 : RowT Try.prog 45 47 6 80 true where
  un := Try.underlying45
  size := sz47
  bytes := by47
  agg := ag47
  zero := ⟨_, ze47, rfl⟩
  pos := by decide
  tree := rfl
theorem litN2 (k : Int) (n : Bool) (s : AV) (x y : Int) (t : AV) (h1 : s.leaf = true) (h2 : t.leaf = true) (K : Heap) : aBuildSlice Try.prog K 45 1 [(0, .agg [.int .i64 k, .bool n, s, .int .i64 x, .int .i64 y, t])] =
    some (.bs ⟨K.length, 0, 0, 1, 1, 6, true, true⟩, some (K ++ [Blk.cells 0 [.int .i64 k, .bool n, s, .int .i64 x, .int .i64 y, t]])) := by
  have e : ([.int .i64 k, .bool n, s, .int .i64 x, .int .i64 y, t] : List AV).all AV.leaf = true := by simp only [List.all_cons, List.all_nil, h1, h2]; rfl
  have e2 : fillA (fun i => some (i * 6, 6)) (zrep 1 [.int .i64 0, .bool false, .nilS, .int .i64 0, .int .i64 0, .nilS]) [(0, .agg [.int .i64 k, .bool n, s, .int .i64 x, .int .i64 y, t])] = some [.int .i64 k, .bool n, s, .int .i64 x, .int .i64 y, t] := rfl
  unfold aBuildSlice
  rw [rowN2.elem, Option.bind_some, rowN2.size, Option.bind_some, rowN2.agg, Option.bind_some, ze47, Option.bind_some]
  rw [if_pos ⟨by decide, rfl, by decide⟩]
  simp only [AV.cells]
  rw [e2, Option.bind_some, if_pos e, if_neg (by decide)]
theorem rep_end2 {prot : Nat} {res : List ResultVar} {fr : List AV} {H K : Heap} {b : Nat} {cs : List AV} {z : Nat} {s t : AV} {X : Blk} {no no' : Bool} {k k' a c a' c' : Int} (kp : Kp H b cs K) (hs : still s = true) (ht : still t = true)
    (hz : H.length < z) (hg : hget K z 0 = some [.int .i64 k, .bool no, s, .int .i64 a, .int .i64 c, t])
    (h1 : aResults cfg.P fr (K.set H.length X) res = some [.agg [.int .i64 k', .bool no', .nilS, .int .i64 a', .int .i64 c', .bs ⟨z, 0, 0, 1, 1, 6, true, true⟩]]) :
    Fin ⟨cfg, prot, res, .trim H⟩ fr (K.set H.length X) (.agg [.int .i64 k', .bool no', .nilS, .int .i64 a', .int .i64 c', .vs [.agg [.int .i64 k, .bool no, s, .int .i64 a, .int .i64 c, t]] true], some (H.set b (.cells 0 cs))) := by
  have hg' : hget (K.set H.length X) z 0 = some [.int .i64 k, .bool no, s, .int .i64 a, .int .i64 c, t] := by rw [hget_set_ne (by omega)]; exact hg
  have hf : Frz (K.set H.length X) H.length (.bs ⟨z, 0, 0, 1, 1, 6, true, true⟩) (.vs [.agg [.int .i64 k, .bool no, s, .int .i64 a, .int .i64 c, t]] true) :=
    Frz.bs (s := ⟨z, 0, 0, 1, 1, 6, true, true⟩) (by simp; omega) (Nat.succ_pos 5) rfl hg' (w := [.int .i64 k, .bool no, s, .int .i64 a, .int .i64 c, t]) rfl (x := [.int .i64 k, .bool no, s, .int .i64 a, .int .i64 c, t]) (.cons (.still rfl) (.cons (.still rfl) (.cons (.still hs) (.cons (.still rfl) (.cons (.still rfl) (.cons (.still ht) .nil))))))
  exact (kp.new (Nat.le_refl _) X).fin h1 (.agg (.cons (.still rfl) (.cons (.still rfl) (.cons (.still rfl) (.cons (.still rfl) (.cons (.still rfl) (.cons hf .nil)))))))
def pcQ (K : Heap) (b : Nat) (X S M : List AV) : Heap := K.set b (.cells 0 X) ++ [Blk.cells 0 S] ++ [Blk.cells 0 M]

theorem rpiece_ok (l : List Int) (hl : Runes l) (k : Nat) (hA : RRok 117 1 l k (atomR l k) 1) : RRok 103 2 l (k + 1) (pieceR l (k + 1)) 1 := by
  intro L hL at_ d b prot H hp hg hat hd hk
  have hb := hget_lt hg
  have hll := hl.1
  have hlZ : ∀ Z, (H ++ [Blk.cells 0 Z]).length = H.length + 1 := fun Z => by simp
  have hLb : ∀ (x : Int) (y : Bool), AV.blwL H.length [L, .int .i64 x, .bool y] = true := fun x y => plL_blwL _ _ (slI_plain3 hL _ _)
  have kp0 : Kp H b [L, .int .i64 at_, .bool false] (H ++ [Blk.cells 0 [.int .i64 0, .bool false, .nilS, .int .i64 0, .int .i64 0, .nilS]]) := (Kp.start hg).app _
  have hz0 : hget (H ++ [Blk.cells 0 [.int .i64 0, .bool false, .nilS, .int .i64 0, .int .i64 0, .nilS]]) H.length 0 = some [.int .i64 0, .bool false, .nilS, .int .i64 0, .int .i64 0, .nilS] := by simp [hget]
  have hK0l := hlZ [.int .i64 0, .bool false, .nilS, .int .i64 0, .int .i64 0, .nilS]
  refine trim_slim rfl (by kernel_rfl) (by kernel_rfl) (by kernel_rfl) Try.func103 s103 (by simp [Try.f103]) fun fr hlen h => ?_
  simp only [Has, Nat.zero_add] at h
  obtain ⟨a0, a1, -⟩ := h
  simp only [Try.f103] at hlen ⊢
  unfold g103
  simp only [wk, aBuiltin, AV.cells, AV.leaf, Nat.reduceEqDiff, Nat.reduceLT, Nat.reduceAdd, Nat.reduceLeDiff, reduceCtorEq, Nat.reduceMul, cfgP, u85, hlen, a0, a1, hlZ]
  generalize H ++ [Blk.cells 0 [.int .i64 0, .bool false, .nilS, .int .i64 0, .int .i64 0, .nilS]] = K0 at *
  have n1 := hA L hL at_ d b prot K0 hp kp0.get hat hd (by omega)
  rw [pieceR]
  have hal := (read_alike hl k).1 at_ d (by omega)
  have hin := (readS_in l k).1 at_ d
  generalize atomS l k at_ d = rs at *
  generalize hr : atomR l k at_ d = r at *
  obtain ⟨x, j, bad⟩ := r
  obtain ⟨k', no, s, x1, x2, t, hx, hs, ht, hs2, ht2⟩ := encN_sh x
  dsimp only at n1 ⊢
  rw [hx] at n1
  have hs' := hs
  have ht' := ht
  unfold AV.leaf at hs ht
  have hls : ∀ c, (K0.set b (.cells 0 c)).length = H.length + 1 := fun c => by simp [hK0l]
  have hpl1 : prot ≤ H.length + 1 := by omega
  have kp2 := (kp0.put (hLb (j : Nat) bad)).app [Blk.cells 0 [.int .i64 k', .bool no, s, .int .i64 x1, .int .i64 x2, t]]
  have hz1 : hget (K0.set b (.cells 0 [L, .int .i64 (j : Nat), .bool bad])) H.length 0 = some [.int .i64 0, .bool false, .nilS, .int .i64 0, .int .i64 0, .nilS] := by rw [hget_set_ne (by omega)]; exact hz0
  have hz2 := hget_mono hz1 [Blk.cells 0 [.int .i64 k', .bool no, s, .int .i64 x1, .int .i64 x2, t]]
  have hn2 : hget (K0.set b (.cells 0 [L, .int .i64 (j : Nat), .bool bad]) ++ [Blk.cells 0 [.int .i64 k', .bool no, s, .int .i64 x1, .int .i64 x2, t]]) (H.length + 1) 0 = some [.int .i64 k', .bool no, s, .int .i64 x1, .int .i64 x2, t] := by
    rw [hget_new (hls _).symm, if_pos rfl]
  have hl2 : (K0.set b (.cells 0 [L, .int .i64 (j : Nat), .bool bad]) ++ [Blk.cells 0 [.int .i64 k', .bool no, s, .int .i64 x1, .int .i64 x2, t]]).length = H.length + 2 := by simp [hK0l]
  simp only [wk, aBuiltin, AV.cells, AV.leaf, Nat.reduceEqDiff, Nat.reduceLT, Nat.reduceAdd, Nat.reduceLeDiff, reduceCtorEq, Nat.reduceMul, cfgP, u85, hlen, a0, a1, n1, hs, ht, hls, hpl1]
  generalize K0.set b (.cells 0 [L, .int .i64 (j : Nat), .bool bad]) ++ [Blk.cells 0 [.int .i64 k', .bool no, s, .int .i64 x1, .int .i64 x2, t]] = K2 at *
  have hp0 := hput6 hz2 rfl (by omega : prot ≤ H.length) k' no s x1 x2 t hs' ht'
  have hgZ2 : ∀ d, hget (K2.set H.length (.cells 0 d)) H.length 0 = some d := fun d => hget_set_at (by omega)
  cases bad with
  | true =>
    simp only [if_true, hx]
    simp only [wk, aBuiltin, AV.cells, AV.leaf, Nat.reduceEqDiff, Nat.reduceLT, Nat.reduceAdd, Nat.reduceLeDiff, reduceCtorEq, Nat.reduceMul, cfgP, u85, hlen, a0, a1, kp2.get, hn2, hp0, hs, ht]
    exact nd_end2 kp2 hs2 ht2 (by simp [wk, aBuiltin, AV.cells, AV.leaf, Nat.reduceEqDiff, Nat.reduceLT, Nat.reduceAdd, Nat.reduceLeDiff, reduceCtorEq, Nat.reduceMul, cfgP, u85, hlen, a0, a1, hgZ2, aResults, aResult])
  | false =>
    obtain ⟨hok, hrs⟩ := hal.good rfl
    have hin := hin hok
    have hj : rs.at_ = j := by cases hrs; rfl
    rw [hj] at hin
    have hlit := litN2 k' no s x1 x2 t hs' ht' K2
    rw [hl2] at hlit
    have hbe : b < K2.length := by omega
    have hset : ∀ (c d : List AV), (K2.set b (.cells 0 c)).set b (.cells 0 d) = K2.set b (.cells 0 d) := fun c d => List.set_set ..
    have hl3 : ∀ c, (K2.set b (.cells 0 c)).length = H.length + 2 := fun c => by simp [hl2]
    have hl4 : ∀ c S, (K2.set b (.cells 0 c) ++ [Blk.cells 0 S]).length = H.length + 3 := fun c S => by simp [hl2]
    have hl5 : ∀ S, (K2 ++ [Blk.cells 0 S]).length = H.length + 3 := fun S => by simp [hl2]
    have hpl3 : prot ≤ H.length + 3 := by omega
    have hQ : ∀ M, K2 ++ [Blk.cells 0 [.int .i64 k', .bool no, s, .int .i64 x1, .int .i64 x2, t]] ++ [Blk.cells 0 M] = pcQ K2 b [L, .int .i64 (j : Nat), .bool false] [.int .i64 k', .bool no, s, .int .i64 x1, .int .i64 x2, t] M := fun M => by unfold pcQ; rw [set_self kp2.get]
    have qb : ∀ X M, hget (pcQ K2 b X [.int .i64 k', .bool no, s, .int .i64 x1, .int .i64 x2, t] M) b 0 = some X := fun X M => hget_mono (hget_mono (hget_set_at hbe) _) _
    have qset : ∀ X Y M, (pcQ K2 b X [.int .i64 k', .bool no, s, .int .i64 x1, .int .i64 x2, t] M).set b (.cells 0 Y) = pcQ K2 b Y [.int .i64 k', .bool no, s, .int .i64 x1, .int .i64 x2, t] M := fun X Y M => by
      unfold pcQ; rw [set_app (by rw [hl4]; omega), set_app (by rw [hl3]; omega), hset]
    have qz : ∀ X M, hget (pcQ K2 b X [.int .i64 k', .bool no, s, .int .i64 x1, .int .i64 x2, t] M) H.length 0 = some [.int .i64 0, .bool false, .nilS, .int .i64 0, .int .i64 0, .nilS] := fun X M => hget_mono (hget_mono (by rw [hget_set_ne (by omega)]; exact hz2) _) _
    have qn : ∀ X M, hget (pcQ K2 b X [.int .i64 k', .bool no, s, .int .i64 x1, .int .i64 x2, t] M) (H.length + 1) 0 = some [.int .i64 k', .bool no, s, .int .i64 x1, .int .i64 x2, t] := fun X M => hget_mono (hget_mono (by rw [hget_set_ne (by omega)]; exact hn2) _) _
    have qlit : ∀ X M, hget (pcQ K2 b X [.int .i64 k', .bool no, s, .int .i64 x1, .int .i64 x2, t] M) (H.length + 2) 0 = some [.int .i64 k', .bool no, s, .int .i64 x1, .int .i64 x2, t] := fun X M => hget_mono (by rw [hget_new (hl3 _).symm, if_pos rfl]) _
    have qm : ∀ X M, hget (pcQ K2 b X [.int .i64 k', .bool no, s, .int .i64 x1, .int .i64 x2, t] M) (H.length + 3) 0 = some M := fun X M => by unfold pcQ; rw [hget_new (hl4 _ _).symm, if_pos rfl]
    have ql : ∀ X M, (pcQ K2 b X [.int .i64 k', .bool no, s, .int .i64 x1, .int .i64 x2, t] M).length = H.length + 4 := fun X M => by simp [pcQ, hl2]
    have qk : ∀ (x : Int) (y : Bool) M, Kp H b [L, .int .i64 x, .bool y] (pcQ K2 b [L, .int .i64 x, .bool y] [.int .i64 k', .bool no, s, .int .i64 x1, .int .i64 x2, t] M) := fun x y M => ((kp2.put (hLb x y)).app _).app _
    have qp2 : ∀ (x : Int) (y : Bool) M, hput prot (pcQ K2 b [L, .int .i64 x, .bool y] [.int .i64 k', .bool no, s, .int .i64 x1, .int .i64 x2, t] M) b 0 2 [.bool true] = some (pcQ K2 b [L, .int .i64 x, .bool true] [.int .i64 k', .bool no, s, .int .i64 x1, .int .i64 x2, t] M) := fun x y M => by
      have := (hput3 (prot := prot) (a' := 0) (x' := true) (qb [L, .int .i64 x, .bool y] M) hp).2
      rw [qset] at this; exact this
    have qpm : ∀ X M M', (pcQ K2 b X [.int .i64 k', .bool no, s, .int .i64 x1, .int .i64 x2, t] M).set (H.length + 3) (.cells 0 M') = pcQ K2 b X [.int .i64 k', .bool no, s, .int .i64 x1, .int .i64 x2, t] M' := fun X M M' => by
      unfold pcQ; rw [List.set_append_right _ _ (by rw [hl4]; omega), hl4, Nat.sub_self]; rfl
    have qm3 : ∀ X (a c z : Int), hput prot (pcQ K2 b X [.int .i64 k', .bool no, s, .int .i64 x1, .int .i64 x2, t] [.int .i64 4, .bool false, .nilS, .int .i64 (a), .int .i64 (c), (.bs ⟨H.length + 2, 0, 0, 1, 1, 6, true, true⟩)]) (H.length + 3) 0 3 [.int .i64 z] = some (pcQ K2 b X [.int .i64 k', .bool no, s, .int .i64 x1, .int .i64 x2, t] [.int .i64 4, .bool false, .nilS, .int .i64 (z), .int .i64 (c), (.bs ⟨H.length + 2, 0, 0, 1, 1, 6, true, true⟩)]) := fun X a c z => by
      rw [hput_eq (qm X _) (by omega) (by simp) (by simp [AV.leaf]), qpm]; rfl
    have qm4 : ∀ X (a c z : Int), hput prot (pcQ K2 b X [.int .i64 k', .bool no, s, .int .i64 x1, .int .i64 x2, t] [.int .i64 4, .bool false, .nilS, .int .i64 (a), .int .i64 (c), (.bs ⟨H.length + 2, 0, 0, 1, 1, 6, true, true⟩)]) (H.length + 3) 0 4 [.int .i64 z] = some (pcQ K2 b X [.int .i64 k', .bool no, s, .int .i64 x1, .int .i64 x2, t] [.int .i64 4, .bool false, .nilS, .int .i64 (a), .int .i64 (z), (.bs ⟨H.length + 2, 0, 0, 1, 1, 6, true, true⟩)]) := fun X a c z => by
      rw [hput_eq (qm X _) (by omega) (by simp) (by simp [AV.leaf]), qpm]; rfl
    have qpZ : ∀ X M (a c : Int), hput prot (pcQ K2 b X [.int .i64 k', .bool no, s, .int .i64 x1, .int .i64 x2, t] M) H.length 0 0 [.int .i64 4, .bool false, .nilS, .int .i64 (a), .int .i64 (c), (.bs ⟨H.length + 2, 0, 0, 1, 1, 6, true, true⟩)] = some ((pcQ K2 b X [.int .i64 k', .bool no, s, .int .i64 x1, .int .i64 x2, t] M).set H.length (.cells 0 [.int .i64 4, .bool false, .nilS, .int .i64 (a), .int .i64 (c), (.bs ⟨H.length + 2, 0, 0, 1, 1, 6, true, true⟩)])) := fun X M a c => hput6 (qz X M) rfl (by omega) 4 false .nilS a c _ rfl rfl
    have qpN : ∀ X M, hput prot (pcQ K2 b X [.int .i64 k', .bool no, s, .int .i64 x1, .int .i64 x2, t] M) H.length 0 0 [.int .i64 k', .bool no, s, .int .i64 x1, .int .i64 x2, t] = some ((pcQ K2 b X [.int .i64 k', .bool no, s, .int .i64 x1, .int .i64 x2, t] M).set H.length (.cells 0 [.int .i64 k', .bool no, s, .int .i64 x1, .int .i64 x2, t])) := fun X M => hput6 (qz X M) rfl (by omega) k' no s x1 x2 t hs' ht'
    have qgZ : ∀ X M d, hget ((pcQ K2 b X [.int .i64 k', .bool no, s, .int .i64 x1, .int .i64 x2, t] M).set H.length (.cells 0 d)) H.length 0 = some d := fun X M d => hget_set_at (by rw [ql]; omega)
    have henc : ∀ a' c', encN (ndR x a' c') = .agg [.int .i64 4, .bool false, .nilS, .int .i64 a', .int .i64 c', .vs [.agg [.int .i64 k', .bool no, s, .int .i64 x1, .int .i64 x2, t]] true] := fun a' c' => by
      rw [ndR, encN_eq, ← hx]; rfl
    have is := fun (c : Int) (hc : 0 ≤ c) (i : Nat) (y : Bool) M => ris15_ok l L hL hl i b y c hc prot _ hp (qb [L, .int .i64 (i : Nat), .bool y] M)
    simp only [qset] at is
    have i42 := is 42 (by decide) j false
    have i43 := is 43 (by decide) j false
    have i63 := is 63 (by decide) j false
    have i123 := is 123 (by decide) j false
    simp only [Bool.false_eq_true, if_false]
    simp only [wk, aBuiltin, AV.cells, AV.leaf, Nat.reduceEqDiff, Nat.reduceLT, Nat.reduceAdd, Nat.reduceLeDiff, reduceCtorEq, Nat.reduceMul, cfgP, u85, hlen, a0, a1, kp2.get, hn2, hs, ht, hlit, hl5, hpl3, none_beq]
    simp only [hQ]
    by_cases h1 : pk l j = 42
    · simp only [h1, if_true, decide_true, henc] at i42 ⊢
      simp only [wk, aBuiltin, AV.cells, AV.leaf, Nat.reduceEqDiff, Nat.reduceLT, Nat.reduceAdd, Nat.reduceLeDiff, reduceCtorEq, Nat.reduceMul, cfgP, u85, hlen, a0, a1, i42, qm, qpZ, none_beq]
      exact rep_end2 (qk _ _ _) hs2 ht2 (by omega) (qlit _ _) (by simp [wk, aBuiltin, AV.cells, AV.leaf, Nat.reduceEqDiff, Nat.reduceLT, Nat.reduceAdd, Nat.reduceLeDiff, reduceCtorEq, Nat.reduceMul, cfgP, u85, hlen, a0, a1, qgZ, aResults, aResult])
    simp only [h1, if_false, decide_false] at i42 ⊢
    by_cases h2 : pk l j = 43
    · simp only [h2, if_true, decide_true, henc] at i43 ⊢
      simp only [wk, aBuiltin, AV.cells, AV.leaf, Nat.reduceEqDiff, Nat.reduceLT, Nat.reduceAdd, Nat.reduceLeDiff, reduceCtorEq, Nat.reduceMul, cfgP, u85, hlen, a0, a1, i42, i43, qm, qm3, qpZ, none_beq]
      exact rep_end2 (qk _ _ _) hs2 ht2 (by omega) (qlit _ _) (by simp [wk, aBuiltin, AV.cells, AV.leaf, Nat.reduceEqDiff, Nat.reduceLT, Nat.reduceAdd, Nat.reduceLeDiff, reduceCtorEq, Nat.reduceMul, cfgP, u85, hlen, a0, a1, qgZ, aResults, aResult])
    simp only [h2, if_false, decide_false] at i43 ⊢
    by_cases h3 : pk l j = 63
    · simp only [h3, if_true, decide_true, henc] at i63 ⊢
      simp only [wk, aBuiltin, AV.cells, AV.leaf, Nat.reduceEqDiff, Nat.reduceLT, Nat.reduceAdd, Nat.reduceLeDiff, reduceCtorEq, Nat.reduceMul, cfgP, u85, hlen, a0, a1, i42, i43, i63, qm, qm4, qpZ, none_beq]
      exact rep_end2 (qk _ _ _) hs2 ht2 (by omega) (qlit _ _) (by simp [wk, aBuiltin, AV.cells, AV.leaf, Nat.reduceEqDiff, Nat.reduceLT, Nat.reduceAdd, Nat.reduceLeDiff, reduceCtorEq, Nat.reduceMul, cfgP, u85, hlen, a0, a1, qgZ, aResults, aResult])
    simp only [h3, if_false, decide_false] at i63 ⊢
    by_cases h4 : pk l j = 123
    · simp only [h4, if_true, decide_true, henc] at i123 ⊢
      have hj1 := pk_in (l := l) (i := j) (by rw [h4]; decide)
      have nq := fun (i : Nat) (hi : i ≤ l.length) (y : Bool) M => rnum_ok l L hL hl i b hi y prot _ hp (qb [L, .int .i64 (i : Nat), .bool y] M)
      simp only [qset] at nq
      have q1 := nq (j + 1) (by omega) false
      simp only [Bool.false_or] at q1
      have hJ := numL_in (l := l) (i := j + 1) (by omega)
      unfold timesR
      dsimp only
      generalize hJe : j + 1 + numL l (j + 1) = J at *
      generalize numV l (j + 1) = v1 at *
      generalize numB l (j + 1) = b1 at *
      have i44 := is 44 (by decide) J (!b1)
      have i125 := is 125 (by decide) J (!b1)
      by_cases h5 : pk l J = 44
      · simp only [h5, if_true, decide_true] at i44 ⊢
        have hJ1 := pk_in (l := l) (i := J) (by rw [h5]; decide)
        have i125b := is 125 (by decide) (J + 1) (!b1)
        by_cases h6 : pk l (J + 1) = 125
        · simp only [h6, if_true, decide_true] at i125b ⊢
          simp only [wk, aBuiltin, AV.cells, AV.leaf, Nat.reduceEqDiff, Nat.reduceLT, Nat.reduceAdd, Nat.reduceLeDiff, reduceCtorEq, Nat.reduceMul, cfgP, u85, hlen, a0, a1, i42, i43, i63, i123, q1, qm3, qm4, qm, i44, i125b, qpZ, none_beq]
          exact rep_end2 (qk _ _ _) hs2 ht2 (by omega) (qlit _ _) (by simp [wk, aBuiltin, AV.cells, AV.leaf, Nat.reduceEqDiff, Nat.reduceLT, Nat.reduceAdd, Nat.reduceLeDiff, reduceCtorEq, Nat.reduceMul, cfgP, u85, hlen, a0, a1, qgZ, aResults, aResult])
        · simp only [h6, if_false, decide_false] at i125b ⊢
          have q2 := nq (J + 1) (by omega) (!b1)
          generalize J + 1 + numL l (J + 1) = m at *
          generalize numV l (J + 1) = v2 at *
          generalize numB l (J + 1) = b2 at *
          by_cases h7 : v2 < v1
          · have d7 : decide (v2 < v1) = true := decide_eq_true h7
            simp only [h7, if_true]
            simp only [wk, aBuiltin, AV.cells, AV.leaf, Nat.reduceEqDiff, Nat.reduceLT, Nat.reduceAdd, Nat.reduceLeDiff, reduceCtorEq, Nat.reduceMul, cfgP, u85, hlen, a0, a1, i42, i43, i63, i123, q1, qm3, qm4, qm, i44, i125b, q2, d7, qp2, qpZ, none_beq]
            exact rep_end2 (qk _ _ _) hs2 ht2 (by omega) (qlit _ _) (by simp [wk, aBuiltin, AV.cells, AV.leaf, Nat.reduceEqDiff, Nat.reduceLT, Nat.reduceAdd, Nat.reduceLeDiff, reduceCtorEq, Nat.reduceMul, cfgP, u85, hlen, a0, a1, qgZ, aResults, aResult])
          · have d7 : decide (v2 < v1) = false := decide_eq_false h7
            simp only [h7, if_false]
            have i125c := is 125 (by decide) m (!b1 || !b2)
            by_cases h8 : pk l m = 125
            · simp only [h8, if_true, decide_true] at i125c ⊢
              simp only [wk, aBuiltin, AV.cells, AV.leaf, Nat.reduceEqDiff, Nat.reduceLT, Nat.reduceAdd, Nat.reduceLeDiff, reduceCtorEq, Nat.reduceMul, cfgP, u85, hlen, a0, a1, i42, i43, i63, i123, q1, qm3, qm4, qm, i44, i125b, q2, d7, i125c, qpZ, none_beq]
              exact rep_end2 (qk _ _ _) hs2 ht2 (by omega) (qlit _ _) (by simp [wk, aBuiltin, AV.cells, AV.leaf, Nat.reduceEqDiff, Nat.reduceLT, Nat.reduceAdd, Nat.reduceLeDiff, reduceCtorEq, Nat.reduceMul, cfgP, u85, hlen, a0, a1, qgZ, aResults, aResult])
            · simp only [h8, if_false, decide_false] at i125c ⊢
              simp only [wk, aBuiltin, AV.cells, AV.leaf, Nat.reduceEqDiff, Nat.reduceLT, Nat.reduceAdd, Nat.reduceLeDiff, reduceCtorEq, Nat.reduceMul, cfgP, u85, hlen, a0, a1, i42, i43, i63, i123, q1, qm3, qm4, qm, i44, i125b, q2, d7, i125c, qp2, qpZ, none_beq]
              exact rep_end2 (qk _ _ _) hs2 ht2 (by omega) (qlit _ _) (by simp [wk, aBuiltin, AV.cells, AV.leaf, Nat.reduceEqDiff, Nat.reduceLT, Nat.reduceAdd, Nat.reduceLeDiff, reduceCtorEq, Nat.reduceMul, cfgP, u85, hlen, a0, a1, qgZ, aResults, aResult])
      · simp only [h5, if_false, decide_false] at i44 ⊢
        by_cases h6 : pk l J = 125
        · simp only [h6, if_true, decide_true] at i125 ⊢
          simp only [wk, aBuiltin, AV.cells, AV.leaf, Nat.reduceEqDiff, Nat.reduceLT, Nat.reduceAdd, Nat.reduceLeDiff, reduceCtorEq, Nat.reduceMul, cfgP, u85, hlen, a0, a1, i42, i43, i63, i123, q1, qm3, qm4, qm, i44, i125, qpZ, none_beq]
          exact rep_end2 (qk _ _ _) hs2 ht2 (by omega) (qlit _ _) (by simp [wk, aBuiltin, AV.cells, AV.leaf, Nat.reduceEqDiff, Nat.reduceLT, Nat.reduceAdd, Nat.reduceLeDiff, reduceCtorEq, Nat.reduceMul, cfgP, u85, hlen, a0, a1, qgZ, aResults, aResult])
        · simp only [h6, if_false, decide_false] at i125 ⊢
          simp only [wk, aBuiltin, AV.cells, AV.leaf, Nat.reduceEqDiff, Nat.reduceLT, Nat.reduceAdd, Nat.reduceLeDiff, reduceCtorEq, Nat.reduceMul, cfgP, u85, hlen, a0, a1, i42, i43, i63, i123, q1, qm3, qm4, qm, i44, i125, qp2, qpZ, none_beq]
          exact rep_end2 (qk _ _ _) hs2 ht2 (by omega) (qlit _ _) (by simp [wk, aBuiltin, AV.cells, AV.leaf, Nat.reduceEqDiff, Nat.reduceLT, Nat.reduceAdd, Nat.reduceLeDiff, reduceCtorEq, Nat.reduceMul, cfgP, u85, hlen, a0, a1, qgZ, aResults, aResult])
    · simp only [h4, if_false, decide_false, hx] at i123 ⊢
      simp only [wk, aBuiltin, AV.cells, AV.leaf, Nat.reduceEqDiff, Nat.reduceLT, Nat.reduceAdd, Nat.reduceLeDiff, reduceCtorEq, Nat.reduceMul, cfgP, u85, hlen, a0, a1, i42, i43, i63, i123, qn, hs, ht, qpN, none_beq]
      exact nd_end2 (qk _ _ _) hs2 ht2 (by simp [wk, aBuiltin, AV.cells, AV.leaf, Nat.reduceEqDiff, Nat.reduceLT, Nat.reduceAdd, Nat.reduceLeDiff, reduceCtorEq, Nat.reduceMul, cfgP, u85, hlen, a0, a1, qgZ, aResults, aResult])
end Go.Proofs.Ytoblikhnbddfmaa
/-! Chapter 15 of the document: pieces one behind the other, walked. -/
namespace Go.Proofs.Ytoblikhnbddfmaa
open Go Go.Abs AbsSeat Ty

theorem hxtN2 : (∃ e', Try.prog.underlying 45 = some (.slice e')) ∨ Try.prog.underlying 45 = some .string := .inl ⟨_, Try.underlying45⟩
theorem nd_endR2 {prot : Nat} {res : List ResultVar} {fr : List AV} {H K : Heap} {b : Nat} {cs : List AV} {v : AV} {l : List Nd} {X : Blk} {no : Bool} {k a c : Int} (kp : Kp H b cs K) (hrow : Row encN 6 true (H.length + 1) K v l) (hne : v = .nilS ∨ l ≠ [])
    (h1 : aResults cfg.P fr (K.set H.length X) res = some [.agg [.int .i64 k, .bool no, .nilS, .int .i64 a, .int .i64 c, v]]) :
    Fin ⟨cfg, prot, res, .trim H⟩ fr (K.set H.length X) (encN (.mk k no false [] a c false l), some (H.set b (.cells 0 cs))) := by
  have hf := ((hrow.setne (b' := H.length) (by omega) X).low (base' := H.length) (by omega)).frozen encN_T (by decide) rfl hne
  refine (kp.new (Nat.le_refl _) X).fin h1 ?_
  rw [encN_eq, slF_slv]
  exact .agg (.cons (.still rfl) (.cons (.still rfl) (.cons (.still rfl) (.cons (.still rfl) (.cons (.still rfl) (.cons hf .nil))))))

theorem rconcat_ok (l : List Int) (hl : Runes l) (k : Nat) (hP : ∀ k', k' < k → RRok 103 2 l k' (pieceR l k') 1) : RRok 84 3 l k (fun j d => concatR l k j false d []) 0 := by
  intro L hL at_ d b prot H hp hg hat hd hk
  have hb := hget_lt hg
  have hll := hl.1
  have hlZ : ∀ Z, (H ++ [Blk.cells 0 Z]).length = H.length + 1 := fun Z => by simp
  have hLb : ∀ (x : Int) (y : Bool), AV.blwL H.length [L, .int .i64 x, .bool y] = true := fun x y => plL_blwL _ _ (slI_plain3 hL _ _)
  have kp0 : Kp H b [L, .int .i64 at_, .bool false] (H ++ [Blk.cells 0 [.int .i64 0, .bool false, .nilS, .int .i64 0, .int .i64 0, .nilS]]) := (Kp.start hg).app _
  have hz0 : hget (H ++ [Blk.cells 0 [.int .i64 0, .bool false, .nilS, .int .i64 0, .int .i64 0, .nilS]]) H.length 0 = some [.int .i64 0, .bool false, .nilS, .int .i64 0, .int .i64 0, .nilS] := by simp [hget]
  have hK0l := hlZ [.int .i64 0, .bool false, .nilS, .int .i64 0, .int .i64 0, .nilS]
  have hL1 := fun K : Heap => hL.len (H := K) Try.underlying80
  refine trim_slim rfl (by kernel_rfl) (by kernel_rfl) (by kernel_rfl) Try.func84 s84 (by simp [Try.f84]) fun fr hlen h => ?_
  simp only [Has, Nat.zero_add] at h
  obtain ⟨a0, a1, -⟩ := h
  simp only [Try.f84] at hlen ⊢
  unfold g84
  simp only [wk, aBuiltin, AV.cells, AV.leaf, Nat.reduceEqDiff, Nat.reduceLT, Nat.reduceAdd, Nat.reduceLeDiff, reduceCtorEq, Nat.reduceMul, cfgP, u85, hlen, a0, a1, hlZ]
  generalize H ++ [Blk.cells 0 [.int .i64 0, .bool false, .nilS, .int .i64 0, .int .i64 0, .nilS]] = K0 at *
  refine loop_rule (fun m fr H' => ∃ (j : Nat) (bad : Bool) (acc : List Nd) (v : AV), (bad = false → j ≤ l.length ∧ 5 * (l.length - j) + 3 ≤ m ∧ acc.length ≤ j) ∧ m ≤ k ∧ fr.length = 67 ∧ fget fr 0 = .ptr b 0 0 ∧ fget fr 1 = .int .i64 (d : Nat) ∧ fget fr 4 = .ptr H.length 0 0 ∧ fget fr 5 = v
    ∧ H.length + 1 ≤ H'.length ∧ Kp H b [L, .int .i64 (j : Nat), .bool bad] H' ∧ hget H' H.length 0 = some [.int .i64 0, .bool false, .nilS, .int .i64 0, .int .i64 0, .nilS]
    ∧ Row encN 6 true (H.length + 1) H' v acc ∧ (v = .nilS ∨ acc ≠ []) ∧ concatR l k at_ false d [] = concatR l m j bad d acc) ?_ k _ _ ⟨at_, false, [], .nilS, by
      refine ⟨fun _ => ⟨by omega, by omega, by simp⟩, by omega, ?_⟩
      simp [wk, aBuiltin, AV.cells, AV.leaf, Nat.reduceEqDiff, Nat.reduceLT, Nat.reduceAdd, Nat.reduceLeDiff, reduceCtorEq, Nat.reduceMul, cfgP, u85, hlen, a0, a1, kp0, hz0, hK0l, Row.nil]⟩
  clear kp0 hz0 hK0l K0 a0 a1 hlen fr
  rintro m fr H' ⟨j, bad, acc, v, hjk, hmk, hlen, a0, a1, a4, a5, hH', kp, hz, hrow, hne, hc⟩ ih
  by_cases h1 : bad = true ∨ pk l j = -1 ∨ pk l j = 124 ∨ pk l j = 41
  · have e : concatR l m j bad d acc = ⟨conN acc, j, bad⟩ := by
      cases bad with
      | true => rw [concatR_bad]
      | false =>
        obtain ⟨hjl, hjm, _⟩ := hjk rfl
        obtain ⟨m, rfl⟩ : ∃ m', m = m' + 1 := ⟨m - 1, by omega⟩
        rw [concatR, if_neg (by simp : ¬ false = true), if_pos (by simpa using h1)]
    rw [hc, e]
    dsimp only
    have hlen2 := hrow.len Try.underlying45
    have hgZ : ∀ d, hget (H'.set H.length (.cells 0 d)) H.length 0 = some d := fun d => hget_set_at (by omega)
    have hkg := kp.get
    have q : (bad = true ∧ True ∧ True ∧ True ∧ True) ∨ (bad = false ∧ decide (((j : Nat) : Int) < (l.length : Nat)) = false ∧ True ∧ True ∧ True) ∨
        (∃ c : Int, bad = false ∧ decide (((j : Nat) : Int) < (l.length : Nat)) = true ∧ aIndexAddr Try.prog 80 L (.int .i64 (j : Nat)) = some (.vptr [.int .i32 c] 0) ∧ decide (¬ c = 124) = false ∧ True) ∨
        (∃ c : Int, bad = false ∧ decide (((j : Nat) : Int) < (l.length : Nat)) = true ∧ aIndexAddr Try.prog 80 L (.int .i64 (j : Nat)) = some (.vptr [.int .i32 c] 0) ∧ decide (¬ c = 124) = true ∧ decide (¬ c = 41) = false) := by
      cases bad with
      | true => exact .inl ⟨rfl, trivial, trivial, trivial, trivial⟩
      | false =>
        by_cases hi : j < l.length
        · have e1 := hL.at (k := .i64) (i := j) Try.underlying80 sz21 encI_len hi
          have h2 := h1.resolve_left (by simp)
          rw [pk_lt hi] at h2
          have hpos := (hl.2 _ (List.getElem_mem hi)).1
          rcases h2 with h2 | h2 | h2
          · omega
          · exact .inr (.inr (.inl ⟨_, rfl, decide_eq_true (by omega), e1, decide_eq_false (by simp [h2]), trivial⟩))
          · exact .inr (.inr (.inr ⟨_, rfl, decide_eq_true (by omega), e1, decide_eq_true (by omega), decide_eq_false (by simp [h2])⟩))
        · exact .inr (.inl ⟨rfl, decide_eq_false (by omega), trivial, trivial, trivial⟩)
    match acc, hrow, hne, hlen2 with
    | [], hrow, hne, hlen2 =>
      have hp1 := hput6 hz rfl (by omega : prot ≤ H.length) 0 false .nilS 0 0 .nilS rfl rfl
      simp only [List.length_nil] at hlen2
      have d0 : decide (((0 : Nat) : Int) = 0) = true := rfl
      simp only [conN, encN_zero]
      rcases q with ⟨rfl, d1, e1, d3, d4⟩ | ⟨rfl, d1, e1, d3, d4⟩ | ⟨c, rfl, d1, e1, d3, d4⟩ | ⟨c, rfl, d1, e1, d3, d4⟩
      all_goals
        simp only [wk, aBuiltin, AV.cells, AV.leaf, Nat.reduceEqDiff, Nat.reduceLT, Nat.reduceAdd, Nat.reduceLeDiff, reduceCtorEq, Nat.reduceMul, cfgP, u85, hlen, a0, a1, a4, a5, hkg, hL1, d1, e1, d3, d4, hlen2, d0, hp1, none_beq]
        exact nd_end2 (s := .nilS) (t := .nilS) kp rfl rfl (by simp [wk, aBuiltin, AV.cells, AV.leaf, Nat.reduceEqDiff, Nat.reduceLT, Nat.reduceAdd, Nat.reduceLeDiff, reduceCtorEq, Nat.reduceMul, cfgP, u85, hlen, a4, hgZ, aResults, aResult])
    | [x], hrow, hne, hlen2 =>
      obtain ⟨k', no, s, x1, x2, t, hx, hs, ht, hs2, ht2⟩ := encN_sh x
      have hp1 := hput6 hz rfl (by omega : prot ≤ H.length) k' no s x1 x2 t hs ht
      have d0 : decide (((1 : Nat) : Int) = 0) = false := rfl
      have d5 : decide (((1 : Nat) : Int) = 1) = true := rfl
      rcases hrow with ⟨_, q2⟩ | ⟨bb, ver, rfl, hbb, hgg, hv4⟩
      · cases q2
      have hcl : cellsOf encN [x] = [.int .i64 k', .bool no, s, .int .i64 x1, .int .i64 x2, t] := by simp [cellsOf, hx, AV.cells]
      rw [hcl] at hgg
      have e2 : aIndexAddr Try.prog 45 (.bs ⟨bb, ver, 0, [x].length, 0, 6, true, false⟩) (.int .i64 0) = some (.ptr bb ver 0) := by simp [aIndexAddr, asNat, Try.underlying45, sz47]
      simp only [List.length_cons, List.length_nil, Nat.zero_add] at e2 a5 hlen2
      simp only [conN, hx]
      unfold AV.leaf at hs ht
      rcases q with ⟨rfl, d1, e1, d3, d4⟩ | ⟨rfl, d1, e1, d3, d4⟩ | ⟨c, rfl, d1, e1, d3, d4⟩ | ⟨c, rfl, d1, e1, d3, d4⟩
      all_goals
        simp only [wk, aBuiltin, AV.cells, AV.leaf, Nat.reduceEqDiff, Nat.reduceLT, Nat.reduceAdd, Nat.reduceLeDiff, reduceCtorEq, Nat.reduceMul, cfgP, u85, hlen, a0, a1, a4, a5, hkg, hL1, d1, e1, d3, d4, hlen2, d0, d5, e2, hgg, hs, ht, hp1, none_beq]
        exact nd_end2 kp hs2 ht2 (by simp [wk, aBuiltin, AV.cells, AV.leaf, Nat.reduceEqDiff, Nat.reduceLT, Nat.reduceAdd, Nat.reduceLeDiff, reduceCtorEq, Nat.reduceMul, cfgP, u85, hlen, a4, hgZ, aResults, aResult])
    | x :: y :: r, hrow, hne, hlen2 =>
      have hvl : v.leaf = true := by rcases hrow with ⟨q, _⟩ | ⟨b, ver, q, _⟩ <;> rw [q] <;> rfl
      have hvc : v.cells = [v] := by rcases hrow with ⟨q, _⟩ | ⟨b, ver, q, _⟩ <;> rw [q] <;> rfl
      have hp1 := hput6 hz rfl (by omega : prot ≤ H.length) 2 false .nilS 0 0 v rfl hvl
      have d0 : decide ((((x :: y :: r).length : Nat) : Int) = 0) = false := decide_eq_false (by simp; omega)
      have d5 : decide ((((x :: y :: r).length : Nat) : Int) = 1) = false := decide_eq_false (by simp; omega)
      have hcn : conN (x :: y :: r) = .mk 2 false false [] 0 0 false (x :: y :: r) := rfl
      rw [hcn]
      generalize x :: y :: r = acc at *
      unfold AV.leaf at hvl; unfold AV.cells at hvc
      rcases q with ⟨rfl, d1, e1, d3, d4⟩ | ⟨rfl, d1, e1, d3, d4⟩ | ⟨c, rfl, d1, e1, d3, d4⟩ | ⟨c, rfl, d1, e1, d3, d4⟩
      all_goals
        simp only [wk, aBuiltin, AV.cells, AV.leaf, Nat.reduceEqDiff, Nat.reduceLT, Nat.reduceAdd, Nat.reduceLeDiff, reduceCtorEq, Nat.reduceMul, cfgP, u85, hlen, a0, a1, a4, a5, hkg, hL1, d1, e1, d3, d4, hlen2, d0, d5, hvl, hvc, hp1, none_beq]
        exact nd_endR2 kp hrow hne (by simp [wk, aBuiltin, AV.cells, AV.leaf, Nat.reduceEqDiff, Nat.reduceLT, Nat.reduceAdd, Nat.reduceLeDiff, reduceCtorEq, Nat.reduceMul, cfgP, u85, hlen, a4, hgZ, aResults, aResult])
  · have hb0 : bad = false := Bool.eq_false_iff.2 fun h => h1 (.inl h)
    subst hb0
    obtain ⟨hjl, hjm, hal⟩ := hjk rfl
    obtain ⟨m, rfl⟩ : ∃ m', m = m' + 1 := ⟨m - 1, by omega⟩
    have hj1 := pk_in (l := l) (i := j) fun h => h1 (.inr (.inl h))
    have e1 := hL.at (k := .i64) (i := j) Try.underlying80 sz21 encI_len hj1
    have d1 : decide (((j : Nat) : Int) < (l.length : Nat)) = true := decide_eq_true (by omega)
    have d3 : decide (¬ l[j] = 124) = true := decide_eq_true fun h => h1 (.inr (.inr (.inl (by rw [pk_lt hj1]; exact h))))
    have d4 : decide (¬ l[j] = 41) = true := decide_eq_true fun h => h1 (.inr (.inr (.inr (by rw [pk_lt hj1]; exact h))))
    generalize l[j] = c at *
    have n2 := hP m (by omega) L hL j d b prot H' hp kp.get (by omega) hd (by omega)
    have hcm : concatR l (m + 1) j false d acc = concatR l m (pieceR l m j d).at_ (pieceR l m j d).bad d (acc ++ [(pieceR l m j d).n]) := by
      rw [concatR, if_neg (by simp : ¬ false = true), if_neg (fun h => h1 (.inr h))]
    rw [hcm] at hc
    have hal2 := (read_alike hl m).2.1 j d hj1
    have hin := (readS_in l m).2.1 j d
    generalize pieceS l m j d = rs at *
    generalize pieceR l m j d = r at *
    obtain ⟨x, i, bad⟩ := r
    obtain ⟨k', no, s, x1, x2, t, hx, hs, ht, hs2, ht2⟩ := encN_sh x
    dsimp only at n2 hc
    rw [hx] at n2
    have hkg := kp.get
    have hl1 : (H'.set b (.cells 0 [L, .int .i64 (i : Nat), .bool bad])).length = H'.length := by simp
    have hlit := litN2 k' no s x1 x2 t hs ht (H'.set b (.cells 0 [L, .int .i64 (i : Nat), .bool bad]))
    have kp2 := (kp.put (hLb (i : Nat) bad)).app [Blk.cells 0 [.int .i64 k', .bool no, s, .int .i64 x1, .int .i64 x2, t]]
    have hz1 : hget (H'.set b (.cells 0 [L, .int .i64 (i : Nat), .bool bad])) H.length 0 = some [.int .i64 0, .bool false, .nilS, .int .i64 0, .int .i64 0, .nilS] := by rw [hget_set_ne (by omega)]; exact hz
    have hz2 := hget_mono hz1 [Blk.cells 0 [.int .i64 k', .bool no, s, .int .i64 x1, .int .i64 x2, t]]
    have hn3 : hget (H'.set b (.cells 0 [L, .int .i64 (i : Nat), .bool bad]) ++ [Blk.cells 0 [.int .i64 k', .bool no, s, .int .i64 x1, .int .i64 x2, t]]) (H'.set b (.cells 0 [L, .int .i64 (i : Nat), .bool bad])).length 0 = some (encN x).cells := by rw [hget_new rfl, if_pos rfl, hx]; rfl
    have hrow2 : Row encN 6 true (H.length + 1) (H'.set b (.cells 0 [L, .int .i64 (i : Nat), .bool bad]) ++ [Blk.cells 0 [.int .i64 k', .bool no, s, .int .i64 x1, .int .i64 x2, t]]) v acc := (hrow.setne (by omega) _).more _
    obtain ⟨o, H3, happ, hrow3, hle3, hno, hk3, hold⟩ := hrow2.appK (prot := prot) (xt := 45) encN_T rowN2 hxtN2 (elemL hn3) (by simp) (by simp [roomy]; omega) (by omega) (by simp; omega) kp2 (by omega)
    have hz3 := hold _ _ _ (by omega) hz2
    simp only [wk, aBuiltin, AV.cells, AV.leaf, Nat.reduceEqDiff, Nat.reduceLT, Nat.reduceAdd, Nat.reduceLeDiff, reduceCtorEq, Nat.reduceMul, cfgP, u85, hlen, a0, a1, a4, a5, hkg, hL1, d1, e1, encI, d3, d4, n2, hlit, happ, none_beq]
    refine ih _ _ m (by omega) ⟨i, bad, acc ++ [x], o, fun hbf => ?_, by omega, ?_⟩
    · obtain ⟨hok, hrs⟩ := hal2.good hbf
      have hin := hin hok
      have : rs.at_ = i := by cases hrs; rfl
      rw [this] at hin
      rw [List.length_append, List.length_singleton]
      omega
    · exact ⟨by simp [wk, aBuiltin, AV.cells, AV.leaf, Nat.reduceEqDiff, Nat.reduceLT, Nat.reduceAdd, Nat.reduceLeDiff, reduceCtorEq, Nat.reduceMul, cfgP, u85, hlen], by simp [wk, aBuiltin, AV.cells, AV.leaf, Nat.reduceEqDiff, Nat.reduceLT, Nat.reduceAdd, Nat.reduceLeDiff, reduceCtorEq, Nat.reduceMul, cfgP, u85, hlen, a0], by simp [wk, aBuiltin, AV.cells, AV.leaf, Nat.reduceEqDiff, Nat.reduceLT, Nat.reduceAdd, Nat.reduceLeDiff, reduceCtorEq, Nat.reduceMul, cfgP, u85, hlen, a1], by simp [wk, aBuiltin, AV.cells, AV.leaf, Nat.reduceEqDiff, Nat.reduceLT, Nat.reduceAdd, Nat.reduceLeDiff, reduceCtorEq, Nat.reduceMul, cfgP, u85, hlen, a4], by simp [wk, aBuiltin, AV.cells, AV.leaf, Nat.reduceEqDiff, Nat.reduceLT, Nat.reduceAdd, Nat.reduceLeDiff, reduceCtorEq, Nat.reduceMul, cfgP, u85, hlen], by simp at hle3; omega, hk3, hz3, hrow3, .inr (by simp), hc⟩
theorem eitN_ne {l : List Nd} (h : ¬ l.length = 1) : eitN l = .mk 3 false false [] 0 0 false l := by
  cases l with
  | nil => rfl
  | cons x r => cases r with
    | nil => exact absurd rfl h
    | cons y r => rfl
/-- a row that began as a literal. -/
def RowL (base : Nat) (H : Heap) (v : AV) (l : List Nd) : Prop := (Row encN 6 true base H v l ∧ l ≠ []) ∨ ∃ z n, v = .bs ⟨z, 0, 0, 1, 1, 6, true, true⟩ ∧ l = [n] ∧ hget H z 0 = some (encN n).cells ∧ base ≤ z
theorem RowL.len {base : Nat} {H : Heap} {v : AV} {l : List Nd} (h : RowL base H v l) : aLen Try.prog H 45 v = some (.int .i64 (l.length : Nat)) := by
  rcases h with ⟨h, _⟩ | ⟨z, n, rfl, rfl, _, _⟩
  · exact h.len Try.underlying45
  · simp [aLen, Try.underlying45]
theorem RowL.more {base : Nat} {H : Heap} {v : AV} {l : List Nd} (h : RowL base H v l) (x : List Blk) : RowL base (H ++ x) v l := by
  rcases h with ⟨h, h2⟩ | ⟨z, n, h1, h2, h3, h4⟩
  · exact .inl ⟨h.more x, h2⟩
  · exact .inr ⟨z, n, h1, h2, hget_mono h3 x, h4⟩
theorem RowL.setne {base b : Nat} {H : Heap} {v : AV} {l : List Nd} (h : RowL base H v l) (hb : b < base) (k : Blk) : RowL base (H.set b k) v l := by
  rcases h with ⟨h, h2⟩ | ⟨z, n, h1, h2, h3, h4⟩
  · exact .inl ⟨h.setne hb k, h2⟩
  · exact .inr ⟨z, n, h1, h2, by rw [hget_set_ne (by omega)]; exact h3, h4⟩
theorem RowL.at0 {base : Nat} {H : Heap} {v : AV} {n : Nd} (h : RowL base H v [n]) : ∃ z ver, aIndexAddr Try.prog 45 v (.int .i64 0) = some (.ptr z ver 0) ∧ hget H z ver = some (encN n).cells := by
  rcases h with ⟨⟨_, q⟩ | ⟨b, ver, rfl, _, hg, _⟩, _⟩ | ⟨z, m, rfl, hm, hg, _⟩
  · cases q
  · refine ⟨b, ver, by simp [aIndexAddr, asNat, Try.underlying45, sz47], ?_⟩
    rw [hg]; simp [cellsOf]
  · cases hm
    exact ⟨z, 0, by simp [aIndexAddr, asNat, Try.underlying45, sz47], hg⟩
theorem RowL.appK {base : Nat} {H : Heap} {v : AV} {l : List Nd} (h : RowL base H v l) {prot : Nat} {x : AV} {m : Nd} (hx : elemCells H 6 x = some ([m].length, cellsOf encN [m])) (hr : l.length ≤ 1000000) (hp : prot ≤ base) (hb : base ≤ H.length) {H0 : Heap} {b0 : Nat} {c : List AV} (hk : Kp H0 b0 c H) (h0 : H0.length ≤ base) :
    ∃ v' H', aAppend Try.prog prot H #[45, 45] v x = some (v', some H') ∧ Row encN 6 true base H' v' (l ++ [m]) ∧ H.length ≤ H'.length ∧ Kp H0 b0 c H' ∧ ∀ b ver cs, b < base → hget H b ver = some cs → hget H' b ver = some cs := by
  rcases h with ⟨h, _⟩ | ⟨z, n, rfl, rfl, hg, hz⟩
  · obtain ⟨v', H', h1, h2, h3, _, h5, h6⟩ := h.appK (prot := prot) (xt := 45) encN_T rowN2 hxtN2 hx (by simp) (by simp [roomy]; omega) hp hb hk h0
    exact ⟨v', H', h1, h2, h3, h5, h6⟩
  · have hc : cellsOf encN [n] = (encN n).cells := by simp [cellsOf]
    have hlen := encN_len n
    have hw : win (encN n).cells 0 (1 * 6) = some (encN n).cells := by
      simp only [win, Nat.zero_add, List.drop_zero]
      rw [if_pos (by omega), List.take_of_length_le (by omega)]
    obtain ⟨zz, hzz, hzl⟩ := rowN2.zero
    have hro : roomy (1 + 1) 80 = true := by decide
    have happ : aAppend Try.prog prot H #[45, 45] (.bs ⟨z, 0, 0, 1, 1, 6, true, true⟩) x = some (.bs ⟨H.length, 0, 0, ([n] ++ [m]).length, 0, 6, true, false⟩, some (H ++ [Blk.cells 0 (cellsOf encN ([n] ++ [m]))])) := by
      rw [cellsOf_append, hc]
      unfold aAppend
      simp only [List.getElem?_toArray, List.getElem?_cons_zero, List.getElem?_cons_succ, Option.bind_some, rowN2.elem, rowN2.size, rowN2.bytes, rowN2.agg, Try.underlying45, hzz, hzl, ne_eq, not_true_eq_false, if_false, hx, cellsOf_leaf encN_T [m], if_true, List.length_singleton, Nat.one_ne_zero, hg, hw, hro]
      rfl
    refine ⟨_, _, happ, .inr ⟨H.length, 0, rfl, hb, by rw [hget_new rfl, if_pos rfl], rfl⟩, by simp, hk.app _, fun b ver cs _ hg => hget_mono hg _⟩

theorem reither_ok (l : List Int) (hl : Runes l) (k : Nat) (hC : ∀ k', k' < k → RRok 84 3 l k' (fun j d => concatR l k' j false d []) 0) : RRok 58 4 l k (eitherR l k) 0 := by
  intro L hL at_ d b prot H hp hg hat hd hk
  have hb := hget_lt hg
  have hll := hl.1
  have hlZ : ∀ Z, (H ++ [Blk.cells 0 Z]).length = H.length + 1 := fun Z => by simp
  have hLb : ∀ (x : Int) (y : Bool), AV.blwL H.length [L, .int .i64 x, .bool y] = true := fun x y => plL_blwL _ _ (slI_plain3 hL _ _)
  have kp0 : Kp H b [L, .int .i64 at_, .bool false] (H ++ [Blk.cells 0 [.int .i64 0, .bool false, .nilS, .int .i64 0, .int .i64 0, .nilS]]) := (Kp.start hg).app _
  have hz0 : hget (H ++ [Blk.cells 0 [.int .i64 0, .bool false, .nilS, .int .i64 0, .int .i64 0, .nilS]]) H.length 0 = some [.int .i64 0, .bool false, .nilS, .int .i64 0, .int .i64 0, .nilS] := by simp [hget]
  have hK0l := hlZ [.int .i64 0, .bool false, .nilS, .int .i64 0, .int .i64 0, .nilS]
  obtain ⟨k, rfl⟩ : ∃ k', k = k' + 1 := ⟨k - 1, by omega⟩
  have heq : eitherR l (k + 1) at_ d = eitGo l k (concatR l k at_ false d []).at_ (concatR l k at_ false d []).bad d [(concatR l k at_ false d []).n] := by rw [eitherR]
  rw [heq]
  refine trim_slim rfl (by kernel_rfl) (by kernel_rfl) (by kernel_rfl) Try.func58 s58 (by simp [Try.f58]) fun fr hlen h => ?_
  simp only [Has, Nat.zero_add] at h
  obtain ⟨a0, a1, -⟩ := h
  simp only [Try.f58] at hlen ⊢
  unfold g58
  simp only [wk, aBuiltin, AV.cells, AV.leaf, Nat.reduceEqDiff, Nat.reduceLT, Nat.reduceAdd, Nat.reduceLeDiff, reduceCtorEq, Nat.reduceMul, cfgP, u85, hlen, a0, a1, hlZ]
  generalize H ++ [Blk.cells 0 [.int .i64 0, .bool false, .nilS, .int .i64 0, .int .i64 0, .nilS]] = K0 at *
  have n1 := hC k (by omega) L hL at_ d b prot K0 hp kp0.get (by omega) hd (by omega)
  dsimp only at n1
  have hal := (read_alike hl k).2.2.1 at_ d [] (by omega)
  have hin := (readS_in l k).2.2.1 at_ d [] (by omega)
  generalize concatS l k at_ d [] = rs at *
  generalize concatR l k at_ false d [] = r at *
  obtain ⟨x, i, bad0⟩ := r
  dsimp only
  have hib : bad0 = false → i ≤ l.length ∧ at_ ≤ i := fun hbf => by
    obtain ⟨hok, hrs⟩ := hal.good hbf
    have hin := hin hok
    have : rs.at_ = i := by cases hrs; rfl
    omega
  clear hal hin
  have hl1 : (K0.set b (.cells 0 [L, .int .i64 (i : Nat), .bool bad0])).length = H.length + 1 := by simp [hK0l]
  have kp1 := (kp0.put (hLb (i : Nat) bad0)).app [Blk.cells 0 (encN x).cells]
  have hz1 : hget (K0.set b (.cells 0 [L, .int .i64 (i : Nat), .bool bad0]) ++ [Blk.cells 0 (encN x).cells]) H.length 0 = some [.int .i64 0, .bool false, .nilS, .int .i64 0, .int .i64 0, .nilS] := hget_mono (by rw [hget_set_ne (by omega)]; exact hz0) _
  have hx1 : hget (K0.set b (.cells 0 [L, .int .i64 (i : Nat), .bool bad0]) ++ [Blk.cells 0 (encN x).cells]) (H.length + 1) 0 = some (encN x).cells := by rw [hget_new hl1.symm, if_pos rfl]
  have hl2 : (K0.set b (.cells 0 [L, .int .i64 (i : Nat), .bool bad0]) ++ [Blk.cells 0 (encN x).cells]).length = H.length + 2 := by simp [hK0l]
  have hrow1 : RowL (H.length + 1) (K0.set b (.cells 0 [L, .int .i64 (i : Nat), .bool bad0]) ++ [Blk.cells 0 (encN x).cells]) (.bs ⟨H.length + 1, 0, 0, 1, 1, 6, true, true⟩) [x] := .inr ⟨_, _, rfl, rfl, hx1, Nat.le_refl _⟩
  obtain ⟨k', no, s, x1, x2, t, hx, hs, ht, hs2, ht2⟩ := encN_sh x
  dsimp only at n1
  rw [hx] at n1
  have hlit := litN2 k' no s x1 x2 t hs ht (K0.set b (.cells 0 [L, .int .i64 (i : Nat), .bool bad0]))
  rw [hl1] at hlit
  have hxc : (encN x).cells = [.int .i64 k', .bool no, s, .int .i64 x1, .int .i64 x2, t] := by rw [hx]; rfl
  rw [hxc] at kp1 hz1 hl2 hrow1
  simp only [wk, aBuiltin, AV.cells, AV.leaf, Nat.reduceEqDiff, Nat.reduceLT, Nat.reduceAdd, Nat.reduceLeDiff, reduceCtorEq, Nat.reduceMul, cfgP, u85, hlen, a0, a1, n1, hlit]
  generalize K0.set b (.cells 0 [L, .int .i64 (i : Nat), .bool bad0]) ++ [Blk.cells 0 [.int .i64 k', .bool no, s, .int .i64 x1, .int .i64 x2, t]] = K1 at *
  refine loop_rule (fun m fr H' => ∃ (j : Nat) (bad : Bool) (acc : List Nd) (v : AV), (bad = false → j ≤ l.length ∧ 5 * (l.length - j) + 3 ≤ m ∧ acc.length ≤ j + 1) ∧ m ≤ k ∧ fr.length = 33 ∧ fget fr 0 = .ptr b 0 0 ∧ fget fr 1 = .int .i64 (d : Nat) ∧ fget fr 4 = .ptr H.length 0 0 ∧ fget fr 5 = v
    ∧ H.length + 1 ≤ H'.length ∧ Kp H b [L, .int .i64 (j : Nat), .bool bad] H' ∧ hget H' H.length 0 = some [.int .i64 0, .bool false, .nilS, .int .i64 0, .int .i64 0, .nilS]
    ∧ RowL (H.length + 1) H' v acc ∧ eitGo l k i bad0 d [x] = eitGo l m j bad d acc) ?_ k _ _ ⟨i, bad0, [x], .bs ⟨H.length + 1, 0, 0, 1, 1, 6, true, true⟩, by
      refine ⟨fun hbf => ⟨(hib hbf).1, by have := hib hbf; omega, by simp⟩, by omega, ?_⟩
      simp [wk, aBuiltin, AV.cells, AV.leaf, Nat.reduceEqDiff, Nat.reduceLT, Nat.reduceAdd, Nat.reduceLeDiff, reduceCtorEq, Nat.reduceMul, cfgP, u85, hlen, a0, a1, kp1, hz1, hl2, hrow1]⟩
  clear kp1 hz1 hx1 hl1 hl2 hrow1 hx hs ht hs2 ht2 hxc hlit n1 kp0 hz0 hK0l K0 K1 a0 a1 hlen fr hib
  have n0 := fun (j : Nat) (y : Bool) (K : Heap) (hk : hget K b 0 = some [L, .int .i64 (j : Nat), .bool y]) => ris15_ok l L hL hl j b y 124 (by decide) prot K hp hk
  rintro m fr H' ⟨j, bad, acc, v, hjk, hmk, hlen, a0, a1, a4, a5, hH', kp, hz, hrow, hc⟩ ih
  have n1 := n0 j bad H' kp.get
  have hkg := kp.get
  by_cases h1 : bad = true ∨ pk l j ≠ 124
  · have e : eitGo l m j bad d acc = ⟨eitN acc, j, bad⟩ := by
      cases bad with
      | true => rw [eitGo_bad]
      | false =>
        obtain ⟨hjl, hjm, _⟩ := hjk rfl
        obtain ⟨m, rfl⟩ : ∃ m', m = m' + 1 := ⟨m - 1, by omega⟩
        rw [eitGo, if_neg (by simp : ¬ false = true), if_neg (h1.resolve_left (by simp))]
    rw [hc, e]
    dsimp only
    have hlen2 := hrow.len
    have hgZ : ∀ d, hget (H'.set H.length (.cells 0 d)) H.length 0 = some d := fun d => hget_set_at (by omega)
    have q : (bad = true ∧ True) ∨ (bad = false ∧ aLim cfg prot 85 [.ptr b 0 0, .int .i32 124] H' = some (.bool false, some H')) := by
      cases bad with
      | true => exact .inl ⟨rfl, trivial⟩
      | false =>
        have h2 := h1.resolve_left (by simp)
        rw [if_neg h2, decide_eq_false h2, set_self hkg] at n1
        exact .inr ⟨rfl, n1⟩
    clear n1
    by_cases ha : acc.length = 1
    · obtain ⟨x, rfl⟩ := List.length_eq_one_iff.1 ha
      obtain ⟨z, ver, e2, hgg⟩ := hrow.at0
      obtain ⟨k', no, s, x1, x2, t, hx, hs, ht, hs2, ht2⟩ := encN_sh x
      have hp1 := hput6 hz rfl (by omega : prot ≤ H.length) k' no s x1 x2 t hs ht
      have hxc : (encN x).cells = [.int .i64 k', .bool no, s, .int .i64 x1, .int .i64 x2, t] := by rw [hx]; rfl
      rw [hxc] at hgg
      have d5 : decide (((1 : Nat) : Int) = 1) = true := rfl
      simp only [List.length_singleton] at hlen2
      simp only [eitN, hx]
      unfold AV.leaf at hs ht
      rcases q with ⟨rfl, n1⟩ | ⟨rfl, n1⟩
      all_goals
        simp only [wk, aBuiltin, AV.cells, AV.leaf, Nat.reduceEqDiff, Nat.reduceLT, Nat.reduceAdd, Nat.reduceLeDiff, reduceCtorEq, Nat.reduceMul, cfgP, u85, hlen, a0, a1, a4, a5, hkg, n1, hlen2, d5, e2, hgg, hs, ht, hp1, none_beq]
        exact nd_end2 kp hs2 ht2 (by simp [wk, aBuiltin, AV.cells, AV.leaf, Nat.reduceEqDiff, Nat.reduceLT, Nat.reduceAdd, Nat.reduceLeDiff, reduceCtorEq, Nat.reduceMul, cfgP, u85, hlen, a4, hgZ, aResults, aResult])
    · have hrw : Row encN 6 true (H.length + 1) H' v acc ∧ acc ≠ [] := by
        rcases hrow with h | ⟨z, n, _, rfl, _, _⟩
        · exact h
        · exact absurd rfl ha
      obtain ⟨hrow, hne⟩ := hrw
      have hvl : v.leaf = true := by rcases hrow with ⟨q, _⟩ | ⟨b, ver, q, _⟩ <;> rw [q] <;> rfl
      have hvc : v.cells = [v] := by rcases hrow with ⟨q, _⟩ | ⟨b, ver, q, _⟩ <;> rw [q] <;> rfl
      have hp1 := hput6 hz rfl (by omega : prot ≤ H.length) 3 false .nilS 0 0 v rfl hvl
      have d5 : decide (((acc.length : Nat) : Int) = 1) = false := decide_eq_false (by omega)
      have hcn := eitN_ne ha
      rw [hcn]
      unfold AV.leaf at hvl; unfold AV.cells at hvc
      rcases q with ⟨rfl, n1⟩ | ⟨rfl, n1⟩
      all_goals
        simp only [wk, aBuiltin, AV.cells, AV.leaf, Nat.reduceEqDiff, Nat.reduceLT, Nat.reduceAdd, Nat.reduceLeDiff, reduceCtorEq, Nat.reduceMul, cfgP, u85, hlen, a0, a1, a4, a5, hkg, n1, hlen2, d5, hvl, hvc, hp1, none_beq]
        exact nd_endR2 kp hrow (.inr hne) (by simp [wk, aBuiltin, AV.cells, AV.leaf, Nat.reduceEqDiff, Nat.reduceLT, Nat.reduceAdd, Nat.reduceLeDiff, reduceCtorEq, Nat.reduceMul, cfgP, u85, hlen, a4, hgZ, aResults, aResult])
  · have hb0 : bad = false := Bool.eq_false_iff.2 fun h => h1 (.inl h)
    have h2 : pk l j = 124 := Classical.byContradiction fun h => h1 (.inr h)
    subst hb0
    obtain ⟨hjl, hjm, hal⟩ := hjk rfl
    obtain ⟨m, rfl⟩ : ∃ m', m = m' + 1 := ⟨m - 1, by omega⟩
    have hj1 := pk_in (l := l) (i := j) (by rw [h2]; decide)
    simp only [h2, if_true, decide_true] at n1
    have hbe : b < H'.length := by omega
    have n2 := hC m (by omega) L hL (j + 1) d b prot _ hp (hget_set_at (v := 0) (cs := [L, .int .i64 ((j + 1 : Nat)), .bool false]) hbe) (by omega) hd (by omega)
    dsimp only at n2
    rw [List.set_set] at n2
    have hcm : eitGo l (m + 1) j false d acc = eitGo l m (concatR l m (j + 1) false d []).at_ (concatR l m (j + 1) false d []).bad d (acc ++ [(concatR l m (j + 1) false d []).n]) := by
      rw [eitGo, if_neg (by simp : ¬ false = true), if_pos h2]
    rw [hcm] at hc
    have hal2 := (read_alike hl m).2.2.1 (j + 1) d [] hj1
    have hin := (readS_in l m).2.2.1 (j + 1) d [] hj1
    generalize concatS l m (j + 1) d [] = rs at *
    generalize concatR l m (j + 1) false d [] = r at *
    obtain ⟨x, i, bad⟩ := r
    obtain ⟨k', no, s, x1, x2, t, hx, hs, ht, hs2, ht2⟩ := encN_sh x
    dsimp only at n2 hc
    rw [hx] at n2
    have hl1 : (H'.set b (.cells 0 [L, .int .i64 (i : Nat), .bool bad])).length = H'.length := by simp
    have hlit := litN2 k' no s x1 x2 t hs ht (H'.set b (.cells 0 [L, .int .i64 (i : Nat), .bool bad]))
    have kp2 := (kp.put (hLb (i : Nat) bad)).app [Blk.cells 0 [.int .i64 k', .bool no, s, .int .i64 x1, .int .i64 x2, t]]
    have hz1 : hget (H'.set b (.cells 0 [L, .int .i64 (i : Nat), .bool bad])) H.length 0 = some [.int .i64 0, .bool false, .nilS, .int .i64 0, .int .i64 0, .nilS] := by rw [hget_set_ne (by omega)]; exact hz
    have hz2 := hget_mono hz1 [Blk.cells 0 [.int .i64 k', .bool no, s, .int .i64 x1, .int .i64 x2, t]]
    have hn3 : hget (H'.set b (.cells 0 [L, .int .i64 (i : Nat), .bool bad]) ++ [Blk.cells 0 [.int .i64 k', .bool no, s, .int .i64 x1, .int .i64 x2, t]]) (H'.set b (.cells 0 [L, .int .i64 (i : Nat), .bool bad])).length 0 = some (encN x).cells := by rw [hget_new rfl, if_pos rfl, hx]; rfl
    have hrow2 : RowL (H.length + 1) (H'.set b (.cells 0 [L, .int .i64 (i : Nat), .bool bad]) ++ [Blk.cells 0 [.int .i64 k', .bool no, s, .int .i64 x1, .int .i64 x2, t]]) v acc := (hrow.setne (by omega) _).more _
    obtain ⟨o, H3, happ, hrow3, hle3, hk3, hold⟩ := hrow2.appK (prot := prot) (elemL hn3) (by omega) (by omega) (by simp; omega) kp2 (by omega)
    have hz3 := hold _ _ _ (by omega) hz2
    simp only [wk, aBuiltin, AV.cells, AV.leaf, Nat.reduceEqDiff, Nat.reduceLT, Nat.reduceAdd, Nat.reduceLeDiff, reduceCtorEq, Nat.reduceMul, cfgP, u85, hlen, a0, a1, a4, a5, hkg, n1, n2, hlit, happ, none_beq]
    refine ih _ _ m (by omega) ⟨i, bad, acc ++ [x], o, fun hbf => ?_, by omega, ?_⟩
    · obtain ⟨hok, hrs⟩ := hal2.good hbf
      have hin := hin hok
      have : rs.at_ = i := by cases hrs; rfl
      rw [this] at hin
      rw [List.length_append, List.length_singleton]
      omega
    · exact ⟨by simp [wk, aBuiltin, AV.cells, AV.leaf, Nat.reduceEqDiff, Nat.reduceLT, Nat.reduceAdd, Nat.reduceLeDiff, reduceCtorEq, Nat.reduceMul, cfgP, u85, hlen], by simp [wk, aBuiltin, AV.cells, AV.leaf, Nat.reduceEqDiff, Nat.reduceLT, Nat.reduceAdd, Nat.reduceLeDiff, reduceCtorEq, Nat.reduceMul, cfgP, u85, hlen, a0], by simp [wk, aBuiltin, AV.cells, AV.leaf, Nat.reduceEqDiff, Nat.reduceLT, Nat.reduceAdd, Nat.reduceLeDiff, reduceCtorEq, Nat.reduceMul, cfgP, u85, hlen, a1], by simp [wk, aBuiltin, AV.cells, AV.leaf, Nat.reduceEqDiff, Nat.reduceLT, Nat.reduceAdd, Nat.reduceLeDiff, reduceCtorEq, Nat.reduceMul, cfgP, u85, hlen, a4], by simp [wk, aBuiltin, AV.cells, AV.leaf, Nat.reduceEqDiff, Nat.reduceLT, Nat.reduceAdd, Nat.reduceLeDiff, reduceCtorEq, Nat.reduceMul, cfgP, u85, hlen], by simp at hle3; omega, hk3, hz3, .inl ⟨hrow3, by simp⟩, hc⟩
/-- the four together: as far as the fuel goes. -/
theorem rread_ok (l : List Int) (hl : Runes l) : ∀ k : Nat, RRok 58 4 l k (eitherR l k) 0 ∧ RRok 84 3 l k (fun j d => concatR l k j false d []) 0 ∧ RRok 103 2 l k (pieceR l k) 1 ∧ RRok 117 1 l k (atomR l k) 1 := by
  intro k
  induction k using Nat.strongRecOn with
  | _ k ih =>
    refine ⟨reither_ok l hl k fun k' h => (ih k' h).2.1, rconcat_ok l hl k fun k' h => (ih k' h).2.2.1, ?_, ?_⟩
    · cases k with
      | zero => intro L _ at_ d b prot H _ _ h1 _ h2; omega
      | succ k => exact rpiece_ok l hl k (ih k (by omega)).2.2.2
    · cases k with
      | zero => intro L _ at_ d b prot H _ _ h1 _ h2; omega
      | succ k => exact ratom_ok l hl k (ih k (by omega)).1
end Go.Proofs.Ytoblikhnbddfmaa
