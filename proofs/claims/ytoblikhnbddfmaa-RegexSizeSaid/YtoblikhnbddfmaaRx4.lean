import Derived.Test.YtoblikhnbddfmaaRx3
/-! Chapter 15: what an expression is; atoms walked. -/
set_option linter.unusedSimpArgs false
namespace Go.Proofs.Ytoblikhnbddfmaa
open Go Go.Abs AbsSeat Ty

def ndZ : Nd := .mk 0 false false [] 0 0 false []
def ndR (x : Nd) (a b : Int) : Nd := .mk 4 false false [] a b true [x]
def conN : List Nd → Nd
  | [] => ndZ
  | [x] => x
  | l => .mk 2 false false [] 0 0 false l
def eitN : List Nd → Nd
  | [x] => x
  | l => .mk 3 false false [] 0 0 false l
def ats : List UInt8 := [124, 42, 43, 63, 41, 93, 123, 125]
mutual
def atomS (l : List Int) : Nat → Nat → Nat → Rd
  | 0, j, _ => ⟨ndZ, j, false⟩
  | k + 1, j, d =>
    if pk l j = 40 then
      if 16 ≤ d then ⟨ndZ, j + 1, false⟩
      else
        let r := eitherS l k (j + 1) (d + 1) []
        if r.ok = true then (if pk l r.at_ = 41 then ⟨r.n, r.at_ + 1, true⟩ else ⟨r.n, r.at_, false⟩) else ⟨r.n, r.at_, false⟩
    else if pk l j = 91 then classS l (j + 1)
    else if pk l j = 46 then ⟨.mk 1 true false [] 0 0 false [], j + 1, true⟩
    else if pk l j = 92 then ⟨.mk 1 false true (escS (pk l (j + 1))).1 0 0 false [], j + 2, (escS (pk l (j + 1))).2⟩
    else ⟨.mk 1 false true [⟨pk l j, pk l j⟩] 0 0 false [], j + 1, decide (pk l j ≠ -1) && !hasS ats (pk l j)⟩
def pieceS (l : List Int) : Nat → Nat → Nat → Rd
  | 0, j, _ => ⟨ndZ, j, false⟩
  | k + 1, j, d =>
    let r := atomS l k j d
    if r.ok = true then
      if pk l r.at_ = 43 then ⟨ndR r.n 1 (-1), r.at_ + 1, true⟩
      else if pk l r.at_ = 42 then ⟨ndR r.n 0 (-1), r.at_ + 1, true⟩
      else if pk l r.at_ = 63 then ⟨ndR r.n 0 1, r.at_ + 1, true⟩
      else if pk l r.at_ = 123 then ⟨ndR r.n (timesS l (r.at_ + 1)).lo (timesS l (r.at_ + 1)).hi, (timesS l (r.at_ + 1)).at_, (timesS l (r.at_ + 1)).ok⟩
      else r
    else r
def concatS (l : List Int) : Nat → Nat → Nat → List Nd → Rd
  | 0, j, _, _ => ⟨ndZ, j, false⟩
  | k + 1, j, d, acc =>
    if pk l j = -1 ∨ pk l j = 124 ∨ pk l j = 41 then ⟨conN acc, j, true⟩
    else
      let r := pieceS l k j d
      if r.ok = true then concatS l k r.at_ d (acc ++ [r.n]) else r
def eitherS (l : List Int) : Nat → Nat → Nat → List Nd → Rd
  | 0, j, _, _ => ⟨ndZ, j, false⟩
  | k + 1, j, d, acc =>
    let r := concatS l k j d []
    if r.ok = true then
      if pk l r.at_ = 124 then eitherS l k (r.at_ + 1) d (acc ++ [r.n]) else ⟨eitN (acc ++ [r.n]), r.at_, true⟩
    else r
end

theorem numL_up (l : List Int) (i : Nat) : i ≤ i + numL l i := by omega
theorem timesS_in {l : List Int} {i : Nat} (h : (timesS l i).ok = true) : i < (timesS l i).at_ ∧ (timesS l i).at_ ≤ l.length := by
  unfold timesS at h ⊢
  dsimp only at h ⊢
  split at h
  · rename_i h1
    rw [if_pos h1]
    split at h
    · rename_i h2
      rw [if_pos h2]
      split at h
      · rename_i h3
        rw [if_pos h3]
        have := pk_in (l := l) (i := i + numL l i + 1) (by rw [h3]; decide)
        dsimp only; omega
      · rename_i h3
        rw [if_neg h3]
        split at h
        · rename_i h4
          rw [if_pos h4]
          split at h
          · rename_i h5
            rw [if_pos h5]
            have := pk_in (l := l) (i := i + numL l i + 1 + numL l (i + numL l i + 1)) (by rw [h5]; decide)
            dsimp only; omega
          · cases h
        · cases h
    · rename_i h2
      rw [if_neg h2]
      split at h
      · rename_i h3
        rw [if_pos h3]
        have := pk_in (l := l) (i := i + numL l i) (by rw [h3]; decide)
        dsimp only; omega
      · cases h
  · cases h
theorem classGo_in {l : List Int} : ∀ (k j : Nat) (acc : List Sg), (classGo l k j acc).2.2 = true → j < (classGo l k j acc).2.1 ∧ (classGo l k j acc).2.1 ≤ l.length
  | 0, j, acc, h => by cases h
  | k + 1, j, acc, h => by
    rw [classGo] at h ⊢
    split at h
    · rename_i h1
      rw [if_pos h1]
      have := pk_in (l := l) (i := j) (by rw [h1]; decide)
      dsimp only; omega
    · rename_i h1
      rw [if_neg h1]
      split at h
      · rename_i h2
        rw [if_pos h2]
        split at h
        · rename_i h3
          rw [if_pos h3]
          have := classGo_in k _ _ h
          omega
        · cases h
      · rename_i h2
        rw [if_neg h2]
        split at h
        · cases h
        · rename_i h3
          rw [if_neg h3]
          split at h
          · rename_i h4
            rw [if_pos h4]
            split at h
            · cases h
            · rename_i h5
              rw [if_neg h5]
              have := classGo_in k _ _ h
              omega
          · rename_i h4
            rw [if_neg h4]
            have := classGo_in k _ _ h
            omega
theorem classS_in {l : List Int} {j : Nat} (h : (classS l j).ok = true) : j < (classS l j).at_ ∧ (classS l j).at_ ≤ l.length := by
  unfold classS at h ⊢
  dsimp only at h ⊢
  have hi : j ≤ if pk l j = 94 then j + 1 else j := by split <;> omega
  generalize (if pk l j = 94 then j + 1 else j) = i at *
  have := classGo_in (l := l) (l.length + 2) i [] (by revert h; cases (classGo l (l.length + 2) i []).2.2 <;> simp)
  omega
theorem readS_in (l : List Int) : ∀ k : Nat, (∀ j d, (atomS l k j d).ok = true → j < (atomS l k j d).at_ ∧ (atomS l k j d).at_ ≤ l.length) ∧ (∀ j d, (pieceS l k j d).ok = true → j < (pieceS l k j d).at_ ∧ (pieceS l k j d).at_ ≤ l.length) ∧
    (∀ j d acc, j ≤ l.length → (concatS l k j d acc).ok = true → j ≤ (concatS l k j d acc).at_ ∧ (concatS l k j d acc).at_ ≤ l.length) ∧ ∀ j d acc, j ≤ l.length → (eitherS l k j d acc).ok = true → j ≤ (eitherS l k j d acc).at_ ∧ (eitherS l k j d acc).at_ ≤ l.length
  | 0 => ⟨fun j d h => by simp [atomS] at h, fun j d h => by simp [pieceS] at h, fun j d acc _ h => by simp [concatS] at h, fun j d acc _ h => by simp [eitherS] at h⟩
  | k + 1 => by
    obtain ⟨ha, hp, hc, he⟩ := readS_in l k
    refine ⟨fun j d h => ?_, fun j d h => ?_, fun j d acc hj h => ?_, fun j d acc hj h => ?_⟩
    · rw [atomS] at h ⊢
      try dsimp only at h ⊢
      split at h
      · rename_i h1
        rw [if_pos h1]
        have hj := pk_in (l := l) (i := j) (by rw [h1]; decide)
        split at h
        · cases h
        · rename_i h2
          rw [if_neg h2]
          split at h
          · rename_i h3
            rw [if_pos h3]
            have := he (j + 1) (d + 1) [] (by omega) h3
            split at h
            · rename_i h4
              rw [if_pos h4]
              have := pk_in (l := l) (i := (eitherS l k (j + 1) (d + 1) []).at_) (by rw [h4]; decide)
              dsimp only; omega
            · cases h
          · cases h
      · rename_i h1
        rw [if_neg h1]
        split at h
        · rename_i h2
          rw [if_pos h2]
          have := classS_in h
          omega
        · rename_i h2
          rw [if_neg h2]
          split at h
          · rename_i h3
            rw [if_pos h3]
            have := pk_in (l := l) (i := j) (by rw [h3]; decide)
            dsimp only; omega
          · rename_i h3
            rw [if_neg h3]
            split at h
            · rename_i h4
              rw [if_pos h4]
              try dsimp only at h ⊢
              have : pk l (j + 1) ≠ -1 := fun q => by rw [q] at h; exact absurd h (by decide)
              have := pk_in this
              omega
            · rename_i h4
              rw [if_neg h4]
              try dsimp only at h ⊢
              simp only [Bool.and_eq_true, decide_eq_true_eq] at h
              have := pk_in h.1
              omega
    · rw [pieceS] at h ⊢
      try dsimp only at h ⊢
      split at h
      · rename_i h1
        rw [if_pos h1]
        have h0 := ha j d h1
        split at h
        · rename_i h2
          rw [if_pos h2]
          have := pk_in (l := l) (i := (atomS l k j d).at_) (by rw [h2]; decide)
          dsimp only; omega
        · rename_i h2
          rw [if_neg h2]
          split at h
          · rename_i h3
            rw [if_pos h3]
            have := pk_in (l := l) (i := (atomS l k j d).at_) (by rw [h3]; decide)
            dsimp only; omega
          · rename_i h3
            rw [if_neg h3]
            split at h
            · rename_i h4
              rw [if_pos h4]
              have := pk_in (l := l) (i := (atomS l k j d).at_) (by rw [h4]; decide)
              dsimp only; omega
            · rename_i h4
              rw [if_neg h4]
              split at h
              · rename_i h5
                rw [if_pos h5]
                have := timesS_in h
                dsimp only; omega
              · rename_i h5
                rw [if_neg h5]
                exact h0
      · rename_i h1
        exact absurd h h1
    · rw [concatS] at h ⊢
      try dsimp only at h ⊢
      split at h
      · rename_i h1
        rw [if_pos h1]
        exact ⟨Nat.le_refl _, hj⟩
      · rename_i h1
        rw [if_neg h1]
        split at h
        · rename_i h2
          rw [if_pos h2]
          have h0 := hp j d h2
          have := hc _ d _ h0.2 h
          omega
        · rename_i h2
          exact absurd h h2
    · rw [eitherS] at h ⊢
      try dsimp only at h ⊢
      split at h
      · rename_i h1
        rw [if_pos h1]
        have h0 := hc j d [] hj h1
        split at h
        · rename_i h2
          rw [if_pos h2]
          have := pk_in (l := l) (i := (concatS l k j d []).at_) (by rw [h2]; decide)
          have := he _ d _ (by omega) h
          omega
        · rename_i h2
          rw [if_neg h2]
          exact h0
      · rename_i h1
        exact absurd h h1
theorem encN_sh (x : Nd) : ∃ k no s a b t, encN x = .agg [.int .i64 k, .bool no, s, .int .i64 a, .int .i64 b, t] ∧ s.leaf = true ∧ t.leaf = true ∧ still s = true ∧ still t = true := by
  cases x
  exact ⟨_, _, _, _, _, _, encN_eq .., slF_leaf .., slF_leaf .., slF_still .., slF_still ..⟩
end Go.Proofs.Ytoblikhnbddfmaa
/-! Chapter 15: atoms and pieces, walked. -/
namespace Go.Proofs.Ytoblikhnbddfmaa
open Go Go.Abs AbsSeat Ty

/-- a reader's function does what is said, if there is fuel. -/
def Rok (f need : Nat) (l : List Int) (k : Nat) (S : Nat → Nat → Rd) (far : Nat) : Prop := ∀ (L : AV), Sl encI L l → ∀ (at_ d b prot : Nat) (H : Heap), prot ≤ b → hget H b 0 = some [L, .int .i64 (at_ : Nat)] → at_ + far ≤ l.length → d ≤ 16 → 5 * (l.length - at_) + need ≤ k →
  aLim cfg prot f [.ptr b 0 0, .int .i64 (d : Nat)] H = some (.tup [encN (S at_ d).n, .bool (S at_ d).ok], some (H.set b (.cells 0 [L, .int .i64 ((S at_ d).at_ : Nat)])))
theorem nd_end {prot : Nat} {res : List ResultVar} {fr : List AV} {H K : Heap} {b : Nat} {L : AV} {j : Nat} {s t : AV} {X : Blk} {no ok : Bool} {k a c : Int} (kp : Kp H b [L, .int .i64 (j : Nat)] K) (hs : still s = true) (ht : still t = true)
    (h1 : aResults cfg.P fr (K.set H.length X) res = some [.agg [.int .i64 k, .bool no, s, .int .i64 a, .int .i64 c, t], .bool ok]) :
    Fin ⟨cfg, prot, res, .trim H⟩ fr (K.set H.length X) (.tup [.agg [.int .i64 k, .bool no, s, .int .i64 a, .int .i64 c, t], .bool ok], some (H.set b (.cells 0 [L, .int .i64 (j : Nat)]))) :=
  (kp.new (Nat.le_refl _) X).fin h1 (.tup (.cons (.agg (.cons (.still rfl) (.cons (.still rfl) (.cons (.still hs) (.cons (.still rfl) (.cons (.still rfl) (.cons (.still ht) .nil))))))) (.cons (.still rfl) .nil)))
theorem slF_ne {α : Type} (f : Bool) (enc : α → AV) {l : List α} (h : 0 < l.length) : slF f enc l = .vs (l.map enc) f := by
  cases l with
  | nil => simp at h
  | cons x r => rfl
theorem hput6 {prot z : Nat} {K : Heap} {cs : List AV} (hg : hget K z 0 = some cs) (hc : cs.length = 6) (hp : prot ≤ z) (k : Int) (n : Bool) (s : AV) (x y : Int) (t : AV) (h1 : s.leaf = true) (h2 : t.leaf = true) :
    hput prot K z 0 0 [.int .i64 k, .bool n, s, .int .i64 x, .int .i64 y, t] = some (K.set z (.cells 0 [.int .i64 k, .bool n, s, .int .i64 x, .int .i64 y, t])) := by
  rw [hput_eq hg hp (by simp [hc]) (by simp only [List.all_cons, List.all_nil, h1, h2]; rfl)]
  have : splice cs 0 [.int .i64 k, .bool n, s, .int .i64 x, .int .i64 y, t] = [.int .i64 k, .bool n, s, .int .i64 x, .int .i64 y, t] := by
    unfold splice; simp [hc]
  rw [this]

theorem atom_ok (l : List Int) (hl : Runes l) (k : Nat) (hE : Rok 57 4 l k (fun j d => eitherS l k j d []) 0) : Rok 115 1 l (k + 1) (atomS l (k + 1)) 1 := by
  intro L hL at_ d b prot H hp hg hat hd hk
  have hb := hget_lt hg
  have hll := hl.1
  have hlZ : ∀ Z, (H ++ [Blk.cells 0 Z]).length = H.length + 1 := fun Z => by simp
  have hLb : ∀ x : Int, AV.blwL H.length [L, .int .i64 x] = true := fun x => plL_blwL _ _ (slI_plain hL _)
  have kp0 : Kp H b [L, .int .i64 at_] (H ++ [Blk.cells 0 [.int .i64 0, .bool false, .nilS, .int .i64 0, .int .i64 0, .nilS]]) := (Kp.start hg).app _
  have hz0 : hget (H ++ [Blk.cells 0 [.int .i64 0, .bool false, .nilS, .int .i64 0, .int .i64 0, .nilS]]) H.length 0 = some [.int .i64 0, .bool false, .nilS, .int .i64 0, .int .i64 0, .nilS] := by simp [hget]
  have hK0l := hlZ [.int .i64 0, .bool false, .nilS, .int .i64 0, .int .i64 0, .nilS]
  have hww : IntKind.i64.wrap ((at_ : Int) + 1) = ((at_ + 1 : Nat) : Int) := by rw [wrap64 (by omega) (by omega)]; simp
  have hwd : IntKind.i64.wrap ((d : Int) + 1) = ((d + 1 : Nat) : Int) := by rw [wrap64 (by omega) (by omega)]; simp
  have n0 := fun (es : List Sg) (K : Heap) (hK : prot ≤ K.length) => one_ok (.vs (es.map encG) true) rfl rfl (fun _ _ => .still rfl) prot K hK rfl
  refine trim_slim rfl (by kernel_rfl) (by kernel_rfl) (by kernel_rfl) Try.func115 s115 (by simp [Try.f115]) fun fr hlen h => ?_
  simp only [Has, Nat.zero_add] at h
  obtain ⟨a0, a1, -⟩ := h
  simp only [Try.f115] at hlen ⊢
  unfold g115
  simp only [wk, aBuiltin, AV.cells, AV.leaf, Nat.reduceEqDiff, Nat.reduceLT, Nat.reduceAdd, Nat.reduceLeDiff, reduceCtorEq, Nat.reduceMul, cfgP, u125, hlen, a0, a1, hlZ]
  generalize H ++ [Blk.cells 0 [.int .i64 0, .bool false, .nilS, .int .i64 0, .int .i64 0, .nilS]] = K0 at *
  have hbe : b < K0.length := by omega
  have n1 := peek_ok l L hL hl at_ b prot K0 (by omega) kp0.get
  have hput1 : hput prot K0 b 0 1 [.int .i64 ((at_ + 1 : Nat))] = some (K0.set b (.cells 0 [L, .int .i64 ((at_ + 1 : Nat))])) := by
    rw [hput_eq kp0.get hp (by simp) (by simp [AV.leaf])]; rfl
  have hset : ∀ (c d : List AV), (K0.set b (.cells 0 c)).set b (.cells 0 d) = K0.set b (.cells 0 d) := fun c d => List.set_set ..
  have hgs : ∀ c, hget (K0.set b (.cells 0 c)) b 0 = some c := fun c => hget_set_at hbe
  have kps := fun x : Int => kp0.put (hLb x)
  have hzs : ∀ c, hget (K0.set b (.cells 0 c)) H.length 0 = some [.int .i64 0, .bool false, .nilS, .int .i64 0, .int .i64 0, .nilS] := fun c => by rw [hget_set_ne (by omega)]; exact hz0
  have hputZ : ∀ c k n s x y t, s.leaf = true → t.leaf = true → hput prot (K0.set b (.cells 0 c)) H.length 0 0 [.int .i64 k, .bool n, s, .int .i64 x, .int .i64 y, t] = some ((K0.set b (.cells 0 c)).set H.length (.cells 0 [.int .i64 k, .bool n, s, .int .i64 x, .int .i64 y, t])) := fun c k n s x y t h1 h2 => by
    exact hput6 (hzs c) rfl (by omega) k n s x y t h1 h2
  have hgZ : ∀ c d, hget ((K0.set b (.cells 0 c)).set H.length (.cells 0 d)) H.length 0 = some d := fun c d => hget_set_at (by simp; omega)
  have hlK : ∀ c, prot ≤ (K0.set b (.cells 0 c)).length := fun c => by simp; omega
  unfold atomS
  by_cases h1 : pk l at_ = 40
  · simp only [h1, if_true]
    by_cases h2 : 16 ≤ d
    · simp only [h2, if_true]
      have d1 : decide (16 ≤ (d : Int)) = true := decide_eq_true (by omega)
      have hp1 := hputZ [L, .int .i64 ((at_ + 1 : Nat))] 0 false .nilS 0 0 .nilS rfl rfl
      simp only [wk, aBuiltin, AV.cells, AV.leaf, Nat.reduceEqDiff, Nat.reduceLT, Nat.reduceAdd, Nat.reduceLeDiff, reduceCtorEq, Nat.reduceMul, cfgP, u125, hlen, a0, a1, n1, h1, kp0.get, hww, hput1, d1, hp1]
      exact nd_end (s := .nilS) (t := .nilS) (kps _) rfl rfl (by simp [wk, aBuiltin, AV.cells, AV.leaf, Nat.reduceEqDiff, Nat.reduceLT, Nat.reduceAdd, Nat.reduceLeDiff, reduceCtorEq, Nat.reduceMul, cfgP, u125, hlen, a0, a1, hgZ, aResults, aResult])
    · simp only [h2, if_false]
      have d1 : decide (16 ≤ (d : Int)) = false := decide_eq_false (by omega)
      have n2 := hE L hL (at_ + 1) (d + 1) b prot _ hp (hgs [L, .int .i64 ((at_ + 1 : Nat))]) (by omega) (by omega) (by omega)
      rw [hset] at n2
      dsimp only at n2
      generalize hr : eitherS l k (at_ + 1) (d + 1) [] = r at *
      obtain ⟨x, j, ok⟩ := r
      obtain ⟨k', no, s, x1, x2, t, hx, hs, ht, hs2, ht2⟩ := encN_sh x
      dsimp only at n2 ⊢
      rw [hx] at n2
      have hs' := hs
      have ht' := ht
      unfold AV.leaf at hs ht
      have hls : ∀ c, (K0.set b (.cells 0 c)).length = H.length + 1 := fun c => by simp [hK0l]
      have hpl1 : prot ≤ H.length + 1 := by omega
      have kp2 := (kps (j : Nat)).app [Blk.cells 0 [.int .i64 k', .bool no, s, .int .i64 x1, .int .i64 x2, t]]
      have hz2 := hget_mono (hzs [L, .int .i64 (j : Nat)]) [Blk.cells 0 [.int .i64 k', .bool no, s, .int .i64 x1, .int .i64 x2, t]]
      have hn2 : hget (K0.set b (.cells 0 [L, .int .i64 (j : Nat)]) ++ [Blk.cells 0 [.int .i64 k', .bool no, s, .int .i64 x1, .int .i64 x2, t]]) (H.length + 1) 0 = some [.int .i64 k', .bool no, s, .int .i64 x1, .int .i64 x2, t] := by
        rw [hget_new (hls _).symm, if_pos rfl]
      have hl2 : (K0.set b (.cells 0 [L, .int .i64 (j : Nat)]) ++ [Blk.cells 0 [.int .i64 k', .bool no, s, .int .i64 x1, .int .i64 x2, t]]).length = H.length + 2 := by simp [hK0l]
      simp only [wk, aBuiltin, AV.cells, AV.leaf, Nat.reduceEqDiff, Nat.reduceLT, Nat.reduceAdd, Nat.reduceLeDiff, reduceCtorEq, Nat.reduceMul, cfgP, u125, hlen, a0, a1, n1, h1, kp0.get, hww, hput1, d1, hwd, n2, hs, ht, hls, hpl1]
      generalize K0.set b (.cells 0 [L, .int .i64 (j : Nat)]) ++ [Blk.cells 0 [.int .i64 k', .bool no, s, .int .i64 x1, .int .i64 x2, t]] = K2 at *
      have hns : ∀ c, hget (K2.set b (.cells 0 c)) (H.length + 1) 0 = some [.int .i64 k', .bool no, s, .int .i64 x1, .int .i64 x2, t] := fun c => by rw [hget_set_ne (by omega)]; exact hn2
      have hnsZ : ∀ d, hget (K2.set H.length (.cells 0 d)) (H.length + 1) 0 = some [.int .i64 k', .bool no, s, .int .i64 x1, .int .i64 x2, t] := fun d => by rw [hget_set_ne (by omega)]; exact hn2
      have hnsZ2 : ∀ c d, hget ((K2.set b (.cells 0 c)).set H.length (.cells 0 d)) (H.length + 1) 0 = some [.int .i64 k', .bool no, s, .int .i64 x1, .int .i64 x2, t] := fun c d => by rw [hget_set_ne (by omega)]; exact hns c
      have hzs2 : ∀ c, hget (K2.set b (.cells 0 c)) H.length 0 = some [.int .i64 0, .bool false, .nilS, .int .i64 0, .int .i64 0, .nilS] := fun c => by rw [hget_set_ne (by omega)]; exact hz2
      have hp0 := hput6 hz2 rfl (by omega : prot ≤ H.length) k' no s x1 x2 t hs' ht'
      have hp1 := fun c => hput6 (hzs2 c) rfl (by omega : prot ≤ H.length) k' no s x1 x2 t hs' ht'
      have hgZ2 : ∀ d, hget (K2.set H.length (.cells 0 d)) H.length 0 = some d := fun d => hget_set_at (by omega)
      have hgZ3 : ∀ c d, hget ((K2.set b (.cells 0 c)).set H.length (.cells 0 d)) H.length 0 = some d := fun c d => hget_set_at (by simp; omega)
      cases ok with
      | false =>
        simp only [Bool.false_eq_true, if_false, hx]
        simp only [wk, aBuiltin, AV.cells, AV.leaf, Nat.reduceEqDiff, Nat.reduceLT, Nat.reduceAdd, Nat.reduceLeDiff, reduceCtorEq, Nat.reduceMul, cfgP, u125, hlen, a0, a1, hn2, hp0, hs, ht]
        refine ⟨?_, ?_⟩
        · rw [show befs [] _ = [0, 0, 2, 6, 14, 30, 31, 127] from by kernel_rfl]
          simp [wk, aBuiltin, AV.cells, AV.leaf, Nat.reduceEqDiff, Nat.reduceLT, Nat.reduceAdd, Nat.reduceLeDiff, reduceCtorEq, Nat.reduceMul, cfgP, u125, hlen, drawOk, chained, mayAt, sameAt, bound, List.range_succ, Nat.testBit, a0, a1, hn2, hp0, hnsZ, hs, ht, avbeq_refl]
        exact nd_end kp2 hs2 ht2 (by simp [wk, aBuiltin, AV.cells, AV.leaf, Nat.reduceEqDiff, Nat.reduceLT, Nat.reduceAdd, Nat.reduceLeDiff, reduceCtorEq, Nat.reduceMul, cfgP, u125, hlen, a0, a1, hgZ2, aResults, aResult])
      | true =>
        have hj := (readS_in l k).2.2.2 (at_ + 1) (d + 1) [] (by omega) (by rw [hr])
        rw [hr] at hj
        dsimp only at hj
        have n3 := take_ok l L hL hl j b 41 (by omega) prot K2 hp kp2.get
        simp only [if_true]
        by_cases h3 : pk l j = 41
        · simp only [h3, if_true, decide_true, hx] at n3 ⊢
          simp only [wk, aBuiltin, AV.cells, AV.leaf, Nat.reduceEqDiff, Nat.reduceLT, Nat.reduceAdd, Nat.reduceLeDiff, reduceCtorEq, Nat.reduceMul, cfgP, u125, hlen, a0, a1, hn2, n3, hp1, hs, ht]
          refine ⟨?_, ?_⟩
          · rw [show befs [] _ = [0, 0, 2, 6, 14, 30, 31, 127] from by kernel_rfl]
            simp [wk, aBuiltin, AV.cells, AV.leaf, Nat.reduceEqDiff, Nat.reduceLT, Nat.reduceAdd, Nat.reduceLeDiff, reduceCtorEq, Nat.reduceMul, cfgP, u125, hlen, drawOk, chained, mayAt, sameAt, bound, List.range_succ, Nat.testBit, a0, a1, hn2, hns, hnsZ, hnsZ2, hp1, hs, ht, avbeq_refl]
          exact nd_end (kp2.put (hLb _)) hs2 ht2 (by simp [wk, aBuiltin, AV.cells, AV.leaf, Nat.reduceEqDiff, Nat.reduceLT, Nat.reduceAdd, Nat.reduceLeDiff, reduceCtorEq, Nat.reduceMul, cfgP, u125, hlen, a0, a1, hgZ3, aResults, aResult])
        · simp only [h3, if_false, decide_false, hx] at n3 ⊢
          simp only [wk, aBuiltin, AV.cells, AV.leaf, Nat.reduceEqDiff, Nat.reduceLT, Nat.reduceAdd, Nat.reduceLeDiff, reduceCtorEq, Nat.reduceMul, cfgP, u125, hlen, a0, a1, hn2, n3, hp1, hs, ht]
          refine ⟨?_, ?_⟩
          · rw [show befs [] _ = [0, 0, 2, 6, 14, 30, 31, 127] from by kernel_rfl]
            simp [wk, aBuiltin, AV.cells, AV.leaf, Nat.reduceEqDiff, Nat.reduceLT, Nat.reduceAdd, Nat.reduceLeDiff, reduceCtorEq, Nat.reduceMul, cfgP, u125, hlen, drawOk, chained, mayAt, sameAt, bound, List.range_succ, Nat.testBit, a0, a1, hn2, hns, hnsZ, hnsZ2, hp1, hs, ht, avbeq_refl]
          exact nd_end (kp2.put (hLb _)) hs2 ht2 (by simp [wk, aBuiltin, AV.cells, AV.leaf, Nat.reduceEqDiff, Nat.reduceLT, Nat.reduceAdd, Nat.reduceLeDiff, reduceCtorEq, Nat.reduceMul, cfgP, u125, hlen, a0, a1, hgZ3, aResults, aResult])
  have c1 : decide (pk l at_ = 40) = false := decide_eq_false h1
  simp only [h1, if_false]
  by_cases h2 : pk l at_ = 91
  · have hj := pk_in (l := l) (i := at_) (by rw [h2]; decide)
    simp only [h2, if_true]
    have n2 := class_ok l L hL hl (at_ + 1) b (by omega) prot _ hp (hgs [L, .int .i64 ((at_ + 1 : Nat))])
    rw [hset] at n2
    generalize hr : classS l (at_ + 1) = r at *
    obtain ⟨x, j, ok⟩ := r
    obtain ⟨k', no, s, x1, x2, t, hx, hs, ht, hs2, ht2⟩ := encN_sh x
    dsimp only at n2 ⊢
    rw [hx] at n2 ⊢
    have hp1 := hputZ [L, .int .i64 (j : Nat)] k' no s x1 x2 t hs ht
    have d1 : decide ((91 : Int) = 40) = false := by decide
    unfold AV.leaf at hs ht
    simp only [wk, aBuiltin, AV.cells, AV.leaf, Nat.reduceEqDiff, Nat.reduceLT, Nat.reduceAdd, Nat.reduceLeDiff, reduceCtorEq, Nat.reduceMul, cfgP, u125, hlen, a0, a1, n1, h2, d1, kp0.get, hww, hput1, n2, hs, ht, hp1]
    exact nd_end (kps _) hs2 ht2 (by simp [wk, aBuiltin, AV.cells, AV.leaf, Nat.reduceEqDiff, Nat.reduceLT, Nat.reduceAdd, Nat.reduceLeDiff, reduceCtorEq, Nat.reduceMul, cfgP, u125, hlen, a0, a1, hgZ, aResults, aResult])
  have c2 : decide (pk l at_ = 91) = false := decide_eq_false h2
  simp only [h2, if_false]
  by_cases h3 : pk l at_ = 46
  · simp only [h3, if_true]
    have d1 : decide ((46 : Int) = 40) = false := by decide
    have d2 : decide ((46 : Int) = 91) = false := by decide
    have hp1 := hputZ [L, .int .i64 ((at_ + 1 : Nat))] 1 true .nilS 0 0 .nilS rfl rfl
    simp only [wk, aBuiltin, AV.cells, AV.leaf, Nat.reduceEqDiff, Nat.reduceLT, Nat.reduceAdd, Nat.reduceLeDiff, reduceCtorEq, Nat.reduceMul, cfgP, u125, hlen, a0, a1, n1, h3, d1, d2, kp0.get, hww, hput1, hp1]
    exact nd_end (s := .nilS) (t := .nilS) (kps _) rfl rfl (by simp [wk, aBuiltin, AV.cells, AV.leaf, Nat.reduceEqDiff, Nat.reduceLT, Nat.reduceAdd, Nat.reduceLeDiff, reduceCtorEq, Nat.reduceMul, cfgP, u125, hlen, a0, a1, hgZ, aResults, aResult])
  have c3 : decide (pk l at_ = 46) = false := decide_eq_false h3
  simp only [h3, if_false]
  by_cases h4 : pk l at_ = 92
  · simp only [h4, if_true]
    have d1 : decide ((92 : Int) = 40) = false := by decide
    have d2 : decide ((92 : Int) = 91) = false := by decide
    have d3 : decide ((92 : Int) = 46) = false := by decide
    have n2 := esc_ok l L hL hl (at_ + 1) b (by omega) prot _ hp (hgs [L, .int .i64 ((at_ + 1 : Nat))])
    rw [hset] at n2
    have he := escS_len (pk l (at_ + 1))
    rw [encN_eq, slF_ne true encG he.1]
    generalize hes : escS (pk l (at_ + 1)) = q at *
    obtain ⟨es, ok⟩ := q
    dsimp only at n2 he ⊢
    have n3 := n0 es (K0.set b (.cells 0 [L, .int .i64 ((at_ + 1 + 1 : Nat))])) (hlK _)
    have hp1 := hputZ [L, .int .i64 ((at_ + 1 + 1 : Nat))] 1 false (.vs (es.map encG) true) 0 0 .nilS rfl rfl
    simp only [wk, aBuiltin, AV.cells, AV.leaf, Nat.reduceEqDiff, Nat.reduceLT, Nat.reduceAdd, Nat.reduceLeDiff, reduceCtorEq, Nat.reduceMul, cfgP, u125, hlen, a0, a1, n1, h4, d1, d2, d3, kp0.get, hww, hput1, n2, n3, hp1]
    exact nd_end (s := .vs (es.map encG) true) (t := .nilS) (kps _) rfl rfl (by simp [wk, aBuiltin, AV.cells, AV.leaf, Nat.reduceEqDiff, Nat.reduceLT, Nat.reduceAdd, Nat.reduceLeDiff, reduceCtorEq, Nat.reduceMul, cfgP, u125, hlen, a0, a1, hgZ, aResults, aResult])
  have c4 : decide (pk l at_ = 92) = false := decide_eq_false h4
  simp only [h4, if_false]
  have n3 := n0 [⟨pk l at_, pk l at_⟩] (K0.set b (.cells 0 [L, .int .i64 ((at_ + 1 : Nat))])) (hlK _)
  have n4 := has_ok ats (pk l at_) (by decide) prot (K0.set b (.cells 0 [L, .int .i64 ((at_ + 1 : Nat))])) (hlK _)
  unfold ats at n4
  have hp1 := hputZ [L, .int .i64 ((at_ + 1 : Nat))] 1 false (.vs ([(⟨pk l at_, pk l at_⟩ : Sg)].map encG) true) 0 0 .nilS rfl rfl
  rw [encN_eq, slF_ne true encG (by simp)]
  have h5 : pk l at_ ≠ -1 := fun h => by have := pk_lt (l := l) (i := at_) (by omega); rw [this] at h; have := hl.2 _ (List.getElem_mem (l := l) (n := at_) (by omega)); omega
  have c5 : decide (¬ pk l at_ = -1) = true := decide_eq_true h5
  have c6 : decide (pk l at_ ≠ -1) = true := decide_eq_true h5
  rw [c6, Bool.true_and]
  simp only [wk, aBuiltin, AV.cells, AV.leaf, Nat.reduceEqDiff, Nat.reduceLT, Nat.reduceAdd, Nat.reduceLeDiff, reduceCtorEq, Nat.reduceMul, cfgP, u125, hlen, a0, a1, n1, c1, c2, c3, c4, c5, kp0.get, hww, hput1, litG1, n3, n4, hp1, none_beq]
  exact nd_end (s := .vs ([(⟨pk l at_, pk l at_⟩ : Sg)].map encG) true) (t := .nilS) (kps _) rfl rfl (by simp [wk, aBuiltin, AV.cells, AV.leaf, Nat.reduceEqDiff, Nat.reduceLT, Nat.reduceAdd, Nat.reduceLeDiff, reduceCtorEq, Nat.reduceMul, cfgP, u125, hlen, a0, a1, hgZ, aResults, aResult, ats])

theorem litN (k : Int) (n : Bool) (s : AV) (x y : Int) (t : AV) (h1 : s.leaf = true) (h2 : t.leaf = true) (K : Heap) : aBuildSlice Try.prog K 39 1 [(0, .agg [.int .i64 k, .bool n, s, .int .i64 x, .int .i64 y, t])] =
    some (.bs ⟨K.length, 0, 0, 1, 1, 6, true, true⟩, some (K ++ [Blk.cells 0 [.int .i64 k, .bool n, s, .int .i64 x, .int .i64 y, t]])) := by
  have e : ([.int .i64 k, .bool n, s, .int .i64 x, .int .i64 y, t] : List AV).all AV.leaf = true := by simp only [List.all_cons, List.all_nil, h1, h2]; rfl
  have e2 : fillA (fun i => some (i * 6, 6)) (zrep 1 [.int .i64 0, .bool false, .nilS, .int .i64 0, .int .i64 0, .nilS]) [(0, .agg [.int .i64 k, .bool n, s, .int .i64 x, .int .i64 y, t])] = some [.int .i64 k, .bool n, s, .int .i64 x, .int .i64 y, t] := rfl
  unfold aBuildSlice
  rw [rowN.elem, Option.bind_some, rowN.size, Option.bind_some, rowN.agg, Option.bind_some, ze41, Option.bind_some]
  rw [if_pos ⟨by decide, rfl, by decide⟩]
  simp only [AV.cells]
  rw [e2, Option.bind_some, if_pos e, if_neg (by decide)]
theorem rep_end {prot : Nat} {res : List ResultVar} {fr : List AV} {H K : Heap} {b : Nat} {L : AV} {j z : Nat} {s t : AV} {X : Blk} {no no' ok : Bool} {k k' a c a' c' : Int} (kp : Kp H b [L, .int .i64 (j : Nat)] K) (hs : still s = true) (ht : still t = true)
    (hz : H.length < z) (hg : hget K z 0 = some [.int .i64 k, .bool no, s, .int .i64 a, .int .i64 c, t])
    (h1 : aResults cfg.P fr (K.set H.length X) res = some [.agg [.int .i64 k', .bool no', .nilS, .int .i64 a', .int .i64 c', .bs ⟨z, 0, 0, 1, 1, 6, true, true⟩], .bool ok]) :
    Fin ⟨cfg, prot, res, .trim H⟩ fr (K.set H.length X) (.tup [.agg [.int .i64 k', .bool no', .nilS, .int .i64 a', .int .i64 c', .vs [.agg [.int .i64 k, .bool no, s, .int .i64 a, .int .i64 c, t]] true], .bool ok], some (H.set b (.cells 0 [L, .int .i64 (j : Nat)]))) := by
  have hg' : hget (K.set H.length X) z 0 = some [.int .i64 k, .bool no, s, .int .i64 a, .int .i64 c, t] := by rw [hget_set_ne (by omega)]; exact hg
  have hf : Frz (K.set H.length X) H.length (.bs ⟨z, 0, 0, 1, 1, 6, true, true⟩) (.vs [.agg [.int .i64 k, .bool no, s, .int .i64 a, .int .i64 c, t]] true) :=
    Frz.bs (s := ⟨z, 0, 0, 1, 1, 6, true, true⟩) (by simp; omega) (Nat.succ_pos 5) rfl hg' (w := [.int .i64 k, .bool no, s, .int .i64 a, .int .i64 c, t]) rfl (x := [.int .i64 k, .bool no, s, .int .i64 a, .int .i64 c, t]) (.cons (.still rfl) (.cons (.still rfl) (.cons (.still hs) (.cons (.still rfl) (.cons (.still rfl) (.cons (.still ht) .nil))))))
  exact (kp.new (Nat.le_refl _) X).fin h1 (.tup (.cons (.agg (.cons (.still rfl) (.cons (.still rfl) (.cons (.still rfl) (.cons (.still rfl) (.cons (.still rfl) (.cons hf .nil))))))) (.cons (.still rfl) .nil)))

theorem piece_ok (l : List Int) (hl : Runes l) (k : Nat) (hA : Rok 115 1 l k (atomS l k) 1) : Rok 102 2 l (k + 1) (pieceS l (k + 1)) 1 := by
  intro L hL at_ d b prot H hp hg hat hd hk
  have hb := hget_lt hg
  have hll := hl.1
  have hlZ : ∀ Z, (H ++ [Blk.cells 0 Z]).length = H.length + 1 := fun Z => by simp
  have hLb : ∀ x : Int, AV.blwL H.length [L, .int .i64 x] = true := fun x => plL_blwL _ _ (slI_plain hL _)
  have kp0 : Kp H b [L, .int .i64 at_] (H ++ [Blk.cells 0 [.int .i64 0, .bool false, .nilS, .int .i64 0, .int .i64 0, .nilS]]) := (Kp.start hg).app _
  have hz0 : hget (H ++ [Blk.cells 0 [.int .i64 0, .bool false, .nilS, .int .i64 0, .int .i64 0, .nilS]]) H.length 0 = some [.int .i64 0, .bool false, .nilS, .int .i64 0, .int .i64 0, .nilS] := by simp [hget]
  have hK0l := hlZ [.int .i64 0, .bool false, .nilS, .int .i64 0, .int .i64 0, .nilS]
  refine trim_slim rfl (by kernel_rfl) (by kernel_rfl) (by kernel_rfl) Try.func102 s102 (by simp [Try.f102]) fun fr hlen h => ?_
  simp only [Has, Nat.zero_add] at h
  obtain ⟨a0, a1, -⟩ := h
  simp only [Try.f102] at hlen ⊢
  unfold g102
  simp only [wk, aBuiltin, AV.cells, AV.leaf, Nat.reduceEqDiff, Nat.reduceLT, Nat.reduceAdd, Nat.reduceLeDiff, reduceCtorEq, Nat.reduceMul, cfgP, u125, hlen, a0, a1, hlZ]
  generalize H ++ [Blk.cells 0 [.int .i64 0, .bool false, .nilS, .int .i64 0, .int .i64 0, .nilS]] = K0 at *
  have n1 := hA L hL at_ d b prot K0 hp kp0.get hat hd (by omega)
  rw [pieceS]
  have hin := (readS_in l k).1 at_ d
  generalize hr : atomS l k at_ d = r at *
  obtain ⟨x, j, ok⟩ := r
  obtain ⟨k', no, s, x1, x2, t, hx, hs, ht, hs2, ht2⟩ := encN_sh x
  dsimp only at n1 hin ⊢
  rw [hx] at n1
  have hs' := hs
  have ht' := ht
  unfold AV.leaf at hs ht
  have hls : ∀ c, (K0.set b (.cells 0 c)).length = H.length + 1 := fun c => by simp [hK0l]
  have hpl1 : prot ≤ H.length + 1 := by omega
  have kp2 := (kp0.put (hLb (j : Nat))).app [Blk.cells 0 [.int .i64 k', .bool no, s, .int .i64 x1, .int .i64 x2, t]]
  have hz1 : hget (K0.set b (.cells 0 [L, .int .i64 (j : Nat)])) H.length 0 = some [.int .i64 0, .bool false, .nilS, .int .i64 0, .int .i64 0, .nilS] := by rw [hget_set_ne (by omega)]; exact hz0
  have hz2 := hget_mono hz1 [Blk.cells 0 [.int .i64 k', .bool no, s, .int .i64 x1, .int .i64 x2, t]]
  have hn2 : hget (K0.set b (.cells 0 [L, .int .i64 (j : Nat)]) ++ [Blk.cells 0 [.int .i64 k', .bool no, s, .int .i64 x1, .int .i64 x2, t]]) (H.length + 1) 0 = some [.int .i64 k', .bool no, s, .int .i64 x1, .int .i64 x2, t] := by
    rw [hget_new (hls _).symm, if_pos rfl]
  have hl2 : (K0.set b (.cells 0 [L, .int .i64 (j : Nat)]) ++ [Blk.cells 0 [.int .i64 k', .bool no, s, .int .i64 x1, .int .i64 x2, t]]).length = H.length + 2 := by simp [hK0l]
  simp only [wk, aBuiltin, AV.cells, AV.leaf, Nat.reduceEqDiff, Nat.reduceLT, Nat.reduceAdd, Nat.reduceLeDiff, reduceCtorEq, Nat.reduceMul, cfgP, u125, hlen, a0, a1, n1, hs, ht, hls, hpl1]
  generalize K0.set b (.cells 0 [L, .int .i64 (j : Nat)]) ++ [Blk.cells 0 [.int .i64 k', .bool no, s, .int .i64 x1, .int .i64 x2, t]] = K2 at *
  have hp0 := hput6 hz2 rfl (by omega : prot ≤ H.length) k' no s x1 x2 t hs' ht'
  have hgZ2 : ∀ d, hget (K2.set H.length (.cells 0 d)) H.length 0 = some d := fun d => hget_set_at (by omega)
  cases ok with
  | false =>
    simp only [Bool.false_eq_true, if_false, hx]
    simp only [wk, aBuiltin, AV.cells, AV.leaf, Nat.reduceEqDiff, Nat.reduceLT, Nat.reduceAdd, Nat.reduceLeDiff, reduceCtorEq, Nat.reduceMul, cfgP, u125, hlen, a0, a1, hn2, hp0, hs, ht]
    exact nd_end kp2 hs2 ht2 (by simp [wk, aBuiltin, AV.cells, AV.leaf, Nat.reduceEqDiff, Nat.reduceLT, Nat.reduceAdd, Nat.reduceLeDiff, reduceCtorEq, Nat.reduceMul, cfgP, u125, hlen, a0, a1, hgZ2, aResults, aResult])
  | true =>
    have hin := hin rfl
    have n2 := peek_ok l L hL hl j b prot K2 (by omega) kp2.get
    have hww : IntKind.i64.wrap ((j : Int) + 1) = ((j + 1 : Nat) : Int) := by rw [wrap64 (by omega) (by omega)]; simp
    have hput1 : hput prot K2 b 0 1 [.int .i64 ((j + 1 : Nat))] = some (K2.set b (.cells 0 [L, .int .i64 ((j + 1 : Nat))])) := by
      rw [hput_eq kp2.get hp (by simp) (by simp [AV.leaf])]; rfl
    have hset : ∀ (c d : List AV), (K2.set b (.cells 0 c)).set b (.cells 0 d) = K2.set b (.cells 0 d) := fun c d => List.set_set ..
    have hgs : ∀ c, hget (K2.set b (.cells 0 c)) b 0 = some c := fun c => hget_set_at (by omega)
    have kps := fun x : Int => kp2.put (hLb x)
    have hns : ∀ c, hget (K2.set b (.cells 0 c)) (H.length + 1) 0 = some [.int .i64 k', .bool no, s, .int .i64 x1, .int .i64 x2, t] := fun c => by rw [hget_set_ne (by omega)]; exact hn2
    have hl3 : ∀ c, (K2.set b (.cells 0 c)).length = H.length + 2 := fun c => by simp [hl2]
    have hzs : ∀ c x, hget (K2.set b (.cells 0 c) ++ [x]) H.length 0 = some [.int .i64 0, .bool false, .nilS, .int .i64 0, .int .i64 0, .nilS] := fun c x => hget_mono (by rw [hget_set_ne (by omega)]; exact hz2) _
    have hlit := litN k' no s x1 x2 t hs' ht'
    have hp1 := fun c x a' c' B => hput6 (hzs c x) rfl (by omega : prot ≤ H.length) 4 false .nilS a' c' (.bs B) rfl rfl
    have hgZ3 : ∀ c x d, hget ((K2.set b (.cells 0 c) ++ [x]).set H.length (.cells 0 d)) H.length 0 = some d := fun c x d => hget_set_at (by simp; omega)
    have hn3 : ∀ c, hget (K2.set b (.cells 0 c) ++ [Blk.cells 0 [.int .i64 k', .bool no, s, .int .i64 x1, .int .i64 x2, t]]) (H.length + 2) 0 = some [.int .i64 k', .bool no, s, .int .i64 x1, .int .i64 x2, t] := fun c => by rw [hget_new (hl3 _).symm, if_pos rfl]
    have henc : ∀ a' c', encN (ndR x a' c') = .agg [.int .i64 4, .bool false, .nilS, .int .i64 a', .int .i64 c', .vs [.agg [.int .i64 k', .bool no, s, .int .i64 x1, .int .i64 x2, t]] true] := fun a' c' => by
      rw [ndR, encN_eq, ← hx]; rfl
    simp only [if_true]
    by_cases h1 : pk l j = 43
    · simp only [h1, if_true, henc]
      simp only [wk, aBuiltin, AV.cells, AV.leaf, Nat.reduceEqDiff, Nat.reduceLT, Nat.reduceAdd, Nat.reduceLeDiff, reduceCtorEq, Nat.reduceMul, cfgP, u125, hlen, a0, a1, n2, h1, kp2.get, hww, hput1, hns, hs, ht, hlit, hl3, hp1]
      exact rep_end ((kps _).app _) hs2 ht2 (by omega) (hn3 _) (by simp [wk, aBuiltin, AV.cells, AV.leaf, Nat.reduceEqDiff, Nat.reduceLT, Nat.reduceAdd, Nat.reduceLeDiff, reduceCtorEq, Nat.reduceMul, cfgP, u125, hlen, a0, a1, hgZ3, aResults, aResult])
    have c1 : decide (pk l j = 43) = false := decide_eq_false h1
    simp only [h1, if_false]
    by_cases h2 : pk l j = 42
    · have c1 : decide ((42 : Int) = 43) = false := by decide
      simp only [h2, if_true, henc]
      simp only [wk, aBuiltin, AV.cells, AV.leaf, Nat.reduceEqDiff, Nat.reduceLT, Nat.reduceAdd, Nat.reduceLeDiff, reduceCtorEq, Nat.reduceMul, cfgP, u125, hlen, a0, a1, n2, h2, c1, kp2.get, hww, hput1, hns, hs, ht, hlit, hl3, hp1]
      exact rep_end ((kps _).app _) hs2 ht2 (by omega) (hn3 _) (by simp [wk, aBuiltin, AV.cells, AV.leaf, Nat.reduceEqDiff, Nat.reduceLT, Nat.reduceAdd, Nat.reduceLeDiff, reduceCtorEq, Nat.reduceMul, cfgP, u125, hlen, a0, a1, hgZ3, aResults, aResult])
    have c2 : decide (pk l j = 42) = false := decide_eq_false h2
    simp only [h2, if_false]
    by_cases h3 : pk l j = 63
    · have c1 : decide ((63 : Int) = 43) = false := by decide
      have c2 : decide ((63 : Int) = 42) = false := by decide
      simp only [h3, if_true, henc]
      simp only [wk, aBuiltin, AV.cells, AV.leaf, Nat.reduceEqDiff, Nat.reduceLT, Nat.reduceAdd, Nat.reduceLeDiff, reduceCtorEq, Nat.reduceMul, cfgP, u125, hlen, a0, a1, n2, h3, c1, c2, kp2.get, hww, hput1, hns, hs, ht, hlit, hl3, hp1]
      exact rep_end ((kps _).app _) hs2 ht2 (by omega) (hn3 _) (by simp [wk, aBuiltin, AV.cells, AV.leaf, Nat.reduceEqDiff, Nat.reduceLT, Nat.reduceAdd, Nat.reduceLeDiff, reduceCtorEq, Nat.reduceMul, cfgP, u125, hlen, a0, a1, hgZ3, aResults, aResult])
    have c3 : decide (pk l j = 63) = false := decide_eq_false h3
    simp only [h3, if_false]
    by_cases h4 : pk l j = 123
    · have hj1 := pk_in (l := l) (i := j) (by rw [h4]; decide)
      have c1 : decide ((123 : Int) = 43) = false := by decide
      have c2 : decide ((123 : Int) = 42) = false := by decide
      have c3 : decide ((123 : Int) = 63) = false := by decide
      have n3 := times_ok l L hL hl (j + 1) b (by omega) prot _ hp (hgs [L, .int .i64 ((j + 1 : Nat))])
      rw [hset] at n3
      simp only [h4, if_true, henc]
      simp only [wk, aBuiltin, AV.cells, AV.leaf, Nat.reduceEqDiff, Nat.reduceLT, Nat.reduceAdd, Nat.reduceLeDiff, reduceCtorEq, Nat.reduceMul, cfgP, u125, hlen, a0, a1, n2, h4, c1, c2, c3, kp2.get, hww, hput1, n3, hns, hs, ht, hlit, hl3, hp1]
      exact rep_end ((kps _).app _) hs2 ht2 (by omega) (hn3 _) (by simp [wk, aBuiltin, AV.cells, AV.leaf, Nat.reduceEqDiff, Nat.reduceLT, Nat.reduceAdd, Nat.reduceLeDiff, reduceCtorEq, Nat.reduceMul, cfgP, u125, hlen, a0, a1, hgZ3, aResults, aResult])
    have c4 : decide (pk l j = 123) = false := decide_eq_false h4
    simp only [h4, if_false, hx]
    simp only [wk, aBuiltin, AV.cells, AV.leaf, Nat.reduceEqDiff, Nat.reduceLT, Nat.reduceAdd, Nat.reduceLeDiff, reduceCtorEq, Nat.reduceMul, cfgP, u125, hlen, a0, a1, n2, c1, c2, c3, c4, hn2, hp0, hs, ht]
    exact nd_end kp2 hs2 ht2 (by simp [wk, aBuiltin, AV.cells, AV.leaf, Nat.reduceEqDiff, Nat.reduceLT, Nat.reduceAdd, Nat.reduceLeDiff, reduceCtorEq, Nat.reduceMul, cfgP, u125, hlen, a0, a1, hgZ2, aResults, aResult])
end Go.Proofs.Ytoblikhnbddfmaa
/-! Chapter 15: pieces one behind the other, and parts, walked. -/
namespace Go.Proofs.Ytoblikhnbddfmaa
open Go Go.Abs AbsSeat Ty

theorem hxtN : (∃ e', Try.prog.underlying 39 = some (.slice e')) ∨ Try.prog.underlying 39 = some .string := .inl ⟨_, Try.underlying39⟩
theorem elemL {K : Heap} {z : Nat} {x : Nd} (h : hget K z 0 = some (encN x).cells) : elemCells K 6 (.bs ⟨z, 0, 0, 1, 1, 6, true, true⟩) = some ([x].length, cellsOf encN [x]) := by
  have e : cellsOf encN [x] = (encN x).cells := by simp [cellsOf]
  have hl := encN_len x
  have hw : win (encN x).cells 0 (1 * 6) = some (encN x).cells := by
    simp only [win, Nat.zero_add, List.drop_zero]
    rw [if_pos (by omega), List.take_of_length_le (by omega)]
  simp only [elemCells, if_true, h, Option.bind_some, hw, Option.map_some, e, List.length_cons, List.length_nil, Nat.zero_add]
theorem nd_endR {prot : Nat} {res : List ResultVar} {fr : List AV} {H K : Heap} {b : Nat} {L : AV} {j : Nat} {v : AV} {l : List Nd} {X : Blk} {no ok : Bool} {k a c : Int} (kp : Kp H b [L, .int .i64 (j : Nat)] K) (hrow : Row encN 6 true (H.length + 1) K v l) (hne : v = .nilS ∨ l ≠ [])
    (h1 : aResults cfg.P fr (K.set H.length X) res = some [.agg [.int .i64 k, .bool no, .nilS, .int .i64 a, .int .i64 c, v], .bool ok]) :
    Fin ⟨cfg, prot, res, .trim H⟩ fr (K.set H.length X) (.tup [encN (.mk k no false [] a c false l), .bool ok], some (H.set b (.cells 0 [L, .int .i64 (j : Nat)]))) := by
  have hf := ((hrow.setne (b' := H.length) (by omega) X).low (base' := H.length) (by omega)).frozen encN_T (by decide) rfl hne
  refine (kp.new (Nat.le_refl _) X).fin h1 ?_
  rw [encN_eq, slF_slv]
  exact .tup (.cons (.agg (.cons (.still rfl) (.cons (.still rfl) (.cons (.still rfl) (.cons (.still rfl) (.cons (.still rfl) (.cons hf .nil))))))) (.cons (.still rfl) .nil))

theorem concat_ok (l : List Int) (hl : Runes l) (k : Nat) (hP : ∀ k', k' < k → Rok 102 2 l k' (pieceS l k') 1) : Rok 82 3 l k (fun j d => concatS l k j d []) 0 := by
  intro L hL at_ d b prot H hp hg hat hd hk
  have hb := hget_lt hg
  have hll := hl.1
  have hlZ : ∀ Z, (H ++ [Blk.cells 0 Z]).length = H.length + 1 := fun Z => by simp
  have hLb : ∀ x : Int, AV.blwL H.length [L, .int .i64 x] = true := fun x => plL_blwL _ _ (slI_plain hL _)
  have kp0 : Kp H b [L, .int .i64 at_] (H ++ [Blk.cells 0 [.int .i64 0, .bool false, .nilS, .int .i64 0, .int .i64 0, .nilS]]) := (Kp.start hg).app _
  have hz0 : hget (H ++ [Blk.cells 0 [.int .i64 0, .bool false, .nilS, .int .i64 0, .int .i64 0, .nilS]]) H.length 0 = some [.int .i64 0, .bool false, .nilS, .int .i64 0, .int .i64 0, .nilS] := by simp [hget]
  have hK0l := hlZ [.int .i64 0, .bool false, .nilS, .int .i64 0, .int .i64 0, .nilS]
  refine trim_slim rfl (by kernel_rfl) (by kernel_rfl) (by kernel_rfl) Try.func82 s82 (by simp [Try.f82]) fun fr hlen h => ?_
  simp only [Has, Nat.zero_add] at h
  obtain ⟨a0, a1, -⟩ := h
  simp only [Try.f82] at hlen ⊢
  unfold g82
  simp only [wk, aBuiltin, AV.cells, AV.leaf, Nat.reduceEqDiff, Nat.reduceLT, Nat.reduceAdd, Nat.reduceLeDiff, reduceCtorEq, Nat.reduceMul, cfgP, u125, hlen, a0, a1, hlZ]
  generalize H ++ [Blk.cells 0 [.int .i64 0, .bool false, .nilS, .int .i64 0, .int .i64 0, .nilS]] = K0 at *
  refine loop_rule (fun m fr H' => ∃ (j : Nat) (acc : List Nd) (v : AV), j ≤ l.length ∧ 5 * (l.length - j) + 3 ≤ m ∧ m ≤ k ∧ acc.length ≤ j ∧ fr.length = 47 ∧ fget fr 0 = .ptr b 0 0 ∧ fget fr 1 = .int .i64 (d : Nat) ∧ fget fr 4 = .ptr H.length 0 0 ∧ fget fr 6 = v
    ∧ H.length + 1 ≤ H'.length ∧ Kp H b [L, .int .i64 (j : Nat)] H' ∧ hget H' H.length 0 = some [.int .i64 0, .bool false, .nilS, .int .i64 0, .int .i64 0, .nilS]
    ∧ Row encN 6 true (H.length + 1) H' v acc ∧ (v = .nilS ∨ acc ≠ []) ∧ concatS l k at_ d [] = concatS l m j d acc) ?_ k _ _ ⟨at_, [], .nilS, by
      refine ⟨by omega, by omega, by omega, by simp, ?_⟩
      simp [wk, aBuiltin, AV.cells, AV.leaf, Nat.reduceEqDiff, Nat.reduceLT, Nat.reduceAdd, Nat.reduceLeDiff, reduceCtorEq, Nat.reduceMul, cfgP, u125, hlen, a0, a1, kp0, hz0, hK0l, Row.nil]⟩
  clear kp0 hz0 hK0l K0 a0 a1 hlen fr
  rintro m fr H' ⟨j, acc, v, hjl, hjk, hmk, hal, hlen, a0, a1, a4, a6, hH', kp, hz, hrow, hne, hc⟩ ih
  obtain ⟨m, rfl⟩ : ∃ m', m = m' + 1 := ⟨m - 1, by omega⟩
  have n1 := peek_ok l L hL hl j b prot H' (by omega) kp.get
  by_cases h1 : pk l j = -1 ∨ pk l j = 124 ∨ pk l j = 41
  · have e : concatS l (m + 1) j d acc = ⟨conN acc, j, true⟩ := by rw [concatS, if_pos h1]
    rw [hc, e]
    dsimp only
    have hlen2 := hrow.len Try.underlying39
    have hgZ : ∀ d, hget (H'.set H.length (.cells 0 d)) H.length 0 = some d := fun d => hget_set_at (by omega)
    have q : (decide (¬ pk l j = -1) = false ∧ True ∧ True) ∨ (decide (¬ pk l j = -1) = true ∧ decide (¬ pk l j = 124) = false ∧ True) ∨ (decide (¬ pk l j = -1) = true ∧ decide (¬ pk l j = 124) = true ∧ decide (¬ pk l j = 41) = false) := by
      rcases h1 with h1 | h1 | h1 <;> rw [h1]
      · exact .inl ⟨rfl, trivial, trivial⟩
      · exact .inr (.inl ⟨rfl, rfl, trivial⟩)
      · exact .inr (.inr ⟨rfl, rfl, rfl⟩)
    match acc, hrow, hne, hlen2 with
    | [], hrow, hne, hlen2 =>
      have hp1 := hput6 hz rfl (by omega : prot ≤ H.length) 0 false .nilS 0 0 .nilS rfl rfl
      simp only [List.length_nil] at hlen2
      have d0 : decide (((0 : Nat) : Int) = 0) = true := rfl
      rcases q with ⟨c1, c2, c3⟩ | ⟨c1, c2, c3⟩ | ⟨c1, c2, c3⟩
      all_goals
        simp only [wk, aBuiltin, AV.cells, AV.leaf, Nat.reduceEqDiff, Nat.reduceLT, Nat.reduceAdd, Nat.reduceLeDiff, reduceCtorEq, Nat.reduceMul, cfgP, u125, hlen, a0, a1, a4, a6, n1, c1, c2, c3, hlen2, d0, hp1, none_beq]
        exact nd_end (s := .nilS) (t := .nilS) kp rfl rfl (by simp [wk, aBuiltin, AV.cells, AV.leaf, Nat.reduceEqDiff, Nat.reduceLT, Nat.reduceAdd, Nat.reduceLeDiff, reduceCtorEq, Nat.reduceMul, cfgP, u125, hlen, a4, hgZ, aResults, aResult])
    | [x], hrow, hne, hlen2 =>
      obtain ⟨k', no, s, x1, x2, t, hx, hs, ht, hs2, ht2⟩ := encN_sh x
      have hp1 := hput6 hz rfl (by omega : prot ≤ H.length) k' no s x1 x2 t hs ht
      have d0 : decide (((1 : Nat) : Int) = 0) = false := rfl
      have d1 : decide (((1 : Nat) : Int) = 1) = true := rfl
      rcases hrow with ⟨_, q2⟩ | ⟨bb, ver, rfl, hbb, hgg, hv4⟩
      · cases q2
      have hcl : cellsOf encN [x] = [.int .i64 k', .bool no, s, .int .i64 x1, .int .i64 x2, t] := by simp [cellsOf, hx, AV.cells]
      rw [hcl] at hgg
      have e1 : aIndexAddr Try.prog 39 (.bs ⟨bb, ver, 0, [x].length, 0, 6, true, false⟩) (.int .i64 0) = some (.ptr bb ver 0) := by simp [aIndexAddr, asNat, Try.underlying39, sz41]
      simp only [List.length_cons, List.length_nil, Nat.zero_add] at e1 a6 hlen2
      simp only [conN, hx]
      unfold AV.leaf at hs ht
      rcases q with ⟨c1, c2, c3⟩ | ⟨c1, c2, c3⟩ | ⟨c1, c2, c3⟩
      all_goals
        simp only [wk, aBuiltin, AV.cells, AV.leaf, Nat.reduceEqDiff, Nat.reduceLT, Nat.reduceAdd, Nat.reduceLeDiff, reduceCtorEq, Nat.reduceMul, cfgP, u125, hlen, a0, a1, a4, a6, n1, c1, c2, c3, hlen2, d0, d1, e1, hgg, hs, ht, hp1, none_beq]
        exact nd_end kp hs2 ht2 (by simp [wk, aBuiltin, AV.cells, AV.leaf, Nat.reduceEqDiff, Nat.reduceLT, Nat.reduceAdd, Nat.reduceLeDiff, reduceCtorEq, Nat.reduceMul, cfgP, u125, hlen, a4, hgZ, aResults, aResult])
    | x :: y :: r, hrow, hne, hlen2 =>
      have hvl : v.leaf = true := by rcases hrow with ⟨q, _⟩ | ⟨b, ver, q, _⟩ <;> rw [q] <;> rfl
      have hvc : v.cells = [v] := by rcases hrow with ⟨q, _⟩ | ⟨b, ver, q, _⟩ <;> rw [q] <;> rfl
      have hp1 := hput6 hz rfl (by omega : prot ≤ H.length) 2 false .nilS 0 0 v rfl hvl
      have d0 : decide ((((x :: y :: r).length : Nat) : Int) = 0) = false := decide_eq_false (by simp; omega)
      have d1 : decide ((((x :: y :: r).length : Nat) : Int) = 1) = false := decide_eq_false (by simp; omega)
      have hcn : conN (x :: y :: r) = .mk 2 false false [] 0 0 false (x :: y :: r) := rfl
      rw [hcn]
      generalize x :: y :: r = acc at *
      unfold AV.leaf at hvl; unfold AV.cells at hvc
      rcases q with ⟨c1, c2, c3⟩ | ⟨c1, c2, c3⟩ | ⟨c1, c2, c3⟩
      all_goals
        simp only [wk, aBuiltin, AV.cells, AV.leaf, Nat.reduceEqDiff, Nat.reduceLT, Nat.reduceAdd, Nat.reduceLeDiff, reduceCtorEq, Nat.reduceMul, cfgP, u125, hlen, a0, a1, a4, a6, n1, c1, c2, c3, hlen2, d0, d1, hvl, hvc, hp1, none_beq]
        exact nd_endR kp hrow hne (by simp [wk, aBuiltin, AV.cells, AV.leaf, Nat.reduceEqDiff, Nat.reduceLT, Nat.reduceAdd, Nat.reduceLeDiff, reduceCtorEq, Nat.reduceMul, cfgP, u125, hlen, a4, hgZ, aResults, aResult])
  · have c1 : decide (¬ pk l j = -1) = true := decide_eq_true fun h => h1 (.inl h)
    have c2 : decide (¬ pk l j = 124) = true := decide_eq_true fun h => h1 (.inr (.inl h))
    have c3 : decide (¬ pk l j = 41) = true := decide_eq_true fun h => h1 (.inr (.inr h))
    have hj1 := pk_in (l := l) (i := j) fun h => h1 (.inl h)
    have n2 := hP m (by omega) L hL j d b prot H' hp kp.get (by omega) hd (by omega)
    have hcm : concatS l (m + 1) j d acc = if (pieceS l m j d).ok = true then concatS l m (pieceS l m j d).at_ d (acc ++ [(pieceS l m j d).n]) else pieceS l m j d := by
      rw [concatS, if_neg h1]
    have hin := (readS_in l m).2.1 j d
    generalize pieceS l m j d = r at *
    obtain ⟨x, i, ok⟩ := r
    obtain ⟨k', no, s, x1, x2, t, hx, hs, ht, hs2, ht2⟩ := encN_sh x
    dsimp only at n2 hin hcm
    rw [hx] at n2
    have hs' := hs
    have ht' := ht
    unfold AV.leaf at hs ht
    have hl1 : (H'.set b (.cells 0 [L, .int .i64 (i : Nat)])).length = H'.length := by simp
    have hpl1 : prot ≤ H'.length := by omega
    have kp2 := (kp.put (hLb (i : Nat))).app [Blk.cells 0 [.int .i64 k', .bool no, s, .int .i64 x1, .int .i64 x2, t]]
    have hz1 : hget (H'.set b (.cells 0 [L, .int .i64 (i : Nat)])) H.length 0 = some [.int .i64 0, .bool false, .nilS, .int .i64 0, .int .i64 0, .nilS] := by rw [hget_set_ne (by omega)]; exact hz
    have hz2 := hget_mono hz1 [Blk.cells 0 [.int .i64 k', .bool no, s, .int .i64 x1, .int .i64 x2, t]]
    have hn2 : hget (H'.set b (.cells 0 [L, .int .i64 (i : Nat)]) ++ [Blk.cells 0 [.int .i64 k', .bool no, s, .int .i64 x1, .int .i64 x2, t]]) H'.length 0 = some [.int .i64 k', .bool no, s, .int .i64 x1, .int .i64 x2, t] := by
      rw [hget_new hl1.symm, if_pos rfl]
    have hl2 : (H'.set b (.cells 0 [L, .int .i64 (i : Nat)]) ++ [Blk.cells 0 [.int .i64 k', .bool no, s, .int .i64 x1, .int .i64 x2, t]]).length = H'.length + 1 := by simp
    have hrow2 : Row encN 6 true (H.length + 1) (H'.set b (.cells 0 [L, .int .i64 (i : Nat)]) ++ [Blk.cells 0 [.int .i64 k', .bool no, s, .int .i64 x1, .int .i64 x2, t]]) v acc := (hrow.setne (by omega) _).more _
    simp only [wk, aBuiltin, AV.cells, AV.leaf, Nat.reduceEqDiff, Nat.reduceLT, Nat.reduceAdd, Nat.reduceLeDiff, reduceCtorEq, Nat.reduceMul, cfgP, u125, hlen, a0, a1, a4, a6, n1, c1, c2, c3, n2, hs, ht, hl1, hpl1, none_beq]
    generalize H'.set b (.cells 0 [L, .int .i64 (i : Nat)]) ++ [Blk.cells 0 [.int .i64 k', .bool no, s, .int .i64 x1, .int .i64 x2, t]] = K2 at *
    cases ok with
    | false =>
      have hp0 := hput6 hz2 rfl (by omega : prot ≤ H.length) k' no s x1 x2 t hs' ht'
      have hgZ2 : ∀ d, hget (K2.set H.length (.cells 0 d)) H.length 0 = some d := fun d => hget_set_at (by omega)
      simp only [Bool.false_eq_true, if_false] at hcm
      rw [hc, hcm]
      dsimp only
      rw [hx]
      simp only [wk, aBuiltin, AV.cells, AV.leaf, Nat.reduceEqDiff, Nat.reduceLT, Nat.reduceAdd, Nat.reduceLeDiff, reduceCtorEq, Nat.reduceMul, cfgP, u125, hlen, a0, a1, a4, a6, hn2, hp0, hs, ht]
      exact nd_end kp2 hs2 ht2 (by simp [wk, aBuiltin, AV.cells, AV.leaf, Nat.reduceEqDiff, Nat.reduceLT, Nat.reduceAdd, Nat.reduceLeDiff, reduceCtorEq, Nat.reduceMul, cfgP, u125, hlen, a4, hgZ2, aResults, aResult])
    | true =>
      have hin := hin rfl
      simp only [if_true] at hcm
      rw [hcm] at hc
      have hlit := litN k' no s x1 x2 t hs' ht'
      have hn3 : hget (K2 ++ [Blk.cells 0 [.int .i64 k', .bool no, s, .int .i64 x1, .int .i64 x2, t]]) K2.length 0 = some (encN x).cells := by rw [hget_new rfl, if_pos rfl, hx]; rfl
      obtain ⟨o, H3, happ, hrow3, hle3, hno, hk3, hold⟩ := (hrow2.more [Blk.cells 0 [.int .i64 k', .bool no, s, .int .i64 x1, .int .i64 x2, t]]).appK (prot := prot) (xt := 39) encN_T rowN hxtN (elemL hn3) (by simp) (by simp [roomy]; omega) (by omega) (by simp; omega) (kp2.app [Blk.cells 0 [.int .i64 k', .bool no, s, .int .i64 x1, .int .i64 x2, t]]) (by omega)
      have hz3 := hold _ _ _ (by omega) (hget_mono hz2 [Blk.cells 0 [.int .i64 k', .bool no, s, .int .i64 x1, .int .i64 x2, t]])
      simp only [wk, aBuiltin, AV.cells, AV.leaf, Nat.reduceEqDiff, Nat.reduceLT, Nat.reduceAdd, Nat.reduceLeDiff, reduceCtorEq, Nat.reduceMul, cfgP, u125, hlen, a0, a1, a4, a6, hn2, hlit, happ]
      refine ih _ _ m (by omega) ⟨i, acc ++ [x], o, by omega, by omega, by omega, by simp; omega, ?_⟩
      refine ⟨by simp [wk, aBuiltin, AV.cells, AV.leaf, Nat.reduceEqDiff, Nat.reduceLT, Nat.reduceAdd, Nat.reduceLeDiff, reduceCtorEq, Nat.reduceMul, cfgP, u125, hlen], by simp [wk, aBuiltin, AV.cells, AV.leaf, Nat.reduceEqDiff, Nat.reduceLT, Nat.reduceAdd, Nat.reduceLeDiff, reduceCtorEq, Nat.reduceMul, cfgP, u125, hlen, a0], by simp [wk, aBuiltin, AV.cells, AV.leaf, Nat.reduceEqDiff, Nat.reduceLT, Nat.reduceAdd, Nat.reduceLeDiff, reduceCtorEq, Nat.reduceMul, cfgP, u125, hlen, a1], by simp [wk, aBuiltin, AV.cells, AV.leaf, Nat.reduceEqDiff, Nat.reduceLT, Nat.reduceAdd, Nat.reduceLeDiff, reduceCtorEq, Nat.reduceMul, cfgP, u125, hlen, a4], by simp [wk, aBuiltin, AV.cells, AV.leaf, Nat.reduceEqDiff, Nat.reduceLT, Nat.reduceAdd, Nat.reduceLeDiff, reduceCtorEq, Nat.reduceMul, cfgP, u125, hlen], by simp at hle3; omega, hk3, hz3, hrow3, .inr (by simp), hc⟩

theorem either_ok (l : List Int) (hl : Runes l) (k : Nat) (hC : ∀ k', k' < k → Rok 82 3 l k' (fun j d => concatS l k' j d []) 0) : Rok 57 4 l k (fun j d => eitherS l k j d []) 0 := by
  intro L hL at_ d b prot H hp hg hat hd hk
  have hb := hget_lt hg
  have hll := hl.1
  have hlZ : ∀ Z, (H ++ [Blk.cells 0 Z]).length = H.length + 1 := fun Z => by simp
  have hLb : ∀ x : Int, AV.blwL H.length [L, .int .i64 x] = true := fun x => plL_blwL _ _ (slI_plain hL _)
  have kp0 : Kp H b [L, .int .i64 at_] (H ++ [Blk.cells 0 [.int .i64 0, .bool false, .nilS, .int .i64 0, .int .i64 0, .nilS]]) := (Kp.start hg).app _
  have hz0 : hget (H ++ [Blk.cells 0 [.int .i64 0, .bool false, .nilS, .int .i64 0, .int .i64 0, .nilS]]) H.length 0 = some [.int .i64 0, .bool false, .nilS, .int .i64 0, .int .i64 0, .nilS] := by simp [hget]
  have hK0l := hlZ [.int .i64 0, .bool false, .nilS, .int .i64 0, .int .i64 0, .nilS]
  refine trim_slim rfl (by kernel_rfl) (by kernel_rfl) (by kernel_rfl) Try.func57 s57 (by simp [Try.f57]) fun fr hlen h => ?_
  simp only [Has, Nat.zero_add] at h
  obtain ⟨a0, a1, -⟩ := h
  simp only [Try.f57] at hlen ⊢
  unfold g57
  simp only [wk, aBuiltin, AV.cells, AV.leaf, Nat.reduceEqDiff, Nat.reduceLT, Nat.reduceAdd, Nat.reduceLeDiff, reduceCtorEq, Nat.reduceMul, cfgP, u125, hlen, a0, a1, hlZ]
  generalize H ++ [Blk.cells 0 [.int .i64 0, .bool false, .nilS, .int .i64 0, .int .i64 0, .nilS]] = K0 at *
  refine loop_rule (fun m fr H' => ∃ (j : Nat) (acc : List Nd) (v : AV), j ≤ l.length ∧ 5 * (l.length - j) + 4 ≤ m ∧ m ≤ k ∧ acc.length ≤ j ∧ fr.length = 33 ∧ fget fr 0 = .ptr b 0 0 ∧ fget fr 1 = .int .i64 (d : Nat) ∧ fget fr 4 = .ptr H.length 0 0 ∧ fget fr 6 = v
    ∧ H.length + 1 ≤ H'.length ∧ Kp H b [L, .int .i64 (j : Nat)] H' ∧ hget H' H.length 0 = some [.int .i64 0, .bool false, .nilS, .int .i64 0, .int .i64 0, .nilS]
    ∧ Row encN 6 true (H.length + 1) H' v acc ∧ (v = .nilS ∨ acc ≠ []) ∧ eitherS l k at_ d [] = eitherS l m j d acc) ?_ k _ _ ⟨at_, [], .nilS, by
      refine ⟨by omega, by omega, by omega, by simp, ?_⟩
      simp [wk, aBuiltin, AV.cells, AV.leaf, Nat.reduceEqDiff, Nat.reduceLT, Nat.reduceAdd, Nat.reduceLeDiff, reduceCtorEq, Nat.reduceMul, cfgP, u125, hlen, a0, a1, kp0, hz0, hK0l, Row.nil]⟩
  clear kp0 hz0 hK0l K0 a0 a1 hlen fr
  rintro m fr H' ⟨j, acc, v, hjl, hjk, hmk, hal, hlen, a0, a1, a4, a6, hH', kp, hz, hrow, hne, hc⟩ ih
  obtain ⟨m, rfl⟩ : ∃ m', m = m' + 1 := ⟨m - 1, by omega⟩
  have n2 := hC m (by omega) L hL j d b prot H' hp kp.get (by omega) hd (by omega)
  dsimp only at n2
  have hcm : eitherS l (m + 1) j d acc = if (concatS l m j d []).ok = true then (if pk l (concatS l m j d []).at_ = 124 then eitherS l m ((concatS l m j d []).at_ + 1) d (acc ++ [(concatS l m j d []).n]) else ⟨eitN (acc ++ [(concatS l m j d []).n]), (concatS l m j d []).at_, true⟩) else concatS l m j d [] := by
    rw [eitherS]
  have hin := (readS_in l m).2.2.1 j d [] hjl
  generalize concatS l m j d [] = r at *
  obtain ⟨x, i, ok⟩ := r
  obtain ⟨k', no, s, x1, x2, t, hx, hs, ht, hs2, ht2⟩ := encN_sh x
  dsimp only at n2 hin hcm
  rw [hx] at n2
  have hs' := hs
  have ht' := ht
  unfold AV.leaf at hs ht
  have hl1 : (H'.set b (.cells 0 [L, .int .i64 (i : Nat)])).length = H'.length := by simp
  have hpl1 : prot ≤ H'.length := by omega
  have kp2 := (kp.put (hLb (i : Nat))).app [Blk.cells 0 [.int .i64 k', .bool no, s, .int .i64 x1, .int .i64 x2, t]]
  have hz1 : hget (H'.set b (.cells 0 [L, .int .i64 (i : Nat)])) H.length 0 = some [.int .i64 0, .bool false, .nilS, .int .i64 0, .int .i64 0, .nilS] := by rw [hget_set_ne (by omega)]; exact hz
  have hz2 := hget_mono hz1 [Blk.cells 0 [.int .i64 k', .bool no, s, .int .i64 x1, .int .i64 x2, t]]
  have hn2 : hget (H'.set b (.cells 0 [L, .int .i64 (i : Nat)]) ++ [Blk.cells 0 [.int .i64 k', .bool no, s, .int .i64 x1, .int .i64 x2, t]]) H'.length 0 = some [.int .i64 k', .bool no, s, .int .i64 x1, .int .i64 x2, t] := by
    rw [hget_new hl1.symm, if_pos rfl]
  have hl2 : (H'.set b (.cells 0 [L, .int .i64 (i : Nat)]) ++ [Blk.cells 0 [.int .i64 k', .bool no, s, .int .i64 x1, .int .i64 x2, t]]).length = H'.length + 1 := by simp
  have hrow2 : Row encN 6 true (H.length + 1) (H'.set b (.cells 0 [L, .int .i64 (i : Nat)]) ++ [Blk.cells 0 [.int .i64 k', .bool no, s, .int .i64 x1, .int .i64 x2, t]]) v acc := (hrow.setne (by omega) _).more _
  simp only [wk, aBuiltin, AV.cells, AV.leaf, Nat.reduceEqDiff, Nat.reduceLT, Nat.reduceAdd, Nat.reduceLeDiff, reduceCtorEq, Nat.reduceMul, cfgP, u125, hlen, a0, a1, a4, a6, n2, hs, ht, hl1, hpl1, none_beq]
  generalize H'.set b (.cells 0 [L, .int .i64 (i : Nat)]) ++ [Blk.cells 0 [.int .i64 k', .bool no, s, .int .i64 x1, .int .i64 x2, t]] = K2 at *
  cases ok with
  | false =>
    have hp0 := hput6 hz2 rfl (by omega : prot ≤ H.length) k' no s x1 x2 t hs' ht'
    have hgZ2 : ∀ d, hget (K2.set H.length (.cells 0 d)) H.length 0 = some d := fun d => hget_set_at (by omega)
    simp only [Bool.false_eq_true, if_false] at hcm
    rw [hc, hcm]
    dsimp only
    rw [hx]
    simp only [wk, aBuiltin, AV.cells, AV.leaf, Nat.reduceEqDiff, Nat.reduceLT, Nat.reduceAdd, Nat.reduceLeDiff, reduceCtorEq, Nat.reduceMul, cfgP, u125, hlen, a0, a1, a4, a6, hn2, hp0, hs, ht]
    exact nd_end kp2 hs2 ht2 (by simp [wk, aBuiltin, AV.cells, AV.leaf, Nat.reduceEqDiff, Nat.reduceLT, Nat.reduceAdd, Nat.reduceLeDiff, reduceCtorEq, Nat.reduceMul, cfgP, u125, hlen, a4, hgZ2, aResults, aResult])
  | true =>
    have hin := hin rfl
    simp only [if_true] at hcm
    rw [hcm] at hc
    have hlit := litN k' no s x1 x2 t hs' ht'
    have hn3 : hget (K2 ++ [Blk.cells 0 [.int .i64 k', .bool no, s, .int .i64 x1, .int .i64 x2, t]]) K2.length 0 = some (encN x).cells := by rw [hget_new rfl, if_pos rfl, hx]; rfl
    obtain ⟨o, H3, happ, hrow3, hle3, hno, hk3, hold⟩ := (hrow2.more [Blk.cells 0 [.int .i64 k', .bool no, s, .int .i64 x1, .int .i64 x2, t]]).appK (prot := prot) (xt := 39) encN_T rowN hxtN (elemL hn3) (by simp) (by simp [roomy]; omega) (by omega) (by simp; omega) (kp2.app [Blk.cells 0 [.int .i64 k', .bool no, s, .int .i64 x1, .int .i64 x2, t]]) (by omega)
    have hz3 := hold _ _ _ (by omega) (hget_mono hz2 [Blk.cells 0 [.int .i64 k', .bool no, s, .int .i64 x1, .int .i64 x2, t]])
    have hle4 : H'.length + 1 ≤ H3.length := by simp at hle3; omega
    have n3 := take_ok l L hL hl i b 124 (by omega) prot H3 hp hk3.get
    by_cases h1 : pk l i = 124
    · have hi1 := pk_in (l := l) (i := i) (by rw [h1]; decide)
      simp only [h1, if_true] at hc
      simp only [h1, if_true, decide_true] at n3
      simp only [wk, aBuiltin, AV.cells, AV.leaf, Nat.reduceEqDiff, Nat.reduceLT, Nat.reduceAdd, Nat.reduceLeDiff, reduceCtorEq, Nat.reduceMul, cfgP, u125, hlen, a0, a1, a4, a6, hn2, hlit, happ, n3]
      refine ih _ _ m (by omega) ⟨i + 1, acc ++ [x], o, by omega, by omega, by omega, by simp; omega, ?_⟩
      refine ⟨by simp [wk, aBuiltin, AV.cells, AV.leaf, Nat.reduceEqDiff, Nat.reduceLT, Nat.reduceAdd, Nat.reduceLeDiff, reduceCtorEq, Nat.reduceMul, cfgP, u125, hlen], by simp [wk, aBuiltin, AV.cells, AV.leaf, Nat.reduceEqDiff, Nat.reduceLT, Nat.reduceAdd, Nat.reduceLeDiff, reduceCtorEq, Nat.reduceMul, cfgP, u125, hlen, a0], by simp [wk, aBuiltin, AV.cells, AV.leaf, Nat.reduceEqDiff, Nat.reduceLT, Nat.reduceAdd, Nat.reduceLeDiff, reduceCtorEq, Nat.reduceMul, cfgP, u125, hlen, a1], by simp [wk, aBuiltin, AV.cells, AV.leaf, Nat.reduceEqDiff, Nat.reduceLT, Nat.reduceAdd, Nat.reduceLeDiff, reduceCtorEq, Nat.reduceMul, cfgP, u125, hlen, a4], by simp [wk, aBuiltin, AV.cells, AV.leaf, Nat.reduceEqDiff, Nat.reduceLT, Nat.reduceAdd, Nat.reduceLeDiff, reduceCtorEq, Nat.reduceMul, cfgP, u125, hlen], by simp; omega, hk3.put (hLb _), by rw [hget_set_ne (by omega)]; exact hz3, hrow3.setne (by omega) _, .inr (by simp), hc⟩
    · simp only [h1, if_false] at hc
      simp only [h1, if_false, decide_false] at n3
      rw [set_self hk3.get] at n3
      rw [hc]
      dsimp only
      have hlen2 := hrow3.len Try.underlying39
      have hgZ : ∀ d, hget (H3.set H.length (.cells 0 d)) H.length 0 = some d := fun d => hget_set_at (by omega)
      cases acc with
      | nil =>
        have hp1 := hput6 hz3 rfl (by omega : prot ≤ H.length) k' no s x1 x2 t hs' ht'
        have d1 : decide (((1 : Nat) : Int) = 1) = true := rfl
        simp only [List.nil_append] at hrow3
        rcases hrow3 with ⟨_, q2⟩ | ⟨bb, ver, rfl, hbb, hgg, hv4⟩
        · cases q2
        have hcl : cellsOf encN [x] = [.int .i64 k', .bool no, s, .int .i64 x1, .int .i64 x2, t] := by simp [cellsOf, hx, AV.cells]
        rw [hcl] at hgg
        have e1 : aIndexAddr Try.prog 39 (.bs ⟨bb, ver, 0, [x].length, 0, 6, true, false⟩) (.int .i64 0) = some (.ptr bb ver 0) := by simp [aIndexAddr, asNat, Try.underlying39, sz41]
        simp only [List.length_cons, List.length_nil, Nat.zero_add, List.nil_append] at e1 hlen2 happ
        simp only [List.nil_append, eitN, hx]
        simp only [wk, aBuiltin, AV.cells, AV.leaf, Nat.reduceEqDiff, Nat.reduceLT, Nat.reduceAdd, Nat.reduceLeDiff, reduceCtorEq, Nat.reduceMul, cfgP, u125, hlen, a0, a1, a4, a6, hn2, hlit, happ, n3, hlen2, d1, e1, hgg, hs, ht, hp1, none_beq]
        exact nd_end hk3 hs2 ht2 (by simp [wk, aBuiltin, AV.cells, AV.leaf, Nat.reduceEqDiff, Nat.reduceLT, Nat.reduceAdd, Nat.reduceLeDiff, reduceCtorEq, Nat.reduceMul, cfgP, u125, hlen, a4, hgZ, aResults, aResult])
      | cons y r =>
        have hvl : o.leaf = true := by rcases hrow3 with ⟨q, _⟩ | ⟨b, ver, q, _⟩ <;> rw [q] <;> rfl
        have hvc : o.cells = [o] := by rcases hrow3 with ⟨q, _⟩ | ⟨b, ver, q, _⟩ <;> rw [q] <;> rfl
        have hp1 := hput6 hz3 rfl (by omega : prot ≤ H.length) 3 false .nilS 0 0 o rfl hvl
        have d1 : decide ((((y :: r ++ [x]).length : Nat) : Int) = 1) = false := decide_eq_false (by simp; omega)
        have hcn : eitN (y :: r ++ [x]) = .mk 3 false false [] 0 0 false (y :: r ++ [x]) := by cases r <;> rfl
        rw [hcn]
        have hne2 : o = .nilS ∨ y :: r ++ [x] ≠ [] := .inr (by simp)
        generalize y :: r ++ [x] = acc2 at *
        unfold AV.leaf at hvl; unfold AV.cells at hvc
        simp only [wk, aBuiltin, AV.cells, AV.leaf, Nat.reduceEqDiff, Nat.reduceLT, Nat.reduceAdd, Nat.reduceLeDiff, reduceCtorEq, Nat.reduceMul, cfgP, u125, hlen, a0, a1, a4, a6, hn2, hlit, happ, n3, hlen2, d1, hvl, hvc, hp1, none_beq]
        exact nd_endR hk3 hrow3 hne2 (by simp [wk, aBuiltin, AV.cells, AV.leaf, Nat.reduceEqDiff, Nat.reduceLT, Nat.reduceAdd, Nat.reduceLeDiff, reduceCtorEq, Nat.reduceMul, cfgP, u125, hlen, a4, hgZ, aResults, aResult])

/-- the four together: as far as the fuel goes. -/
theorem read_ok (l : List Int) (hl : Runes l) : ∀ k : Nat, Rok 57 4 l k (fun j d => eitherS l k j d []) 0 ∧ Rok 82 3 l k (fun j d => concatS l k j d []) 0 ∧ Rok 102 2 l k (pieceS l k) 1 ∧ Rok 115 1 l k (atomS l k) 1 := by
  intro k
  induction k using Nat.strongRecOn with
  | _ k ih =>
    refine ⟨either_ok l hl k fun k' h => (ih k' h).2.1, concat_ok l hl k fun k' h => (ih k' h).2.2.1, ?_, ?_⟩
    · cases k with
      | zero => intro L _ at_ d b prot H _ _ h1 _ h2; omega
      | succ k => exact piece_ok l hl k (ih k (by omega)).2.2.2
    · cases k with
      | zero => intro L _ at_ d b prot H _ _ h1 _ h2; omega
      | succ k => exact atom_ok l hl k (ih k (by omega)).1
end Go.Proofs.Ytoblikhnbddfmaa
