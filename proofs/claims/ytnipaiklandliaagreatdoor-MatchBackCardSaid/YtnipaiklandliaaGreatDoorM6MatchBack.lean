import Derived.Test.YtnipaiklandliaaGreatDoorM5MatchBack
import Derived.Test.YtnipaiklandliaaGreatDoorAbsTy
import Derived.Test.YtnipaiklandliaaGreatDoorAbsMore
/-! Part 6 of the proof of MatchBack. -/
set_option linter.unusedSimpArgs false
set_option linter.defProp false
set_option maxRecDepth 100000
namespace Go.Proofs.YtnipaiklandliaaGreatDoor
open Go Go.Abs AbsSeat Ty
theorem mall_ok (l : List Mt) (hl : l.length < 1000000000) (prot : Nat) (H : Heap) (hp : prot ≤ H.length) : aLim cfg prot 26 [.vptr [slv encW l] 0] H = some (slv encMt l, none) := by
 have hv := slv_sl encW l
 generalize slv encW l = v at *
 have hvl : AV.leaf v = true := by cases hv <;> rfl
 have hvc : AV.cells v = [v] := by cases hv <;> rfl
 have pq : ∀ xo yo, aBin Tryz.prog .eql 45 xo yo (.vptr [v] 0) .nil = some (.bool false) := fun xo yo => by simp [aBin, aNilNe, Tryz.underlying45]
 have hlen1 := fun K : Heap => hv.len (P := Tryz.prog) (H := K) Tryz.underlying95
 unfold AV.leaf at hvl
 unfold AV.cells at hvc
 refine pure_slim rfl (by kernel_rfl) Tryz.func26 s26 hp rfl (by simp [Tryz.f26]) fun fr hlen h => ?_
 simp only [Has] at h
 obtain ⟨a0, -⟩ := h
 simp only [Tryz.f26] at hlen ⊢
 unfold g26
 simp only [w9, simprocAttr, u54, hlen, a0, pq, hlen1]
 refine loop_rule (fun m fr H' => ∃ (i : Nat) (o : AV), m = l.length - i ∧ i ≤ l.length ∧ fr.length = 24 ∧ fget fr 11 = v ∧ fget fr 12 = .int .i64 (l.length : Nat) ∧ fget fr 13 = .int .i64 i ∧ fget fr 3 = o ∧ H.length ≤ H'.length ∧ Row encMt 3 true H.length H' o (l.take i) ∧ (o = .nilS ∨ l.take i ≠ [])) ?_ l.length _ _ ⟨0, .nilS, by simp [w9, hlen, Row.nil]⟩
 rintro m fr H' ⟨i, o, rfl, hi, hlen, a11, a12, a13, a3, hH, hrow, hne⟩ ih
 by_cases hlt : i < l.length
 ·have d2 : decide ((i : Int) < (l.length : Nat)) = true := decide_eq_true (by omega)
  have hww : IntKind.i64.wrap ((i : Int) + 1) = ((i + 1 : Nat) : Int) := by rw [wrap64 (by omega) (by omega)]; simp
  have e1 := hv.at (k := .i64) Tryz.underlying95 sz100 (fun _ => rfl) hlt
  have htk : l.take (i + 1) = l.take i ++ [l[i]] := by simp
  generalize l[i] = x at *
  obtain ⟨hml, hms⟩ := machV_leaf x
  have hmc : AV.cells (machV x) = [machV x] := by
   have := hml
   cases h : machV x <;> first | rfl | (rw [h] at this; cases this)
  have hlf4 : [AV.str x.name, .int .i64 x.kind, .str x.val, machV x].all AV.leaf = true := by simp [hml, show ∀ s, AV.leaf (.str s) = true from fun _ => rfl, show ∀ k n, AV.leaf (.int k n) = true from fun _ _ => rfl]
  have s1 : Go.Abs.hput H.length (H' ++ [Blk.cells 0 [.str [], .int .i64 0, .str [], .nil]]) H'.length 0 0 [.str x.name, .int .i64 x.kind, .str x.val, machV x] = some (H' ++ [Blk.cells 0 [.str x.name, .int .i64 x.kind, .str x.val, machV x]]) := by
   rw [hput_new rfl hH (by simp) hlf4]; rfl
  have g1 : hget (H' ++ [Blk.cells 0 [.str x.name, .int .i64 x.kind, .str x.val, machV x]]) H'.length 0 = some [.str x.name, .int .i64 x.kind, .str x.val, machV x] := by rw [hget_new rfl, if_pos rfl]
  have hlit := litMt x
  obtain ⟨o', H2, happ, hrow3, hle, hno, hold⟩ := (hrow.more [Blk.cells 0 [.str x.name, .int .i64 x.kind, .str x.val, machV x]]).app (prot := H.length) (xt := 42) encMt_T rowMt (.inl ⟨_, Tryz.underlying42⟩) (elem_vs encMt_T [x] true) (by simp) (by simp [roomy]; omega) (Nat.le_refl _) (by simp; omega)
  have hle2 : H'.length + 1 ≤ H2.length := by simpa using hle
  simp only [encW, AV.cells] at e1
  unfold AV.leaf at hml
  unfold AV.cells at hmc
  simp only [w9, simprocAttr, u54, hlen, a11, a12, a13, a3, d2, e1, s1, g1, hlit, happ]
  refine ih _ _ (l.length - (i + 1)) (by omega) ⟨i + 1, o', rfl, by omega, by simp [w9, hlen], by simp [w9, a11], by simp [w9, a12], ?_, by simp [w9, hlen], by omega, by rw [htk]; exact hrow3, .inr (by rw [htk]; simp)⟩
  simp [w9, hlen]; exact hww
 ·have d2 : decide ((i : Int) < (l.length : Nat)) = false := decide_eq_false (by omega)
  rw [List.take_of_length_le (by omega)] at hrow hne
  simp only [w9, simprocAttr, hlen, a12, a13, a3, d2]
  exact Fin_pure (l := [o]) (by simp [w9, hlen]) (hrow.frozen encMt_T (by decide) rfl hne) (by simp)
def encTx (s : List UInt8) : AV := .str s
theorem encTx_T : EncT encTx 1 false where
 len _ := rfl
 leaf x c hc := by
  simp only [encTx, AV.cells, List.mem_singleton] at hc
  subst hc; rfl
 still x c hc := by
  simp only [encTx, AV.cells, List.mem_singleton] at hc
  subst hc; rfl
 shape _ := rfl
theorem rowTx : RowT Tryz.prog 106 9 1 16 false where
 un := Tryz.underlying106
 size := sz9
 bytes := by9
 agg := ag9
 zero := ⟨_, ze9, rfl⟩
 pos := by decide
 tree := rfl
theorem litTx (x : List UInt8) (K : Heap) : aBuildSlice Tryz.prog K 106 1 [(0, .str x)] = some (.vs ([x].map encTx) true, none) := lit1 rowTx encTx_T ze9 rfl (by decide) x rfl
theorem mapTx (xs : List (List UInt8)) : xs.map encTx = xs.map AV.str := rfl
theorem join_row (xs : List (List UInt8)) (o : AV) (base : Nat) (H : Heap) (ho : Row encTx 1 false base H o xs) (hne : o = .nilS ∨ xs ≠ []) (prot : Nat) (hp : prot ≤ H.length) (h1 : xs.length ≤ 140737488355328) (h2 : (Lib.join xs [44]).length ≤ 281474976710656) :
  aLim cfg prot 59 [o, .str [44]] H = some (.str (Lib.join xs [44]), none) := by
 refine lim_own (by kernel_rfl) (by kernel_rfl) (by kernel_rfl) ?_
 rw [show cfg.own = joinOwn 59 from rfl]
 rcases ho with ⟨rfl, rfl⟩ | ⟨b, ver, rfl, h2', h3, h4⟩
 ·simp [joinOwn, Lib.join_nil]
 ·have hxs : xs ≠ [] := by
    rcases hne with h | h
    ·cases h
    ·exact h
  have hw : win (cellsOf encTx xs) 0 (xs.length * 1) = some (cellsOf encTx xs) := by
   have := cellsOf_length encTx_T xs
   simp only [win, Nat.zero_add, List.drop_zero]
   rw [if_pos (by omega), List.take_of_length_le (by omega)]
  have hpl : AV.plL (cellsOf encTx xs) = true := by
   clear h3 hw h2 hne h1 hxs
   induction xs with
   | nil => rfl
   | cons x r ih =>
    rw [show cellsOf encTx (x :: r) = (encTx x).cells ++ cellsOf encTx r from by simp [cellsOf]]
    exact plL_append rfl ih
  have hc := chunk_cellsOf encTx_T (by decide) xs
  have hs : snap H [.bs ⟨b, ver, 0, xs.length, 0, 1, false, false⟩] = some ([.vs (xs.map AV.str) false], true) := by
   rw [← mapTx]
   simp only [Nat.mul_one] at hw
   simp [snap, h3, hw, hpl, hc]
  exact joinOwn_live _ prot H xs _ _ [44] hs hxs hp h1 h2
theorem join_text (l : List Mt) : 123 :: (Lib.join (l.map pieceM) [44] ++ [125]) = textM l := by
 cases l with
 | nil => rfl
 | cons m r =>
  simp only [List.map_cons, Lib.join_cons, Lib.joinTail, textM, bodyM, List.cons_append]
  congr 3
  induction r with
  | nil => rfl
  | cons y r ih => simp only [List.map_cons, List.flatten_cons, List.flatMap_cons, ih]; rfl
theorem pieceM_len {m : Mt} (hn : m.name.length ≤ 1000000) (hv : m.val.length ≤ 1000) : (pieceM m).length ≤ 1010000 := by
 have h1 : (signS m.kind).length ≤ 2 := by
  unfold signS
  split
  ·simp
  ·split
   ·simp
   ·split
    ·simp
    ·split <;> simp
 have h2 : (qm m).length ≤ 6 * m.val.length + 2 := by
  unfold qm
  split
  ·exact quote_len _
  ·simp
 simp only [pieceM, List.length_append]
 omega
theorem join_len (xs : List (List UInt8)) (k : Nat) (h : ∀ x ∈ xs, x.length ≤ k) : (Lib.join xs [44]).length ≤ xs.length * (k + 1) := by
 cases xs with
 | nil => simp [Lib.join_nil]
 | cons x r =>
  rw [Lib.join_cons]
  have h0 := h x (by simp)
  have h1 : ∀ r : List (List UInt8), (∀ x ∈ r, x.length ≤ k) → (Lib.joinTail [44] r).length ≤ r.length * (k + 1) := by
   intro r
   induction r with
   | nil => intro _; simp [Lib.joinTail]
   | cons y r ih =>
    intro hr
    have := ih fun z hz => hr z (by simp [hz])
    have hy := hr y (by simp)
    simp only [Lib.joinTail, List.map_cons, List.flatten_cons, List.length_append, List.length_cons, List.length_nil] at this ⊢
    rw [Nat.add_mul]
    omega
  have := h1 r fun z hz => h z (by simp [hz])
  simp only [List.length_append, List.length_cons]
  rw [Nat.add_mul]
  omega
theorem mtext_ok (l : List Mt) (hl : l.length ≤ 32) (hg : ∀ m ∈ l, GoodM m) (hs : ∀ m ∈ l, m.name.length ≤ 1000000 ∧ m.val.length ≤ 1000) (prot : Nat) (H : Heap) (hp : prot ≤ H.length) : aLim cfg prot 24 [.vptr [slv encW l] 0] H = some (.str (textM l), none) := by
 have n1 := mall_ok l (by omega) H.length H (Nat.le_refl _)
 have hv := slv_sl encMt l
 generalize slv encMt l = v at *
 have hlen1 := fun K : Heap => hv.len (P := Tryz.prog) (H := K) Tryz.underlying42
 refine pure_slim rfl (by kernel_rfl) Tryz.func24 s24 hp rfl (by simp [Tryz.f24]) fun fr hlen h => ?_
 simp only [Has] at h
 obtain ⟨a0, -⟩ := h
 simp only [Tryz.f24] at hlen ⊢
 unfold g24
 simp only [w9, simprocAttr, hlen, a0, n1, hlen1]
 refine loop_rule (fun m fr H' => ∃ (i : Nat) (o : AV), m = l.length - i ∧ i ≤ l.length ∧ fr.length = 37 ∧ fget fr 9 = v ∧ fget fr 10 = .int .i64 (l.length : Nat) ∧ fget fr 11 = .int .i64 i ∧ fget fr 3 = o ∧ H.length ≤ H'.length ∧ Row encTx 1 false H.length H' o ((l.take i).map pieceM) ∧ (o = .nilS ∨ l.take i ≠ [])) ?_ l.length _ _ ⟨0, .nilS, by simp [w9, hlen, Row.nil]⟩
 rintro m fr H' ⟨i, o, rfl, hi, hlen, a9, a10, a11, a3, hH, hrow, hne⟩ ih
 by_cases hlt : i < l.length
 ·have d2 : decide ((i : Int) < (l.length : Nat)) = true := decide_eq_true (by omega)
  have hww : IntKind.i64.wrap ((i : Int) + 1) = ((i + 1 : Nat) : Int) := by rw [wrap64 (by omega) (by omega)]; simp
  have e1 := hv.at (k := .i64) Tryz.underlying42 sz54 (fun _ => rfl) hlt
  have htk : (l.take (i + 1)).map pieceM = (l.take i).map pieceM ++ [pieceM l[i]] := by rw [List.take_succ_eq_append_getElem hlt, List.map_append]; rfl
  have htk2 : l.take (i + 1) ≠ [] := by
   intro h
   have h2 : (l.take (i + 1)).length = i + 1 := by rw [List.length_take]; omega
   rw [h] at h2
   simp at h2
  have hgx := hg l[i] (List.getElem_mem hlt)
  have hsx := hs l[i] (List.getElem_mem hlt)
  generalize l[i] = x at *
  obtain ⟨-, hval, hk1, hk4⟩ := hgx
  have hpl := pieceM_len hsx.1 hsx.2
  have hq : qm x = quoteU x.val := by unfold qm; rw [if_pos hval]
  have hK : ∀ A : Blk, H.length ≤ (H' ++ [A]).length := fun A => by simp; omega
  have n2 := fun A : Blk => quote_ok x.val (by omega) H.length (H' ++ [A]) (hK A)
  rw [hval] at n2
  simp only [if_true] at n2
  have n3 := fun K : Heap => sgn_ok x.kind hk1 hk4 H.length K
  have s1 : Go.Abs.hput H.length (H' ++ [Blk.cells 0 [.str [], .int .i64 0, .str []]]) H'.length 0 0 [.str x.name, .int .i64 x.kind, .str x.val] = some (H' ++ [Blk.cells 0 [.str x.name, .int .i64 x.kind, .str x.val]]) := by
   rw [hput_new rfl hH (by simp) rfl]; rfl
  have g1 : hget (H' ++ [Blk.cells 0 [.str x.name, .int .i64 x.kind, .str x.val]]) H'.length 0 = some [.str x.name, .int .i64 x.kind, .str x.val] := by rw [hget_new rfl, if_pos rfl]
  have hpe : pieceM x = x.name ++ signS x.kind ++ quoteU x.val := by unfold pieceM; rw [hq, List.append_assoc]
  rw [hpe] at hpl htk
  simp only [List.length_append] at hpl
  have e2 : aStr .add x.name (signS x.kind) = some (.str (x.name ++ signS x.kind)) := str_add (by omega)
  have e3 : aStr .add (x.name ++ signS x.kind) (quoteU x.val) = some (.str (x.name ++ signS x.kind ++ quoteU x.val)) := str_add (by simp only [List.length_append]; omega)
  have hlit := litTx (x.name ++ signS x.kind ++ quoteU x.val)
  obtain ⟨o', H2, happ, hrow3, hle, hno, hold⟩ := (hrow.more [Blk.cells 0 [.str x.name, .int .i64 x.kind, .str x.val]]).app (prot := H.length) (xt := 106) encTx_T rowTx (.inl ⟨_, Tryz.underlying106⟩) (elem_vs encTx_T [x.name ++ signS x.kind ++ quoteU x.val] true) (by simp) (by simp [roomy]; omega) (Nat.le_refl _) (by simp; omega)
  have hle2 : H'.length + 1 ≤ H2.length := by simpa using hle
  generalize x.name ++ signS x.kind ++ quoteU x.val = q at *
  generalize x.name ++ signS x.kind = q1 at *
  generalize quoteU x.val = q2 at *
  simp only [encMt, AV.cells] at e1
  simp only [w9, simprocAttr, u54, hlen, a9, a10, a11, a3, d2, e1, n2, n3, s1, g1, e2, e3, hlit, happ]
  refine ⟨Bool.or_eq_true_iff.2 (.inl ?_), ?_⟩
  ·rw [show befs [] _ = [0, 0, 2, 0, 8, 24, 62, 0, 254, 510, 1023, 2047] from by kernel_rfl]
   simp [w9, u54, hlen, drawOk, chained, mayAt, sameAt, bound, List.range_succ, Nat.testBit, a3, -List.append_assoc, n3, g1, e2, e3, hlit, avbeq_refl]
  ·refine ih _ _ (l.length - (i + 1)) (by omega) ⟨i + 1, o', rfl, by omega, by simp [w9, hlen], by simp [w9, a9], by simp [w9, a10], ?_, by simp [w9, hlen], by omega, by rw [htk]; exact hrow3, .inr htk2⟩
   simp [w9, hlen]; exact hww
 ·have d2 : decide ((i : Int) < (l.length : Nat)) = false := decide_eq_false (by omega)
  have hil : i = l.length := by omega
  rw [List.take_of_length_le (by omega)] at hrow hne
  have hjl := join_len (l.map pieceM) 1010000 fun y hy => by
   obtain ⟨m, hm, rfl⟩ := List.mem_map.1 hy
   exact pieceM_len (hs m hm).1 (hs m hm).2
  rw [List.length_map] at hjl
  have hne2 : o = .nilS ∨ l.map pieceM ≠ [] := by
   rcases hne with h | h
   ·exact .inl h
   ·exact .inr (by simpa using h)
  have n4 := join_row (l.map pieceM) o H.length H' hrow hne2 H.length hH (by rw [List.length_map]; omega) (by omega)
  have hJ := join_text l
  generalize Lib.join (l.map pieceM) [44] = J at *
  have e4 : aStr .add [123] J = some (.str (123 :: J)) := str_add (s := [123]) (by simp; omega)
  have e5 : aStr .add (123 :: J) [125] = some (.str (123 :: J ++ [125])) := str_add (by simp; omega)
  rw [← hJ]
  simp only [w9, simprocAttr, hlen, a10, a11, a3, d2, n4, e4, e5]
  exact Fin_pure (l := [.str (123 :: (J ++ [125]))]) (by simp [w9, hlen]) (.still rfl) (by simp)
open Go Go.Abs AbsSeat Ty
theorem awake17_run : aCall cfg 1000 0 22 [] [] = some (.bool true, none) := by kernel_rfl
theorem awake17_ok (prot : Nat) (H : Heap) : aLim cfg prot 22 [] H = some (.bool true, none) :=
 lim_shut (k := 1000) (by kernel_rfl) (by kernel_rfl) awake17_run prot H
set_option maxRecDepth 100000
open Go Go.Abs AbsSeat Ty
def g5 : Code := .seq (mG 0 #[q 2 (.assign (mI false)) 4]) (.seq (mG 1 #[mA 10 0 41, q 11 (cl 19 #[.tmp 10] #[41]) 43, mA 9 11 43, mE 12 9 0 42, mE 13 9 1 41, mB 3 12 42, mB 4 13 41]) (.seq (mG 2 #[mA 15 3 42, q 16 (cl 20 #[.tmp 15] #[42]) 46, mA 14 16 46, mE 17 14 0 45, mE 18 14 1 28, mB 5 17 45, mB 6 18 28]) (.seq (.seq (mG 3 #[mA 19 6 28, mF 20 .neq 28 19 (ik 0) 28 4]) (.cond (.tmp 20) (.seq (mG 4 #[mA 21 5 45, q 22 (cl 21 #[.tmp 21] #[45]) 3, mF 23 .eql 3 22 (ik 0) 3 4, mA 24 23 4, qg 25 (cl 22 #[] #[]) 4 3 true, q 26 (.pick (.tmp 24) (.tmp 25) (mI false)) 4, mB 2 26 4]) .ret) .skip)) (.seq (mG 5 #[mA 28 5 45, q 29 (cl 24 #[.tmp 28] #[45]) 9, q 30 (cl 23 #[.tmp 29] #[9]) 46, mA 27 30 46, mE 31 27 0 45, mE 32 27 1 28, mB 7 31 45, mB 8 32 28]) (.seq (mG 6 #[mA 33 8 28, mF 34 .eql 28 33 (ik 0) 28 4, mA 35 34 4, qg 36 (.move (.tmp 7)) 45 2 true, qg 37 (cl 26 #[.tmp 36] #[45]) 42 2 true, qg 38 (.move (.tmp 4)) 41 2 true, qg 39 (cl 25 #[.tmp 37, .tmp 38] #[42, 41]) 4 2 true, q 40 (.pick (.tmp 35) (.tmp 39) (mI false)) 4, mA 41 40 4, qg 42 (.move (.tmp 7)) 45 8 true, qg 43 (cl 24 #[.tmp 42] #[45]) 9 8 true, qg 44 (.move (.tmp 5)) 45 8 true, qg 45 (cl 24 #[.tmp 44] #[45]) 9 8 true, qg 46 (.binOp .eql 9 (.tmp 43) (.tmp 45) 9) 4 8 true, q 47 (.pick (.tmp 41) (.tmp 46) (mI false)) 4, mA 48 47 4, qg 49 (cl 22 #[] #[]) 4 15 true, q 50 (.pick (.tmp 48) (.tmp 49) (mI false)) 4, mB 2 50 4]) .ret)))))
def s5 := sL Tryz.f5 g5 (by kernel_rfl)
theorem madeE_good {m : Mt} (h : madeE m = 0) : GoodM m := by
 unfold madeE at h
 split at h
 ·cases h
 ·rename_i h1
  have h1 : (nameL m.name && validU m.val) = true := by simpa using h1
  simp only [Bool.and_eq_true] at h1
  have hk : 1 ≤ m.kind ∧ m.kind ≤ 4 := by
   split at h
   ·rename_i h2; omega
   ·split at h
    ·rename_i h2; omega
    ·cases h
  exact ⟨h1.1, h1.2, hk.1, hk.2⟩
theorem firstE_good : ∀ {l : List Mt}, firstE l = 0 → ∀ m ∈ l, GoodM m
 | [], _, m, hm => by cases hm
 | x :: r, h, m, hm => by
  unfold firstE at h
  split at h
  ·rename_i h1
   rcases List.mem_cons.1 hm with rfl | hm
   ·exact madeE_good h1
   ·exact firstE_good h m hm
  ·rename_i h1; exact absurd h h1
theorem ofE_good {l : List Mt} (h : ofE l = 0) : l.length ≤ 32 ∧ ∀ m ∈ l, GoodM m := by
 unfold ofE at h
 split at h
 ·cases h
 ·rename_i h1
  exact ⟨by omega, firstE_good h⟩
theorem pieceM_small {m : Mt} (hn : m.name.length ≤ 20) (hv : m.val.length ≤ 30) : (pieceM m).length ≤ 204 := by
 have h1 : (signS m.kind).length ≤ 2 := by
  unfold signS
  split
  ·simp
  ·split
   ·simp
   ·split
    ·simp
    ·split <;> simp
 have h2 : (qm m).length ≤ 6 * m.val.length + 2 := by
  unfold qm
  split
  ·exact quote_len _
  ·simp
 simp only [pieceM, List.length_append]
 omega
theorem matchBack_ok (l : List Mt) (w : AV) (hw : Sl encMt w l) (hl : l.length ≤ 9223372036854775807) (prot : Nat) (H : Heap) (hg0 : hget H 0 (gver 1) = some [ET]) (hp : prot ≤ H.length) : aLim cfg prot 5 [w] H = some (.bool true, none) := by
 have hsnap : snap H [w] = some ([w], false) := by cases hw <;> rfl
 have p1 := mours_ok l w hw hl H.length H (Nat.le_refl _)
 have hcl := cutMs_len l
 have hcs := cutMs_small l
 generalize cutMs l = c at *
 have hs := slv_sl encMt c
 have n1 := mof_ok c (slv encMt c) hs (by omega) (fun m hm => ⟨by have := (hcs m hm).1; omega, by have := (hcs m hm).2; omega⟩) H.length H (Nat.le_refl _)
 have n9 := fun K => awake17_ok H.length K
 by_cases he : ofE c = 0
 ·obtain ⟨h32, hg⟩ := ofE_good he
  rw [he, if_pos rfl] at n1
  have n2 := mtext_ok c h32 hg (fun m hm => ⟨by have := (hcs m hm).1; omega, by have := (hcs m hm).2; omega⟩) H.length H (Nat.le_refl _)
  have hpt := parse_text c hg
  have hjl := join_len (c.map pieceM) 204 fun y hy => by
   obtain ⟨m, hm, rfl⟩ := List.mem_map.1 hy
   exact pieceM_small (hcs m hm).1 (hcs m hm).2
  rw [List.length_map] at hjl
  have htl : (textM c).length ≤ 1000000 := by
   rw [← join_text]
   simp only [List.length_cons, List.length_append, List.length_nil]
   omega
  have n3 := mparse_ok (textM c) htl (fun l' h' m hm => by
   rw [hpt] at h'
   cases h'
   have := (hcs m hm).2; omega) H.length H hg0 (Nat.le_refl _)
  have hpv : parseV (textM c) = .tup [listV c, .int .i64 0] := by
   unfold parseV
   rw [hpt]
   simp only [mofV, he, if_true]
  rw [hpv] at n3
  have n4 := mall_ok c (by omega) H.length H (Nat.le_refl _)
  have n5 := msame_ok c (slv encMt c) (slv encMt c) hs hs (by omega) H.length H (Nat.le_refl _)
  unfold listV at n1 n3
  have e1 : aStr .eql (textM c) (textM c) = some (.bool true) := by simp [aStr]
  generalize textM c = t at *
  generalize slv encW c = z at *
  generalize slv encMt c = y at *
  refine pure_slim rfl (by kernel_rfl) Tryz.func5 s5 hp hsnap (by simp [Tryz.f5]) fun fr hlen h => ?_
  simp only [Has] at h
  obtain ⟨a0, -⟩ := h
  simp only [Tryz.f5] at hlen ⊢
  unfold g5
  simp only [w9, simprocAttr, hlen, a0, p1, n1, n2, n3, n4, n5, n9, e1]
  exact Fin_pure (l := [.bool true]) (by simp [w9, hlen]) (.still rfl) (by simp)
 ·rw [if_neg he] at n1
  have n2 := mlen_nil H.length H (Nat.le_refl _)
  have d0 : decide (¬ ofE c = 0) = true := decide_eq_true he
  generalize ofE c = e at *
  refine pure_slim rfl (by kernel_rfl) Tryz.func5 s5 hp hsnap (by simp [Tryz.f5]) fun fr hlen h => ?_
  simp only [Has] at h
  obtain ⟨a0, -⟩ := h
  simp only [Tryz.f5] at hlen ⊢
  unfold g5
  simp only [w9, simprocAttr, hlen, a0, p1, n1, n2, n9, d0]
  exact Fin_pure (l := [.bool true]) (by simp [w9, hlen]) (.still rfl) (by simp)
end Go.Proofs.YtnipaiklandliaaGreatDoor
set_option maxRecDepth 100000
namespace Go.Proofs.YtnipaiklandliaaGreatDoor.matchBack
open Go Go.Abs AbsSeat
theorem mt_of (y : AV) (h : HasTV Tryz.prog 94 y) : ∃ a : Mt, y = encMt a ∧ True := by
 obtain ⟨ps, rfl, hf⟩ := h.struct Tryz.underlying94
 obtain ⟨p0, r0, rfl, h0, hf⟩ := hf.inv
 obtain ⟨p1, r1, rfl, h1, hf⟩ := hf.inv
 obtain ⟨p2, r2, rfl, h2, hf⟩ := hf.inv
 obtain rfl := hf.done
 obtain ⟨a, rfl, -⟩ := h0.str1 Tryz.underlying9
 obtain ⟨k, rfl, -⟩ := h1.int1 Tryz.underlying3
 obtain ⟨b, rfl, -⟩ := h2.str1 Tryz.underlying9
 exact ⟨⟨a, k, b⟩, rfl, trivial⟩
theorem abs (xs : List AV) (h : HasTs Tryz.prog Tryz.f5.params.toList xs) : ∃ k H', aCall cfg k 1 5 xs H0 = some (.bool true, H') := by
 rw [Tryz.params5] at h
 obtain ⟨x0, r0, rfl, h0, h⟩ := h.inv
 obtain rfl := h.done
 obtain ⟨l, k1, k2, -⟩ := h0.rows Tryz.underlying41 mt_of
 exact lim_call (matchBack_ok l x0 k1 k2 1 H0 rfl (by decide))
end Go.Proofs.YtnipaiklandliaaGreatDoor.matchBack
