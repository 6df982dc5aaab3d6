import Derived.Test.YtoblikhnbddfmaaMk2
/-! Chapter 15: a maker's nodes, walked. -/
set_option linter.unusedSimpArgs false
namespace Go.Proofs.Ytoblikhnbddfmaa
open Go Go.Abs AbsSeat Ty

/-- a node's states are made as is said. -/
def MkOk (x : Nd) : Prop := ∀ (l : List St) (to : Int) (b rb prot : Nat) (H : Heap), l.length + cnt x ≤ 100000 → prot ≤ b → b < rb → MkAt H b rb l →
  ∃ H', (MkAt H' b rb (mkN x l to).1 ∧ Frm H H' b rb) ∧ aLim cfg prot 63 [.ptr b 0 0, encN x, .int .i64 to] H = some (.int .i64 (mkN x l to).2, some H')
theorem cntL_drop : ∀ (l : List Nd) (k : Nat), cntL (l.drop k) ≤ cntL l
  | [], k => by simp [cntL]
  | x :: r, 0 => Nat.le_refl _
  | x :: r, k + 1 => by rw [List.drop_succ_cons, cntL]; have := cntL_drop r k; omega
theorem split_ok (l : List St) (one two : Int) (hl : l.length < 1000000) (b rb prot : Nat) (H : Heap) (hp : prot ≤ b) (hb : b < rb) (hm : MkAt H b rb l) :
    ∃ H', (MkAt H' b rb (l ++ [⟨2, false, [], one, two⟩]) ∧ Frm H H' b rb) ∧ aLim cfg prot 62 [.ptr b 0 0, .agg [.int .i64 2, .bool false, .nilS, .int .i64 one, .int .i64 two]] H = some (.int .i64 (l.length : Nat), some H') :=
  state_ok l ⟨2, false, .nilS, rfl, one, two⟩ ⟨2, false, [], one, two⟩ hl b rb prot H hp (by omega) (by omega) (by omega) hm ⟨rfl, rfl, rfl, rfl, Row.nil, .inl rfl⟩
theorem wrap_dec {k : Nat} (h : k ≤ 1000000) : IntKind.i64.wrap ((k : Int) - 1) = (k : Int) - 1 := wrap64 (by omega) (by omega)

theorem mkeither_ok (kids : List Nd) (hk : ∀ x ∈ kids, MkOk x) (hf : ∀ x ∈ kids, Fair x) (v : AV) (hv : Sl encN v kids) (hkl : kids.length ≤ 1000000) (l : List St) (to : Int) (b rb prot : Nat) (H : Heap) (hl : l.length + (cntL kids + (kids.length - 1)) ≤ 100000) (hp : prot ≤ b) (hb : b < rb) (hm : MkAt H b rb l) :
    ∃ H', (MkAt H' b rb (mkE kids l to).1 ∧ Frm H H' b rb) ∧ aLim cfg prot 86 [.ptr b 0 0, v, .int .i64 to] H = some (.int .i64 (mkE kids l to).2, some H') := by
  have hvl := fun K : Heap => hv.len (P := Try.prog) (H := K) Try.underlying39
  have hw0 := wrap_dec hkl
  refine raw_slimE rfl (by kernel_rfl) (by kernel_rfl) (by kernel_rfl) Try.func86 s86 (by simp [Try.f86]) fun fr hlen h => ?_
  simp only [Has, Nat.zero_add] at h
  obtain ⟨a0, a1, a2, -⟩ := h
  simp only [Try.f86] at hlen ⊢
  unfold g86
  simp only [wk, aBuiltin, AV.cells, AV.leaf, Nat.reduceEqDiff, Nat.reduceLT, Nat.reduceAdd, Nat.reduceLeDiff, reduceCtorEq, Nat.reduceMul, cfgP, u61, hlen, a0, a1, a2, hvl, hw0]
  refine loop_ruleE (fun m fr H' => ∃ (k : Nat), m = k ∧ k ≤ kids.length ∧ fr.length = 37 ∧ fget fr 0 = .ptr b 0 0 ∧ fget fr 1 = v ∧ fget fr 2 = .int .i64 to ∧ fget fr 7 = .int .i64 (mkE (kids.drop k) l to).2 ∧ fget fr 8 = .int .i64 ((k : Int) - 1)
    ∧ MkAt H' b rb (mkE (kids.drop k) l to).1 ∧ Frm H H' b rb) ?_ kids.length _ _ ⟨kids.length, by
      rw [List.drop_of_length_le (Nat.le_refl _)]
      refine ⟨rfl, Nat.le_refl _, by simp [wk, aBuiltin, AV.cells, AV.leaf, Nat.reduceEqDiff, Nat.reduceLT, Nat.reduceAdd, Nat.reduceLeDiff, reduceCtorEq, Nat.reduceMul, cfgP, u61, hlen], by simp [wk, aBuiltin, AV.cells, AV.leaf, Nat.reduceEqDiff, Nat.reduceLT, Nat.reduceAdd, Nat.reduceLeDiff, reduceCtorEq, Nat.reduceMul, cfgP, u61, hlen, a0], by simp [wk, aBuiltin, AV.cells, AV.leaf, Nat.reduceEqDiff, Nat.reduceLT, Nat.reduceAdd, Nat.reduceLeDiff, reduceCtorEq, Nat.reduceMul, cfgP, u61, hlen, a1], by simp [wk, aBuiltin, AV.cells, AV.leaf, Nat.reduceEqDiff, Nat.reduceLT, Nat.reduceAdd, Nat.reduceLeDiff, reduceCtorEq, Nat.reduceMul, cfgP, u61, hlen, a2], by simp [wk, aBuiltin, AV.cells, AV.leaf, Nat.reduceEqDiff, Nat.reduceLT, Nat.reduceAdd, Nat.reduceLeDiff, reduceCtorEq, Nat.reduceMul, cfgP, u61, hlen, mkE], by simp [wk, aBuiltin, AV.cells, AV.leaf, Nat.reduceEqDiff, Nat.reduceLT, Nat.reduceAdd, Nat.reduceLeDiff, reduceCtorEq, Nat.reduceMul, cfgP, u61, hlen], hm, Frm.refl _ _ _⟩⟩
  clear a0 a1 a2 hlen fr
  rintro m fr H' ⟨k, rfl, hki, hlen, a0, a1, a2, a7, a8, hm1, f1⟩ ih
  cases m with
  | zero =>
    have d1 : decide (((0 : Nat) : Int) - 1 ≥ 0) = false := rfl
    rw [List.drop_zero] at hm1 a7
    simp only [wk, aBuiltin, AV.cells, AV.leaf, Nat.reduceEqDiff, Nat.reduceLT, Nat.reduceAdd, Nat.reduceLeDiff, reduceCtorEq, Nat.reduceMul, cfgP, u61, hlen, a0, a1, a2, a7, a8, d1]
    exact ⟨_, ⟨hm1, f1⟩, Fin_raw (l := [.int .i64 (mkE kids l to).2]) (by simp [wk, aBuiltin, AV.cells, AV.leaf, Nat.reduceEqDiff, Nat.reduceLT, Nat.reduceAdd, Nat.reduceLeDiff, reduceCtorEq, Nat.reduceMul, cfgP, u61, hlen, aResults, aResult])⟩
  | succ j =>
    have e0 : ((j + 1 : Nat) : Int) - 1 = (j : Nat) := by omega
    rw [e0] at a8
    have d1 : decide (((j : Nat) : Int) ≥ 0) = true := decide_eq_true (by omega)
    have e1 := hv.at (P := Try.prog) (k := .i64) (i := j) Try.underlying39 sz41 encN_len (by omega)
    have hdj : kids.drop j = kids[j] :: kids.drop (j + 1) := by simp
    have hcl := cntL_drop kids j
    have hml := mkE_len (kids.drop (j + 1)) (fun y hy => hf y (List.mem_of_mem_drop hy)) l to
    have hdl : (kids.drop (j + 1)).length = kids.length - (j + 1) := by simp
    rw [hdj, cntL] at hcl
    obtain ⟨H2, ⟨hm2, f2⟩, n1⟩ := hk kids[j] (List.getElem_mem _) _ to b rb prot H' (by rw [hml]; omega) hp hb hm1
    have hnl := mkN_len kids[j] (hf _ (List.getElem_mem _)) (mkE (kids.drop (j + 1)) l to).1 to
    rw [hml] at hnl
    have hmk : mkE (kids.drop j) l to = if (kids.drop (j + 1)).isEmpty = true then mkN kids[j] (mkE (kids.drop (j + 1)) l to).1 to else ((mkN kids[j] (mkE (kids.drop (j + 1)) l to).1 to).1 ++ [⟨2, false, [], (mkN kids[j] (mkE (kids.drop (j + 1)) l to).1 to).2, (mkE (kids.drop (j + 1)) l to).2⟩], ((mkN kids[j] (mkE (kids.drop (j + 1)) l to).1 to).1.length : Nat)) := by
      rw [hdj, mkE]
    generalize kids[j] = x at *
    generalize mkE (kids.drop (j + 1)) l to = q at *
    generalize mkN x q.1 to = w at *
    obtain ⟨k', no', s, x1, x2, t, hx, hs, ht, -, -⟩ := encN_sh x
    rw [hx] at e1 n1
    simp only [AV.cells] at e1
    have hw2 := wrap_dec (k := j) (by omega)
    by_cases hlast : j + 1 = kids.length
    · have d2 : decide (((j : Nat) : Int) < (kids.length : Int) - 1) = false := decide_eq_false (by omega)
      have hem : (kids.drop (j + 1)).isEmpty = true := by rw [hlast]; simp
      rw [if_pos hem] at hmk
      simp only [wk, aBuiltin, AV.cells, AV.leaf, Nat.reduceEqDiff, Nat.reduceLT, Nat.reduceAdd, Nat.reduceLeDiff, reduceCtorEq, Nat.reduceMul, cfgP, u61, hlen, a0, a1, a2, a7, a8, d1, e1, n1, hvl, hw0, d2, hw2]
      refine ih _ _ j (by omega) ⟨j, rfl, by omega, by simp [wk, aBuiltin, AV.cells, AV.leaf, Nat.reduceEqDiff, Nat.reduceLT, Nat.reduceAdd, Nat.reduceLeDiff, reduceCtorEq, Nat.reduceMul, cfgP, u61, hlen], by simp [wk, aBuiltin, AV.cells, AV.leaf, Nat.reduceEqDiff, Nat.reduceLT, Nat.reduceAdd, Nat.reduceLeDiff, reduceCtorEq, Nat.reduceMul, cfgP, u61, hlen, a0], by simp [wk, aBuiltin, AV.cells, AV.leaf, Nat.reduceEqDiff, Nat.reduceLT, Nat.reduceAdd, Nat.reduceLeDiff, reduceCtorEq, Nat.reduceMul, cfgP, u61, hlen, a1], by simp [wk, aBuiltin, AV.cells, AV.leaf, Nat.reduceEqDiff, Nat.reduceLT, Nat.reduceAdd, Nat.reduceLeDiff, reduceCtorEq, Nat.reduceMul, cfgP, u61, hlen, a2], ?_, by simp [wk, aBuiltin, AV.cells, AV.leaf, Nat.reduceEqDiff, Nat.reduceLT, Nat.reduceAdd, Nat.reduceLeDiff, reduceCtorEq, Nat.reduceMul, cfgP, u61, hlen], ?_, f1.trans f2⟩
      · rw [hmk]; simp [wk, aBuiltin, AV.cells, AV.leaf, Nat.reduceEqDiff, Nat.reduceLT, Nat.reduceAdd, Nat.reduceLeDiff, reduceCtorEq, Nat.reduceMul, cfgP, u61, hlen]
      · rw [hmk]; exact hm2
    · have d2 : decide (((j : Nat) : Int) < (kids.length : Int) - 1) = true := decide_eq_true (by omega)
      have hem : ¬ (kids.drop (j + 1)).isEmpty = true := by rw [List.isEmpty_iff_length_eq_zero, hdl]; omega
      rw [if_neg hem] at hmk
      obtain ⟨H3, ⟨hm3, f3⟩, n2⟩ := split_ok w.1 w.2 q.2 (by rw [hnl]; omega) b rb prot H2 hp hb hm2
      simp only [wk, aBuiltin, AV.cells, AV.leaf, Nat.reduceEqDiff, Nat.reduceLT, Nat.reduceAdd, Nat.reduceLeDiff, reduceCtorEq, Nat.reduceMul, cfgP, u61, hlen, a0, a1, a2, a7, a8, d1, e1, n1, hvl, hw0, d2, n2, hw2]
      refine ih _ _ j (by omega) ⟨j, rfl, by omega, by simp [wk, aBuiltin, AV.cells, AV.leaf, Nat.reduceEqDiff, Nat.reduceLT, Nat.reduceAdd, Nat.reduceLeDiff, reduceCtorEq, Nat.reduceMul, cfgP, u61, hlen], by simp [wk, aBuiltin, AV.cells, AV.leaf, Nat.reduceEqDiff, Nat.reduceLT, Nat.reduceAdd, Nat.reduceLeDiff, reduceCtorEq, Nat.reduceMul, cfgP, u61, hlen, a0], by simp [wk, aBuiltin, AV.cells, AV.leaf, Nat.reduceEqDiff, Nat.reduceLT, Nat.reduceAdd, Nat.reduceLeDiff, reduceCtorEq, Nat.reduceMul, cfgP, u61, hlen, a1], by simp [wk, aBuiltin, AV.cells, AV.leaf, Nat.reduceEqDiff, Nat.reduceLT, Nat.reduceAdd, Nat.reduceLeDiff, reduceCtorEq, Nat.reduceMul, cfgP, u61, hlen, a2], ?_, by simp [wk, aBuiltin, AV.cells, AV.leaf, Nat.reduceEqDiff, Nat.reduceLT, Nat.reduceAdd, Nat.reduceLeDiff, reduceCtorEq, Nat.reduceMul, cfgP, u61, hlen], ?_, (f1.trans f2).trans f3⟩
      · rw [hmk]; simp [wk, aBuiltin, AV.cells, AV.leaf, Nat.reduceEqDiff, Nat.reduceLT, Nat.reduceAdd, Nat.reduceLeDiff, reduceCtorEq, Nat.reduceMul, cfgP, u61, hlen]
      · rw [hmk]; exact hm3
def setOneH : List HS → Nat → Int → List HS
  | [], _, _ => []
  | s :: r, 0, v => ⟨s.kind, s.no, s.sv, s.lf, v, s.two⟩ :: r
  | s :: r, i + 1, v => s :: setOneH r i v
theorem setOneH_cells : ∀ (l : List HS) (i : Nat) (v : Int), i < l.length → splice (cellsOf encH l) (i * 5 + 3) [.int .i64 v] = cellsOf encH (setOneH l i v)
  | [], i, v, h => by simp at h
  | s :: r, 0, v, _ => by simp [splice, cellsOf, setOneH, encH, AV.cells]
  | s :: r, i + 1, v, h => by
    have ih := setOneH_cells r i v (by simpa using h)
    rw [setOneH]
    have e : ∀ t : List HS, cellsOf encH (s :: t) = (encH s).cells ++ cellsOf encH t := fun t => by simp [cellsOf]
    rw [e, e, ← ih]
    have h5 : (encH s).cells.length = 5 := rfl
    unfold splice
    have e2 : (i + 1) * 5 + 3 = (encH s).cells.length + (i * 5 + 3) := by rw [h5]; omega
    rw [e2, List.take_length_add_append, List.append_assoc, Nat.add_assoc, List.drop_length_add_append]
    simp only [List.append_assoc]
theorem Lks.setOne {base : Nat} {H : Heap} {hl : List HS} {l : List St} (h : Lks base H hl l) : ∀ (i : Nat) (v : Int), Lks base H (setOneH hl i v) (setOne l i v) := by
  induction h with
  | nil => intro i v; exact .nil
  | cons a b ih =>
    intro i v
    cases i with
    | zero => obtain ⟨a1, a2, a3, a4, a5, a6⟩ := a; exact .cons ⟨a1, a2, rfl, a4, a5, a6⟩ b
    | succ i => exact .cons a (ih i v)
theorem setOneH_len : ∀ (l : List HS) (i : Nat) (v : Int), (setOneH l i v).length = l.length
  | [], _, _ => rfl
  | _ :: _, 0, _ => rfl
  | s :: r, i + 1, v => by rw [setOneH, List.length_cons, setOneH_len r i v, List.length_cons]
theorem MkAt.setOne {H : Heap} {b rb : Nat} {l : List St} (h : MkAt H b rb l) {prot : Nat} (hp : prot ≤ rb) (hb : b < rb) {i : Nat} (hi : i < l.length) (v : Int) : ∃ ver H', hget H b 0 = some [.bs ⟨rb, ver, 0, l.length, 0, 5, true, false⟩] ∧ hput prot H rb ver (i * 5 + 3) [.int .i64 v] = some H' ∧ MkAt H' b rb (Proofs.Ytoblikhnbddfmaa.setOne l i v) ∧ Frm H H' b rb := by
  obtain ⟨ver, hls, g1, g2, hlk, hv4⟩ := h
  have hll := hlk.length
  refine ⟨ver, _, g1, hput_eq g2 hp ?_ (by simp [AV.leaf]), ⟨ver, setOneH hls i v, ?_, ?_, (hlk.setOne i v).keep (Frm.set2 H b rb _) (by omega) (by omega), hv4⟩, Frm.set2 H b rb _⟩
  · have := encH_L.length hls
    simp only [List.length_singleton]
    omega
  · rw [hget_set_ne (by omega), setOne_len]; exact g1
  · rw [hget_set_same (hget_lt g2), if_pos rfl, setOneH_cells hls i v (by omega)]

theorem mkrepeat_ok (x : Nd) (hx0 : MkOk x) (hfx : Fair x) (no sf : Bool) (sp : List Sg) (least most : Int) (kf : Bool) (h1 : 0 ≤ least) (h2 : least ≤ 16) (h3 : most = -1 ∨ (least ≤ most ∧ most ≤ 16)) (l : List St) (to : Int) (b rb prot : Nat) (H : Heap)
    (hl : l.length + cnt (.mk 4 no sf sp least most kf [x]) ≤ 100000) (hp : prot ≤ b) (hb : b < rb) (hm : MkAt H b rb l) :
    ∃ H', (MkAt H' b rb (repS (mkN x) least most l to).1 ∧ Frm H H' b rb) ∧ aLim cfg prot 87 [.ptr b 0 0, encN (.mk 4 no sf sp least most kf [x]), .int .i64 to] H = some (.int .i64 (repS (mkN x) least most l to).2, some H') := by
  obtain ⟨a, rfl⟩ : ∃ a : Nat, least = a := ⟨least.toNat, by omega⟩
  generalize hle : (a : Int) = least at *
  have hcnt : cnt (.mk 4 no sf sp least most kf [x]) = if most = -1 then 1 + (max least 1).toNat * cnt x else (most - least).toNat * (cnt x + 1) + least.toNat * cnt x := by rw [cnt.eq_def]; simp
  rw [hcnt] at hl
  have hfl := mkN_len x hfx
  have hrl := repS_len hfl least most h1 l to
  have hs1 := slF_leaf sf encG sp
  have ht1 := slF_leaf kf encN [x]
  have hk0 := (slF_sl kf encN [x]).at (P := Try.prog) (k := .i64) (i := 0) Try.underlying39 sz41 encN_len (by simp)
  simp only [List.getElem_cons_zero] at hk0
  have e1 : aIndexAddr Try.prog 39 (slF kf encN [x]) (.int .i64 0) = some (.vptr (encN x).cells 0) := hk0
  have hrb : rb < H.length := by obtain ⟨ver, hls, g1, g2, -, -⟩ := hm; exact hget_lt g2
  obtain ⟨k', no', s', x1, x2, t, hx, hs, ht, -, -⟩ := encN_sh x
  have hcx : (encN x).cells = [.int .i64 k', .bool no', s', .int .i64 x1, .int .i64 x2, t] := by rw [hx]; rfl
  rw [hcx] at e1
  have hlZ : ∀ Z, (H ++ [Blk.cells 0 Z]).length = H.length + 1 := fun Z => by simp
  have hz4 : hget (H ++ [Blk.cells 0 [.int .i64 4, .bool no, slF sf encG sp, .int .i64 least, .int .i64 most, slF kf encN [x]]] ++ [Blk.cells 0 [.int .i64 k', .bool no', s', .int .i64 x1, .int .i64 x2, t]]) H.length 0 = some [.int .i64 4, .bool no, slF sf encG sp, .int .i64 least, .int .i64 most, slF kf encN [x]] := hget_mono (by rw [hget_new rfl, if_pos rfl]) _
  have hz7 : hget (H ++ [Blk.cells 0 [.int .i64 4, .bool no, slF sf encG sp, .int .i64 least, .int .i64 most, slF kf encN [x]]] ++ [Blk.cells 0 [.int .i64 k', .bool no', s', .int .i64 x1, .int .i64 x2, t]]) (H.length + 1) 0 = some [.int .i64 k', .bool no', s', .int .i64 x1, .int .i64 x2, t] := by rw [hget_new (hlZ _).symm, if_pos rfl]
  have f0 : Frm H (H ++ [Blk.cells 0 [.int .i64 4, .bool no, slF sf encG sp, .int .i64 least, .int .i64 most, slF kf encN [x]]] ++ [Blk.cells 0 [.int .i64 k', .bool no', s', .int .i64 x1, .int .i64 x2, t]]) b rb := (Frm.more H b rb _).trans (Frm.more _ b rb _)
  have hm0 : MkAt (H ++ [Blk.cells 0 [.int .i64 4, .bool no, slF sf encG sp, .int .i64 least, .int .i64 most, slF kf encN [x]]] ++ [Blk.cells 0 [.int .i64 k', .bool no', s', .int .i64 x1, .int .i64 x2, t]]) b rb l := by
    obtain ⟨ver, hls, g1, g2, g3, g4⟩ := hm
    exact ⟨ver, hls, hget_mono (hget_mono g1 _) _, hget_mono (hget_mono g2 _) _, g3.keep f0 (by omega) (by omega), g4⟩
  have hg1 : hget (H ++ [Blk.cells 0 [.int .i64 4, .bool no, slF sf encG sp, .int .i64 least, .int .i64 most, slF kf encN [x]]]) H.length 0 = some [.int .i64 4, .bool no, slF sf encG sp, .int .i64 least, .int .i64 most, slF kf encN [x]] := by rw [hget_new rfl, if_pos rfl]
  have hs0 := hs
  have ht0 := ht
  have hpn : hput prot (H ++ [Blk.cells 0 [.int .i64 4, .bool no, slF sf encG sp, .int .i64 least, .int .i64 most, slF kf encN [x]]] ++ [Blk.cells 0 [.int .i64 0, .bool false, .nilS, .int .i64 0, .int .i64 0, .nilS]]) (H.length + 1) 0 0 [.int .i64 k', .bool no', s', .int .i64 x1, .int .i64 x2, t] = some (H ++ [Blk.cells 0 [.int .i64 4, .bool no, slF sf encG sp, .int .i64 least, .int .i64 most, slF kf encN [x]]] ++ [Blk.cells 0 [.int .i64 k', .bool no', s', .int .i64 x1, .int .i64 x2, t]]) := by
    rw [hput_new (hlZ _).symm (by rw [hlZ]; omega) (by simp) (by simp only [List.all_cons, List.all_nil, hs0, ht0]; rfl)]; rfl
  generalize hK : H ++ [Blk.cells 0 [.int .i64 4, .bool no, slF sf encG sp, .int .i64 least, .int .i64 most, slF kf encN [x]]] ++ [Blk.cells 0 [.int .i64 k', .bool no', s', .int .i64 x1, .int .i64 x2, t]] = K at *
  refine raw_slimE rfl (by kernel_rfl) (by kernel_rfl) (by kernel_rfl) Try.func87 s87 (by simp [Try.f87]) fun fr hlen h => ?_
  simp only [Has, Nat.zero_add] at h
  obtain ⟨a0, a1, a2, -⟩ := h
  simp only [Try.f87] at hlen ⊢
  unfold g87
  rw [encN_eq] at a1
  unfold AV.leaf at hs1 ht1 hs ht
  have hT : (repS (mkN x) least most l to).1.length ≤ 100000 := by rw [hrl]; exact hl
  have hxo := fun (l : List St) (to : Int) (H : Heap) (hl : l.length + cnt x ≤ 100000) (hm : MkAt H b rb l) => hx0 l to b rb prot H hl hp hb hm
  simp only [hx] at hxo
  by_cases hm1 : most = -1
  rotate_left
  have d1 : decide (most = -1) = false := decide_eq_false hm1
  have hq : repS (mkN x) least most l to = repK (mkN x) a (optK (mkN x) to (most - least).toNat l to).1 (optK (mkN x) to (most - least).toNat l to).2 := by unfold repS; rw [if_neg hm1, show least.toNat = a by omega]
  simp only [wk, aBuiltin, AV.cells, AV.leaf, Nat.reduceEqDiff, Nat.reduceLT, Nat.reduceAdd, Nat.reduceLeDiff, reduceCtorEq, Nat.reduceMul, cfgP, u61, hlen, a0, a1, a2, hs1, ht1, hs, ht, e1, hg1, hlZ, hpn, hz4, hz7, d1, none_beq]
  have mc := hm0
  have fc := f0
  have hz4c := hz4
  have hz7c := hz7
  rotate_left
  rw [if_pos hm1] at hl
  have hlec : cnt x ≤ (max least 1).toNat * cnt x := Nat.le_mul_of_pos_left _ (by omega)
  have d1 : decide (most = -1) = true := decide_eq_true hm1
  obtain ⟨H1, ⟨m1, f1⟩, n1⟩ := split_ok l 0 to (by omega) b rb prot K hp hb hm0
  obtain ⟨H2, ⟨m2, f2⟩, n2⟩ := hxo (l ++ [⟨2, false, [], 0, to⟩]) (l.length : Nat) H1 (by rw [List.length_append, List.length_singleton]; omega) m1
  have hwl := hfl (l ++ [⟨2, false, [], 0, to⟩]) (l.length : Nat)
  rw [List.length_append, List.length_singleton] at hwl
  have z7 := f1.keep _ _ _ (by omega) (by omega) hz7
  have hunf : repS (mkN x) least most l to = if least = 0 then (setOne (mkN x (l ++ [⟨2, false, [], 0, to⟩]) (l.length : Nat)).1 l.length (mkN x (l ++ [⟨2, false, [], 0, to⟩]) (l.length : Nat)).2, ((l.length : Nat) : Int))
      else repK (mkN x) (least - 1).toNat (setOne (mkN x (l ++ [⟨2, false, [], 0, to⟩]) (l.length : Nat)).1 l.length (mkN x (l ++ [⟨2, false, [], 0, to⟩]) (l.length : Nat)).2) (mkN x (l ++ [⟨2, false, [], 0, to⟩]) (l.length : Nat)).2 := by unfold repS; rw [if_pos hm1]
  generalize mkN x (l ++ [⟨2, false, [], 0, to⟩]) (l.length : Nat) = w at *
  obtain ⟨ver, H3, g, hput3, mc, f3⟩ := m2.setOne (prot := prot) (by omega) hb (i := l.length) (by omega) w.2
  have eI : aIndexAddr Try.prog 53 (.bs ⟨rb, ver, 0, w.1.length, 0, 5, true, false⟩) (.int .i64 (l.length : Nat)) = some (.ptr rb ver (l.length * 5)) := by
    simp [aIndexAddr, asNat, Try.underlying53, sz116]; omega
  have fc := ((f0.trans f1).trans f2).trans f3
  by_cases h0 : least = 0
  · have d2 : decide (least = 0) = true := decide_eq_true h0
    rw [if_pos h0] at hunf
    rw [hunf]
    simp only [wk, aBuiltin, AV.cells, AV.leaf, Nat.reduceEqDiff, Nat.reduceLT, Nat.reduceAdd, Nat.reduceLeDiff, reduceCtorEq, Nat.reduceMul, cfgP, u61, hlen, a0, a1, a2, hs1, ht1, hs, ht, e1, hg1, hlZ, hpn, hz4, hz7, d1, n1, z7, n2, g, eI, hput3, d2]
    exact ⟨_, ⟨mc, fc⟩, Fin_raw (l := [.int .i64 (l.length : Nat)]) (by simp [wk, aBuiltin, AV.cells, AV.leaf, Nat.reduceEqDiff, Nat.reduceLT, Nat.reduceAdd, Nat.reduceLeDiff, reduceCtorEq, Nat.reduceMul, cfgP, u61, hlen, aResults, aResult])⟩
  rw [if_neg h0] at hunf
  have d2 : decide (least = 0) = false := decide_eq_false h0
  have hw1 : IntKind.i64.wrap (least - 1) = ((a - 1 : Nat) : Int) := by rw [wrap64 (by omega) (by omega)]; omega
  have hz4c := (f1.trans (f2.trans f3)).keep _ _ _ (by omega) (by omega) hz4
  have hz7c := (f1.trans (f2.trans f3)).keep _ _ _ (by omega) (by omega) hz7
  have hq : repS (mkN x) least most l to = repK (mkN x) (a - 1) (optK (mkN x) to (most - least).toNat (setOne w.1 l.length w.2) w.2).1 (optK (mkN x) to (most - least).toNat (setOne w.1 l.length w.2) w.2).2 := by
    rw [hunf, show (most - least).toNat = 0 by omega, show (least - 1).toNat = a - 1 by omega]; rfl
  simp only [wk, aBuiltin, AV.cells, AV.leaf, Nat.reduceEqDiff, Nat.reduceLT, Nat.reduceAdd, Nat.reduceLeDiff, reduceCtorEq, Nat.reduceMul, cfgP, u61, hlen, a0, a1, a2, hs1, ht1, hs, ht, e1, hg1, hlZ, hpn, hz4, hz7, d1, n1, z7, n2, g, eI, hput3, d2, hw1, hz4c, none_beq]
  all_goals
    clear hz4 hz7 hm0 f0 hpn hg1
    refine loop_ruleE (fun m fr H' => ∃ (l1 : List St) (a1 : Int) (n : Nat) (i : Int), m = (most - i).toNat ∧ 0 ≤ i ∧ i ≤ 1000 ∧ n ≤ a ∧ repS (mkN x) least most l to = repK (mkN x) n (optK (mkN x) to m l1 a1).1 (optK (mkN x) to m l1 a1).2 ∧ MkAt H' b rb l1 ∧ Frm H H' b rb ∧
      hget H' H.length 0 = some [.int .i64 4, .bool no, slF sf encG sp, .int .i64 least, .int .i64 most, slF kf encN [x]] ∧ hget H' (H.length + 1) 0 = some [.int .i64 k', .bool no', s', .int .i64 x1, .int .i64 x2, t] ∧
      fr.length = 70 ∧ fget fr 0 = .ptr b 0 0 ∧ fget fr 2 = .int .i64 to ∧ fget fr 4 = .ptr H.length 0 0 ∧ fget fr 7 = .ptr (H.length + 1) 0 0 ∧ fget fr 8 = .int .i64 a1 ∧ fget fr 9 = .int .i64 (n : Nat) ∧ fget fr 11 = .int .i64 i) ?_ (most - least).toNat _ _
      ⟨_, _, _, _, rfl, h1, by omega, by omega, hq, mc, fc, hz4c, hz7c, by simp [wk, aBuiltin, AV.cells, AV.leaf, Nat.reduceEqDiff, Nat.reduceLT, Nat.reduceAdd, Nat.reduceLeDiff, reduceCtorEq, Nat.reduceMul, cfgP, u61, hlen], by simp [wk, aBuiltin, AV.cells, AV.leaf, Nat.reduceEqDiff, Nat.reduceLT, Nat.reduceAdd, Nat.reduceLeDiff, reduceCtorEq, Nat.reduceMul, cfgP, u61, hlen, a0], by simp [wk, aBuiltin, AV.cells, AV.leaf, Nat.reduceEqDiff, Nat.reduceLT, Nat.reduceAdd, Nat.reduceLeDiff, reduceCtorEq, Nat.reduceMul, cfgP, u61, hlen, a2], by simp [wk, aBuiltin, AV.cells, AV.leaf, Nat.reduceEqDiff, Nat.reduceLT, Nat.reduceAdd, Nat.reduceLeDiff, reduceCtorEq, Nat.reduceMul, cfgP, u61, hlen], by simp [wk, aBuiltin, AV.cells, AV.leaf, Nat.reduceEqDiff, Nat.reduceLT, Nat.reduceAdd, Nat.reduceLeDiff, reduceCtorEq, Nat.reduceMul, cfgP, u61, hlen], by simp [wk, aBuiltin, AV.cells, AV.leaf, Nat.reduceEqDiff, Nat.reduceLT, Nat.reduceAdd, Nat.reduceLeDiff, reduceCtorEq, Nat.reduceMul, cfgP, u61, hlen], by simp [wk, aBuiltin, AV.cells, AV.leaf, Nat.reduceEqDiff, Nat.reduceLT, Nat.reduceAdd, Nat.reduceLeDiff, reduceCtorEq, Nat.reduceMul, cfgP, u61, hlen, hle], by simp [wk, aBuiltin, AV.cells, AV.leaf, Nat.reduceEqDiff, Nat.reduceLT, Nat.reduceAdd, Nat.reduceLeDiff, reduceCtorEq, Nat.reduceMul, cfgP, u61, hlen]⟩
    clear hz4c hz7c mc fc hq a0 a1 a2 hlen fr
    rintro m fr H' ⟨l1, a1, n, i, rfl, hi0, hi1, hna, hq, hm, f, hz4, hz7, hlen, b0, b2, b4, b7, b8, b9, b11⟩ ih
    have hTl : (repS (mkN x) least most l to).1.length = l1.length + (most - i).toNat * (cnt x + 1) + n * cnt x := by rw [hq, repK_len hfl, optK_len hfl]
    have hT2 := hT
    rw [hTl] at hT
    by_cases hi : i < most
    · have hk : (most - i).toNat = (most - (i + 1)).toNat + 1 := by omega
      rw [hk] at hq hT
      rw [optK] at hq
      rw [Nat.succ_mul] at hT
      obtain ⟨H2, ⟨m2, f2⟩, n1⟩ := hxo l1 a1 H' (by omega) hm
      have hwl := hfl l1 a1
      generalize mkN x l1 a1 = w at *
      obtain ⟨H3, ⟨m3, f3⟩, n2⟩ := split_ok w.1 w.2 to (by omega) b rb prot H2 hp hb m2
      have d5 : decide (i < most) = true := decide_eq_true hi
      have hw : IntKind.i64.wrap (i + 1) = i + 1 := wrap64 (by omega) (by omega)
      simp only [wk, aBuiltin, AV.cells, AV.leaf, Nat.reduceEqDiff, Nat.reduceLT, Nat.reduceAdd, Nat.reduceLeDiff, reduceCtorEq, Nat.reduceMul, cfgP, u61, hlen, b0, b2, b4, b7, b8, b9, b11, hz4, d5, hz7, n1, n2, hw]
      refine ih _ _ (most - (i + 1)).toNat (by omega) ⟨_, _, n, i + 1, rfl, by omega, by omega, hna, hq, m3, (f.trans f2).trans f3, (f2.trans f3).keep _ _ _ (by omega) (by omega) hz4, (f2.trans f3).keep _ _ _ (by omega) (by omega) hz7,
        by simp [wk, aBuiltin, AV.cells, AV.leaf, Nat.reduceEqDiff, Nat.reduceLT, Nat.reduceAdd, Nat.reduceLeDiff, reduceCtorEq, Nat.reduceMul, cfgP, u61, hlen], by simp [wk, aBuiltin, AV.cells, AV.leaf, Nat.reduceEqDiff, Nat.reduceLT, Nat.reduceAdd, Nat.reduceLeDiff, reduceCtorEq, Nat.reduceMul, cfgP, u61, hlen, b0], by simp [wk, aBuiltin, AV.cells, AV.leaf, Nat.reduceEqDiff, Nat.reduceLT, Nat.reduceAdd, Nat.reduceLeDiff, reduceCtorEq, Nat.reduceMul, cfgP, u61, hlen, b2], by simp [wk, aBuiltin, AV.cells, AV.leaf, Nat.reduceEqDiff, Nat.reduceLT, Nat.reduceAdd, Nat.reduceLeDiff, reduceCtorEq, Nat.reduceMul, cfgP, u61, hlen, b4], by simp [wk, aBuiltin, AV.cells, AV.leaf, Nat.reduceEqDiff, Nat.reduceLT, Nat.reduceAdd, Nat.reduceLeDiff, reduceCtorEq, Nat.reduceMul, cfgP, u61, hlen, b7], by simp [wk, aBuiltin, AV.cells, AV.leaf, Nat.reduceEqDiff, Nat.reduceLT, Nat.reduceAdd, Nat.reduceLeDiff, reduceCtorEq, Nat.reduceMul, cfgP, u61, hlen], by simp [wk, aBuiltin, AV.cells, AV.leaf, Nat.reduceEqDiff, Nat.reduceLT, Nat.reduceAdd, Nat.reduceLeDiff, reduceCtorEq, Nat.reduceMul, cfgP, u61, hlen, b9], by simp [wk, aBuiltin, AV.cells, AV.leaf, Nat.reduceEqDiff, Nat.reduceLT, Nat.reduceAdd, Nat.reduceLeDiff, reduceCtorEq, Nat.reduceMul, cfgP, u61, hlen]⟩
    · have hk : (most - i).toNat = 0 := by omega
      rw [hk] at hq hT
      rw [optK] at hq
      try dsimp only at hq
      have d5 : decide (i < most) = false := decide_eq_false hi
      simp only [wk, aBuiltin, AV.cells, AV.leaf, Nat.reduceEqDiff, Nat.reduceLT, Nat.reduceAdd, Nat.reduceLeDiff, reduceCtorEq, Nat.reduceMul, cfgP, u61, hlen, b0, b2, b4, b7, b8, b9, b11, hz4, d5]
      clear ih
      refine loop_ruleE (fun m fr H' => ∃ (l1 : List St) (a1 : Int) (j : Nat), m = n - j ∧ j ≤ n ∧ repS (mkN x) least most l to = repK (mkN x) m l1 a1 ∧ MkAt H' b rb l1 ∧ Frm H H' b rb ∧ hget H' (H.length + 1) 0 = some [.int .i64 k', .bool no', s', .int .i64 x1, .int .i64 x2, t] ∧
        fr.length = 70 ∧ fget fr 0 = .ptr b 0 0 ∧ fget fr 7 = .ptr (H.length + 1) 0 0 ∧ fget fr 8 = .int .i64 a1 ∧ fget fr 61 = .int .i64 (n : Nat) ∧ fget fr 62 = .int .i64 (j : Nat)) ?_ n _ _
        ⟨l1, a1, 0, rfl, by omega, hq, hm, f, hz7, by simp [wk, aBuiltin, AV.cells, AV.leaf, Nat.reduceEqDiff, Nat.reduceLT, Nat.reduceAdd, Nat.reduceLeDiff, reduceCtorEq, Nat.reduceMul, cfgP, u61, hlen], by simp [wk, aBuiltin, AV.cells, AV.leaf, Nat.reduceEqDiff, Nat.reduceLT, Nat.reduceAdd, Nat.reduceLeDiff, reduceCtorEq, Nat.reduceMul, cfgP, u61, hlen, b0], by simp [wk, aBuiltin, AV.cells, AV.leaf, Nat.reduceEqDiff, Nat.reduceLT, Nat.reduceAdd, Nat.reduceLeDiff, reduceCtorEq, Nat.reduceMul, cfgP, u61, hlen, b7], by simp [wk, aBuiltin, AV.cells, AV.leaf, Nat.reduceEqDiff, Nat.reduceLT, Nat.reduceAdd, Nat.reduceLeDiff, reduceCtorEq, Nat.reduceMul, cfgP, u61, hlen, b8], by simp [wk, aBuiltin, AV.cells, AV.leaf, Nat.reduceEqDiff, Nat.reduceLT, Nat.reduceAdd, Nat.reduceLeDiff, reduceCtorEq, Nat.reduceMul, cfgP, u61, hlen, b9], by simp [wk, aBuiltin, AV.cells, AV.leaf, Nat.reduceEqDiff, Nat.reduceLT, Nat.reduceAdd, Nat.reduceLeDiff, reduceCtorEq, Nat.reduceMul, cfgP, u61, hlen]⟩
      clear hq hm f hz7 hz4 b0 b2 b4 b7 b8 b9 b11 hlen fr hTl hT
      have hT := hT2
      rintro m fr H' ⟨l1, a1, j, rfl, hj, hq, hm, f, hz7, hlen, b0, b7, b8, b61, b62⟩ ih
      have hTl : (repS (mkN x) least most l to).1.length = l1.length + (n - j) * cnt x := by rw [hq, repK_len hfl]
      by_cases hj2 : j < n
      · have hk : n - j = (n - (j + 1)) + 1 := by omega
        rw [hk] at hq hTl
        rw [repK] at hq
        rw [Nat.succ_mul] at hTl
        obtain ⟨H2, ⟨m2, f2⟩, n1⟩ := hxo l1 a1 H' (by omega) hm
        generalize mkN x l1 a1 = w at *
        have d6 : decide (((j : Nat) : Int) < (n : Nat)) = true := decide_eq_true (by omega)
        have hw : IntKind.i64.wrap ((j : Int) + 1) = ((j + 1 : Nat) : Int) := by rw [wrap64 (by omega) (by omega)]; simp
        simp only [wk, aBuiltin, AV.cells, AV.leaf, Nat.reduceEqDiff, Nat.reduceLT, Nat.reduceAdd, Nat.reduceLeDiff, reduceCtorEq, Nat.reduceMul, cfgP, u61, hlen, b0, b7, b8, b61, b62, d6, hz7, n1, hw]
        exact ih _ _ (n - (j + 1)) (by omega) ⟨_, _, j + 1, rfl, by omega, hq, m2, f.trans f2, f2.keep _ _ _ (by omega) (by omega) hz7, by simp [wk, aBuiltin, AV.cells, AV.leaf, Nat.reduceEqDiff, Nat.reduceLT, Nat.reduceAdd, Nat.reduceLeDiff, reduceCtorEq, Nat.reduceMul, cfgP, u61, hlen], by simp [wk, aBuiltin, AV.cells, AV.leaf, Nat.reduceEqDiff, Nat.reduceLT, Nat.reduceAdd, Nat.reduceLeDiff, reduceCtorEq, Nat.reduceMul, cfgP, u61, hlen, b0], by simp [wk, aBuiltin, AV.cells, AV.leaf, Nat.reduceEqDiff, Nat.reduceLT, Nat.reduceAdd, Nat.reduceLeDiff, reduceCtorEq, Nat.reduceMul, cfgP, u61, hlen, b7], by simp [wk, aBuiltin, AV.cells, AV.leaf, Nat.reduceEqDiff, Nat.reduceLT, Nat.reduceAdd, Nat.reduceLeDiff, reduceCtorEq, Nat.reduceMul, cfgP, u61, hlen], by simp [wk, aBuiltin, AV.cells, AV.leaf, Nat.reduceEqDiff, Nat.reduceLT, Nat.reduceAdd, Nat.reduceLeDiff, reduceCtorEq, Nat.reduceMul, cfgP, u61, hlen, b61], by simp [wk, aBuiltin, AV.cells, AV.leaf, Nat.reduceEqDiff, Nat.reduceLT, Nat.reduceAdd, Nat.reduceLeDiff, reduceCtorEq, Nat.reduceMul, cfgP, u61, hlen]⟩
      · have hk : n - j = 0 := by omega
        rw [hk] at hq
        rw [repK] at hq
        have d6 : decide (((j : Nat) : Int) < (n : Nat)) = false := decide_eq_false (by omega)
        simp only [wk, aBuiltin, AV.cells, AV.leaf, Nat.reduceEqDiff, Nat.reduceLT, Nat.reduceAdd, Nat.reduceLeDiff, reduceCtorEq, Nat.reduceMul, cfgP, u61, hlen, b0, b7, b8, b61, b62, d6]
        rw [hq]
        exact ⟨_, ⟨hm, f⟩, Fin_raw (l := [.int .i64 a1]) (by simp [wk, aBuiltin, AV.cells, AV.leaf, Nat.reduceEqDiff, Nat.reduceLT, Nat.reduceAdd, Nat.reduceLeDiff, reduceCtorEq, Nat.reduceMul, cfgP, u61, hlen, aResults, aResult])⟩
end Go.Proofs.Ytoblikhnbddfmaa
/-! Chapter 15: a maker's nodes, and Compile, walked. -/
namespace Go.Proofs.Ytoblikhnbddfmaa
open Go Go.Abs AbsSeat Ty

theorem MkAt.more {H : Heap} {b rb : Nat} {l : List St} (h : MkAt H b rb l) (hb : b < rb) (x : List Blk) : MkAt (H ++ x) b rb l := by
  obtain ⟨ver, hls, g1, g2, g3, g4⟩ := h
  exact ⟨ver, hls, hget_mono g1 _, hget_mono g2 _, g3.keep (Frm.more H b rb x) (by omega) (by omega), g4⟩
theorem MkAt.lt {H : Heap} {b rb : Nat} {l : List St} (h : MkAt H b rb l) : rb < H.length := by
  obtain ⟨ver, hls, g1, g2, g3, g4⟩ := h
  exact hget_lt g2
/-- spans, cloned behind a row that is not there. -/
theorem spans_app (sf : Bool) (sp : List Sg) (hs : sp.length ≤ 10000000) (prot base : Nat) (K : Heap) (hb : base ≤ K.length) :
    (sp = [] ∧ aAppend Try.prog prot K #[38, 38] .nilS (slF sf encG sp) = some (.nilS, none)) ∨
    (sp ≠ [] ∧ ∃ K', aAppend Try.prog prot K #[38, 38] .nilS (slF sf encG sp) = some (.bs ⟨K.length, 0, 0, sp.length, 0, 2, true, false⟩, some K') ∧ K' = K ++ [Blk.cells 0 (cellsOf encG sp)] ∧ Row encG 2 true base K' (.bs ⟨K.length, 0, 0, sp.length, 0, 2, true, false⟩) sp) := by
  by_cases h : sp = []
  · subst h
    exact .inl ⟨rfl, app_zero rowG hxtG (.inl rfl) rfl⟩
  · have hpos : 0 < sp.length := List.length_pos_iff.2 h
    have hel : elemCells K 2 (slF sf encG sp) = some (sp.length, cellsOf encG sp) := (slF_sl sf encG sp).elems encG_T K
    have happ := (EncL.mk encG_T.len encG_T.leaf).app0 (prot := prot) rowG hxtG hel hpos (by simp [roomy]; omega)
    exact .inr ⟨h, _, happ, rfl, .inr ⟨_, _, rfl, hb, by rw [hget_new rfl, if_pos rfl], rfl⟩⟩

theorem mknode_step (kind : Int) (no sf : Bool) (sp : List Sg) (least most : Int) (kf : Bool) (kids : List Nd) (hg : Good (.mk kind no sf sp least most kf kids)) (hfi : Fine (.mk kind no sf sp least most kf kids)) (ih : ∀ x ∈ kids, MkOk x) : MkOk (.mk kind no sf sp least most kf kids) := by
  intro l to b rb prot H hl hp hb hm
  have hfr := hg.fair
  cases hfi with
  | mk hfk hfs _ =>
  cases hg with
  | mk hgk hk hkl =>
  have hs1 := slF_leaf sf encG sp
  have ht1 := slF_leaf kf encN kids
  have hsl := slF_sl kf encN kids
  have hkn := fun K : Heap => hsl.len (P := Try.prog) (H := K) Try.underlying39
  have hlt := hm.lt
  have hw0 := wrap_dec hkl
  have hfk : ∀ x ∈ kids, Fair x := fun x hx => (hgk x hx).fair
  have f0 := Frm.more H b rb [Blk.cells 0 [.int .i64 kind, .bool no, slF sf encG sp, .int .i64 least, .int .i64 most, slF kf encN kids]]
  have hm0 := hm.more hb [Blk.cells 0 [.int .i64 kind, .bool no, slF sf encG sp, .int .i64 least, .int .i64 most, slF kf encN kids]]
  have hg0 : hget (H ++ [Blk.cells 0 [.int .i64 kind, .bool no, slF sf encG sp, .int .i64 least, .int .i64 most, slF kf encN kids]]) H.length 0 = some [.int .i64 kind, .bool no, slF sf encG sp, .int .i64 least, .int .i64 most, slF kf encN kids] := by rw [hget_new rfl, if_pos rfl]
  have hKl : (H ++ [Blk.cells 0 [.int .i64 kind, .bool no, slF sf encG sp, .int .i64 least, .int .i64 most, slF kf encN kids]]).length = H.length + 1 := by simp
  generalize hK : H ++ [Blk.cells 0 [.int .i64 kind, .bool no, slF sf encG sp, .int .i64 least, .int .i64 most, slF kf encN kids]] = K at *
  have d01 : decide ((0 : Int) = 1) = false := rfl
  have d02 : decide ((0 : Int) = 2) = false := rfl
  have d03 : decide ((0 : Int) = 3) = false := rfl
  have d04 : decide ((0 : Int) = 4) = false := rfl
  have d11 : decide ((1 : Int) = 1) = true := rfl
  have d21 : decide ((2 : Int) = 1) = false := rfl
  have d22 : decide ((2 : Int) = 2) = true := rfl
  have d31 : decide ((3 : Int) = 1) = false := rfl
  have d32 : decide ((3 : Int) = 2) = false := rfl
  have d33 : decide ((3 : Int) = 3) = true := rfl
  have d41 : decide ((4 : Int) = 1) = false := rfl
  have d42 : decide ((4 : Int) = 2) = false := rfl
  have d43 : decide ((4 : Int) = 3) = false := rfl
  have d44 : decide ((4 : Int) = 4) = true := rfl
  rcases hk with rfl | rfl | rfl | rfl | ⟨rfl, hk1, hk2, hk3, hk4⟩
  · have e : mkN (.mk 0 no sf sp least most kf kids) l to = (l, to) := by rw [mkN.eq_def]; simp
    rw [e]
    refine raw_slimE rfl (by kernel_rfl) (by kernel_rfl) (by kernel_rfl) Try.func63 s63 (by simp [Try.f63]) fun fr hlen h => ?_
    simp only [Has, Nat.zero_add] at h
    obtain ⟨a0, a1, a2, -⟩ := h
    simp only [Try.f63] at hlen ⊢
    unfold g63
    rw [encN_eq] at a1
    unfold AV.leaf at hs1 ht1
    simp only [wk, aBuiltin, AV.cells, AV.leaf, Nat.reduceEqDiff, Nat.reduceLT, Nat.reduceAdd, Nat.reduceLeDiff, reduceCtorEq, Nat.reduceMul, cfgP, u61, hlen, a0, a1, a2, hs1, ht1, hK, hg0, d01, d02, d03, d04]
    exact ⟨_, ⟨hm0, f0⟩, Fin_raw (l := [.int .i64 to]) (by simp [wk, aBuiltin, AV.cells, AV.leaf, Nat.reduceEqDiff, Nat.reduceLT, Nat.reduceAdd, Nat.reduceLeDiff, reduceCtorEq, Nat.reduceMul, cfgP, u61, hlen, aResults, aResult])⟩
  · have e : mkN (.mk 1 no sf sp least most kf kids) l to = (l ++ [⟨1, no, sp, to, 0⟩], ((l.length : Nat) : Int)) := by rw [mkN.eq_def]; simp
    have ec : cnt (.mk 1 no sf sp least most kf kids) = 1 := by rw [cnt.eq_def]; simp
    rw [ec] at hl
    rw [e]
    rcases spans_app sf sp hfs prot (rb + 1) K (by omega) with ⟨rfl, happ⟩ | ⟨hne, K', happ, hKe, hrow⟩
    · obtain ⟨H2, ⟨m2, f2⟩, n1⟩ := state_ok l ⟨1, no, .nilS, rfl, to, 0⟩ ⟨1, no, [], to, 0⟩ (by omega) b rb prot K hp (by omega) (by omega) (by omega) hm0 ⟨rfl, rfl, rfl, rfl, Row.nil, .inl rfl⟩
      simp only [encH] at n1
      refine raw_slimE rfl (by kernel_rfl) (by kernel_rfl) (by kernel_rfl) Try.func63 s63 (by simp [Try.f63]) fun fr hlen h => ?_
      simp only [Has, Nat.zero_add] at h
      obtain ⟨a0, a1, a2, -⟩ := h
      simp only [Try.f63] at hlen ⊢
      unfold g63
      rw [encN_eq] at a1
      unfold AV.leaf at hs1 ht1
      simp only [wk, aBuiltin, AV.cells, AV.leaf, Nat.reduceEqDiff, Nat.reduceLT, Nat.reduceAdd, Nat.reduceLeDiff, reduceCtorEq, Nat.reduceMul, cfgP, u61, hlen, a0, a1, a2, hs1, ht1, hK, hg0, d11, happ, n1]
      refine ex_draw ?_ ?_
      · rw [show befs [] _ = [0, 0, 2, 0, 8, 24, 0, 126, 255, 511] from by kernel_rfl]
        simp [wk, aBuiltin, AV.cells, AV.leaf, Nat.reduceEqDiff, Nat.reduceLT, Nat.reduceAdd, Nat.reduceLeDiff, reduceCtorEq, Nat.reduceMul, cfgP, u61, hlen, drawOk, chained, mayAt, sameAt, bound, List.range_succ, Nat.testBit, a0, a1, a2, hs1, ht1, hK, hg0, happ, n1, avbeq_refl]
      exact ⟨_, ⟨m2, f0.trans f2⟩, Fin_raw (l := [.int .i64 (l.length : Nat)]) (by simp [wk, aBuiltin, AV.cells, AV.leaf, Nat.reduceEqDiff, Nat.reduceLT, Nat.reduceAdd, Nat.reduceLeDiff, reduceCtorEq, Nat.reduceMul, cfgP, u61, hlen, aResults, aResult])⟩
    · subst hKe
      obtain ⟨H2, ⟨m2, f2⟩, n1⟩ := state_ok l ⟨1, no, .bs ⟨K.length, 0, 0, sp.length, 0, 2, true, false⟩, rfl, to, 0⟩ ⟨1, no, sp, to, 0⟩ (by omega) b rb prot _ hp (by omega) (by omega) (by omega) (hm0.more hb _) ⟨rfl, rfl, rfl, rfl, hrow, .inr hne⟩
      simp only [encH] at n1
      refine raw_slimE rfl (by kernel_rfl) (by kernel_rfl) (by kernel_rfl) Try.func63 s63 (by simp [Try.f63]) fun fr hlen h => ?_
      simp only [Has, Nat.zero_add] at h
      obtain ⟨a0, a1, a2, -⟩ := h
      simp only [Try.f63] at hlen ⊢
      unfold g63
      rw [encN_eq] at a1
      unfold AV.leaf at hs1 ht1
      have hgK := hget_mono hg0 [Blk.cells 0 (cellsOf encG sp)]
      simp only [wk, aBuiltin, AV.cells, AV.leaf, Nat.reduceEqDiff, Nat.reduceLT, Nat.reduceAdd, Nat.reduceLeDiff, reduceCtorEq, Nat.reduceMul, cfgP, u61, hlen, a0, a1, a2, hs1, ht1, hK, hg0, d11, happ, n1]
      refine ex_draw ?_ ?_
      · rw [show befs [] _ = [0, 0, 2, 0, 8, 24, 0, 126, 255, 511] from by kernel_rfl]
        simp [wk, aBuiltin, AV.cells, AV.leaf, Nat.reduceEqDiff, Nat.reduceLT, Nat.reduceAdd, Nat.reduceLeDiff, reduceCtorEq, Nat.reduceMul, cfgP, u61, hlen, drawOk, chained, mayAt, sameAt, bound, List.range_succ, Nat.testBit, a0, a1, a2, hs1, ht1, hK, hg0, hgK, happ, n1, avbeq_refl]
      exact ⟨_, ⟨m2, (f0.trans (Frm.more K b rb _)).trans f2⟩, Fin_raw (l := [.int .i64 (l.length : Nat)]) (by simp [wk, aBuiltin, AV.cells, AV.leaf, Nat.reduceEqDiff, Nat.reduceLT, Nat.reduceAdd, Nat.reduceLeDiff, reduceCtorEq, Nat.reduceMul, cfgP, u61, hlen, aResults, aResult])⟩
  · have e : mkN (.mk 2 no sf sp least most kf kids) l to = mkC kids l to := by rw [mkN.eq_def]; simp
    have ec : cnt (.mk 2 no sf sp least most kf kids) = cntL kids := by rw [cnt.eq_def]; simp
    rw [ec] at hl
    rw [e]
    refine raw_slimE rfl (by kernel_rfl) (by kernel_rfl) (by kernel_rfl) Try.func63 s63 (by simp [Try.f63]) fun fr hlen h => ?_
    simp only [Has, Nat.zero_add] at h
    obtain ⟨a0, a1, a2, -⟩ := h
    simp only [Try.f63] at hlen ⊢
    unfold g63
    rw [encN_eq] at a1
    unfold AV.leaf at hs1 ht1
    simp only [wk, aBuiltin, AV.cells, AV.leaf, Nat.reduceEqDiff, Nat.reduceLT, Nat.reduceAdd, Nat.reduceLeDiff, reduceCtorEq, Nat.reduceMul, cfgP, u61, hlen, a0, a1, a2, hs1, ht1, hK, hg0, d21, d22, hkn, hw0, none_beq]
    refine loop_ruleE (fun m fr H' => ∃ (k : Nat), m = k ∧ k ≤ kids.length ∧ fr.length = 53 ∧ fget fr 0 = .ptr b 0 0 ∧ fget fr 2 = .int .i64 (mkC (kids.drop k) l to).2 ∧ fget fr 4 = .ptr H.length 0 0 ∧ fget fr 7 = .int .i64 ((k : Int) - 1)
      ∧ MkAt H' b rb (mkC (kids.drop k) l to).1 ∧ Frm K H' b rb) ?_ kids.length _ _ ⟨kids.length, by
        rw [List.drop_of_length_le (Nat.le_refl _)]
        refine ⟨rfl, Nat.le_refl _, by simp [wk, aBuiltin, AV.cells, AV.leaf, Nat.reduceEqDiff, Nat.reduceLT, Nat.reduceAdd, Nat.reduceLeDiff, reduceCtorEq, Nat.reduceMul, cfgP, u61, hlen], by simp [wk, aBuiltin, AV.cells, AV.leaf, Nat.reduceEqDiff, Nat.reduceLT, Nat.reduceAdd, Nat.reduceLeDiff, reduceCtorEq, Nat.reduceMul, cfgP, u61, hlen, a0], by simp [wk, aBuiltin, AV.cells, AV.leaf, Nat.reduceEqDiff, Nat.reduceLT, Nat.reduceAdd, Nat.reduceLeDiff, reduceCtorEq, Nat.reduceMul, cfgP, u61, hlen, a2, mkC], by simp [wk, aBuiltin, AV.cells, AV.leaf, Nat.reduceEqDiff, Nat.reduceLT, Nat.reduceAdd, Nat.reduceLeDiff, reduceCtorEq, Nat.reduceMul, cfgP, u61, hlen], by simp [wk, aBuiltin, AV.cells, AV.leaf, Nat.reduceEqDiff, Nat.reduceLT, Nat.reduceAdd, Nat.reduceLeDiff, reduceCtorEq, Nat.reduceMul, cfgP, u61, hlen], hm0, Frm.refl _ _ _⟩⟩
    clear a0 a1 a2 hlen fr
    rintro m fr H' ⟨k, rfl, hki, hlen, a0, a2, a4, a7, hm1, f1⟩ ihl
    cases m with
    | zero =>
      have d1 : decide (((0 : Nat) : Int) - 1 ≥ 0) = false := rfl
      rw [List.drop_zero] at hm1 a2
      simp only [wk, aBuiltin, AV.cells, AV.leaf, Nat.reduceEqDiff, Nat.reduceLT, Nat.reduceAdd, Nat.reduceLeDiff, reduceCtorEq, Nat.reduceMul, cfgP, u61, hlen, a0, a2, a4, a7, d1]
      exact ⟨_, ⟨hm1, f0.trans f1⟩, Fin_raw (l := [.int .i64 (mkC kids l to).2]) (by simp [wk, aBuiltin, AV.cells, AV.leaf, Nat.reduceEqDiff, Nat.reduceLT, Nat.reduceAdd, Nat.reduceLeDiff, reduceCtorEq, Nat.reduceMul, cfgP, u61, hlen, aResults, aResult])⟩
    | succ j =>
      have e0 : ((j + 1 : Nat) : Int) - 1 = (j : Nat) := by omega
      rw [e0] at a7
      have d1 : decide (((j : Nat) : Int) ≥ 0) = true := decide_eq_true (by omega)
      have e1 := hsl.at (P := Try.prog) (k := .i64) (i := j) Try.underlying39 sz41 encN_len (by omega)
      have hdj : kids.drop j = kids[j] :: kids.drop (j + 1) := by simp
      have hcl := cntL_drop kids j
      have hml := mkC_len (kids.drop (j + 1)) (fun y hy => hfk y (List.mem_of_mem_drop hy)) l to
      rw [hdj, cntL] at hcl
      have hgk := f1.keep _ _ _ (by omega) (by omega) hg0
      obtain ⟨H2, ⟨hm2, f2⟩, n1⟩ := ih kids[j] (List.getElem_mem _) _ (mkC (kids.drop (j + 1)) l to).2 b rb prot H' (by rw [hml]; omega) hp hb hm1
      have hmk : mkC (kids.drop j) l to = mkN kids[j] (mkC (kids.drop (j + 1)) l to).1 (mkC (kids.drop (j + 1)) l to).2 := by rw [hdj, mkC]
      generalize kids[j] = x at *
      generalize mkC (kids.drop (j + 1)) l to = q at *
      generalize mkN x q.1 q.2 = w at *
      obtain ⟨k', no', s, x1, x2, t, hx, hs, ht, -, -⟩ := encN_sh x
      rw [hx] at e1 n1
      simp only [AV.cells] at e1
      have hw2 := wrap_dec (k := j) (by omega)
      simp only [wk, aBuiltin, AV.cells, AV.leaf, Nat.reduceEqDiff, Nat.reduceLT, Nat.reduceAdd, Nat.reduceLeDiff, reduceCtorEq, Nat.reduceMul, cfgP, u61, hlen, a0, a2, a4, a7, d1, hgk, e1, n1, hw2]
      refine ihl _ _ j (by omega) ⟨j, rfl, by omega, by simp [wk, aBuiltin, AV.cells, AV.leaf, Nat.reduceEqDiff, Nat.reduceLT, Nat.reduceAdd, Nat.reduceLeDiff, reduceCtorEq, Nat.reduceMul, cfgP, u61, hlen], by simp [wk, aBuiltin, AV.cells, AV.leaf, Nat.reduceEqDiff, Nat.reduceLT, Nat.reduceAdd, Nat.reduceLeDiff, reduceCtorEq, Nat.reduceMul, cfgP, u61, hlen, a0], ?_, by simp [wk, aBuiltin, AV.cells, AV.leaf, Nat.reduceEqDiff, Nat.reduceLT, Nat.reduceAdd, Nat.reduceLeDiff, reduceCtorEq, Nat.reduceMul, cfgP, u61, hlen, a4], by simp [wk, aBuiltin, AV.cells, AV.leaf, Nat.reduceEqDiff, Nat.reduceLT, Nat.reduceAdd, Nat.reduceLeDiff, reduceCtorEq, Nat.reduceMul, cfgP, u61, hlen], ?_, f1.trans f2⟩
      · rw [hmk]; simp [wk, aBuiltin, AV.cells, AV.leaf, Nat.reduceEqDiff, Nat.reduceLT, Nat.reduceAdd, Nat.reduceLeDiff, reduceCtorEq, Nat.reduceMul, cfgP, u61, hlen]
      · rw [hmk]; exact hm2
  · have e : mkN (.mk 3 no sf sp least most kf kids) l to = mkE kids l to := by rw [mkN.eq_def]; simp
    have ec : cnt (.mk 3 no sf sp least most kf kids) = cntL kids + (kids.length - 1) := by rw [cnt.eq_def]; simp
    rw [ec] at hl
    rw [e]
    obtain ⟨H2, ⟨m2, f2⟩, n1⟩ := mkeither_ok kids ih hfk _ hsl hkl l to b rb prot K hl hp hb hm0
    refine raw_slimE rfl (by kernel_rfl) (by kernel_rfl) (by kernel_rfl) Try.func63 s63 (by simp [Try.f63]) fun fr hlen h => ?_
    simp only [Has, Nat.zero_add] at h
    obtain ⟨a0, a1, a2, -⟩ := h
    simp only [Try.f63] at hlen ⊢
    unfold g63
    rw [encN_eq] at a1
    unfold AV.leaf at hs1 ht1
    simp only [wk, aBuiltin, AV.cells, AV.leaf, Nat.reduceEqDiff, Nat.reduceLT, Nat.reduceAdd, Nat.reduceLeDiff, reduceCtorEq, Nat.reduceMul, cfgP, u61, hlen, a0, a1, a2, hs1, ht1, hK, hg0, d31, d32, d33, n1, none_beq]
    exact ⟨_, ⟨m2, f0.trans f2⟩, Fin_raw (l := [.int .i64 (mkE kids l to).2]) (by simp [wk, aBuiltin, AV.cells, AV.leaf, Nat.reduceEqDiff, Nat.reduceLT, Nat.reduceAdd, Nat.reduceLeDiff, reduceCtorEq, Nat.reduceMul, cfgP, u61, hlen, aResults, aResult])⟩
  · obtain ⟨x, rfl⟩ : ∃ x, kids = [x] := List.length_eq_one_iff.1 hk1
    have e : mkN (.mk 4 no sf sp least most kf [x]) l to = repS (mkN x) least most l to := by rw [mkN.eq_def]; simp
    rw [e]
    obtain ⟨H2, ⟨m2, f2⟩, n1⟩ := mkrepeat_ok x (ih x (by simp)) (hfk x (by simp)) no sf sp least most kf hk2 hk3 hk4 l to b rb prot K hl hp hb hm0
    rw [encN_eq] at n1
    refine raw_slimE rfl (by kernel_rfl) (by kernel_rfl) (by kernel_rfl) Try.func63 s63 (by simp [Try.f63]) fun fr hlen h => ?_
    simp only [Has, Nat.zero_add] at h
    obtain ⟨a0, a1, a2, -⟩ := h
    simp only [Try.f63] at hlen ⊢
    unfold g63
    rw [encN_eq] at a1
    unfold AV.leaf at hs1 ht1
    simp only [wk, aBuiltin, AV.cells, AV.leaf, Nat.reduceEqDiff, Nat.reduceLT, Nat.reduceAdd, Nat.reduceLeDiff, reduceCtorEq, Nat.reduceMul, cfgP, u61, hlen, a0, a1, a2, hs1, ht1, hK, hg0, d41, d42, d43, d44, n1, none_beq]
    exact ⟨_, ⟨m2, f0.trans f2⟩, Fin_raw (l := [.int .i64 (repS (mkN x) least most l to).2]) (by simp [wk, aBuiltin, AV.cells, AV.leaf, Nat.reduceEqDiff, Nat.reduceLT, Nat.reduceAdd, Nat.reduceLeDiff, reduceCtorEq, Nat.reduceMul, cfgP, u61, hlen, aResults, aResult])⟩
theorem mknode_ok : ∀ (x : Nd), Good x → Fine x → MkOk x
  | .mk kind no sf sp least most kf kids, hg, hf => mknode_step kind no sf sp least most kf kids hg hf fun x hx => mknode_ok x (by cases hg with | mk h _ _ => exact h x hx) (by cases hf with | mk h _ _ => exact h x hx)
termination_by x => SizeOf.sizeOf x
decreasing_by have := List.sizeOf_lt_of_mem hx; simp; omega
end Go.Proofs.Ytoblikhnbddfmaa
/-! Chapter 15: Compile, walked. -/
namespace Go.Proofs.Ytoblikhnbddfmaa
open Go Go.Abs AbsSeat Ty

def encSt (s : St) : AV := .agg [.int .i64 s.kind, .bool s.no, slv encG s.sp, .int .i64 s.one, .int .i64 s.two]
theorem slvG_leaf (l : List Sg) : (slv encG l).leaf = true := by cases l <;> rfl
theorem slvG_still (l : List Sg) : still (slv encG l) = true := by cases l <;> rfl
theorem encSt_T : EncT encSt 5 true where
  len _ := rfl
  leaf x c hc := by
    simp only [encSt, AV.cells, List.mem_cons, List.not_mem_nil, or_false] at hc
    rcases hc with rfl | rfl | rfl | rfl | rfl <;> first | rfl | exact slvG_leaf _
  still x c hc := by
    simp only [encSt, AV.cells, List.mem_cons, List.not_mem_nil, or_false] at hc
    rcases hc with rfl | rfl | rfl | rfl | rfl <;> first | rfl | exact slvG_still _
  shape _ := rfl
theorem Lks.frozen {base low : Nat} {H : Heap} (hlow : low ≤ base) {hl : List HS} {l : List St} (h : Lks base H hl l) : FrzL H low (cellsOf encH hl) (cellsOf encSt l) := by
  induction h with
  | nil => exact .nil
  | @cons h s hl l a b ih =>
    obtain ⟨a1, a2, a3, a4, a5, a6⟩ := a
    have e1 : cellsOf encH (h :: hl) = .int .i64 h.kind :: .bool h.no :: h.sv :: .int .i64 h.one :: .int .i64 h.two :: cellsOf encH hl := by simp [cellsOf, encH, AV.cells]
    have e2 : cellsOf encSt (s :: l) = .int .i64 s.kind :: .bool s.no :: slv encG s.sp :: .int .i64 s.one :: .int .i64 s.two :: cellsOf encSt l := by simp [cellsOf, encSt, AV.cells]
    rw [e1, e2, a1, a2, a3, a4]
    exact .cons (.still rfl) (.cons (.still rfl) (.cons ((a5.low hlow).frozen encG_T (by decide) rfl a6) (.cons (.still rfl) (.cons (.still rfl) ih))))
theorem MkAt.frozen {H : Heap} {b rb low : Nat} {l : List St} {ver : Nat} (h : MkAt H b rb l) (hlow : low ≤ rb) (hne : l ≠ []) (hg : hget H b 0 = some [.bs ⟨rb, ver, 0, l.length, 0, 5, true, false⟩]) : Frz H low (.bs ⟨rb, ver, 0, l.length, 0, 5, true, false⟩) (slv encSt l) := by
  obtain ⟨ver', hls, g1, g2, g3, g4⟩ := h
  rw [hg] at g1
  cases g1
  have hll := g3.length
  have hw : win (cellsOf encH hls) 0 (l.length * 5) = some (cellsOf encH hls) := by
    have := encH_L.length hls
    simp only [win, Nat.zero_add, List.drop_zero]
    rw [if_pos (by omega), List.take_of_length_le (by omega)]
  have := Frz.bs (H := H) (base := low) (s := ⟨rb, ver, 0, l.length, 0, 5, true, false⟩) hlow (Nat.succ_pos 4) rfl g2 hw (g3.frozen (by omega))
  rw [chunk_cellsOf encSt_T (by decide)] at this
  cases l with
  | nil => exact absurd rfl hne
  | cons x r => exact this

theorem state0_ok (x : HS) (s : St) (b prot : Nat) (H : Heap) (hp : prot ≤ b) (hg : hget H b 0 = some [.nilS]) (hx : LikeS (H.length + 3) H x s) :
    ∃ H', (MkAt H' b (H.length + 2) [s] ∧ Frm H H' b b) ∧ aLim cfg prot 62 [.ptr b 0 0, encH x] H = some (.int .i64 0, some H') := by
  have hxl := x.lf
  have hlb := hget_lt hg
  have hbox : hget (H ++ [Blk.cells 0 (encH x).cells]) H.length 0 = some (encH x).cells := by rw [hget_new rfl, if_pos rfl]
  have hl1 : (H ++ [Blk.cells 0 (encH x).cells]).length = H.length + 1 := by simp
  have hl2 : (H ++ [Blk.cells 0 (encH x).cells] ++ [Blk.cells 0 (encH x).cells]).length = H.length + 2 := by simp
  have f0 : Frm H (H ++ [Blk.cells 0 (encH x).cells] ++ [Blk.cells 0 (encH x).cells]) b b := (Frm.more H b b _).trans (Frm.more _ b b _)
  have g1' := hget_mono (hget_mono hg [Blk.cells 0 (encH x).cells]) [Blk.cells 0 (encH x).cells]
  have hlit := litH x (H ++ [Blk.cells 0 (encH x).cells])
  have hel := elemH x (H ++ [Blk.cells 0 (encH x).cells])
  have happ := encH_L.app0 (prot := prot) (m := [x]) rowSt hxtSt hel (by simp) (show roomy 1 56 = true from by decide)
  rw [hl1, hl2] at happ
  rw [hl1] at hlit
  have hll1 : hget (H ++ [Blk.cells 0 (encH x).cells]) b 0 = some [.nilS] := hget_mono hg _
  generalize hK : H ++ [Blk.cells 0 (encH x).cells] ++ [Blk.cells 0 (encH x).cells] = K at *
  have g3 : hget (K ++ [Blk.cells 0 (cellsOf encH [x])]) b 0 = some [.nilS] := hget_mono g1' _
  have g4 : hget (K ++ [Blk.cells 0 (cellsOf encH [x])]) (H.length + 2) 0 = some (cellsOf encH [x]) := by rw [hget_new hl2.symm, if_pos rfl]
  have hput1 : hput prot (K ++ [Blk.cells 0 (cellsOf encH [x])]) b 0 0 [.bs ⟨H.length + 2, 0, 0, 1, 0, 5, true, false⟩] = some ((K ++ [Blk.cells 0 (cellsOf encH [x])]).set b (.cells 0 [.bs ⟨H.length + 2, 0, 0, 1, 0, 5, true, false⟩])) := by
    rw [hput_eq g3 hp (by simp) (by simp [AV.leaf])]; rfl
  have g5 : hget ((K ++ [Blk.cells 0 (cellsOf encH [x])]).set b (.cells 0 [.bs ⟨H.length + 2, 0, 0, 1, 0, 5, true, false⟩])) b 0 = some [.bs ⟨H.length + 2, 0, 0, 1, 0, 5, true, false⟩] := hget_set_at (hget_lt g3)
  have hbb : hget (H ++ [Blk.cells 0 (encH x).cells]) H.length 0 = some (encH x).cells := by rw [hget_new rfl, if_pos rfl]
  have fT : Frm H ((K ++ [Blk.cells 0 (cellsOf encH [x])]).set b (.cells 0 [.bs ⟨H.length + 2, 0, 0, 1, 0, 5, true, false⟩])) b b := (f0.trans (Frm.more K b b _)).trans (Frm.set1 _ b b _)
  have hx' := hx.keep fT (by omega) (by omega)
  have hw1 : IntKind.i64.wrap (((1 : Nat) : Int) - 1) = 0 := by decide
  simp only [encH, AV.cells] at hlit happ hK hbb hll1 hl1
  simp only [List.length_singleton] at happ
  unfold AV.leaf at hxl
  refine raw_slimE rfl (by kernel_rfl) (by kernel_rfl) (by kernel_rfl) Try.func62 s62 (by simp [Try.f62]) fun fr hlen h => ?_
  simp only [Has, Nat.zero_add] at h
  obtain ⟨a0, a1, -⟩ := h
  simp only [Try.f62] at hlen ⊢
  unfold g62
  simp only [wk, aBuiltin, AV.cells, AV.leaf, Nat.reduceEqDiff, Nat.reduceLT, Nat.reduceAdd, Nat.reduceLeDiff, reduceCtorEq, Nat.reduceMul, cfgP, u61, hlen, a0, a1, encH, hxl, hll1, hl1, hbb, hlit, hK, happ, hput1]
  refine ex_draw ?_ ?_
  · rw [show befs [] _ = [0, 0, 2, 6, 14, 0, 32, 126, 255, 511, 1023] from by kernel_rfl]
    simp [wk, aBuiltin, AV.cells, AV.leaf, Nat.reduceEqDiff, Nat.reduceLT, Nat.reduceAdd, Nat.reduceLeDiff, reduceCtorEq, Nat.reduceMul, cfgP, u61, hlen, drawOk, chained, mayAt, sameAt, bound, List.range_succ, Nat.testBit, a0, a1, encH, hxl, hll1, hl1, hbb, hlit, hK, happ, hput1, g1', avbeq_refl]
  simp only [wk, aBuiltin, AV.cells, AV.leaf, Nat.reduceEqDiff, Nat.reduceLT, Nat.reduceAdd, Nat.reduceLeDiff, reduceCtorEq, Nat.reduceMul, cfgP, u61, hlen, a0, g5, lenSt, hw1]
  refine ⟨_, ⟨⟨0, [x], ?_, ?_, ?_, rfl⟩, fT⟩, Fin_raw (l := [.int .i64 0]) (by simp [wk, aBuiltin, AV.cells, AV.leaf, Nat.reduceEqDiff, Nat.reduceLT, Nat.reduceAdd, Nat.reduceLeDiff, reduceCtorEq, Nat.reduceMul, cfgP, u61, hlen, aResults, aResult])⟩
  · exact g5
  · rw [hget_set_ne (by omega)]; exact g4
  · exact .cons hx' .nil

theorem compile_ok (x : Nd) (hg : Good x) (hf : Fine x) (hd : Dep 51 x) (hs : sizeN x ≤ 400) (prot : Nat) (H : Heap) (hp : prot ≤ H.length) :
    aLim cfg prot 25 [encN x] H = some (.tup [slv encSt (mkN x [⟨3, false, [], 0, 0⟩] 0).1, .int .i64 (mkN x [⟨3, false, [], 0, 0⟩] 0).2, .int .i64 0], none) := by
  have hsnap : snap H [encN x] = some ([encN x], false) := by cases x; rw [encN_eq]; rfl
  have hcs := cnt_size x hg (by omega)
  have hlen1 := mkN_len x hg.fair [⟨3, false, [], 0, 0⟩] 0
  have n1 : ∀ K : Heap, H.length ≤ K.length → aLim cfg H.length 61 [encN x, .int .i64 0] K = some (.int .i64 0, none) := fun K hK => may_ok x hg 51 hd 0 (by omega) H.length K hK
  have n2 := fun (K : Heap) (hK : H.length ≤ K.length) => nsize_ok x hg H.length K hK
  have hmk := mknode_ok x hg hf
  unfold MkOk at hmk
  have hlZ : ∀ Z, (H ++ [Blk.cells 0 Z]).length = H.length + 1 := fun Z => by simp
  obtain ⟨k', no', s, x1, x2, t, hx, hs1, ht1, -, -⟩ := encN_sh x
  rw [hx] at n1 n2 hmk ⊢
  rw [hx] at hsnap
  have hgx : hget (H ++ [Blk.cells 0 [.int .i64 k', .bool no', s, .int .i64 x1, .int .i64 x2, t]]) H.length 0 = some [.int .i64 k', .bool no', s, .int .i64 x1, .int .i64 x2, t] := by rw [hget_new rfl, if_pos rfl]
  have hgm : hget (H ++ [Blk.cells 0 [.int .i64 k', .bool no', s, .int .i64 x1, .int .i64 x2, t]] ++ [Blk.cells 0 [.nilS]]) (H.length + 1) 0 = some [.nilS] := by rw [hget_new (hlZ _).symm, if_pos rfl]
  have hgx2 := hget_mono hgx [Blk.cells 0 [.nilS]]
  obtain ⟨H1, ⟨m1, f1⟩, c1⟩ := state0_ok ⟨3, false, .nilS, rfl, 0, 0⟩ ⟨3, false, [], 0, 0⟩ (H.length + 1) H.length _ (by omega) hgm ⟨rfl, rfl, rfl, rfl, Row.nil, .inl rfl⟩
  have hl2 : (H ++ [Blk.cells 0 [.int .i64 k', .bool no', s, .int .i64 x1, .int .i64 x2, t]] ++ [Blk.cells 0 [.nilS]]).length = H.length + 2 := by simp
  rw [hl2] at m1
  have hgx3 := f1.keep _ _ _ (by omega) (by omega) hgx2
  obtain ⟨H2, ⟨m2, f2⟩, c2⟩ := hmk [⟨3, false, [], 0, 0⟩] 0 (H.length + 1) (H.length + 2 + 2) H.length H1 (by simp; omega) (by omega) (by omega) m1
  simp only [encH] at c1
  have m2' := m2
  obtain ⟨ver, hls, g1, -, -, -⟩ := m2'
  have hd1 : decide ((400 : Int) < (sizeN x : Nat)) = false := decide_eq_false (by omega)
  have hd2 : decide (¬ (0 : Int) = 0) = false := rfl
  have hle1 : H.length ≤ H.length + 1 := by omega
  have hfz := m2.frozen (low := H.length) (by omega) (by intro h; rw [h] at hlen1; simp at hlen1; omega) g1
  refine pure_slim rfl (by kernel_rfl) Try.func25 s25 hp hsnap (by simp [Try.f25]) fun fr hlen h => ?_
  simp only [Has, Nat.zero_add] at h
  obtain ⟨a0, -⟩ := h
  simp only [Try.f25] at hlen ⊢
  unfold g25
  unfold AV.leaf at hs1 ht1
  simp only [wk, aBuiltin, AV.cells, AV.leaf, Nat.reduceEqDiff, Nat.reduceLT, Nat.reduceAdd, Nat.reduceLeDiff, reduceCtorEq, Nat.reduceMul, cfgP, u61, hlen, a0, hs1, ht1, hgx, hlZ, hle1, n1, n2, hd1, hd2, hgm, c1, hgx3, c2, g1, none_beq]
  exact Fin_pure (l := [.bs ⟨H.length + 2 + 2, ver, 0, (mkN x [⟨3, false, [], 0, 0⟩] 0).1.length, 0, 5, true, false⟩, .int .i64 (mkN x [⟨3, false, [], 0, 0⟩] 0).2, .int .i64 0]) (by simp [wk, aBuiltin, AV.cells, AV.leaf, Nat.reduceEqDiff, Nat.reduceLT, Nat.reduceAdd, Nat.reduceLeDiff, reduceCtorEq, Nat.reduceMul, cfgP, u61, hlen, aResults, aResult]) (.tup (.cons hfz (.cons (.still rfl) (.cons (.still rfl) .nil)))) (by simp)
theorem Good.flat : ∀ {x : Nd}, Good x → Good (flat x)
  | .mk kind no sf sp least most kf kids, hg => by
    have h0 : ∀ x ∈ kids, Good (Proofs.Ytoblikhnbddfmaa.flat x) := fun x hx => Good.flat (x := x) (by cases hg with | mk h _ _ => exact h x hx)
    cases hg with
    | mk h hk hl =>
    rw [flat_eq]
    refine .mk (fun y hy => ?_) (by rw [List.length_map]; exact hk) (by rw [List.length_map]; exact hl)
    obtain ⟨x, hx, rfl⟩ := List.mem_map.1 hy
    exact h0 x hx
termination_by x => SizeOf.sizeOf x
decreasing_by have := List.sizeOf_lt_of_mem hx; simp; omega
mutual
theorem sizeN_flat : ∀ (x : Nd), sizeN (flat x) = sizeN x
  | .mk kind no sf sp least most kf kids => by
    rw [flat, sizeN.eq_def, sizeN.eq_def (.mk kind no sf sp least most kf kids)]
    dsimp only
    rw [sizeL_flats]
    match kids with
    | [] => rfl
    | [x] =>
      rw [flats, flats]
      dsimp only
      rw [sizeN_flat x]
    | x :: y :: r => rfl
theorem sizeL_flats (e : Bool) : ∀ (l : List Nd) (f : Bool) (a : Nat), sizeL e f a (flats l) = sizeL e f a l
  | [], f, a => rfl
  | x :: r, f, a => by rw [flats, sizeL, sizeL, sizeN_flat x, sizeL_flats e r]
end

theorem regexSize_ok (s0 : List UInt8) (prot : Nat) (H : Heap) (hp : prot ≤ H.length) : aLim cfg prot 5 [.str s0] H = some (.bool true, none) := by
  have hsnap : snap H [.str s0] = some ([.str s0], false) := rfl
  have hln : ∀ (s : List UInt8) K, aLen Try.prog K 9 (.str s) = some (.int .i64 s.length) := fun s K => str_len Try.underlying9 s K
  have hpl1 : H.length ≤ H.length + 1 := by omega
  have hlZ : ∀ Z, (H ++ [Blk.cells 0 Z]).length = H.length + 1 := fun Z => by simp
  have hg0 : ∀ Y, hget (H ++ [Blk.cells 0 Y]) H.length 0 = some Y := fun Y => by rw [hget_new rfl, if_pos rfl]
  have cut : ∃ s : List UInt8, s.length ≤ 80 ∧ s = s0.take 80 := ⟨_, by simp; omega, rfl⟩
  have hsl : 80 < s0.length → aSlice Try.prog 9 (.str s0) none (some (.int .i64 80)) none = some (.str (s0.take 80)) := fun h => str_upto (b := 80) Try.underlying9 s0 (by omega)
  have hst : ¬ 80 < s0.length → s0.take 80 = s0 := fun h => List.take_of_length_le (by omega)
  obtain ⟨s, hs80, hse⟩ := cut
  rw [← hse] at hsl hst
  have n1 := fun (K : Heap) (hK : H.length ≤ K.length) => parse_ok s (by omega) H.length K hK
  have hkn := parse_known s (by omega)
  generalize parseU s = z at *
  obtain ⟨x, e⟩ := z
  dsimp only at n1 hkn
  obtain ⟨k', no', s', x1, x2, t, hx, hs, ht, -, -⟩ := encN_sh x
  rw [hx] at n1
  have hs0 := hs
  unfold AV.leaf at hs ht
  have d0 : ∀ h : 80 < s0.length, decide ((80 : Int) < (s0.length : Nat)) = true := fun h => decide_eq_true (by omega)
  have d1 : ¬ 80 < s0.length → decide ((80 : Int) < (s0.length : Nat)) = false := fun h => decide_eq_false (by omega)
  by_cases he : e = 0
  · subst he
    obtain ⟨hg, hf, hd, hsz⟩ := hkn rfl
    have hcs := cnt_size x hg (by omega)
    have hl1 := mkN_len x hg.fair [⟨3, false, [], 0, 0⟩] 0
    rw [List.length_singleton] at hl1
    have n2 := fun (K : Heap) (hK : H.length ≤ K.length) => compile_ok x hg hf hd hsz H.length K hK
    have n3 := fun (K : Heap) (hK : H.length ≤ K.length) => nsize_ok x hg H.length K hK
    have n4 := fun (K : Heap) (hK : H.length ≤ K.length) => plainN_ok x hf H.length K hK
    have n5 := fun (K : Heap) (hK : H.length ≤ K.length) => rsize_ok (flat x) hg.flat H.length K hK
    rw [sizeN_flat] at n5
    have hll := fun K : Heap => (slv_sl encSt (mkN x [⟨3, false, [], 0, 0⟩] 0).1).len (P := Try.prog) (H := K) Try.underlying53
    have hw : IntKind.i64.wrap (((mkN x [⟨3, false, [], 0, 0⟩] 0).1.length : Int) - 1) = (sizeN x : Nat) := by rw [wrap64 (by omega) (by omega)]; omega
    obtain ⟨k2, no2, s2, y1, y2, t2, hx2, hs2', ht2', -, -⟩ := encN_sh (flat x)
    rw [hx] at n2 n3 n4
    rw [hx2] at n4 n5
    generalize mkN x [⟨3, false, [], 0, 0⟩] 0 = w at *
    have e1 : decide (¬ (0 : Int) = 0) = false := rfl
    have e2 : decide ((0 : Int) = 0) = true := rfl
    have e3 : decide (((sizeN x : Nat) : Int) = (sizeN x : Nat)) = true := by simp
    have hsv : (slv encSt w.1).leaf = true := by cases w.1 <;> rfl
    unfold AV.leaf at hsv
    by_cases h6 : 80 < s0.length
    · have hsl := hsl h6
      have d0 := d0 h6
      refine pure_slim rfl (by kernel_rfl) Try.func5 s5 hp hsnap (by simp [Try.f5]) fun fr hlen h => ?_
      simp only [Has, Nat.zero_add] at h
      obtain ⟨a0, -⟩ := h
      simp only [Try.f5] at hlen ⊢
      unfold g5
      simp only [wk, aBuiltin, AV.cells, AV.leaf, Nat.reduceEqDiff, Nat.reduceLT, Nat.reduceAdd, Nat.reduceLeDiff, reduceCtorEq, Nat.reduceMul, cfgP, u61, hlen, a0, hln, d0, hsl, n1, n2, n3, n4, n5, hs, ht, hpl1, hlZ, hg0, e1, e2, e3, hw, hll, hsv, awake15_ok, none_beq]
      exact Fin_pure (l := [.bool true]) (by simp [wk, aBuiltin, AV.cells, AV.leaf, Nat.reduceEqDiff, Nat.reduceLT, Nat.reduceAdd, Nat.reduceLeDiff, reduceCtorEq, Nat.reduceMul, cfgP, u61, aResults, aResult, hlen]) (.still rfl) (by simp)
    · have hst := hst h6
      rw [hst] at n1
      have d1 := d1 h6
      refine pure_slim rfl (by kernel_rfl) Try.func5 s5 hp hsnap (by simp [Try.f5]) fun fr hlen h => ?_
      simp only [Has, Nat.zero_add] at h
      obtain ⟨a0, -⟩ := h
      simp only [Try.f5] at hlen ⊢
      unfold g5
      simp only [wk, aBuiltin, AV.cells, AV.leaf, Nat.reduceEqDiff, Nat.reduceLT, Nat.reduceAdd, Nat.reduceLeDiff, reduceCtorEq, Nat.reduceMul, cfgP, u61, hlen, a0, hln, d1, n1, n2, n3, n4, n5, hs, ht, hpl1, hlZ, hg0, e1, e2, e3, hw, hll, hsv, awake15_ok, none_beq]
      exact Fin_pure (l := [.bool true]) (by simp [wk, aBuiltin, AV.cells, AV.leaf, Nat.reduceEqDiff, Nat.reduceLT, Nat.reduceAdd, Nat.reduceLeDiff, reduceCtorEq, Nat.reduceMul, cfgP, u61, aResults, aResult, hlen]) (.still rfl) (by simp)
  · have e1 : decide (¬ e = 0) = true := decide_eq_true he
    by_cases h6 : 80 < s0.length
    · have hsl := hsl h6
      have d0 := d0 h6
      refine pure_slim rfl (by kernel_rfl) Try.func5 s5 hp hsnap (by simp [Try.f5]) fun fr hlen h => ?_
      simp only [Has, Nat.zero_add] at h
      obtain ⟨a0, -⟩ := h
      simp only [Try.f5] at hlen ⊢
      unfold g5
      simp only [wk, aBuiltin, AV.cells, AV.leaf, Nat.reduceEqDiff, Nat.reduceLT, Nat.reduceAdd, Nat.reduceLeDiff, reduceCtorEq, Nat.reduceMul, cfgP, u61, hlen, a0, hln, d0, hsl, n1, hs, ht, hpl1, hlZ, hg0, e1, awake15_ok, none_beq]
      exact Fin_pure (l := [.bool true]) (by simp [wk, aBuiltin, AV.cells, AV.leaf, Nat.reduceEqDiff, Nat.reduceLT, Nat.reduceAdd, Nat.reduceLeDiff, reduceCtorEq, Nat.reduceMul, cfgP, u61, aResults, aResult, hlen]) (.still rfl) (by simp)
    · have hst := hst h6
      rw [hst] at n1
      have d1 := d1 h6
      refine pure_slim rfl (by kernel_rfl) Try.func5 s5 hp hsnap (by simp [Try.f5]) fun fr hlen h => ?_
      simp only [Has, Nat.zero_add] at h
      obtain ⟨a0, -⟩ := h
      simp only [Try.f5] at hlen ⊢
      unfold g5
      simp only [wk, aBuiltin, AV.cells, AV.leaf, Nat.reduceEqDiff, Nat.reduceLT, Nat.reduceAdd, Nat.reduceLeDiff, reduceCtorEq, Nat.reduceMul, cfgP, u61, hlen, a0, hln, d1, n1, hs, ht, hpl1, hlZ, hg0, e1, awake15_ok, none_beq]
      exact Fin_pure (l := [.bool true]) (by simp [wk, aBuiltin, AV.cells, AV.leaf, Nat.reduceEqDiff, Nat.reduceLT, Nat.reduceAdd, Nat.reduceLeDiff, reduceCtorEq, Nat.reduceMul, cfgP, u61, aResults, aResult, hlen]) (.still rfl) (by simp)
end Go.Proofs.Ytoblikhnbddfmaa
