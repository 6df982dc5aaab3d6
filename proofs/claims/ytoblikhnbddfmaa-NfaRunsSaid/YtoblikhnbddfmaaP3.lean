import Derived.Test.YtoblikhnbddfmaaP2
/-! Chapter 16 of the document: Run, walked. -/
set_option linter.unusedSimpArgs false
namespace Go.Proofs.Ytoblikhnbddfmaa
open Go Go.Abs AbsSeat Ty

theorem zrepB (n : Nat) : zrep n [AV.bool false] = (List.replicate n false).map encBo := by
  unfold zrep
  apply List.ext_getElem
  · simp
  · intro i h1 h2
    simp [encBo, Nat.mod_one]
theorem makeB (n : Nat) (hn : n ≤ 20) (H : Heap) : aMakeSlice Try.prog H 93 (.int .i64 (n : Nat)) (.int .i64 (n : Nat)) = some (.bs ⟨H.length, 0, 0, n, n, 1, false, true⟩, some (H ++ [Blk.cells 0 ((List.replicate n false).map encBo)])) := by
  unfold aMakeSlice
  rw [rowBo.elem, Option.bind_some, rowBo.size, Option.bind_some, rowBo.bytes, Option.bind_some, rowBo.agg, Option.bind_some, ze4, Option.bind_some]
  have h1 : ((List.replicate n false).map encBo).all AV.leaf = true := by
    rw [List.all_eq_true]; intro x hx
    obtain ⟨b, _, rfl⟩ := List.mem_map.1 hx
    rfl
  have h2 : roomy n 1 = true := by simp [roomy]; omega
  simp only [AV.cells, zrepB, Int.toNat_natCast, h1, h2]
  rw [if_pos ⟨by omega, by omega, by omega, trivial, rfl, by decide, trivial⟩]
theorem closure_bs (l : List S0) (hr : RightM (l.map S0.st)) (v : AV) (hv : Sl enc0 v l) (h1 : 1 ≤ l.length) (hl : l.length ≤ 20) (bits : List Bool) (hbl : bits.length = l.length) (b : Nat) (K : Heap) (hg : hget K b 0 = some (bits.map encBo)) (prot : Nat) (hp : prot ≤ b) :
    aLim cfg prot 77 [v, .bs ⟨b, 0, 0, l.length, l.length, 1, false, true⟩] K = some (slv encBo (closureS (l.map S0.st) bits), some (K.set b .dead)) := by
  have hbK := hget_lt hg
  have hfn : cfg.P.funcs[77]? = some Try.f77 := Try.func77
  have hpu : cfg.pure 77 = true := by kernel_rfl
  have hea : cfg.eats 77 = true := by kernel_rfl
  have hbo : Try.f77.body.isSome = true := by kernel_rfl
  have hw : win (bits.map encBo) 0 l.length = some (bits.map encBo) := by
    simp only [win, Nat.zero_add, List.drop_zero]
    rw [if_pos (by simp; omega), List.take_of_length_le (by simp; omega)]
  have hpl : AV.plL (bits.map encBo) = true := by
    clear hw hg hbl
    induction bits with
    | nil => rfl
    | cons x r ih => rw [List.map_cons]; exact ih
  have hc := chunk_cellsOf encBo_T (by decide) bits
  rw [cellsBo, hbl] at hc
  have hv2 : ∃ f, v = .vs (l.map enc0) f := by
    cases hv with
    | nil => simp at h1
    | vs l f => exact ⟨f, rfl⟩
  have hs : snap K [v, .bs ⟨b, 0, 0, l.length, l.length, 1, false, true⟩] = some ([v, .vs (bits.map encBo) false], true) := by
    obtain ⟨f, rfl⟩ := hv2
    simp [snap, hg, hw, hpl, hc]
  have hk : killA prot K [v, .bs ⟨b, 0, 0, l.length, l.length, 1, false, true⟩] = some (K.set b .dead) := by
    cases hv <;> simp [killA, hp]
  have hs1 : ∀ J, snap J [v, .vs (bits.map encBo) false] = some ([v, .vs (bits.map encBo) false], false) := fun J => by cases hv <;> rfl
  have g1 := closure_ok l hr v hv h1 hl bits hbl (.vs (bits.map encBo) false) (.vs _ _) prot K (by omega)
  have g2 := closure_ok l hr v hv h1 hl bits hbl (.vs (bits.map encBo) false) (.vs _ _) prot (K.set b .dead) (by simp; omega)
  have hcl : (closureS (l.map S0.st) bits).length = l.length := by unfold closureS; rw [iterC_len, hbl]
  have hf : flat (slv encBo (closureS (l.map S0.st) bits)) = false := by
    cases hcc : closureS (l.map S0.st) bits with
    | nil => rw [hcc] at hcl; simp at hcl; omega
    | cons x r => rfl
  exact lim_eat hpu hea hfn hbo hs hk (hs1 K) (hs1 _) (by simp) g1 g2 hf
def RowX {α : Type} (enc : α → AV) (base : Nat) (H : Heap) (v : AV) (l : List α) : Prop := (∃ z, v = .bs ⟨z, 0, 0, 1, 1, 1, false, true⟩ ∧ l.length = 1 ∧ base ≤ z ∧ hget H z 0 = some (cellsOf enc l)) ∨
  ∃ z ver, v = .bs ⟨z, ver, 0, l.length, 0, 1, false, false⟩ ∧ base ≤ z ∧ hget H z ver = some (cellsOf enc l) ∧ ver % 4 = 0 ∧ l ≠ []
theorem RowX.blk {α : Type} {enc : α → AV} {base : Nat} {H : Heap} {v : AV} {l : List α} (h : RowX enc base H v l) : ∃ s, v = .bs s ∧ base ≤ s.b ∧ s.b < H.length := by
  rcases h with ⟨z, rfl, _, h1, h2⟩ | ⟨z, ver, rfl, h1, h2, _⟩
  · exact ⟨_, rfl, h1, hget_lt h2⟩
  · exact ⟨_, rfl, h1, hget_lt h2⟩
theorem RowX.keep {α : Type} {enc : α → AV} {base : Nat} {H K : Heap} {v : AV} {l : List α} (h : RowX enc base H v l) (k : ∀ s, v = .bs s → ∀ ver cs, hget H s.b ver = some cs → hget K s.b ver = some cs) : RowX enc base K v l := by
  rcases h with ⟨z, rfl, h0, h1, h2⟩ | ⟨z, ver, rfl, h1, h2, h3⟩
  · exact .inl ⟨z, rfl, h0, h1, k _ rfl _ _ h2⟩
  · exact .inr ⟨z, ver, rfl, h1, k _ rfl _ _ h2, h3⟩
theorem RowX.app {α : Type} {enc : α → AV} {base : Nat} {H : Heap} {v : AV} {l : List α} (h : RowX enc base H v l) (he : EncT enc 1 false) {t e : TypeId} {by_ prot : Nat} (ht : RowT Try.prog t e 1 by_ false) {x : AV} {m : List α} (hx : elemCells H 1 x = some (m.length, cellsOf enc m)) (hm : 0 < m.length) (hr : roomy (l.length + m.length) by_ = true) (hp : prot ≤ base) (hb : base ≤ H.length) :
    ∃ v' H', aAppend Try.prog prot H #[t, t] v x = some (v', some H') ∧ RowX enc base H' v' (l ++ m) ∧ H.length ≤ H'.length ∧ (∀ z ver cs, (∀ s, v = .bs s → s.b ≠ z) → hget H z ver = some cs → hget H' z ver = some cs) ∧ ∀ s', v' = .bs s' → (∃ s, v = .bs s ∧ s'.b = s.b) ∨ s'.b = H.length := by
  have hL : EncL enc 1 := ⟨he.len, he.leaf⟩
  have hxt : (∃ e', Try.prog.underlying t = some (.slice e')) ∨ Try.prog.underlying t = some .string := .inl ⟨_, ht.un⟩
  rcases h with ⟨z, rfl, h0, h1, h2⟩ | ⟨z, ver, rfl, h1, h2, h3, h4⟩
  · obtain ⟨zz, hzz, hzl⟩ := ht.zero
    have hm0 : ¬ m.length = 0 := by omega
    have hlf := hL.leafs m
    have hw : win (cellsOf enc l) 0 (1 * 1) = some (cellsOf enc l) := by
      have := hL.length l
      simp only [win, Nat.zero_add, List.drop_zero]
      rw [if_pos (by omega), List.take_of_length_le (by omega)]
    rw [h0] at hr
    have hc : ¬ 1 + m.length ≤ 1 := by omega
    have happ : aAppend Try.prog prot H #[t, t] (.bs ⟨z, 0, 0, 1, 1, 1, false, true⟩) x = some (.bs ⟨H.length, 0, 0, 1 + m.length, 0, 1, false, false⟩, some (H ++ [Blk.cells 0 (cellsOf enc (l ++ m))])) := by
      rw [cellsOf_append]
      unfold aAppend
      simp only [List.getElem?_toArray, List.getElem?_cons_zero, List.getElem?_cons_succ, Option.bind_some, ht.elem, ht.size, ht.bytes, ht.agg, ht.un, hzz, hzl, ne_eq, not_true_eq_false, if_false, hx, hlf, if_true, hm0, h2, hw, hr, hc]
    exact ⟨_, _, happ, .inr ⟨H.length, 0, by rw [List.length_append, h0], hb, by rw [hget_new rfl, if_pos rfl], rfl, by intro h; have := congrArg List.length h; rw [List.length_append] at this; simp only [List.length_nil] at this; omega⟩, by simp, fun z ver cs _ h => hget_mono h _, fun s' h => .inr (by cases h; rfl)⟩
  · have happ := hL.app (prot := prot) ht hxt h2 h3 hx hm hr (by omega)
    exact ⟨_, _, happ, .inr ⟨z, ver + 4, by rw [List.length_append], h1, by rw [hget_set_same (hget_lt h2), if_pos rfl], by omega, by intro h; have := congrArg List.length h; rw [List.length_append] at this; simp only [List.length_nil] at this; omega⟩, by simp, fun z' ver' cs hz h => by rw [hget_set_ne (Ne.symm (hz _ rfl))]; exact h, fun s' h => .inl ⟨_, rfl, by cases h; rfl⟩⟩
theorem RowX.frozen {α : Type} {enc : α → AV} {base low : Nat} {H : Heap} {v : AV} {l : List α} (h : RowX enc base H v l) (he : EncT enc 1 false) (hlow : low ≤ base) : ∃ w, Sl enc w l ∧ Frz H low v w := by
  have hst : FrzL H low (cellsOf enc l) (cellsOf enc l) := .still fun c hc => by
    obtain ⟨x, _, hx⟩ := List.mem_flatMap.1 hc
    exact he.still x c hx
  have hlen := cellsOf_length he l
  have hck := chunk_cellsOf he (by decide) l
  rcases h with ⟨z, rfl, h0, h1, h2⟩ | ⟨z, ver, rfl, h1, h2, h3, h4⟩
  · have hw : win (cellsOf enc l) 0 (1 * 1) = some (cellsOf enc l) := by
      simp only [win, Nat.zero_add, List.drop_zero]
      rw [if_pos (by omega), List.take_of_length_le (by omega)]
    have := Frz.bs (H := H) (base := low) (s := ⟨z, 0, 0, 1, 1, 1, false, true⟩) (Nat.le_trans hlow h1) (Nat.succ_pos 0) rfl h2 hw hst
    rw [h0] at hck
    rw [hck] at this
    exact ⟨_, .vs l _, this⟩
  · have hw : win (cellsOf enc l) 0 (l.length * 1) = some (cellsOf enc l) := by
      simp only [win, Nat.zero_add, List.drop_zero]
      rw [if_pos (by omega), List.take_of_length_le (by omega)]
    have := Frz.bs (H := H) (base := low) (s := ⟨z, ver, 0, l.length, 0, 1, false, false⟩) (Nat.le_trans hlow h1) (Nat.succ_pos 0) rfl h2 hw hst
    rw [hck] at this
    exact ⟨_, .vs l _, this⟩
/-- a row of bits, as a value. -/
def encBB (b : List Bool) : AV := slv encBo b
theorem encBB_T : EncT encBB 1 false where
  len x := by cases x <;> rfl
  leaf x c hc := by cases x <;> (simp [encBB, slv, AV.cells] at hc; subst hc; rfl)
  still x c hc := by cases x <;> (simp [encBB, slv, AV.cells] at hc; subst hc; rfl)
  shape x := by cases x <;> rfl
theorem rowBB : RowT Try.prog 89 93 1 24 false where
  un := Try.underlying89
  size := sz93
  bytes := by93
  agg := ag93
  zero := ⟨_, ze93, rfl⟩
  pos := by decide
  tree := rfl
theorem litBB (b : List Bool) (K : Heap) : aBuildSlice Try.prog K 89 1 [(0, slv encBo b)] = some (.bs ⟨K.length, 0, 0, 1, 1, 1, false, true⟩, some (K ++ [Blk.cells 0 (cellsOf encBB [b])])) := by
  have hc : cellsOf encBB [b] = [slv encBo b] := by cases b <;> rfl
  have e2 : fillA (fun i => some (i * 1, 1)) (zrep 1 [.nilS]) [(0, slv encBo b)] = some [slv encBo b] := by cases b <;> rfl
  have e3 : ([slv encBo b] : List AV).all AV.leaf = true := by cases b <;> rfl
  unfold aBuildSlice
  rw [rowBB.elem, Option.bind_some, rowBB.size, Option.bind_some, rowBB.agg, Option.bind_some, ze93, Option.bind_some]
  rw [if_pos ⟨by decide, rfl, by decide⟩]
  simp only [AV.cells]
  rw [e2, Option.bind_some, if_pos e3, if_neg (by decide), hc]
theorem elemX {α : Type} {enc : α → AV} (he : EncT enc 1 false) (b : α) (K : Heap) : elemCells (K ++ [Blk.cells 0 (cellsOf enc [b])]) 1 (.bs ⟨K.length, 0, 0, 1, 1, 1, false, true⟩) = some ([b].length, cellsOf enc [b]) := by
  have hg : hget (K ++ [Blk.cells 0 (cellsOf enc [b])]) K.length 0 = some (cellsOf enc [b]) := by rw [hget_new rfl, if_pos rfl]
  have hl := cellsOf_length he [b]
  have hw : win (cellsOf enc [b]) 0 (1 * 1) = some (cellsOf enc [b]) := by
    simp only [win, Nat.zero_add, List.drop_zero]
    rw [if_pos (by simp at hl; omega), List.take_of_length_le (by simp at hl; omega)]
  simp only [elemCells, if_true, hg, Option.bind_some, hw, Option.map_some, List.length_cons, List.length_nil, Nat.zero_add]
def stepN (l : List St) (cur : List Bool) (c : Int) (o : List Bool) (k : Nat) : List Bool := match l[k]? with
  | some s => if bt cur k && decide (s.kind = 1) && inS c s.no s.sp then o.set s.one.toNat true else o
  | none => o
def nextC (l : List St) (cur : List Bool) (c : Int) (k : Nat) : List Bool := (List.range k).foldl (stepN l cur c) (List.replicate l.length false)
theorem nextC_succ (l : List St) (cur : List Bool) (c : Int) (k : Nat) : nextC l cur c (k + 1) = stepN l cur c (nextC l cur c k) k := by unfold nextC; rw [List.range_succ, List.foldl_append]; rfl
theorem nextC_len (l : List St) (cur : List Bool) (c : Int) : ∀ k, (nextC l cur c k).length = l.length
  | 0 => by simp [nextC]
  | k + 1 => by
    rw [nextC_succ]
    unfold stepN
    split
    · split
      · rw [List.length_set]; exact nextC_len l cur c k
      · exact nextC_len l cur c k
    · exact nextC_len l cur c k
/-- the sets behind each rune, as bits. -/
inductive RunB (l : List St) (s : List UInt8) : Nat → List Bool → List (Nat × List Bool) → Prop where
  | done {k : Nat} {cur : List Bool} (h : s.length ≤ k) : RunB l s k cur []
  | bad {k : Nat} {cur : List Bool} (h : k < s.length) (he : (nextU (s.drop k)).2.2 ≠ 0) : RunB l s k cur []
  | step {k : Nat} {cur : List Bool} {bs : List (Nat × List Bool)} (h : k < s.length) (he : (nextU (s.drop k)).2.2 = 0)
      (hr : RunB l s (k + (nextU (s.drop k)).2.1) (closureS l (nextC l cur (nextU (s.drop k)).1 l.length)) bs) : RunB l s k cur ((k + (nextU (s.drop k)).2.1, closureS l (nextC l cur (nextU (s.drop k)).1 l.length)) :: bs)
theorem closureS_len (l : List St) (b : List Bool) : (closureS l b).length = b.length := by unfold closureS; rw [iterC_len]

theorem rrun_ok (l : List S0) (hr : RightM (l.map S0.st)) (v : AV) (hv : Sl enc0 v l) (hl : l.length ≤ 20) (h4 : ∀ x ∈ l, x.sp.length ≤ 4) (a : Nat) (ha : a < l.length) (s : List UInt8) (hs : s.length ≤ 1000) (prot : Nat) (H : Heap) (hp : prot ≤ H.length) :
    ∃ r, (∃ va vp bs, r = .tup [va, vp, .bool (runesU s).isSome] ∧ Sl encBB va (closureS (l.map S0.st) ((List.replicate l.length false).set a true) :: bs.map (·.2)) ∧ Sl encK vp (0 :: bs.map (·.1)) ∧ RunB (l.map S0.st) s 0 (closureS (l.map S0.st) ((List.replicate l.length false).set a true)) bs) ∧ aLim cfg prot 50 [v, .int .i64 (a : Nat), .str s] H = some (r, none) := by
  have hsnap : snap H [v, .int .i64 (a : Nat), .str s] = some ([v, .int .i64 (a : Nat), .str s], false) := by cases hv <;> rfl
  have hvl := fun K : Heap => hv.len (P := Try.prog) (H := K) Try.underlying84
  have hml : (l.map S0.st).length = l.length := by simp
  have mk0 := makeB l.length hl H
  have eI : ∀ (b k : Nat), k < l.length → aIndexAddr Try.prog 93 (.bs ⟨b, 0, 0, l.length, l.length, 1, false, true⟩) (.int .i64 (k : Nat)) = some (.ptr b 0 k) := fun b k hk => by
    simp [aIndexAddr, asNat, Try.underlying93, sz4]; omega
  have eIa := eI H.length a ha
  have hg0 : hget (H ++ [Blk.cells 0 ((List.replicate l.length false).map encBo)]) H.length 0 = some ((List.replicate l.length false).map encBo) := by rw [hget_new rfl, if_pos rfl]
  have p0 := bitput (prot := H.length) hg0 (Nat.le_refl _) (i := a) (by simpa using ha)
  have hg1 : hget ((H ++ [Blk.cells 0 ((List.replicate l.length false).map encBo)]).set H.length (.cells 0 (((List.replicate l.length false).set a true).map encBo))) H.length 0 = some (((List.replicate l.length false).set a true).map encBo) := hget_set_at (hget_lt hg0)
  have hl1 : ((H ++ [Blk.cells 0 ((List.replicate l.length false).map encBo)]).set H.length (.cells 0 (((List.replicate l.length false).set a true).map encBo))).length = H.length + 1 := by simp
  generalize (H ++ [Blk.cells 0 ((List.replicate l.length false).map encBo)]).set H.length (.cells 0 (((List.replicate l.length false).set a true).map encBo)) = K1 at *
  have hc0 := closure_bs l hr v hv (by omega) hl ((List.replicate l.length false).set a true) (by simp) H.length K1 hg1 H.length (Nat.le_refl _)
  have hk2l : (K1.set H.length .dead).length = H.length + 1 := by simp [hl1]
  generalize K1.set H.length .dead = K2 at *
  have hcl0 : (closureS (l.map S0.st) ((List.replicate l.length false).set a true)).length = l.length := by rw [closureS_len]; simp
  generalize hcur0 : closureS (l.map S0.st) ((List.replicate l.length false).set a true) = cur0 at *
  have hlb := litBB cur0 K2
  have hlk : aBuildSlice Try.prog (K2 ++ [Blk.cells 0 (cellsOf encBB [cur0])]) 90 1 [(0, .int .i64 0)] = some (.bs ⟨(K2 ++ [Blk.cells 0 (cellsOf encBB [cur0])]).length, 0, 0, 1, 1, 1, false, true⟩, some (K2 ++ [Blk.cells 0 (cellsOf encBB [cur0])] ++ [Blk.cells 0 ([0].map encK)])) := litK1 0 _
  have hK3l : (K2 ++ [Blk.cells 0 (cellsOf encBB [cur0])]).length = H.length + 2 := by simp [hk2l]
  rw [hk2l] at hlb
  rw [hK3l] at hlk
  have r1 : RowX encBB H.length (K2 ++ [Blk.cells 0 (cellsOf encBB [cur0])] ++ [Blk.cells 0 ([0].map encK)]) (.bs ⟨H.length + 1, 0, 0, 1, 1, 1, false, true⟩) [cur0] := .inl ⟨H.length + 1, rfl, rfl, by omega, hget_mono (by rw [hget_new hk2l.symm, if_pos rfl]) _⟩
  have r2 : RowX encK H.length (K2 ++ [Blk.cells 0 (cellsOf encBB [cur0])] ++ [Blk.cells 0 ([0].map encK)]) (.bs ⟨H.length + 2, 0, 0, 1, 1, 1, false, true⟩) [0] := .inl ⟨H.length + 2, rfl, rfl, by omega, by rw [hget_new hK3l.symm, if_pos rfl]; rfl⟩
  have hK4l : (K2 ++ [Blk.cells 0 (cellsOf encBB [cur0])] ++ [Blk.cells 0 ([0].map encK)]).length = H.length + 3 := by simp [hk2l]
  generalize K2 ++ [Blk.cells 0 (cellsOf encBB [cur0])] ++ [Blk.cells 0 ([0].map encK)] = K4 at *
  refine pure_slimE rfl (by kernel_rfl) Try.func50 s50 hp hsnap (by simp [Try.f50]) fun fr hlen h => ?_
  simp only [Has, Nat.zero_add] at h
  obtain ⟨a0, a1, a2, -⟩ := h
  simp only [Try.f50] at hlen ⊢
  unfold g50
  simp only [wk, aBuiltin, AV.cells, AV.leaf, Nat.reduceEqDiff, Nat.reduceLT, Nat.reduceAdd, Nat.reduceLeDiff, reduceCtorEq, Nat.reduceMul, cfgP, u46, hlen, a0, a1, a2, hvl, mk0, eIa, p0, hc0, hlb, hlk]
  refine loop_ruleP (fun m fr H' => ∃ (k : Nat) (cur : List Bool) (va vp : AV) (pre : List (Nat × List Bool)), m = s.length - k ∧ k ≤ s.length ∧ pre.length ≤ k ∧ fr.length = 95 ∧ fget fr 0 = v ∧ fget fr 2 = .str s ∧ fget fr 9 = slv encBo cur ∧ fget fr 10 = va ∧ fget fr 11 = vp ∧ fget fr 12 = .int .i64 (k : Nat) ∧ H.length ≤ H'.length ∧ cur.length = l.length ∧
    RowX encBB H.length H' va (cur0 :: pre.map (·.2)) ∧ RowX encK H.length H' vp (0 :: pre.map (·.1)) ∧ (∀ s1 s2, va = .bs s1 → vp = .bs s2 → s1.b ≠ s2.b) ∧ (∀ bs, RunB (l.map S0.st) s k cur bs → RunB (l.map S0.st) s 0 cur0 (pre ++ bs)) ∧ (runesU s).isSome = (runesU (s.drop k)).isSome) ?_ s.length _ _
    ⟨0, cur0, .bs ⟨H.length + 1, 0, 0, 1, 1, 1, false, true⟩, .bs ⟨H.length + 2, 0, 0, 1, 1, 1, false, true⟩, [], by omega, by omega, by simp, by simp [wk, aBuiltin, AV.cells, AV.leaf, Nat.reduceEqDiff, Nat.reduceLT, Nat.reduceAdd, Nat.reduceLeDiff, reduceCtorEq, Nat.reduceMul, cfgP, u46, hlen], by simp [wk, aBuiltin, AV.cells, AV.leaf, Nat.reduceEqDiff, Nat.reduceLT, Nat.reduceAdd, Nat.reduceLeDiff, reduceCtorEq, Nat.reduceMul, cfgP, u46, hlen, a0], by simp [wk, aBuiltin, AV.cells, AV.leaf, Nat.reduceEqDiff, Nat.reduceLT, Nat.reduceAdd, Nat.reduceLeDiff, reduceCtorEq, Nat.reduceMul, cfgP, u46, hlen, a2], by simp [wk, aBuiltin, AV.cells, AV.leaf, Nat.reduceEqDiff, Nat.reduceLT, Nat.reduceAdd, Nat.reduceLeDiff, reduceCtorEq, Nat.reduceMul, cfgP, u46, hlen], by simp [wk, aBuiltin, AV.cells, AV.leaf, Nat.reduceEqDiff, Nat.reduceLT, Nat.reduceAdd, Nat.reduceLeDiff, reduceCtorEq, Nat.reduceMul, cfgP, u46, hlen], by simp [wk, aBuiltin, AV.cells, AV.leaf, Nat.reduceEqDiff, Nat.reduceLT, Nat.reduceAdd, Nat.reduceLeDiff, reduceCtorEq, Nat.reduceMul, cfgP, u46, hlen], by simp [wk, aBuiltin, AV.cells, AV.leaf, Nat.reduceEqDiff, Nat.reduceLT, Nat.reduceAdd, Nat.reduceLeDiff, reduceCtorEq, Nat.reduceMul, cfgP, u46, hlen], by omega, hcl0, r1, r2, fun s1 s2 h1 h2 => by cases h1; cases h2; simp, fun bs h => h, rfl⟩
  clear a0 a1 a2 hlen fr mk0 eIa hg0 p0 hg1 hl1 hc0 hk2l hlb hlk hK3l r1 r2 hK4l K4 K2 K1
  rintro m fr H' ⟨k, cur, va, vp, pre, rfl, hk, hpk, hlen, b0, b2, b9, b10, b11, b12, hH, hcl, r1, r2, hne, hrel, hval⟩ ih
  have fin : ∀ (K : Heap) (bl : Bool), (∀ z ver cs, hget H' z ver = some cs → hget K z ver = some cs) → ∃ wa wp, Sl encBB wa (cur0 :: pre.map (·.2)) ∧ Sl encK wp (0 :: pre.map (·.1)) ∧ Frz K H.length (.tup [va, vp, .bool bl]) (.tup [wa, wp, .bool bl]) := fun K bl hk => by
    obtain ⟨wa, q1, q2⟩ := (r1.keep (K := K) fun s _ ver cs h => hk _ _ _ h).frozen encBB_T (Nat.le_refl _)
    obtain ⟨wp, q3, q4⟩ := (r2.keep (K := K) fun s _ ver cs h => hk _ _ _ h).frozen encK_T (Nat.le_refl _)
    exact ⟨wa, wp, q1, q3, .tup (.cons q2 (.cons q4 (.cons (.still rfl) .nil)))⟩
  obtain ⟨sa, ea, ha1, ha2⟩ := r1.blk
  obtain ⟨sp', ep, hp1, hp2⟩ := r2.blk
  have hnab := hne sa sp' ea ep
  by_cases hks : k < s.length
  · have d1 : decide (((k : Nat) : Int) < (s.length : Nat)) = true := decide_eq_true (by omega)
    have e1 := str_from (P := Try.prog) Try.underlying9 s (k := .i64) hk
    have cv := fun K => conv_sb Try.underlying9 Try.underlying141 Try.underlying5 K (s.drop k)
    have hgb : hget (H' ++ [Blk.cells 0 (cellsOf encB (s.drop k))]) H'.length 0 = some (cellsOf encB (s.drop k)) := by rw [hget_new rfl]; rfl
    have e3 := rnext_bs hgb (by simp; omega) H.length (by simp; omega)
    have hpos := nextU_pos (b := s.drop k)
    have hvi := nextU_isI (b := s.drop k)
    obtain ⟨hle, heq⟩ := nextR_le (s.drop k)
    have hv1 : (nextU (s.drop k)).2.2 = 0 → (nextR (s.drop k)).1 = (nextU (s.drop k)).1 := fun h => by unfold nextR; rw [if_pos h]
    have hst := runesU_step hks
    rw [hst] at hval
    have hdl : (s.drop k).length = s.length - k := List.length_drop ..
    rw [hdl] at cv e3
    simp only [List.length_drop] at hpos
    have hstepR := fun (bs : List (Nat × List Bool)) => RunB.step (l := l.map S0.st) (s := s) (k := k) (cur := cur) (bs := bs) hks
    have hbadR := RunB.bad (l := l.map S0.st) (s := s) (k := k) (cur := cur) hks
    generalize nextU (s.drop k) = w at *
    obtain ⟨c, wd, e⟩ := w
    dsimp only at hpos hle heq hvi hv1 hval hstepR hbadR
    have hln := str_len (P := Try.prog) Try.underlying9 s
    by_cases he : e = 0
    · subst he
      obtain ⟨hw0, hwl⟩ := hpos rfl
      have hrn := heq rfl
      have hvi := hvi rfl
      have hpn : decide ((nextR (s.drop k)).2 < 1) = false := decide_eq_false (by omega)
      have w1 : IntKind.i64.wrap ((k : Int) + (wd : Int)) = ((k + wd : Nat) : Int) := by rw [wrap64 (by omega) (by omega)]; simp
      have w2 : IntKind.i32.wrap c = c := by simp [IntKind.wrap, IntKind.bits, IntKind.signed]; omega
      rw [dif_pos rfl] at hval
      rw [hrn, hv1 rfl] at e3
      rw [hrn] at hpn
      have hstepR := fun bs => hstepR bs rfl
      rw [hml] at hstepR
      have hlB : (H' ++ [Blk.cells 0 (cellsOf encB (s.drop k))]).length = H'.length + 1 := by simp
      have mk1 := makeB l.length hl (H' ++ [Blk.cells 0 (cellsOf encB (s.drop k))])
      rw [hlB] at mk1
      have hlC : (H' ++ [Blk.cells 0 (cellsOf encB (s.drop k))] ++ [Blk.cells 0 ((List.replicate l.length false).map encBo)]).length = H'.length + 2 := by simp
      have hgn : hget (H' ++ [Blk.cells 0 (cellsOf encB (s.drop k))] ++ [Blk.cells 0 ((List.replicate l.length false).map encBo)]) (H'.length + 1) 0 = some ((List.replicate l.length false).map encBo) := by rw [hget_new hlB.symm, if_pos rfl]
      simp only [wk, aBuiltin, AV.cells, AV.leaf, Nat.reduceEqDiff, Nat.reduceLT, Nat.reduceAdd, Nat.reduceLeDiff, reduceCtorEq, Nat.reduceMul, cfgP, u46, hlen, b0, b2, b9, b10, b11, b12, hln, d1, e1, cv, e3, hpn, hvl, mk1]
      refine loop_ruleP (fun m fr H2 => ∃ (i : Nat), m = l.length - i ∧ i ≤ l.length ∧ fr.length = 95 ∧ fget fr 0 = v ∧ fget fr 2 = .str s ∧ fget fr 9 = slv encBo cur ∧ fget fr 10 = va ∧ fget fr 11 = vp ∧ fget fr 12 = .int .i64 (k : Nat) ∧ fget fr 13 = .int .i64 c ∧ fget fr 14 = .int .i64 (wd : Nat) ∧ fget fr 15 = .bs ⟨H'.length + 1, 0, 0, l.length, l.length, 1, false, true⟩ ∧ fget fr 49 = v ∧ fget fr 50 = .int .i64 (l.length : Nat) ∧ fget fr 51 = .int .i64 (i : Nat) ∧
        H'.length + 2 ≤ H2.length ∧ (∀ z ver cs, hget H' z ver = some cs → hget H2 z ver = some cs) ∧ hget H2 (H'.length + 1) 0 = some ((nextC (l.map S0.st) cur c i).map encBo)) ?_ l.length _ _
        ⟨0, by omega, by omega, by simp [wk, aBuiltin, AV.cells, AV.leaf, Nat.reduceEqDiff, Nat.reduceLT, Nat.reduceAdd, Nat.reduceLeDiff, reduceCtorEq, Nat.reduceMul, cfgP, u46, hlen], by simp [wk, aBuiltin, AV.cells, AV.leaf, Nat.reduceEqDiff, Nat.reduceLT, Nat.reduceAdd, Nat.reduceLeDiff, reduceCtorEq, Nat.reduceMul, cfgP, u46, hlen, b0], by simp [wk, aBuiltin, AV.cells, AV.leaf, Nat.reduceEqDiff, Nat.reduceLT, Nat.reduceAdd, Nat.reduceLeDiff, reduceCtorEq, Nat.reduceMul, cfgP, u46, hlen, b2], by simp [wk, aBuiltin, AV.cells, AV.leaf, Nat.reduceEqDiff, Nat.reduceLT, Nat.reduceAdd, Nat.reduceLeDiff, reduceCtorEq, Nat.reduceMul, cfgP, u46, hlen, b9], by simp [wk, aBuiltin, AV.cells, AV.leaf, Nat.reduceEqDiff, Nat.reduceLT, Nat.reduceAdd, Nat.reduceLeDiff, reduceCtorEq, Nat.reduceMul, cfgP, u46, hlen, b10], by simp [wk, aBuiltin, AV.cells, AV.leaf, Nat.reduceEqDiff, Nat.reduceLT, Nat.reduceAdd, Nat.reduceLeDiff, reduceCtorEq, Nat.reduceMul, cfgP, u46, hlen, b11], by simp [wk, aBuiltin, AV.cells, AV.leaf, Nat.reduceEqDiff, Nat.reduceLT, Nat.reduceAdd, Nat.reduceLeDiff, reduceCtorEq, Nat.reduceMul, cfgP, u46, hlen, b12], by simp [wk, aBuiltin, AV.cells, AV.leaf, Nat.reduceEqDiff, Nat.reduceLT, Nat.reduceAdd, Nat.reduceLeDiff, reduceCtorEq, Nat.reduceMul, cfgP, u46, hlen], by simp [wk, aBuiltin, AV.cells, AV.leaf, Nat.reduceEqDiff, Nat.reduceLT, Nat.reduceAdd, Nat.reduceLeDiff, reduceCtorEq, Nat.reduceMul, cfgP, u46, hlen], by simp [wk, aBuiltin, AV.cells, AV.leaf, Nat.reduceEqDiff, Nat.reduceLT, Nat.reduceAdd, Nat.reduceLeDiff, reduceCtorEq, Nat.reduceMul, cfgP, u46, hlen], by simp [wk, aBuiltin, AV.cells, AV.leaf, Nat.reduceEqDiff, Nat.reduceLT, Nat.reduceAdd, Nat.reduceLeDiff, reduceCtorEq, Nat.reduceMul, cfgP, u46, hlen], by simp [wk, aBuiltin, AV.cells, AV.leaf, Nat.reduceEqDiff, Nat.reduceLT, Nat.reduceAdd, Nat.reduceLeDiff, reduceCtorEq, Nat.reduceMul, cfgP, u46, hlen], by simp [wk, aBuiltin, AV.cells, AV.leaf, Nat.reduceEqDiff, Nat.reduceLT, Nat.reduceAdd, Nat.reduceLeDiff, reduceCtorEq, Nat.reduceMul, cfgP, u46, hlen], by simp, fun z ver cs h => hget_mono (hget_mono h _) _, by rw [show nextC (l.map S0.st) cur c 0 = List.replicate l.length false by simp [nextC]]; exact hgn⟩
      clear b0 b2 b9 b10 b11 b12 hlen fr hgn hlC mk1 hlB hgb cv e3
      rintro m fr H2 ⟨i, rfl, hi, hlen, b0, b2, b9, b10, b11, b12, b13, b14, b15, b49, b50, b51, hH2, hkeep, hgn⟩ ih2
      by_cases hil : i < l.length
      · have d2 : decide (((i : Nat) : Int) < (l.length : Nat)) = true := decide_eq_true (by omega)
        have hwi : IntKind.i64.wrap ((i : Int) + 1) = ((i + 1 : Nat) : Int) := by rw [wrap64 (by omega) (by omega)]; simp
        have e1 := hv.at (P := Try.prog) (k := .i64) (i := i) Try.underlying84 sz145 enc0_T.len hil
        have e2 := (slv_sl encBo cur).at (P := Try.prog) (k := .i64) (i := i) Try.underlying93 sz4 encBo_T.len (by omega)
        have hbk : bt cur i = cur[i] := by simp [bt, hcl, hil]
        rw [← hbk] at e2
        have hlk : (l.map S0.st)[i]? = some l[i].st := by simp [hil]
        have hrk := hr l[i].st (List.mem_map.2 ⟨_, List.getElem_mem hil, rfl⟩)
        have hx4 := h4 l[i] (List.getElem_mem _)
        have hps := nextC_succ (l.map S0.st) cur c i
        have hpl := nextC_len (l.map S0.st) cur c i
        rw [hml] at hpl
        generalize nextC (l.map S0.st) cur c i = q at *
        generalize l[i] = x at *
        unfold stepN at hps
        rw [hlk] at hps
        have hps : nextC (l.map S0.st) cur c (i + 1) = if bt cur i && decide (x.kind = 1) && inS c x.no x.sp then q.set x.one.toNat true else q := hps
        have hxl := x.leaf
        unfold AV.leaf at hxl
        simp only [enc0, encBo, AV.cells] at e1 e2
        have hH0 : H.length ≤ H2.length := by omega
        have hH1 : H.length ≤ H2.length + 1 := by omega
        have hlZ : ∀ Z, (H2 ++ [Blk.cells 0 Z]).length = H2.length + 1 := fun Z => by simp
        have hgk := hget_mono hgn [Blk.cells 0 [.int .i64 x.kind, .bool x.no, x.sv, .int .i64 x.one, .int .i64 x.two]]
        have hkeep2 : ∀ z ver cs, hget H' z ver = some cs → hget (H2 ++ [Blk.cells 0 [.int .i64 x.kind, .bool x.no, x.sv, .int .i64 x.one, .int .i64 x.two]]) z ver = some cs := fun z ver cs h => hget_mono (hkeep z ver cs h) _
        have skip : (bt cur i && decide (x.kind = 1) && inS c x.no x.sp) = false → hget (H2 ++ [Blk.cells 0 [.int .i64 x.kind, .bool x.no, x.sv, .int .i64 x.one, .int .i64 x.two]]) (H'.length + 1) 0 = some ((nextC (l.map S0.st) cur c (i + 1)).map encBo) := fun h => by rw [hps, h]; exact hgk
        cases hb : bt cur i with
        | false =>
          rw [hb] at e2
          have skip := skip (by rw [hb]; rfl)
          simp only [wk, aBuiltin, AV.cells, AV.leaf, Nat.reduceEqDiff, Nat.reduceLT, Nat.reduceAdd, Nat.reduceLeDiff, reduceCtorEq, Nat.reduceMul, cfgP, u46, hlen, b0, b2, b9, b10, b11, b12, b13, b14, b15, b49, b50, b51, d2, e1, e2, hxl, hH0, hwi, none_beq]
          exact ih2 _ _ (l.length - (i + 1)) (by omega) ⟨i + 1, rfl, by omega, by simp [wk, aBuiltin, AV.cells, AV.leaf, Nat.reduceEqDiff, Nat.reduceLT, Nat.reduceAdd, Nat.reduceLeDiff, reduceCtorEq, Nat.reduceMul, cfgP, u46, hlen], by simp [wk, aBuiltin, AV.cells, AV.leaf, Nat.reduceEqDiff, Nat.reduceLT, Nat.reduceAdd, Nat.reduceLeDiff, reduceCtorEq, Nat.reduceMul, cfgP, u46, hlen, b0], by simp [wk, aBuiltin, AV.cells, AV.leaf, Nat.reduceEqDiff, Nat.reduceLT, Nat.reduceAdd, Nat.reduceLeDiff, reduceCtorEq, Nat.reduceMul, cfgP, u46, hlen, b2], by simp [wk, aBuiltin, AV.cells, AV.leaf, Nat.reduceEqDiff, Nat.reduceLT, Nat.reduceAdd, Nat.reduceLeDiff, reduceCtorEq, Nat.reduceMul, cfgP, u46, hlen, b9], by simp [wk, aBuiltin, AV.cells, AV.leaf, Nat.reduceEqDiff, Nat.reduceLT, Nat.reduceAdd, Nat.reduceLeDiff, reduceCtorEq, Nat.reduceMul, cfgP, u46, hlen, b10], by simp [wk, aBuiltin, AV.cells, AV.leaf, Nat.reduceEqDiff, Nat.reduceLT, Nat.reduceAdd, Nat.reduceLeDiff, reduceCtorEq, Nat.reduceMul, cfgP, u46, hlen, b11], by simp [wk, aBuiltin, AV.cells, AV.leaf, Nat.reduceEqDiff, Nat.reduceLT, Nat.reduceAdd, Nat.reduceLeDiff, reduceCtorEq, Nat.reduceMul, cfgP, u46, hlen, b12], by simp [wk, aBuiltin, AV.cells, AV.leaf, Nat.reduceEqDiff, Nat.reduceLT, Nat.reduceAdd, Nat.reduceLeDiff, reduceCtorEq, Nat.reduceMul, cfgP, u46, hlen, b13], by simp [wk, aBuiltin, AV.cells, AV.leaf, Nat.reduceEqDiff, Nat.reduceLT, Nat.reduceAdd, Nat.reduceLeDiff, reduceCtorEq, Nat.reduceMul, cfgP, u46, hlen, b14], by simp [wk, aBuiltin, AV.cells, AV.leaf, Nat.reduceEqDiff, Nat.reduceLT, Nat.reduceAdd, Nat.reduceLeDiff, reduceCtorEq, Nat.reduceMul, cfgP, u46, hlen, b15], by simp [wk, aBuiltin, AV.cells, AV.leaf, Nat.reduceEqDiff, Nat.reduceLT, Nat.reduceAdd, Nat.reduceLeDiff, reduceCtorEq, Nat.reduceMul, cfgP, u46, hlen, b49], by simp [wk, aBuiltin, AV.cells, AV.leaf, Nat.reduceEqDiff, Nat.reduceLT, Nat.reduceAdd, Nat.reduceLeDiff, reduceCtorEq, Nat.reduceMul, cfgP, u46, hlen, b50], by simp [wk, aBuiltin, AV.cells, AV.leaf, Nat.reduceEqDiff, Nat.reduceLT, Nat.reduceAdd, Nat.reduceLeDiff, reduceCtorEq, Nat.reduceMul, cfgP, u46, hlen], by simp; omega, hkeep2, skip⟩
        | true =>
          rw [hb] at e2
          by_cases hk1 : x.kind = 1
          · have d3 : decide (x.kind = 1) = true := decide_eq_true hk1
            have n1 := fun (K : Heap) (hK : H.length ≤ K.length) => rinG_ok x.sp c x.no x.sv x.hs (by omega) H.length K hK
            by_cases hin : inS c x.no x.sp = true
            · rw [hin] at n1
              have hr1 := hrk.2.1 (by show x.kind < 3; omega)
              rw [hml] at hr1
              obtain ⟨x1, hx1⟩ : ∃ x1 : Nat, x.one = (x1 : Nat) := ⟨x.one.toNat, by have : x.st.one = x.one := rfl; omega⟩
              have hx1l : x1 < l.length := by have : x.st.one = x.one := rfl; omega
              have hps2 : nextC (l.map S0.st) cur c (i + 1) = q.set x1 true := by rw [hps, hb, d3, hin, hx1]; rfl
              have p1 := bitput (prot := H.length) hgk (by omega) (i := x1) (by omega)
              have eI1 := eI (H'.length + 1) x1 hx1l
              rw [hx1] at p1 hgk
              have hkeep3 : ∀ z ver cs, hget H' z ver = some cs → hget ((H2 ++ [Blk.cells 0 [.int .i64 x.kind, .bool x.no, x.sv, .int .i64 (x1 : Nat), .int .i64 x.two]]).set (H'.length + 1) (.cells 0 ((q.set x1 true).map encBo))) z ver = some cs := fun z ver cs h => by
                rw [hget_set_ne (by have := hget_lt h; omega)]; exact hget_mono (hkeep z ver cs h) _
              simp only [wk, aBuiltin, AV.cells, AV.leaf, Nat.reduceEqDiff, Nat.reduceLT, Nat.reduceAdd, Nat.reduceLeDiff, reduceCtorEq, Nat.reduceMul, cfgP, u46, hlen, b0, b2, b9, b10, b11, b12, b13, b14, b15, b49, b50, b51, d2, e1, e2, hxl, hH0, hH1, hlZ, d3, w2, n1, hx1, eI1, p1, hwi, none_beq]
              exact ih2 _ _ (l.length - (i + 1)) (by omega) ⟨i + 1, rfl, by omega, by simp [wk, aBuiltin, AV.cells, AV.leaf, Nat.reduceEqDiff, Nat.reduceLT, Nat.reduceAdd, Nat.reduceLeDiff, reduceCtorEq, Nat.reduceMul, cfgP, u46, hlen], by simp [wk, aBuiltin, AV.cells, AV.leaf, Nat.reduceEqDiff, Nat.reduceLT, Nat.reduceAdd, Nat.reduceLeDiff, reduceCtorEq, Nat.reduceMul, cfgP, u46, hlen, b0], by simp [wk, aBuiltin, AV.cells, AV.leaf, Nat.reduceEqDiff, Nat.reduceLT, Nat.reduceAdd, Nat.reduceLeDiff, reduceCtorEq, Nat.reduceMul, cfgP, u46, hlen, b2], by simp [wk, aBuiltin, AV.cells, AV.leaf, Nat.reduceEqDiff, Nat.reduceLT, Nat.reduceAdd, Nat.reduceLeDiff, reduceCtorEq, Nat.reduceMul, cfgP, u46, hlen, b9], by simp [wk, aBuiltin, AV.cells, AV.leaf, Nat.reduceEqDiff, Nat.reduceLT, Nat.reduceAdd, Nat.reduceLeDiff, reduceCtorEq, Nat.reduceMul, cfgP, u46, hlen, b10], by simp [wk, aBuiltin, AV.cells, AV.leaf, Nat.reduceEqDiff, Nat.reduceLT, Nat.reduceAdd, Nat.reduceLeDiff, reduceCtorEq, Nat.reduceMul, cfgP, u46, hlen, b11], by simp [wk, aBuiltin, AV.cells, AV.leaf, Nat.reduceEqDiff, Nat.reduceLT, Nat.reduceAdd, Nat.reduceLeDiff, reduceCtorEq, Nat.reduceMul, cfgP, u46, hlen, b12], by simp [wk, aBuiltin, AV.cells, AV.leaf, Nat.reduceEqDiff, Nat.reduceLT, Nat.reduceAdd, Nat.reduceLeDiff, reduceCtorEq, Nat.reduceMul, cfgP, u46, hlen, b13], by simp [wk, aBuiltin, AV.cells, AV.leaf, Nat.reduceEqDiff, Nat.reduceLT, Nat.reduceAdd, Nat.reduceLeDiff, reduceCtorEq, Nat.reduceMul, cfgP, u46, hlen, b14], by simp [wk, aBuiltin, AV.cells, AV.leaf, Nat.reduceEqDiff, Nat.reduceLT, Nat.reduceAdd, Nat.reduceLeDiff, reduceCtorEq, Nat.reduceMul, cfgP, u46, hlen, b15], by simp [wk, aBuiltin, AV.cells, AV.leaf, Nat.reduceEqDiff, Nat.reduceLT, Nat.reduceAdd, Nat.reduceLeDiff, reduceCtorEq, Nat.reduceMul, cfgP, u46, hlen, b49], by simp [wk, aBuiltin, AV.cells, AV.leaf, Nat.reduceEqDiff, Nat.reduceLT, Nat.reduceAdd, Nat.reduceLeDiff, reduceCtorEq, Nat.reduceMul, cfgP, u46, hlen, b50], by simp [wk, aBuiltin, AV.cells, AV.leaf, Nat.reduceEqDiff, Nat.reduceLT, Nat.reduceAdd, Nat.reduceLeDiff, reduceCtorEq, Nat.reduceMul, cfgP, u46, hlen], by simp; omega, hkeep3, by rw [hps2]; exact hget_set_at (hget_lt hgk)⟩
            · have hin := Bool.eq_false_iff.2 hin
              rw [hin] at n1
              have skip := skip (by rw [hin, Bool.and_false])
              simp only [wk, aBuiltin, AV.cells, AV.leaf, Nat.reduceEqDiff, Nat.reduceLT, Nat.reduceAdd, Nat.reduceLeDiff, reduceCtorEq, Nat.reduceMul, cfgP, u46, hlen, b0, b2, b9, b10, b11, b12, b13, b14, b15, b49, b50, b51, d2, e1, e2, hxl, hH0, hH1, hlZ, d3, w2, n1, hwi, none_beq]
              exact ih2 _ _ (l.length - (i + 1)) (by omega) ⟨i + 1, rfl, by omega, by simp [wk, aBuiltin, AV.cells, AV.leaf, Nat.reduceEqDiff, Nat.reduceLT, Nat.reduceAdd, Nat.reduceLeDiff, reduceCtorEq, Nat.reduceMul, cfgP, u46, hlen], by simp [wk, aBuiltin, AV.cells, AV.leaf, Nat.reduceEqDiff, Nat.reduceLT, Nat.reduceAdd, Nat.reduceLeDiff, reduceCtorEq, Nat.reduceMul, cfgP, u46, hlen, b0], by simp [wk, aBuiltin, AV.cells, AV.leaf, Nat.reduceEqDiff, Nat.reduceLT, Nat.reduceAdd, Nat.reduceLeDiff, reduceCtorEq, Nat.reduceMul, cfgP, u46, hlen, b2], by simp [wk, aBuiltin, AV.cells, AV.leaf, Nat.reduceEqDiff, Nat.reduceLT, Nat.reduceAdd, Nat.reduceLeDiff, reduceCtorEq, Nat.reduceMul, cfgP, u46, hlen, b9], by simp [wk, aBuiltin, AV.cells, AV.leaf, Nat.reduceEqDiff, Nat.reduceLT, Nat.reduceAdd, Nat.reduceLeDiff, reduceCtorEq, Nat.reduceMul, cfgP, u46, hlen, b10], by simp [wk, aBuiltin, AV.cells, AV.leaf, Nat.reduceEqDiff, Nat.reduceLT, Nat.reduceAdd, Nat.reduceLeDiff, reduceCtorEq, Nat.reduceMul, cfgP, u46, hlen, b11], by simp [wk, aBuiltin, AV.cells, AV.leaf, Nat.reduceEqDiff, Nat.reduceLT, Nat.reduceAdd, Nat.reduceLeDiff, reduceCtorEq, Nat.reduceMul, cfgP, u46, hlen, b12], by simp [wk, aBuiltin, AV.cells, AV.leaf, Nat.reduceEqDiff, Nat.reduceLT, Nat.reduceAdd, Nat.reduceLeDiff, reduceCtorEq, Nat.reduceMul, cfgP, u46, hlen, b13], by simp [wk, aBuiltin, AV.cells, AV.leaf, Nat.reduceEqDiff, Nat.reduceLT, Nat.reduceAdd, Nat.reduceLeDiff, reduceCtorEq, Nat.reduceMul, cfgP, u46, hlen, b14], by simp [wk, aBuiltin, AV.cells, AV.leaf, Nat.reduceEqDiff, Nat.reduceLT, Nat.reduceAdd, Nat.reduceLeDiff, reduceCtorEq, Nat.reduceMul, cfgP, u46, hlen, b15], by simp [wk, aBuiltin, AV.cells, AV.leaf, Nat.reduceEqDiff, Nat.reduceLT, Nat.reduceAdd, Nat.reduceLeDiff, reduceCtorEq, Nat.reduceMul, cfgP, u46, hlen, b49], by simp [wk, aBuiltin, AV.cells, AV.leaf, Nat.reduceEqDiff, Nat.reduceLT, Nat.reduceAdd, Nat.reduceLeDiff, reduceCtorEq, Nat.reduceMul, cfgP, u46, hlen, b50], by simp [wk, aBuiltin, AV.cells, AV.leaf, Nat.reduceEqDiff, Nat.reduceLT, Nat.reduceAdd, Nat.reduceLeDiff, reduceCtorEq, Nat.reduceMul, cfgP, u46, hlen], by simp; omega, hkeep2, skip⟩
          · have d3 : decide (x.kind = 1) = false := decide_eq_false hk1
            have skip := skip (by rw [d3, Bool.and_false, Bool.false_and])
            simp only [wk, aBuiltin, AV.cells, AV.leaf, Nat.reduceEqDiff, Nat.reduceLT, Nat.reduceAdd, Nat.reduceLeDiff, reduceCtorEq, Nat.reduceMul, cfgP, u46, hlen, b0, b2, b9, b10, b11, b12, b13, b14, b15, b49, b50, b51, d2, e1, e2, hxl, hH0, hH1, hlZ, d3, hwi, none_beq]
            exact ih2 _ _ (l.length - (i + 1)) (by omega) ⟨i + 1, rfl, by omega, by simp [wk, aBuiltin, AV.cells, AV.leaf, Nat.reduceEqDiff, Nat.reduceLT, Nat.reduceAdd, Nat.reduceLeDiff, reduceCtorEq, Nat.reduceMul, cfgP, u46, hlen], by simp [wk, aBuiltin, AV.cells, AV.leaf, Nat.reduceEqDiff, Nat.reduceLT, Nat.reduceAdd, Nat.reduceLeDiff, reduceCtorEq, Nat.reduceMul, cfgP, u46, hlen, b0], by simp [wk, aBuiltin, AV.cells, AV.leaf, Nat.reduceEqDiff, Nat.reduceLT, Nat.reduceAdd, Nat.reduceLeDiff, reduceCtorEq, Nat.reduceMul, cfgP, u46, hlen, b2], by simp [wk, aBuiltin, AV.cells, AV.leaf, Nat.reduceEqDiff, Nat.reduceLT, Nat.reduceAdd, Nat.reduceLeDiff, reduceCtorEq, Nat.reduceMul, cfgP, u46, hlen, b9], by simp [wk, aBuiltin, AV.cells, AV.leaf, Nat.reduceEqDiff, Nat.reduceLT, Nat.reduceAdd, Nat.reduceLeDiff, reduceCtorEq, Nat.reduceMul, cfgP, u46, hlen, b10], by simp [wk, aBuiltin, AV.cells, AV.leaf, Nat.reduceEqDiff, Nat.reduceLT, Nat.reduceAdd, Nat.reduceLeDiff, reduceCtorEq, Nat.reduceMul, cfgP, u46, hlen, b11], by simp [wk, aBuiltin, AV.cells, AV.leaf, Nat.reduceEqDiff, Nat.reduceLT, Nat.reduceAdd, Nat.reduceLeDiff, reduceCtorEq, Nat.reduceMul, cfgP, u46, hlen, b12], by simp [wk, aBuiltin, AV.cells, AV.leaf, Nat.reduceEqDiff, Nat.reduceLT, Nat.reduceAdd, Nat.reduceLeDiff, reduceCtorEq, Nat.reduceMul, cfgP, u46, hlen, b13], by simp [wk, aBuiltin, AV.cells, AV.leaf, Nat.reduceEqDiff, Nat.reduceLT, Nat.reduceAdd, Nat.reduceLeDiff, reduceCtorEq, Nat.reduceMul, cfgP, u46, hlen, b14], by simp [wk, aBuiltin, AV.cells, AV.leaf, Nat.reduceEqDiff, Nat.reduceLT, Nat.reduceAdd, Nat.reduceLeDiff, reduceCtorEq, Nat.reduceMul, cfgP, u46, hlen, b15], by simp [wk, aBuiltin, AV.cells, AV.leaf, Nat.reduceEqDiff, Nat.reduceLT, Nat.reduceAdd, Nat.reduceLeDiff, reduceCtorEq, Nat.reduceMul, cfgP, u46, hlen, b49], by simp [wk, aBuiltin, AV.cells, AV.leaf, Nat.reduceEqDiff, Nat.reduceLT, Nat.reduceAdd, Nat.reduceLeDiff, reduceCtorEq, Nat.reduceMul, cfgP, u46, hlen, b50], by simp [wk, aBuiltin, AV.cells, AV.leaf, Nat.reduceEqDiff, Nat.reduceLT, Nat.reduceAdd, Nat.reduceLeDiff, reduceCtorEq, Nat.reduceMul, cfgP, u46, hlen], by simp; omega, hkeep2, skip⟩
      · have d2 : decide (((i : Nat) : Int) < (l.length : Nat)) = false := decide_eq_false (by omega)
        have hii : i = l.length := by omega
        subst hii
        have hpl := nextC_len (l.map S0.st) cur c l.length
        rw [hml] at hpl
        have hcb := closure_bs l hr v hv (by omega) hl _ hpl (H'.length + 1) H2 hgn H.length (by omega)
        have hcn : (closureS (l.map S0.st) (nextC (l.map S0.st) cur c l.length)).length = l.length := by rw [closureS_len, hpl]
        have hk5 : ∀ z ver cs, hget H' z ver = some cs → hget (H2.set (H'.length + 1) .dead) z ver = some cs := fun z ver cs h => by
          rw [hget_set_ne (by have := hget_lt h; omega)]; exact hkeep z ver cs h
        have hl5 : (H2.set (H'.length + 1) .dead).length = H2.length := by simp
        generalize H2.set (H'.length + 1) .dead = K5 at *
        generalize hnc : closureS (l.map S0.st) (nextC (l.map S0.st) cur c l.length) = nc at *
        have hlb := litBB nc K5
        have q1 := (r1.keep (K := K5 ++ [Blk.cells 0 (cellsOf encBB [nc])]) fun s _ ver cs h => hget_mono (hk5 _ _ _ h) _)
        have q2 := (r2.keep (K := K5 ++ [Blk.cells 0 (cellsOf encBB [nc])]) fun s _ ver cs h => hget_mono (hk5 _ _ _ h) _)
        obtain ⟨va2, K6, happ1, q3, hle6, hk6, hb6⟩ := q1.app (prot := H.length) encBB_T rowBB (elemX encBB_T nc K5) (by simp) (by simp [roomy]; omega) (Nat.le_refl _) (by simp; omega)
        have q4 := q2.keep (K := K6) fun s2 e2 ver cs h => hk6 _ _ _ (fun s1 e1 => hne s1 s2 e1 e2) h
        have hlk : aBuildSlice Try.prog K6 90 1 [(0, .int .i64 ((k + wd : Nat) : Int))] = some (.bs ⟨K6.length, 0, 0, 1, 1, 1, false, true⟩, some (K6 ++ [Blk.cells 0 (cellsOf encK [k + wd])])) := litK1 (k + wd) K6
        have q5 := (q4.keep (K := K6 ++ [Blk.cells 0 (cellsOf encK [k + wd])]) fun s _ ver cs h => hget_mono h _)
        simp only [List.length_append, List.length_singleton] at hle6 hb6
        obtain ⟨vp2, K8, happ2, q6, hle8, hk8, hb8⟩ := q5.app (prot := H.length) encK_T rowK (elemX encK_T (k + wd) K6) (by simp) (by simp [roomy]; omega) (Nat.le_refl _) (by simp; omega)
        simp only [List.length_append, List.length_singleton] at hle8 hb8
        obtain ⟨sa2, ea2, ha21, ha22⟩ := q3.blk
        have hva2 : sa2.b ≠ sp'.b := by
          rcases hb6 sa2 ea2 with ⟨s0, e0, e1⟩ | h
          · rw [e1]; exact hne s0 sp' e0 ep
          · omega
        have q7 := q3.keep (K := K8) fun s1 e1 ver cs h => hk8 _ _ _ (fun s2 e2 => by rw [ep] at e2; cases e2; rw [ea2] at e1; cases e1; exact Ne.symm hva2) (hget_mono h _)
        rw [hl5] at hlb happ1
        simp only [wk, aBuiltin, AV.cells, AV.leaf, Nat.reduceEqDiff, Nat.reduceLT, Nat.reduceAdd, Nat.reduceLeDiff, reduceCtorEq, Nat.reduceMul, cfgP, u46, hlen, b0, b2, b9, b10, b11, b12, b13, b14, b15, b49, b50, b51, d2, hcb, w1, hlb, happ1, hlk, happ2]
        refine ih _ _ (s.length - (k + wd)) (by omega) ⟨k + wd, nc, va2, vp2, pre ++ [(k + wd, nc)], rfl, by omega, by simp; omega, by simp [wk, aBuiltin, AV.cells, AV.leaf, Nat.reduceEqDiff, Nat.reduceLT, Nat.reduceAdd, Nat.reduceLeDiff, reduceCtorEq, Nat.reduceMul, cfgP, u46, hlen], by simp [wk, aBuiltin, AV.cells, AV.leaf, Nat.reduceEqDiff, Nat.reduceLT, Nat.reduceAdd, Nat.reduceLeDiff, reduceCtorEq, Nat.reduceMul, cfgP, u46, hlen, b0], by simp [wk, aBuiltin, AV.cells, AV.leaf, Nat.reduceEqDiff, Nat.reduceLT, Nat.reduceAdd, Nat.reduceLeDiff, reduceCtorEq, Nat.reduceMul, cfgP, u46, hlen, b2], by simp [wk, aBuiltin, AV.cells, AV.leaf, Nat.reduceEqDiff, Nat.reduceLT, Nat.reduceAdd, Nat.reduceLeDiff, reduceCtorEq, Nat.reduceMul, cfgP, u46, hlen], by simp [wk, aBuiltin, AV.cells, AV.leaf, Nat.reduceEqDiff, Nat.reduceLT, Nat.reduceAdd, Nat.reduceLeDiff, reduceCtorEq, Nat.reduceMul, cfgP, u46, hlen], by simp [wk, aBuiltin, AV.cells, AV.leaf, Nat.reduceEqDiff, Nat.reduceLT, Nat.reduceAdd, Nat.reduceLeDiff, reduceCtorEq, Nat.reduceMul, cfgP, u46, hlen], by simp [wk, aBuiltin, AV.cells, AV.leaf, Nat.reduceEqDiff, Nat.reduceLT, Nat.reduceAdd, Nat.reduceLeDiff, reduceCtorEq, Nat.reduceMul, cfgP, u46, hlen], by omega, hcn, by rw [List.map_append]; exact q7, by rw [List.map_append]; exact q6, fun s1 s2 e1 e2 => ?_, fun bs hbs => ?_, ?_⟩
        · rw [ea2] at e1; cases e1
          rcases hb8 s2 e2 with ⟨s0, e0, e3⟩ | h
          · rw [ep] at e0; cases e0; rw [e3]; exact hva2
          · omega
        · rw [List.append_assoc]
          exact hrel _ (hstepR bs hbs)
        · rw [hval]; cases runesU (s.drop (k + wd)) <;> rfl
    · rw [dif_neg he] at hval
      have hpn : decide ((nextR (s.drop k)).2 < 1) = true := decide_eq_true (by have := hle.2 he; omega)
      obtain ⟨wa, wp, f1, f2, f3⟩ := fin (H' ++ [Blk.cells 0 (cellsOf encB (s.drop k))]) false fun z ver cs h => hget_mono h _
      have hrr := hrel [] (hbadR he)
      rw [List.append_nil] at hrr
      simp only [wk, aBuiltin, AV.cells, AV.leaf, Nat.reduceEqDiff, Nat.reduceLT, Nat.reduceAdd, Nat.reduceLeDiff, reduceCtorEq, Nat.reduceMul, cfgP, u46, hlen, b0, b2, b9, b10, b11, b12, hln, d1, e1, cv, e3, hpn]
      exact ⟨_, ⟨wa, wp, pre, by rw [hval]; rfl, f1, f2, hrr⟩, Fin_pure (l := [va, vp, .bool false]) (by simp [wk, aBuiltin, AV.cells, AV.leaf, Nat.reduceEqDiff, Nat.reduceLT, Nat.reduceAdd, Nat.reduceLeDiff, reduceCtorEq, Nat.reduceMul, cfgP, u46, hlen, aResults, aResult]) f3 (by simp)⟩
  · have d1 : decide (((k : Nat) : Int) < (s.length : Nat)) = false := decide_eq_false (by omega)
    have hln := str_len (P := Try.prog) Try.underlying9 s
    rw [runes_end (by omega)] at hval
    obtain ⟨wa, wp, f1, f2, f3⟩ := fin H' true fun z ver cs h => h
    have hrr := hrel [] (.done (by omega))
    rw [List.append_nil] at hrr
    simp only [wk, aBuiltin, AV.cells, AV.leaf, Nat.reduceEqDiff, Nat.reduceLT, Nat.reduceAdd, Nat.reduceLeDiff, reduceCtorEq, Nat.reduceMul, cfgP, u46, hlen, b0, b2, b9, b10, b11, b12, hln, d1]
    exact ⟨_, ⟨wa, wp, pre, by rw [hval], f1, f2, hrr⟩, Fin_pure (l := [va, vp, .bool true]) (by simp [wk, aBuiltin, AV.cells, AV.leaf, Nat.reduceEqDiff, Nat.reduceLT, Nat.reduceAdd, Nat.reduceLeDiff, reduceCtorEq, Nat.reduceMul, cfgP, u46, hlen, aResults, aResult]) f3 (by simp)⟩
end Go.Proofs.Ytoblikhnbddfmaa
