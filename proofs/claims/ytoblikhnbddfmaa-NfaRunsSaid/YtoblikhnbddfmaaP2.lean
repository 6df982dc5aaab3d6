import Derived.Test.YtoblikhnbddfmaaP1
/-! Chapter 16 of the document: machines, state by state, walked. -/
set_option linter.unusedSimpArgs false
namespace Go.Abs
open Go
/-- a pure call of which what is known of what it hands back is said. -/
theorem pure_slimE {C : Cfg} {prot : Nat} {f : FuncId} {args args' : List AV} {sn : Bool} {H : Heap} {fn : Func} {c : Code} {P : AV → Prop} (hok : C.ok f = true) (hp : C.pure f = true) (hfn : C.P.funcs[f]? = some fn) (hb : fn.body.map (slim C) = some c)
    (hpr : prot ≤ H.length) (hs : snap H args = some (args', sn)) (hl : args'.length ≤ fn.ntmps)
    (h : ∀ fr, fr.length = fn.ntmps → Has fr 0 args' → ∃ r, P r ∧ R ⟨C, H.length, fn.results.toList, .pure sn⟩ c [] fr H (r, none)) : ∃ r, P r ∧ aLim C prot f args H = some (r, none) := by
  rw [Option.map_eq_some_iff] at hb
  obtain ⟨c0, hb, rfl⟩ := hb
  have h := entered (Q := fun fr => ∃ r, P r ∧ R ⟨C, H.length, fn.results.toList, .pure sn⟩ (slim C c0) [] fr H (r, none)) hl h
  obtain ⟨r0, hP, h⟩ := h
  have h := R_slim (X := ⟨C, H.length, fn.results.toList, .pure sn⟩) h
  refine ⟨r0, hP, ?_⟩
  obtain ⟨e, fr', H', h1, h2⟩ := h
  have h1' := aCode_conv (aLim_conv C) _ h1
  have hfin : Fin ⟨C, H.length, fn.results.toList, .pure sn⟩ fr' H' (r0, none) ∧ ∀ id, e ≠ .exit id := by
    cases e with
    | normal => exact ⟨h2, fun _ h => by cases h⟩
    | ret => exact ⟨h2, fun _ h => by cases h⟩
    | exit id => exact h2.elim
  obtain ⟨⟨l, hr, r', hfz, hfl, he⟩, hex⟩ := hfin
  cases he
  refine aLim_of ?_
  obtain ⟨n0, h0⟩ := h1'.and hfz.ev
  refine ⟨n0 + 1, fun n hn => ?_⟩
  obtain ⟨n, rfl⟩ : ∃ j, n = j + 1 := ⟨n - 1, by omega⟩
  obtain ⟨h3, h4⟩ := h0 n (by omega)
  have e2 : sn = true → flat r0 = true := hfl
  cases e with
  | exit id => exact absurd rfl (hex id)
  | normal =>
    simp only [aCall, hok, Bool.true_eq_false, if_false, hfn, hb, hp, if_true, hpr, hs, Option.bind_some, aBody, h3, hr, Option.map_some, h4]
    cases sn with
    | true => simp only [if_true, e2 rfl]
    | false => rfl
  | ret =>
    simp only [aCall, hok, Bool.true_eq_false, if_false, hfn, hb, hp, if_true, hpr, hs, Option.bind_some, aBody, h3, hr, Option.map_some, h4]
    cases sn with
    | true => simp only [if_true, e2 rfl]
    | false => rfl
theorem loop_ruleP {X : Ctx} {c : Code} {κ : List K} {P : AV → Prop} (Inv : Nat → List AV → Heap → Prop)
    (step : ∀ m fr H, Inv m fr H → (∀ fr' H' m', m' < m → Inv m' fr' H' → ∃ r, P r ∧ U X (.loop c :: κ) .normal fr' H' (r, none)) → ∃ r, P r ∧ R X c (.loop c :: κ) fr H (r, none)) :
    ∀ (m : Nat) (fr : List AV) (H : Heap), Inv m fr H → ∃ r, P r ∧ R X (.loop c) κ fr H (r, none) := by
  intro m
  induction m using Nat.strongRecOn with
  | _ m ih =>
    intro fr H h
    simp only [R_loop]
    refine step m fr H h fun fr' H' m' hm h' => ?_
    have := ih m' hm fr' H' h'
    simp only [U_loop, ← R_loop]
    exact this
end Go.Abs
namespace Go.Proofs.Ytoblikhnbddfmaa
open Go Go.Abs AbsSeat Ty

def encBo (b : Bool) : AV := .bool b
theorem encBo_T : EncT encBo 1 false where
  len _ := rfl
  leaf x c hc := by simp [encBo, AV.cells] at hc; subst hc; rfl
  still x c hc := by simp [encBo, AV.cells] at hc; subst hc; rfl
  shape _ := rfl
theorem cellsBo (l : List Bool) : cellsOf encBo l = l.map encBo := by
  induction l with
  | nil => rfl
  | cons x r ih => simp only [cellsOf, List.flatMap_cons, List.map_cons] at ih ⊢; rw [ih]; rfl
theorem rowBo : RowT Try.prog 93 4 1 1 false where
  un := Try.underlying93
  size := sz4
  bytes := by4
  agg := ag4
  zero := ⟨_, ze4, rfl⟩
  pos := by decide
  tree := rfl
theorem hxtBo : (∃ e', Try.prog.underlying 93 = some (.slice e')) ∨ Try.prog.underlying 93 = some .string := .inl ⟨_, Try.underlying93⟩
/-- is a state in? -/
def bt (o : List Bool) (k : Nat) : Bool := o[k]?.getD false
theorem bt_get {o : List Bool} {k : Nat} (h : k < o.length) : (o.map encBo)[k]? = some (.bool (bt o k)) := by
  simp [bt, encBo, h]
theorem bitput {K : Heap} {b prot i : Nat} {o : List Bool} (hg : hget K b 0 = some (o.map encBo)) (hp : prot ≤ b) (hi : i < o.length) : hput prot K b 0 i [.bool true] = some (K.set b (.cells 0 ((o.set i true).map encBo))) := by
  rw [hput_eq hg hp (by simp; omega) (by simp [AV.leaf])]
  have : splice (o.map encBo) i [.bool true] = (o.set i true).map encBo := by
    rw [List.map_set]
    unfold splice
    rw [List.set_eq_take_append_cons_drop, if_pos (by simpa using hi)]
    simp [encBo]
  rw [this]
def stepC (l : List St) (o : List Bool) (k : Nat) : List Bool := match l[k]? with
  | some s => if bt o k && decide (s.kind = 2) then (o.set s.one.toNat true).set s.two.toNat true else o
  | none => o
def passC (l : List St) (o : List Bool) (k : Nat) : List Bool := (List.range k).foldl (stepC l) o
theorem passC_succ (l : List St) (o : List Bool) (k : Nat) : passC l o (k + 1) = stepC l (passC l o k) k := by unfold passC; rw [List.range_succ, List.foldl_append]; rfl
theorem stepC_len (l : List St) (o : List Bool) (k : Nat) : (stepC l o k).length = o.length := by
  unfold stepC; split
  · split <;> simp
  · rfl
theorem passC_len (l : List St) (o : List Bool) : ∀ k, (passC l o k).length = o.length
  | 0 => rfl
  | k + 1 => by rw [passC_succ, stepC_len, passC_len l o k]
def iterC (l : List St) : Nat → List Bool → List Bool
  | 0, o => o
  | j + 1, o => passC l (iterC l j o) l.length
theorem iterC_len (l : List St) (o : List Bool) : ∀ j, (iterC l j o).length = o.length
  | 0 => rfl
  | j + 1 => by rw [iterC, passC_len, iterC_len l o j]
def closureS (l : List St) (o : List Bool) : List Bool := iterC l l.length o

theorem closure_ok (l : List S0) (hr : RightM (l.map S0.st)) (v : AV) (hv : Sl enc0 v l) (h1 : 1 ≤ l.length) (hl : l.length ≤ 20) (b : List Bool) (hbl : b.length = l.length) (w : AV) (hw : Sl encBo w b) (prot : Nat) (H : Heap) (hp : prot ≤ H.length) :
    aLim cfg prot 77 [v, w] H = some (slv encBo (closureS (l.map S0.st) b), none) := by
  have hsnap : snap H [v, w] = some ([v, w], false) := by cases hv <;> cases hw <;> rfl
  have hvl := fun K : Heap => hv.len (P := Try.prog) (H := K) Try.underlying84
  have hlit : aBuildSlice Try.prog H 93 0 [] = some (.vs [] true, none) := lit0 rowBo ze4 rfl
  have happ := app_full (P := Try.prog) (prot := H.length) (H := H) (enc := encBo) rowBo hxtBo encBo_T [] (hw.elems encBo_T H) (by omega) (by simp [roomy]; omega)
  simp only [List.map_nil, List.nil_append, cellsBo, hbl] at happ
  have hg0 : hget (H ++ [Blk.cells 0 (b.map encBo)]) H.length 0 = some (b.map encBo) := by rw [hget_new rfl, if_pos rfl]
  have eI : ∀ k : Nat, k < l.length → aIndexAddr Try.prog 93 (.bs ⟨H.length, 0, 0, l.length, 0, 1, false, false⟩) (.int .i64 (k : Nat)) = some (.ptr H.length 0 k) := fun k hk => by
    simp [aIndexAddr, asNat, Try.underlying93, sz4]; omega
  have hml : (l.map S0.st).length = l.length := by simp
  refine pure_slim rfl (by kernel_rfl) Try.func77 s77 hp hsnap (by simp [Try.f77]) fun fr hlen h => ?_
  simp only [Has, Nat.zero_add] at h
  obtain ⟨a0, a1, -⟩ := h
  simp only [Try.f77] at hlen ⊢
  unfold g77
  simp only [wk, aBuiltin, AV.cells, AV.leaf, Nat.reduceEqDiff, Nat.reduceLT, Nat.reduceAdd, Nat.reduceLeDiff, reduceCtorEq, Nat.reduceMul, cfgP, u46, hlen, a0, a1, hlit, happ, hvl]
  refine loop_rule (fun m fr H' => ∃ (j : Nat), m = l.length - j ∧ j ≤ l.length ∧ fr.length = 42 ∧ fget fr 0 = v ∧ fget fr 5 = .bs ⟨H.length, 0, 0, l.length, 0, 1, false, false⟩ ∧ fget fr 12 = .int .i64 (l.length : Nat) ∧ fget fr 13 = .int .i64 (j : Nat) ∧ H.length + 1 ≤ H'.length ∧
    hget H' H.length 0 = some ((iterC (l.map S0.st) j b).map encBo)) ?_ l.length _ _ ⟨0, by omega, by omega, by simp [wk, aBuiltin, AV.cells, AV.leaf, Nat.reduceEqDiff, Nat.reduceLT, Nat.reduceAdd, Nat.reduceLeDiff, reduceCtorEq, Nat.reduceMul, cfgP, u46, hlen], by simp [wk, aBuiltin, AV.cells, AV.leaf, Nat.reduceEqDiff, Nat.reduceLT, Nat.reduceAdd, Nat.reduceLeDiff, reduceCtorEq, Nat.reduceMul, cfgP, u46, hlen, a0], by simp [wk, aBuiltin, AV.cells, AV.leaf, Nat.reduceEqDiff, Nat.reduceLT, Nat.reduceAdd, Nat.reduceLeDiff, reduceCtorEq, Nat.reduceMul, cfgP, u46, hlen], by simp [wk, aBuiltin, AV.cells, AV.leaf, Nat.reduceEqDiff, Nat.reduceLT, Nat.reduceAdd, Nat.reduceLeDiff, reduceCtorEq, Nat.reduceMul, cfgP, u46, hlen], by simp [wk, aBuiltin, AV.cells, AV.leaf, Nat.reduceEqDiff, Nat.reduceLT, Nat.reduceAdd, Nat.reduceLeDiff, reduceCtorEq, Nat.reduceMul, cfgP, u46, hlen], by simp, hg0⟩
  clear a0 a1 hlen fr hg0 happ hlit
  rintro m fr H' ⟨j, rfl, hj, hlen, b0, b5, b12, b13, hH, hg⟩ ih
  by_cases hjl : j < l.length
  · have d1 : decide (((j : Nat) : Int) < (l.length : Nat)) = true := decide_eq_true (by omega)
    have hwj : IntKind.i64.wrap ((j : Int) + 1) = ((j + 1 : Nat) : Int) := by rw [wrap64 (by omega) (by omega)]; simp
    simp only [wk, aBuiltin, AV.cells, AV.leaf, Nat.reduceEqDiff, Nat.reduceLT, Nat.reduceAdd, Nat.reduceLeDiff, reduceCtorEq, Nat.reduceMul, cfgP, u46, hlen, b0, b5, b12, b13, d1, hvl]
    have hol := iterC_len (l.map S0.st) b j
    have hnx : iterC (l.map S0.st) (j + 1) b = passC (l.map S0.st) (iterC (l.map S0.st) j b) l.length := by rw [iterC, hml]
    generalize iterC (l.map S0.st) j b = o at *
    refine loop_rule (fun m fr H2 => ∃ (k : Nat), m = l.length - k ∧ k ≤ l.length ∧ fr.length = 42 ∧ fget fr 0 = v ∧ fget fr 5 = .bs ⟨H.length, 0, 0, l.length, 0, 1, false, false⟩ ∧ fget fr 12 = .int .i64 (l.length : Nat) ∧ fget fr 13 = .int .i64 (j : Nat) ∧ fget fr 15 = v ∧ fget fr 16 = .int .i64 (l.length : Nat) ∧ fget fr 17 = .int .i64 (k : Nat) ∧ H.length + 1 ≤ H2.length ∧
      hget H2 H.length 0 = some ((passC (l.map S0.st) o k).map encBo)) ?_ l.length _ _ ⟨0, by omega, by omega, by simp [wk, aBuiltin, AV.cells, AV.leaf, Nat.reduceEqDiff, Nat.reduceLT, Nat.reduceAdd, Nat.reduceLeDiff, reduceCtorEq, Nat.reduceMul, cfgP, u46, hlen], by simp [wk, aBuiltin, AV.cells, AV.leaf, Nat.reduceEqDiff, Nat.reduceLT, Nat.reduceAdd, Nat.reduceLeDiff, reduceCtorEq, Nat.reduceMul, cfgP, u46, hlen, b0], by simp [wk, aBuiltin, AV.cells, AV.leaf, Nat.reduceEqDiff, Nat.reduceLT, Nat.reduceAdd, Nat.reduceLeDiff, reduceCtorEq, Nat.reduceMul, cfgP, u46, hlen, b5], by simp [wk, aBuiltin, AV.cells, AV.leaf, Nat.reduceEqDiff, Nat.reduceLT, Nat.reduceAdd, Nat.reduceLeDiff, reduceCtorEq, Nat.reduceMul, cfgP, u46, hlen, b12], by simp [wk, aBuiltin, AV.cells, AV.leaf, Nat.reduceEqDiff, Nat.reduceLT, Nat.reduceAdd, Nat.reduceLeDiff, reduceCtorEq, Nat.reduceMul, cfgP, u46, hlen, b13], by simp [wk, aBuiltin, AV.cells, AV.leaf, Nat.reduceEqDiff, Nat.reduceLT, Nat.reduceAdd, Nat.reduceLeDiff, reduceCtorEq, Nat.reduceMul, cfgP, u46, hlen], by simp [wk, aBuiltin, AV.cells, AV.leaf, Nat.reduceEqDiff, Nat.reduceLT, Nat.reduceAdd, Nat.reduceLeDiff, reduceCtorEq, Nat.reduceMul, cfgP, u46, hlen], by simp [wk, aBuiltin, AV.cells, AV.leaf, Nat.reduceEqDiff, Nat.reduceLT, Nat.reduceAdd, Nat.reduceLeDiff, reduceCtorEq, Nat.reduceMul, cfgP, u46, hlen], hH, hg⟩
    clear b0 b5 b12 b13 hlen fr hg hH H'
    rintro m fr H2 ⟨k, rfl, hk, hlen, b0, b5, b12, b13, b15, b16, b17, hH, hg⟩ ih2
    by_cases hkl : k < l.length
    · have d2 : decide (((k : Nat) : Int) < (l.length : Nat)) = true := decide_eq_true (by omega)
      have hwk : IntKind.i64.wrap ((k : Int) + 1) = ((k + 1 : Nat) : Int) := by rw [wrap64 (by omega) (by omega)]; simp
      have e1 := hv.at (P := Try.prog) (k := .i64) (i := k) Try.underlying84 sz145 enc0_T.len hkl
      have hlk : (l.map S0.st)[k]? = some l[k].st := by simp [hkl]
      have hrk := hr l[k].st (List.mem_map.2 ⟨_, List.getElem_mem hkl, rfl⟩)
      have hps := passC_succ (l.map S0.st) o k
      have hpl := passC_len (l.map S0.st) o k
      generalize passC (l.map S0.st) o k = q at *
      generalize l[k] = x at *
      unfold stepC at hps
      rw [hlk] at hps
      have hxl := x.leaf
      unfold AV.leaf at hxl
      simp only [enc0, AV.cells] at e1
      have hH0 : H.length ≤ H2.length := by omega
      have hlZ : ∀ Z, (H2 ++ [Blk.cells 0 Z]).length = H2.length + 1 := fun Z => by simp
      have hgk := hget_mono hg [Blk.cells 0 [.int .i64 x.kind, .bool x.no, x.sv, .int .i64 x.one, .int .i64 x.two]]
      have eIk := eI k hkl
      have ek := bt_get (o := q) (k := k) (by omega)
      by_cases hb : bt q k = true
      · by_cases hk2 : x.kind = 2
        · have d3 : decide (x.kind = 2) = true := decide_eq_true hk2
          have hr1 := hrk.2.1 (by show x.kind < 3; omega)
          have hr2 := hrk.2.2 hk2
          rw [hml] at hr1 hr2
          obtain ⟨x1, hx1⟩ : ∃ x1 : Nat, x.one = (x1 : Nat) := ⟨x.one.toNat, by have : x.st.one = x.one := rfl; omega⟩
          obtain ⟨x2, hx2⟩ : ∃ x2 : Nat, x.two = (x2 : Nat) := ⟨x.two.toNat, by have : x.st.two = x.two := rfl; omega⟩
          have hx1l : x1 < l.length := by have : x.st.one = x.one := rfl; omega
          have hx2l : x2 < l.length := by have : x.st.two = x.two := rfl; omega
          have hps2 : passC (l.map S0.st) o (k + 1) = (q.set x1 true).set x2 true := by
            rw [hps]
            show (if bt q k && decide (x.kind = 2) then (q.set x.one.toNat true).set x.two.toNat true else q) = _
            rw [hb, d3, hx1, hx2]; rfl
          have p1 := bitput (prot := H.length) hgk (Nat.le_refl _) (i := x1) (by omega)
          have hlt := hget_lt hgk
          have hg2 : hget ((H2 ++ [Blk.cells 0 [.int .i64 x.kind, .bool x.no, x.sv, .int .i64 x.one, .int .i64 x.two]]).set H.length (.cells 0 ((q.set x1 true).map encBo))) H.length 0 = some ((q.set x1 true).map encBo) := hget_set_at hlt
          have p2 := bitput (prot := H.length) hg2 (Nat.le_refl _) (i := x2) (by simp; omega)
          rw [List.set_set] at p2
          have hn2 : H2.length ≠ H.length := by omega
          have hg7 : hget ((H2 ++ [Blk.cells 0 [.int .i64 x.kind, .bool x.no, x.sv, .int .i64 x.one, .int .i64 x.two]]).set H.length (.cells 0 ((q.set x1 true).map encBo))) H2.length 0 = some [.int .i64 x.kind, .bool x.no, x.sv, .int .i64 x.one, .int .i64 x.two] := by rw [hget_set_ne hn2, hget_new rfl, if_pos rfl]
          have eI1 := eI x1 hx1l
          have eI2 := eI x2 hx2l
          rw [hb] at ek
          rw [hx1, hx2] at p1 p2 hg7 hgk
          simp only [wk, aBuiltin, AV.cells, AV.leaf, Nat.reduceEqDiff, Nat.reduceLT, Nat.reduceAdd, Nat.reduceLeDiff, reduceCtorEq, Nat.reduceMul, cfgP, u46, hlen, b0, b5, b12, b13, b15, b16, b17, d2, e1, hxl, hH0, eIk, hgk, ek, d3, hx1, hx2, eI1, eI2, p1, hg7, p2, hwk]
          refine ih2 _ _ (l.length - (k + 1)) (by omega) ⟨k + 1, rfl, by omega, by simp [wk, aBuiltin, AV.cells, AV.leaf, Nat.reduceEqDiff, Nat.reduceLT, Nat.reduceAdd, Nat.reduceLeDiff, reduceCtorEq, Nat.reduceMul, cfgP, u46, hlen], by simp [wk, aBuiltin, AV.cells, AV.leaf, Nat.reduceEqDiff, Nat.reduceLT, Nat.reduceAdd, Nat.reduceLeDiff, reduceCtorEq, Nat.reduceMul, cfgP, u46, hlen, b0], by simp [wk, aBuiltin, AV.cells, AV.leaf, Nat.reduceEqDiff, Nat.reduceLT, Nat.reduceAdd, Nat.reduceLeDiff, reduceCtorEq, Nat.reduceMul, cfgP, u46, hlen, b5], by simp [wk, aBuiltin, AV.cells, AV.leaf, Nat.reduceEqDiff, Nat.reduceLT, Nat.reduceAdd, Nat.reduceLeDiff, reduceCtorEq, Nat.reduceMul, cfgP, u46, hlen, b12], by simp [wk, aBuiltin, AV.cells, AV.leaf, Nat.reduceEqDiff, Nat.reduceLT, Nat.reduceAdd, Nat.reduceLeDiff, reduceCtorEq, Nat.reduceMul, cfgP, u46, hlen, b13], by simp [wk, aBuiltin, AV.cells, AV.leaf, Nat.reduceEqDiff, Nat.reduceLT, Nat.reduceAdd, Nat.reduceLeDiff, reduceCtorEq, Nat.reduceMul, cfgP, u46, hlen, b15], by simp [wk, aBuiltin, AV.cells, AV.leaf, Nat.reduceEqDiff, Nat.reduceLT, Nat.reduceAdd, Nat.reduceLeDiff, reduceCtorEq, Nat.reduceMul, cfgP, u46, hlen, b16], by simp [wk, aBuiltin, AV.cells, AV.leaf, Nat.reduceEqDiff, Nat.reduceLT, Nat.reduceAdd, Nat.reduceLeDiff, reduceCtorEq, Nat.reduceMul, cfgP, u46, hlen], by simp; omega, ?_⟩
          rw [hps2]
          exact hget_set_at (by simp; omega)
        · have d3 : decide (x.kind = 2) = false := decide_eq_false hk2
          have hps2 : passC (l.map S0.st) o (k + 1) = q := by
            rw [hps]
            show (if bt q k && decide (x.kind = 2) then (q.set x.one.toNat true).set x.two.toNat true else q) = _
            rw [d3, Bool.and_false]; rfl
          rw [hb] at ek
          simp only [wk, aBuiltin, AV.cells, AV.leaf, Nat.reduceEqDiff, Nat.reduceLT, Nat.reduceAdd, Nat.reduceLeDiff, reduceCtorEq, Nat.reduceMul, cfgP, u46, hlen, b0, b5, b12, b13, b15, b16, b17, d2, e1, hxl, hH0, eIk, hgk, ek, d3, hwk, none_beq]
          refine ih2 _ _ (l.length - (k + 1)) (by omega) ⟨k + 1, rfl, by omega, by simp [wk, aBuiltin, AV.cells, AV.leaf, Nat.reduceEqDiff, Nat.reduceLT, Nat.reduceAdd, Nat.reduceLeDiff, reduceCtorEq, Nat.reduceMul, cfgP, u46, hlen], by simp [wk, aBuiltin, AV.cells, AV.leaf, Nat.reduceEqDiff, Nat.reduceLT, Nat.reduceAdd, Nat.reduceLeDiff, reduceCtorEq, Nat.reduceMul, cfgP, u46, hlen, b0], by simp [wk, aBuiltin, AV.cells, AV.leaf, Nat.reduceEqDiff, Nat.reduceLT, Nat.reduceAdd, Nat.reduceLeDiff, reduceCtorEq, Nat.reduceMul, cfgP, u46, hlen, b5], by simp [wk, aBuiltin, AV.cells, AV.leaf, Nat.reduceEqDiff, Nat.reduceLT, Nat.reduceAdd, Nat.reduceLeDiff, reduceCtorEq, Nat.reduceMul, cfgP, u46, hlen, b12], by simp [wk, aBuiltin, AV.cells, AV.leaf, Nat.reduceEqDiff, Nat.reduceLT, Nat.reduceAdd, Nat.reduceLeDiff, reduceCtorEq, Nat.reduceMul, cfgP, u46, hlen, b13], by simp [wk, aBuiltin, AV.cells, AV.leaf, Nat.reduceEqDiff, Nat.reduceLT, Nat.reduceAdd, Nat.reduceLeDiff, reduceCtorEq, Nat.reduceMul, cfgP, u46, hlen, b15], by simp [wk, aBuiltin, AV.cells, AV.leaf, Nat.reduceEqDiff, Nat.reduceLT, Nat.reduceAdd, Nat.reduceLeDiff, reduceCtorEq, Nat.reduceMul, cfgP, u46, hlen, b16], by simp [wk, aBuiltin, AV.cells, AV.leaf, Nat.reduceEqDiff, Nat.reduceLT, Nat.reduceAdd, Nat.reduceLeDiff, reduceCtorEq, Nat.reduceMul, cfgP, u46, hlen], by simp; omega, ?_⟩
          rw [hps2]; exact hgk
      · have hb := Bool.eq_false_iff.2 hb
        have hps2 : passC (l.map S0.st) o (k + 1) = q := by rw [hps]; simp [hb]
        rw [hb] at ek
        simp only [wk, aBuiltin, AV.cells, AV.leaf, Nat.reduceEqDiff, Nat.reduceLT, Nat.reduceAdd, Nat.reduceLeDiff, reduceCtorEq, Nat.reduceMul, cfgP, u46, hlen, b0, b5, b12, b13, b15, b16, b17, d2, e1, hxl, hH0, eIk, hgk, ek, hwk, none_beq]
        refine ih2 _ _ (l.length - (k + 1)) (by omega) ⟨k + 1, rfl, by omega, by simp [wk, aBuiltin, AV.cells, AV.leaf, Nat.reduceEqDiff, Nat.reduceLT, Nat.reduceAdd, Nat.reduceLeDiff, reduceCtorEq, Nat.reduceMul, cfgP, u46, hlen], by simp [wk, aBuiltin, AV.cells, AV.leaf, Nat.reduceEqDiff, Nat.reduceLT, Nat.reduceAdd, Nat.reduceLeDiff, reduceCtorEq, Nat.reduceMul, cfgP, u46, hlen, b0], by simp [wk, aBuiltin, AV.cells, AV.leaf, Nat.reduceEqDiff, Nat.reduceLT, Nat.reduceAdd, Nat.reduceLeDiff, reduceCtorEq, Nat.reduceMul, cfgP, u46, hlen, b5], by simp [wk, aBuiltin, AV.cells, AV.leaf, Nat.reduceEqDiff, Nat.reduceLT, Nat.reduceAdd, Nat.reduceLeDiff, reduceCtorEq, Nat.reduceMul, cfgP, u46, hlen, b12], by simp [wk, aBuiltin, AV.cells, AV.leaf, Nat.reduceEqDiff, Nat.reduceLT, Nat.reduceAdd, Nat.reduceLeDiff, reduceCtorEq, Nat.reduceMul, cfgP, u46, hlen, b13], by simp [wk, aBuiltin, AV.cells, AV.leaf, Nat.reduceEqDiff, Nat.reduceLT, Nat.reduceAdd, Nat.reduceLeDiff, reduceCtorEq, Nat.reduceMul, cfgP, u46, hlen, b15], by simp [wk, aBuiltin, AV.cells, AV.leaf, Nat.reduceEqDiff, Nat.reduceLT, Nat.reduceAdd, Nat.reduceLeDiff, reduceCtorEq, Nat.reduceMul, cfgP, u46, hlen, b16], by simp [wk, aBuiltin, AV.cells, AV.leaf, Nat.reduceEqDiff, Nat.reduceLT, Nat.reduceAdd, Nat.reduceLeDiff, reduceCtorEq, Nat.reduceMul, cfgP, u46, hlen], by simp; omega, ?_⟩
        rw [hps2]; exact hgk
    · have d2 : decide (((k : Nat) : Int) < (l.length : Nat)) = false := decide_eq_false (by omega)
      have hkk : k = l.length := by omega
      subst hkk
      simp only [wk, aBuiltin, AV.cells, AV.leaf, Nat.reduceEqDiff, Nat.reduceLT, Nat.reduceAdd, Nat.reduceLeDiff, reduceCtorEq, Nat.reduceMul, cfgP, u46, hlen, b0, b5, b12, b13, b15, b16, b17, d2, hwj]
      exact ih _ _ (l.length - (j + 1)) (by omega) ⟨j + 1, rfl, by omega, by simp [wk, aBuiltin, AV.cells, AV.leaf, Nat.reduceEqDiff, Nat.reduceLT, Nat.reduceAdd, Nat.reduceLeDiff, reduceCtorEq, Nat.reduceMul, cfgP, u46, hlen], by simp [wk, aBuiltin, AV.cells, AV.leaf, Nat.reduceEqDiff, Nat.reduceLT, Nat.reduceAdd, Nat.reduceLeDiff, reduceCtorEq, Nat.reduceMul, cfgP, u46, hlen, b0], by simp [wk, aBuiltin, AV.cells, AV.leaf, Nat.reduceEqDiff, Nat.reduceLT, Nat.reduceAdd, Nat.reduceLeDiff, reduceCtorEq, Nat.reduceMul, cfgP, u46, hlen, b5], by simp [wk, aBuiltin, AV.cells, AV.leaf, Nat.reduceEqDiff, Nat.reduceLT, Nat.reduceAdd, Nat.reduceLeDiff, reduceCtorEq, Nat.reduceMul, cfgP, u46, hlen, b12], by simp [wk, aBuiltin, AV.cells, AV.leaf, Nat.reduceEqDiff, Nat.reduceLT, Nat.reduceAdd, Nat.reduceLeDiff, reduceCtorEq, Nat.reduceMul, cfgP, u46, hlen], hH, by rw [hnx]; exact hg⟩
  · have d1 : decide (((j : Nat) : Int) < (l.length : Nat)) = false := decide_eq_false (by omega)
    have hjj : j = l.length := by omega
    subst hjj
    have hol := iterC_len (l.map S0.st) b l.length
    have hcl : closureS (l.map S0.st) b = iterC (l.map S0.st) l.length b := by unfold closureS; rw [hml]
    rw [hcl]
    generalize iterC (l.map S0.st) l.length b = o at *
    have hrow : Row encBo 1 false H.length H' (.bs ⟨H.length, 0, 0, l.length, 0, 1, false, false⟩) o := .inr ⟨H.length, 0, by rw [hol, hbl], Nat.le_refl _, by rw [cellsBo]; exact hg, rfl⟩
    simp only [wk, aBuiltin, AV.cells, AV.leaf, Nat.reduceEqDiff, Nat.reduceLT, Nat.reduceAdd, Nat.reduceLeDiff, reduceCtorEq, Nat.reduceMul, cfgP, u46, hlen, b0, b5, b12, b13, d1]
    exact Fin_pure (l := [.bs ⟨H.length, 0, 0, l.length, 0, 1, false, false⟩]) (by simp [wk, aBuiltin, AV.cells, AV.leaf, Nat.reduceEqDiff, Nat.reduceLT, Nat.reduceAdd, Nat.reduceLeDiff, reduceCtorEq, Nat.reduceMul, cfgP, u46, hlen, aResults, aResult]) (hrow.frozen encBo_T (by decide) rfl (.inr (by intro h; rw [h] at hol; simp at hol; omega))) (by simp)
/-- is a Halt in? -/
def haltB (l : List St) (b : List Bool) : Bool := (List.range l.length).any fun k => bt b k && decide (kd l k = 3)

theorem rhalts_ok (l : List S0) (v : AV) (hv : Sl enc0 v l) (hl : l.length ≤ 20) (b : List Bool) (hbl : b.length = l.length) (w : AV) (hw : Sl encBo w b) (prot : Nat) (H : Heap) (hp : prot ≤ H.length) :
    aLim cfg prot 51 [v, w] H = some (.bool (haltB (l.map S0.st) b), none) := by
  have hsnap : snap H [v, w] = some ([v, w], false) := by cases hv <;> cases hw <;> rfl
  have hvl := fun K : Heap => hv.len (P := Try.prog) (H := K) Try.underlying84
  have hml : (l.map S0.st).length = l.length := by simp
  refine pure_slim rfl (by kernel_rfl) Try.func51 s51 hp hsnap (by simp [Try.f51]) fun fr hlen h => ?_
  simp only [Has, Nat.zero_add] at h
  obtain ⟨a0, a1, -⟩ := h
  simp only [Try.f51] at hlen ⊢
  unfold g51
  simp only [wk, aBuiltin, AV.cells, AV.leaf, Nat.reduceEqDiff, Nat.reduceLT, Nat.reduceAdd, Nat.reduceLeDiff, reduceCtorEq, Nat.reduceMul, cfgP, u46, hlen, a0, a1, hvl]
  refine loop_rule (fun m fr H' => ∃ (k : Nat), m = l.length - k ∧ k ≤ l.length ∧ fr.length = 24 ∧ fget fr 1 = w ∧ fget fr 7 = v ∧ fget fr 8 = .int .i64 (l.length : Nat) ∧ fget fr 9 = .int .i64 (k : Nat) ∧ H.length ≤ H'.length ∧ (List.range k).any (fun k => bt b k && decide (kd (l.map S0.st) k = 3)) = false) ?_ l.length _ _
    ⟨0, by omega, by omega, by simp [wk, aBuiltin, AV.cells, AV.leaf, Nat.reduceEqDiff, Nat.reduceLT, Nat.reduceAdd, Nat.reduceLeDiff, reduceCtorEq, Nat.reduceMul, cfgP, u46, hlen], by simp [wk, aBuiltin, AV.cells, AV.leaf, Nat.reduceEqDiff, Nat.reduceLT, Nat.reduceAdd, Nat.reduceLeDiff, reduceCtorEq, Nat.reduceMul, cfgP, u46, hlen, a1], by simp [wk, aBuiltin, AV.cells, AV.leaf, Nat.reduceEqDiff, Nat.reduceLT, Nat.reduceAdd, Nat.reduceLeDiff, reduceCtorEq, Nat.reduceMul, cfgP, u46, hlen], by simp [wk, aBuiltin, AV.cells, AV.leaf, Nat.reduceEqDiff, Nat.reduceLT, Nat.reduceAdd, Nat.reduceLeDiff, reduceCtorEq, Nat.reduceMul, cfgP, u46, hlen], by simp [wk, aBuiltin, AV.cells, AV.leaf, Nat.reduceEqDiff, Nat.reduceLT, Nat.reduceAdd, Nat.reduceLeDiff, reduceCtorEq, Nat.reduceMul, cfgP, u46, hlen], Nat.le_refl _, rfl⟩
  clear a0 a1 hlen fr
  rintro m fr H' ⟨k, rfl, hk, hlen, b1, b7, b8, b9, hH, hc⟩ ih
  by_cases hkl : k < l.length
  · have d2 : decide (((k : Nat) : Int) < (l.length : Nat)) = true := decide_eq_true (by omega)
    have hwk : IntKind.i64.wrap ((k : Int) + 1) = ((k + 1 : Nat) : Int) := by rw [wrap64 (by omega) (by omega)]; simp
    have e1 := hv.at (P := Try.prog) (k := .i64) (i := k) Try.underlying84 sz145 enc0_T.len hkl
    have e2 := hw.at (P := Try.prog) (k := .i64) (i := k) Try.underlying93 sz4 encBo_T.len (by omega)
    have hbk : bt b k = b[k] := by simp [bt, hbl, hkl]
    have hkd : kd (l.map S0.st) k = l[k].kind := by unfold kd; simp [hkl, S0.st]
    rw [← hbk] at e2
    generalize l[k] = x at *
    have hxl := x.leaf
    unfold AV.leaf at hxl
    simp only [enc0, encBo, AV.cells] at e1 e2
    have hnx : (List.range (k + 1)).any (fun k => bt b k && decide (kd (l.map S0.st) k = 3)) = (bt b k && decide (x.kind = 3)) := by rw [List.range_succ, List.any_append, hc, Bool.false_or, List.any_cons, List.any_nil, Bool.or_false, hkd]
    cases hb : bt b k with
    | true =>
      rw [hb] at e2 hnx
      by_cases h3 : x.kind = 3
      · have d3 : decide (x.kind = 3) = true := decide_eq_true h3
        have hT : haltB (l.map S0.st) b = true := by
          unfold haltB
          rw [hml, List.any_eq_true]
          exact ⟨k, List.mem_range.2 hkl, by rw [hb, hkd, d3]; rfl⟩
        rw [hT]
        simp only [wk, aBuiltin, AV.cells, AV.leaf, Nat.reduceEqDiff, Nat.reduceLT, Nat.reduceAdd, Nat.reduceLeDiff, reduceCtorEq, Nat.reduceMul, cfgP, u46, hlen, b1, b7, b8, b9, d2, e1, hxl, hH, e2, d3]
        exact Fin_pure (l := [.bool true]) (by simp [wk, aBuiltin, AV.cells, AV.leaf, Nat.reduceEqDiff, Nat.reduceLT, Nat.reduceAdd, Nat.reduceLeDiff, reduceCtorEq, Nat.reduceMul, cfgP, u46, aResults, aResult, hlen]) (.still rfl) (by simp)
      · have d3 : decide (x.kind = 3) = false := decide_eq_false h3
        rw [d3, Bool.and_false] at hnx
        simp only [wk, aBuiltin, AV.cells, AV.leaf, Nat.reduceEqDiff, Nat.reduceLT, Nat.reduceAdd, Nat.reduceLeDiff, reduceCtorEq, Nat.reduceMul, cfgP, u46, hlen, b1, b7, b8, b9, d2, e1, hxl, hH, e2, d3, hwk, none_beq]
        exact ih _ _ (l.length - (k + 1)) (by omega) ⟨k + 1, rfl, by omega, by simp [wk, aBuiltin, AV.cells, AV.leaf, Nat.reduceEqDiff, Nat.reduceLT, Nat.reduceAdd, Nat.reduceLeDiff, reduceCtorEq, Nat.reduceMul, cfgP, u46, hlen], by simp [wk, aBuiltin, AV.cells, AV.leaf, Nat.reduceEqDiff, Nat.reduceLT, Nat.reduceAdd, Nat.reduceLeDiff, reduceCtorEq, Nat.reduceMul, cfgP, u46, hlen, b1], by simp [wk, aBuiltin, AV.cells, AV.leaf, Nat.reduceEqDiff, Nat.reduceLT, Nat.reduceAdd, Nat.reduceLeDiff, reduceCtorEq, Nat.reduceMul, cfgP, u46, hlen, b7], by simp [wk, aBuiltin, AV.cells, AV.leaf, Nat.reduceEqDiff, Nat.reduceLT, Nat.reduceAdd, Nat.reduceLeDiff, reduceCtorEq, Nat.reduceMul, cfgP, u46, hlen, b8], by simp [wk, aBuiltin, AV.cells, AV.leaf, Nat.reduceEqDiff, Nat.reduceLT, Nat.reduceAdd, Nat.reduceLeDiff, reduceCtorEq, Nat.reduceMul, cfgP, u46, hlen], by simp; omega, hnx⟩
    | false =>
      rw [hb] at e2 hnx
      rw [Bool.false_and] at hnx
      simp only [wk, aBuiltin, AV.cells, AV.leaf, Nat.reduceEqDiff, Nat.reduceLT, Nat.reduceAdd, Nat.reduceLeDiff, reduceCtorEq, Nat.reduceMul, cfgP, u46, hlen, b1, b7, b8, b9, d2, e1, hxl, hH, e2, hwk, none_beq]
      exact ih _ _ (l.length - (k + 1)) (by omega) ⟨k + 1, rfl, by omega, by simp [wk, aBuiltin, AV.cells, AV.leaf, Nat.reduceEqDiff, Nat.reduceLT, Nat.reduceAdd, Nat.reduceLeDiff, reduceCtorEq, Nat.reduceMul, cfgP, u46, hlen], by simp [wk, aBuiltin, AV.cells, AV.leaf, Nat.reduceEqDiff, Nat.reduceLT, Nat.reduceAdd, Nat.reduceLeDiff, reduceCtorEq, Nat.reduceMul, cfgP, u46, hlen, b1], by simp [wk, aBuiltin, AV.cells, AV.leaf, Nat.reduceEqDiff, Nat.reduceLT, Nat.reduceAdd, Nat.reduceLeDiff, reduceCtorEq, Nat.reduceMul, cfgP, u46, hlen, b7], by simp [wk, aBuiltin, AV.cells, AV.leaf, Nat.reduceEqDiff, Nat.reduceLT, Nat.reduceAdd, Nat.reduceLeDiff, reduceCtorEq, Nat.reduceMul, cfgP, u46, hlen, b8], by simp [wk, aBuiltin, AV.cells, AV.leaf, Nat.reduceEqDiff, Nat.reduceLT, Nat.reduceAdd, Nat.reduceLeDiff, reduceCtorEq, Nat.reduceMul, cfgP, u46, hlen], by simp; omega, hnx⟩
  · have d2 : decide (((k : Nat) : Int) < (l.length : Nat)) = false := decide_eq_false (by omega)
    have hkk : k = l.length := by omega
    subst hkk
    have hF : haltB (l.map S0.st) b = false := by unfold haltB; rw [hml]; exact hc
    rw [hF]
    simp only [wk, aBuiltin, AV.cells, AV.leaf, Nat.reduceEqDiff, Nat.reduceLT, Nat.reduceAdd, Nat.reduceLeDiff, reduceCtorEq, Nat.reduceMul, cfgP, u46, hlen, b1, b7, b8, b9, d2]
    exact Fin_pure (l := [.bool false]) (by simp [wk, aBuiltin, AV.cells, AV.leaf, Nat.reduceEqDiff, Nat.reduceLT, Nat.reduceAdd, Nat.reduceLeDiff, reduceCtorEq, Nat.reduceMul, cfgP, u46, aResults, aResult, hlen]) (.still rfl) (by simp)
end Go.Proofs.Ytoblikhnbddfmaa
