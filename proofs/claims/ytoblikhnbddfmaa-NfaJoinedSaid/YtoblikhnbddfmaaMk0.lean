import Derived.Test.YtoblikhnbddfmaaRx1
import Derived.Test.YtoblikhnbddfmaaAbsSeat
import Derived.Test.YtoblikhnbddfmaaAbsSet
import Derived.Test.YtoblikhnbddfmaaAbsRows
/-! Chapter 15: states of a machine, as they lie. -/
set_option linter.unusedSimpArgs false
namespace Go.Abs
open Go
/-- a raw call of which what is known of the heap behind it is said. -/
theorem raw_slimE {C : Cfg} {prot : Nat} {f : FuncId} {args : List AV} {H : Heap} {fn : Func} {c : Code} {v : AV} {P : Heap → Prop} (hok : C.ok f = true) (hp : C.pure f = false) (hsh : C.shut f = false) (htr : C.trim f = false) (hfn : C.P.funcs[f]? = some fn) (hb : fn.body.map (slim C) = some c)
    (hl : args.length ≤ fn.ntmps)
    (h : ∀ fr, fr.length = fn.ntmps → Has fr 0 args → ∃ H', P H' ∧ R ⟨C, prot, fn.results.toList, .raw⟩ c [] fr H (v, some H')) : ∃ H', P H' ∧ aLim C prot f args H = some (v, some H') := by
  rw [Option.map_eq_some_iff] at hb
  obtain ⟨c0, hb, rfl⟩ := hb
  have h := entered (Q := fun fr => ∃ H', P H' ∧ R ⟨C, prot, fn.results.toList, .raw⟩ (slim C c0) [] fr H (v, some H')) hl h
  obtain ⟨H1, hP, h⟩ := h
  have h := R_slim (X := ⟨C, prot, fn.results.toList, .raw⟩) h
  refine ⟨H1, hP, ?_⟩
  obtain ⟨e, fr', H', h1, h2⟩ := h
  have h1' := aCode_conv (aLim_conv C) _ h1
  have hfin : Fin ⟨C, prot, fn.results.toList, .raw⟩ fr' H' (v, some H1) ∧ ∀ id, e ≠ .exit id := by
    cases e with
    | normal => exact ⟨h2, fun _ h => by cases h⟩
    | ret => exact ⟨h2, fun _ h => by cases h⟩
    | exit id => exact h2.elim
  obtain ⟨⟨l, hr, he⟩, hex⟩ := hfin
  rw [he]
  refine aLim_of ?_
  obtain ⟨n0, h0⟩ := h1'
  refine ⟨n0 + 1, fun n hn => ?_⟩
  obtain ⟨n, rfl⟩ : ∃ j, n = j + 1 := ⟨n - 1, by omega⟩
  have h3 := h0 n (by omega)
  cases e with
  | exit id => exact absurd rfl (hex id)
  | normal => simp only [aCall, hok, Bool.true_eq_false, if_false, hfn, hb, hp, hsh, htr, Bool.false_eq_true, Option.bind_some, aBody, h3, hr, Option.map_some]
  | ret => simp only [aCall, hok, Bool.true_eq_false, if_false, hfn, hb, hp, hsh, htr, Bool.false_eq_true, Option.bind_some, aBody, h3, hr, Option.map_some]
theorem loop_ruleE {X : Ctx} {c : Code} {κ : List K} {v : AV} {P : Heap → Prop} (Inv : Nat → List AV → Heap → Prop)
    (step : ∀ m fr H, Inv m fr H → (∀ fr' H' m', m' < m → Inv m' fr' H' → ∃ Z, P Z ∧ U X (.loop c :: κ) .normal fr' H' (v, some Z)) → ∃ Z, P Z ∧ R X c (.loop c :: κ) fr H (v, some Z)) :
    ∀ (m : Nat) (fr : List AV) (H : Heap), Inv m fr H → ∃ Z, P Z ∧ R X (.loop c) κ fr H (v, some Z) := by
  intro m
  induction m using Nat.strongRecOn with
  | _ m ih =>
    intro fr H h
    simp only [R_loop]
    refine step m fr H h fun fr' H' m' hm h' => ?_
    have := ih m' hm fr' H' h'
    simp only [U_loop, ← R_loop]
    exact this
theorem ex_draw {D : Prop} {P Q : Heap → Prop} (hd : D) (h : ∃ Z, P Z ∧ Q Z) : ∃ Z, P Z ∧ D ∧ Q Z := by
  obtain ⟨Z, h1, h2⟩ := h
  exact ⟨Z, h1, hd, h2⟩
/-- how an element lies that may lead elsewhere. -/
structure EncL {α : Type} (enc : α → AV) (sz : Nat) : Prop where
  len : ∀ x, (enc x).cells.length = sz
  leaf : ∀ x, ∀ c ∈ (enc x).cells, c.leaf = true
theorem EncL.length {α : Type} {enc : α → AV} {sz : Nat} (he : EncL enc sz) (l : List α) : (cellsOf enc l).length = l.length * sz := by
  induction l with
  | nil => simp [cellsOf]
  | cons x r ih =>
    simp only [cellsOf, List.flatMap_cons, List.length_append, List.length_cons, he.len] at ih ⊢
    rw [ih, Nat.add_mul]; omega
theorem EncL.leafs {α : Type} {enc : α → AV} {sz : Nat} (he : EncL enc sz) (l : List α) : (cellsOf enc l).all AV.leaf = true := by
  rw [List.all_eq_true]
  intro c hc
  obtain ⟨x, _, hx⟩ := List.mem_flatMap.1 hc
  exact he.leaf x c hx
theorem EncL.app {α : Type} {enc : α → AV} {sz : Nat} {ag : Bool} (he : EncL enc sz) {P : Program} {t xt e : TypeId} {by_ prot : Nat} (ht : RowT P t e sz by_ ag) (hxt : (∃ e', P.underlying xt = some (.slice e')) ∨ P.underlying xt = some .string) {x : AV} {l m : List α} {H : Heap} {b ver : Nat}
    (hg : hget H b ver = some (cellsOf enc l)) (hv4 : ver % 4 = 0) (hx : elemCells H sz x = some (m.length, cellsOf enc m)) (hm : 0 < m.length) (hr : roomy (l.length + m.length) by_ = true) (hp : prot ≤ b) :
    aAppend P prot H #[t, xt] (.bs ⟨b, ver, 0, l.length, 0, sz, ag, false⟩) x = some (.bs ⟨b, ver + 4, 0, l.length + m.length, 0, sz, ag, false⟩, some (H.set b (Blk.cells (ver + 4) (cellsOf enc (l ++ m))))) := by
  obtain ⟨z, hz, hzl⟩ := ht.zero
  have hm0 : ¬ m.length = 0 := by omega
  have hlf := he.leafs m
  have hw : win (cellsOf enc l) 0 (l.length * sz) = some (cellsOf enc l) := by
    have := he.length l
    simp only [win, Nat.zero_add, List.drop_zero]
    rw [if_pos (by omega), List.take_of_length_le (by omega)]
  rw [cellsOf_append]
  rcases hxt with ⟨e', hu⟩ | hu <;> unfold aAppend <;>
  simp only [List.getElem?_toArray, List.getElem?_cons_zero, List.getElem?_cons_succ, Option.bind_some, ht.elem, ht.size, ht.bytes, ht.agg, hz, hzl, hu, hx, ne_eq, not_true_eq_false, if_false, hlf, if_true, hm0, hr, hg, hw, Bool.false_eq_true,
    hp, rowOk_zero hv4, and_self]
theorem EncL.app0 {α : Type} {enc : α → AV} {sz : Nat} {ag : Bool} (he : EncL enc sz) {P : Program} {t xt e : TypeId} {by_ prot : Nat} (ht : RowT P t e sz by_ ag) (hxt : (∃ e', P.underlying xt = some (.slice e')) ∨ P.underlying xt = some .string) {x : AV} {m : List α} {H : Heap}
    (hx : elemCells H sz x = some (m.length, cellsOf enc m)) (hm : 0 < m.length) (hr : roomy m.length by_ = true) :
    aAppend P prot H #[t, xt] .nilS x = some (.bs ⟨H.length, 0, 0, m.length, 0, sz, ag, false⟩, some (H ++ [Blk.cells 0 (cellsOf enc m)])) := by
  obtain ⟨z, hz, hzl⟩ := ht.zero
  have hm0 : ¬ m.length = 0 := by omega
  have hlf := he.leafs m
  rcases hxt with ⟨e', hu⟩ | hu <;> unfold aAppend <;>
  simp only [ht.row0, List.getElem?_toArray, List.getElem?_cons_zero, List.getElem?_cons_succ, Option.bind_some, ht.elem, ht.size, ht.bytes, ht.agg, hz, hzl, hu, hx, ne_eq, not_true_eq_false, if_false, hlf, if_true, hm0, hr]
/-- what does not change between two heaps: all but two blocks. -/
structure Frm (H H' : Heap) (b rb : Nat) : Prop where
  len : H.length ≤ H'.length
  keep : ∀ z ver cs, z ≠ b → z ≠ rb → hget H z ver = some cs → hget H' z ver = some cs
theorem Frm.refl (H : Heap) (b rb : Nat) : Frm H H b rb := ⟨Nat.le_refl _, fun _ _ _ _ _ h => h⟩
theorem Frm.trans {H K L : Heap} {b rb : Nat} (h : Frm H K b rb) (k : Frm K L b rb) : Frm H L b rb := ⟨Nat.le_trans h.len k.len, fun z ver cs h1 h2 h3 => k.keep z ver cs h1 h2 (h.keep z ver cs h1 h2 h3)⟩
theorem Frm.more (H : Heap) (b rb : Nat) (x : List Blk) : Frm H (H ++ x) b rb := ⟨by simp, fun _ _ _ _ _ h => hget_mono h x⟩
theorem Frm.set1 (H : Heap) (b rb : Nat) (k : Blk) : Frm H (H.set b k) b rb := ⟨by simp, fun z _ _ h1 _ h => by rw [hget_set_ne h1]; exact h⟩
theorem Frm.set2 (H : Heap) (b rb : Nat) (k : Blk) : Frm H (H.set rb k) b rb := ⟨by simp, fun z _ _ _ h2 h => by rw [hget_set_ne h2]; exact h⟩
theorem Frm.row {α : Type} {enc : α → AV} {sz : Nat} {ag : Bool} {base b rb : Nat} {H K : Heap} {v : AV} {l : List α} (f : Frm H K b rb) (hb : b < base) (hr : rb < base) (h : Row enc sz ag base H v l) : Row enc sz ag base K v l := by
  rcases h with h | ⟨c, ver, h1, h2, h3, h4⟩
  · exact .inl h
  · exact .inr ⟨c, ver, h1, h2, f.keep _ _ _ (by omega) (by omega) h3, h4⟩
end Go.Abs
namespace Go.Proofs.Ytoblikhnbddfmaa
open Go Go.Abs AbsSeat Ty

/-- a state of a machine. -/
structure St where
  kind : Int
  no : Bool
  sp : List Sg
  one : Int
  two : Int
/-- a state as it lies, while its maker works. -/
structure HS where
  kind : Int
  no : Bool
  sv : AV
  lf : sv.leaf = true
  one : Int
  two : Int
def encH (x : HS) : AV := .agg [.int .i64 x.kind, .bool x.no, x.sv, .int .i64 x.one, .int .i64 x.two]
theorem encH_L : EncL encH 5 where
  len _ := rfl
  leaf x c hc := by
    simp only [encH, AV.cells, List.mem_cons, List.not_mem_nil, or_false] at hc
    rcases hc with rfl | rfl | rfl | rfl | rfl <;> first | rfl | exact x.lf
theorem rowSt : RowT Try.prog 53 116 5 56 true where
  un := Try.underlying53
  size := sz116
  bytes := by116
  agg := ag116
  zero := ⟨_, ze116, rfl⟩
  pos := by decide
  tree := rfl
theorem hxtSt : (∃ e', Try.prog.underlying 53 = some (.slice e')) ∨ Try.prog.underlying 53 = some .string := .inl ⟨_, Try.underlying53⟩
theorem litH (x : HS) (K : Heap) : aBuildSlice Try.prog K 53 1 [(0, encH x)] = some (.bs ⟨K.length, 0, 0, 1, 1, 5, true, true⟩, some (K ++ [Blk.cells 0 (encH x).cells])) := by
  have e : (encH x).cells.all AV.leaf = true := List.all_eq_true.2 fun c hc => encH_L.leaf x c hc
  have e2 : fillA (fun i => some (i * 5, 5)) (zrep 1 [.int .i64 0, .bool false, .nilS, .int .i64 0, .int .i64 0]) [(0, encH x)] = some (encH x).cells := rfl
  unfold aBuildSlice
  rw [rowSt.elem, Option.bind_some, rowSt.size, Option.bind_some, rowSt.agg, Option.bind_some, ze116, Option.bind_some]
  rw [if_pos ⟨by decide, rfl, by decide⟩]
  simp only [AV.cells] at e e2 ⊢
  rw [e2, Option.bind_some, if_pos e, if_neg (by decide)]
theorem elemH (x : HS) (K : Heap) : elemCells (K ++ [Blk.cells 0 (encH x).cells]) 5 (.bs ⟨K.length, 0, 0, 1, 1, 5, true, true⟩) = some ([x].length, cellsOf encH [x]) := by
  have hc : cellsOf encH [x] = (encH x).cells := by simp [cellsOf]
  have hg : hget (K ++ [Blk.cells 0 (encH x).cells]) K.length 0 = some (encH x).cells := by rw [hget_new rfl, if_pos rfl]
  have hw : win (encH x).cells 0 (1 * 5) = some (encH x).cells := rfl
  simp only [elemCells, if_true, hg, Option.bind_some, hw, Option.map_some, hc, List.length_cons, List.length_nil, Nat.zero_add]
theorem lenSt (K : Heap) (r v n : Nat) : aLen Try.prog K 53 (.bs ⟨r, v, 0, n, 0, 5, true, false⟩) = some (.int .i64 (n : Nat)) := by simp [aLen, Try.underlying53]
theorem hxtGs : (∃ e', Try.prog.underlying 38 = some (.slice e')) ∨ Try.prog.underlying 38 = some .string := .inl ⟨_, Try.underlying38⟩
/-- spans, cloned behind a row that is not there. -/
theorem spans_app (v : AV) (sp : List Sg) (hv : Sl encG v sp) (hs : sp.length ≤ 10000000) (prot base : Nat) (K : Heap) (hb : base ≤ K.length) :
    (sp = [] ∧ aAppend Try.prog prot K #[38, 38] .nilS v = some (.nilS, none)) ∨
    (sp ≠ [] ∧ ∃ K', aAppend Try.prog prot K #[38, 38] .nilS v = some (.bs ⟨K.length, 0, 0, sp.length, 0, 2, true, false⟩, some K') ∧ K' = K ++ [Blk.cells 0 (cellsOf encG sp)] ∧ Row encG 2 true base K' (.bs ⟨K.length, 0, 0, sp.length, 0, 2, true, false⟩) sp) := by
  by_cases h : sp = []
  · subst h
    exact .inl ⟨rfl, app_zero rowG hxtGs (.inl rfl) (hv.elems encG_T K)⟩
  · have hpos : 0 < sp.length := List.length_pos_iff.2 h
    have hel : elemCells K 2 v = some (sp.length, cellsOf encG sp) := hv.elems encG_T K
    have happ := (EncL.mk encG_T.len encG_T.leaf).app0 (prot := prot) rowG hxtGs hel hpos (by simp [roomy]; omega)
    exact .inr ⟨h, _, happ, rfl, .inr ⟨_, _, rfl, hb, by rw [hget_new rfl, if_pos rfl], rfl⟩⟩
def encSt (s : St) : AV := .agg [.int .i64 s.kind, .bool s.no, slv encG s.sp, .int .i64 s.one, .int .i64 s.two]
theorem slvG_leaf (l : List Sg) : (slv encG l).leaf = true := by cases l <;> rfl
theorem slvG_still (l : List Sg) : still (slv encG l) = true := by cases l <;> rfl
theorem encSt_T : EncT encSt 5 true where
  len _ := rfl
  leaf x c hc := by
    simp only [encSt, AV.cells, List.mem_cons, List.not_mem_nil, or_false] at hc
    rcases hc with rfl | rfl | rfl | rfl | rfl <;> first | rfl | exact slvG_leaf _
  still x c hc := by
    simp only [encSt, AV.cells, List.mem_cons, List.not_mem_nil, or_false] at hc
    rcases hc with rfl | rfl | rfl | rfl | rfl <;> first | rfl | exact slvG_still _
  shape _ := rfl
end Go.Proofs.Ytoblikhnbddfmaa
/-! Raw functions whose heap is known by what holds of it alone; rows of what leads elsewhere. -/
