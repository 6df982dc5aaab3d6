import Derived.Test.YtoblikhnbddfmaaAbsSeat
import Derived.Test.YtoblikhnbddfmaaAbsSet
import Derived.Test.YtoblikhnbddfmaaAbsRows
/-! Raw functions whose heap is known by what holds of it alone; rows of what leads elsewhere. -/
set_option linter.unusedSimpArgs false
namespace Go.Abs
open Go
/-- a raw call of which what is known of the heap behind it is said. -/
theorem raw_slimE {C : Cfg} {prot : Nat} {f : FuncId} {args : List AV} {H : Heap} {fn : Func} {c : Code} {v : AV} {P : Heap → Prop} (hok : C.ok f = true) (hp : C.pure f = false) (hsh : C.shut f = false) (htr : C.trim f = false) (hfn : C.P.funcs[f]? = some fn) (hb : fn.body.map (slim C) = some c)
    (hl : args.length ≤ fn.ntmps)
    (h : ∀ fr, fr.length = fn.ntmps → Has fr 0 args → ∃ H', P H' ∧ R ⟨C, prot, fn.results.toList, .raw⟩ c [] fr H (v, some H')) : ∃ H', P H' ∧ aLim C prot f args H = some (v, some H') := by
  rw [Option.map_eq_some_iff] at hb
  obtain ⟨c0, hb, rfl⟩ := hb
  have h := entered (Q := fun fr => ∃ H', P H' ∧ R ⟨C, prot, fn.results.toList, .raw⟩ (slim C c0) [] fr H (v, some H')) hl h
  obtain ⟨H1, hP, h⟩ := h
  have h := R_slim (X := ⟨C, prot, fn.results.toList, .raw⟩) h
  refine ⟨H1, hP, ?_⟩
  obtain ⟨e, fr', H', h1, h2⟩ := h
  have h1' := aCode_conv (aLim_conv C) _ h1
  have hfin : Fin ⟨C, prot, fn.results.toList, .raw⟩ fr' H' (v, some H1) ∧ ∀ id, e ≠ .exit id := by
    cases e with
    | normal => exact ⟨h2, fun _ h => by cases h⟩
    | ret => exact ⟨h2, fun _ h => by cases h⟩
    | exit id => exact h2.elim
  obtain ⟨⟨l, hr, he⟩, hex⟩ := hfin
  rw [he]
  refine aLim_of ?_
  obtain ⟨n0, h0⟩ := h1'
  refine ⟨n0 + 1, fun n hn => ?_⟩
  obtain ⟨n, rfl⟩ : ∃ j, n = j + 1 := ⟨n - 1, by omega⟩
  have h3 := h0 n (by omega)
  cases e with
  | exit id => exact absurd rfl (hex id)
  | normal => simp only [aCall, hok, Bool.true_eq_false, if_false, hfn, hb, hp, hsh, htr, Bool.false_eq_true, Option.bind_some, aBody, h3, hr, Option.map_some]
  | ret => simp only [aCall, hok, Bool.true_eq_false, if_false, hfn, hb, hp, hsh, htr, Bool.false_eq_true, Option.bind_some, aBody, h3, hr, Option.map_some]
theorem loop_ruleE {X : Ctx} {c : Code} {κ : List K} {v : AV} {P : Heap → Prop} (Inv : Nat → List AV → Heap → Prop)
    (step : ∀ m fr H, Inv m fr H → (∀ fr' H' m', m' < m → Inv m' fr' H' → ∃ Z, P Z ∧ U X (.loop c :: κ) .normal fr' H' (v, some Z)) → ∃ Z, P Z ∧ R X c (.loop c :: κ) fr H (v, some Z)) :
    ∀ (m : Nat) (fr : List AV) (H : Heap), Inv m fr H → ∃ Z, P Z ∧ R X (.loop c) κ fr H (v, some Z) := by
  intro m
  induction m using Nat.strongRecOn with
  | _ m ih =>
    intro fr H h
    simp only [R_loop]
    refine step m fr H h fun fr' H' m' hm h' => ?_
    have := ih m' hm fr' H' h'
    simp only [U_loop, ← R_loop]
    exact this
theorem ex_draw {D : Prop} {P Q : Heap → Prop} (hd : D) (h : ∃ Z, P Z ∧ Q Z) : ∃ Z, P Z ∧ D ∧ Q Z := by
  obtain ⟨Z, h1, h2⟩ := h
  exact ⟨Z, h1, hd, h2⟩
/-- how an element lies that may lead elsewhere. -/
structure EncL {α : Type} (enc : α → AV) (sz : Nat) : Prop where
  len : ∀ x, (enc x).cells.length = sz
  leaf : ∀ x, ∀ c ∈ (enc x).cells, c.leaf = true
theorem EncL.length {α : Type} {enc : α → AV} {sz : Nat} (he : EncL enc sz) (l : List α) : (cellsOf enc l).length = l.length * sz := by
  induction l with
  | nil => simp [cellsOf]
  | cons x r ih =>
    simp only [cellsOf, List.flatMap_cons, List.length_append, List.length_cons, he.len] at ih ⊢
    rw [ih, Nat.add_mul]; omega
theorem EncL.leafs {α : Type} {enc : α → AV} {sz : Nat} (he : EncL enc sz) (l : List α) : (cellsOf enc l).all AV.leaf = true := by
  rw [List.all_eq_true]
  intro c hc
  obtain ⟨x, _, hx⟩ := List.mem_flatMap.1 hc
  exact he.leaf x c hx
theorem EncL.app {α : Type} {enc : α → AV} {sz : Nat} {ag : Bool} (he : EncL enc sz) {P : Program} {t xt e : TypeId} {by_ prot : Nat} (ht : RowT P t e sz by_ ag) (hxt : (∃ e', P.underlying xt = some (.slice e')) ∨ P.underlying xt = some .string) {x : AV} {l m : List α} {H : Heap} {b ver : Nat}
    (hg : hget H b ver = some (cellsOf enc l)) (hv4 : ver % 4 = 0) (hx : elemCells H sz x = some (m.length, cellsOf enc m)) (hm : 0 < m.length) (hr : roomy (l.length + m.length) by_ = true) (hp : prot ≤ b) :
    aAppend P prot H #[t, xt] (.bs ⟨b, ver, 0, l.length, 0, sz, ag, false⟩) x = some (.bs ⟨b, ver + 4, 0, l.length + m.length, 0, sz, ag, false⟩, some (H.set b (Blk.cells (ver + 4) (cellsOf enc (l ++ m))))) := by
  obtain ⟨z, hz, hzl⟩ := ht.zero
  have hm0 : ¬ m.length = 0 := by omega
  have hlf := he.leafs m
  have hw : win (cellsOf enc l) 0 (l.length * sz) = some (cellsOf enc l) := by
    have := he.length l
    simp only [win, Nat.zero_add, List.drop_zero]
    rw [if_pos (by omega), List.take_of_length_le (by omega)]
  rw [cellsOf_append]
  rcases hxt with ⟨e', hu⟩ | hu <;> unfold aAppend <;>
  simp only [List.getElem?_toArray, List.getElem?_cons_zero, List.getElem?_cons_succ, Option.bind_some, ht.elem, ht.size, ht.bytes, ht.agg, hz, hzl, hu, hx, ne_eq, not_true_eq_false, if_false, hlf, if_true, hm0, hr, hg, hw, Bool.false_eq_true,
    hp, rowOk_zero hv4, and_self]
theorem EncL.app0 {α : Type} {enc : α → AV} {sz : Nat} {ag : Bool} (he : EncL enc sz) {P : Program} {t xt e : TypeId} {by_ prot : Nat} (ht : RowT P t e sz by_ ag) (hxt : (∃ e', P.underlying xt = some (.slice e')) ∨ P.underlying xt = some .string) {x : AV} {m : List α} {H : Heap}
    (hx : elemCells H sz x = some (m.length, cellsOf enc m)) (hm : 0 < m.length) (hr : roomy m.length by_ = true) :
    aAppend P prot H #[t, xt] .nilS x = some (.bs ⟨H.length, 0, 0, m.length, 0, sz, ag, false⟩, some (H ++ [Blk.cells 0 (cellsOf enc m)])) := by
  obtain ⟨z, hz, hzl⟩ := ht.zero
  have hm0 : ¬ m.length = 0 := by omega
  have hlf := he.leafs m
  rcases hxt with ⟨e', hu⟩ | hu <;> unfold aAppend <;>
  simp only [ht.row0, List.getElem?_toArray, List.getElem?_cons_zero, List.getElem?_cons_succ, Option.bind_some, ht.elem, ht.size, ht.bytes, ht.agg, hz, hzl, hu, hx, ne_eq, not_true_eq_false, if_false, hlf, if_true, hm0, hr]
/-- what does not change between two heaps: all but two blocks. -/
structure Frm (H H' : Heap) (b rb : Nat) : Prop where
  len : H.length ≤ H'.length
  keep : ∀ z ver cs, z ≠ b → z ≠ rb → hget H z ver = some cs → hget H' z ver = some cs
theorem Frm.refl (H : Heap) (b rb : Nat) : Frm H H b rb := ⟨Nat.le_refl _, fun _ _ _ _ _ h => h⟩
theorem Frm.trans {H K L : Heap} {b rb : Nat} (h : Frm H K b rb) (k : Frm K L b rb) : Frm H L b rb := ⟨Nat.le_trans h.len k.len, fun z ver cs h1 h2 h3 => k.keep z ver cs h1 h2 (h.keep z ver cs h1 h2 h3)⟩
theorem Frm.more (H : Heap) (b rb : Nat) (x : List Blk) : Frm H (H ++ x) b rb := ⟨by simp, fun _ _ _ _ _ h => hget_mono h x⟩
theorem Frm.set1 (H : Heap) (b rb : Nat) (k : Blk) : Frm H (H.set b k) b rb := ⟨by simp, fun z _ _ h1 _ h => by rw [hget_set_ne h1]; exact h⟩
theorem Frm.set2 (H : Heap) (b rb : Nat) (k : Blk) : Frm H (H.set rb k) b rb := ⟨by simp, fun z _ _ _ h2 h => by rw [hget_set_ne h2]; exact h⟩
theorem Frm.row {α : Type} {enc : α → AV} {sz : Nat} {ag : Bool} {base b rb : Nat} {H K : Heap} {v : AV} {l : List α} (f : Frm H K b rb) (hb : b < base) (hr : rb < base) (h : Row enc sz ag base H v l) : Row enc sz ag base K v l := by
  rcases h with h | ⟨c, ver, h1, h2, h3, h4⟩
  · exact .inl h
  · exact .inr ⟨c, ver, h1, h2, f.keep _ _ _ (by omega) (by omega) h3, h4⟩
end Go.Abs
