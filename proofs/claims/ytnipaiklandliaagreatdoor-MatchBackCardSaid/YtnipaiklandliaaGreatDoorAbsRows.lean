import Derived.Test.YtnipaiklandliaaGreatDoorAbsWalk
namespace Go.Abs
open Go
structure RowT (P : Program) (t e : TypeId) (sz by_ : Nat) (ag : Bool) : Prop where
 un : P.underlying t = some (.slice e)
 size : sizeT P e = some sz
 bytes : bytesT P e = some by_
 agg : isAggT P e = some ag
 zero : ∃ z, zeroT P e = some z ∧ z.cells.length = sz
 pos : 0 < sz
 tree : (ag || sz == 1) = true
 nb : e ≠ 5 := by decide
theorem RowT.row0 {P : Program} {t e : TypeId} {sz by_ : Nat} {ag : Bool} (h : RowT P t e sz by_ ag) : rowV e = 0 := by
 have := h.nb
 unfold rowV; rw [if_neg this]
theorem RowT.elem {P : Program} {t e : TypeId} {sz by_ : Nat} {ag : Bool} (h : RowT P t e sz by_ ag) : sliceElem P t = some e := by
 unfold sliceElem; rw [h.un]
structure EncT {α : Type} (enc : α → AV) (sz : Nat) (ag : Bool) : Prop where
 len : ∀ x, (enc x).cells.length = sz
 leaf : ∀ x, ∀ c ∈ (enc x).cells, c.leaf = true
 still : ∀ x, ∀ c ∈ (enc x).cells, still c = true
 shape : ∀ x, enc x = if ag then .agg (enc x).cells else (enc x).cells.headD .nil
def cellsOf {α : Type} (enc : α → AV) (l : List α) : List AV := l.flatMap fun x => (enc x).cells
theorem cellsOf_length {α : Type} {enc : α → AV} {sz : Nat} {ag : Bool} (he : EncT enc sz ag) (l : List α) : (cellsOf enc l).length = l.length * sz := by
 induction l with
 | nil => simp [cellsOf]
 | cons x r ih =>
  simp only [cellsOf, List.flatMap_cons, List.length_append, List.length_cons, he.len] at ih ⊢
  rw [ih, Nat.add_mul]; omega
theorem cellsOf_append {α : Type} (enc : α → AV) (l m : List α) : cellsOf enc (l ++ m) = cellsOf enc l ++ cellsOf enc m := by simp [cellsOf]
theorem cellsOf_leaf {α : Type} {enc : α → AV} {sz : Nat} {ag : Bool} (he : EncT enc sz ag) (l : List α) : (cellsOf enc l).all AV.leaf = true := by
 rw [List.all_eq_true]
 intro c hc
 obtain ⟨x, _, hx⟩ := List.mem_flatMap.1 hc
 exact he.leaf x c hx
theorem chunk_cellsOf {α : Type} {enc : α → AV} {sz : Nat} {ag : Bool} (he : EncT enc sz ag) (h0 : 0 < sz) (l : List α) : chunk sz ag l.length (cellsOf enc l) = l.map enc := by
 induction l with
 | nil => rfl
 | cons x r ih =>
  have hl := he.len x
  simp only [List.length_cons, chunk, cellsOf, List.flatMap_cons, List.map_cons] at ih ⊢
  rw [List.drop_append_of_le_length (by omega), List.drop_eq_nil_of_le (by omega), List.nil_append, ih]
  congr 1
  refine Eq.trans ?_ (he.shape x).symm
  generalize (enc x).cells = cs at hl
  cases ag with
  | true => simp only [if_true]; rw [List.take_append_of_le_length (by omega), List.take_of_length_le (by omega)]
  | false =>
   simp only [Bool.false_eq_true, if_false]
   cases cs with
   | nil => simp at hl; omega
   | cons c cs => rfl
def Row {α : Type} (enc : α → AV) (sz : Nat) (ag : Bool) (base : Nat) (H : Heap) (v : AV) (l : List α) : Prop :=
 (v = .nilS ∧ l = []) ∨ ∃ b ver, v = .bs ⟨b, ver, 0, l.length, 0, sz, ag, false⟩ ∧ base ≤ b ∧ hget H b ver = some (cellsOf enc l) ∧ ver % 4 = 0
def slv {α : Type} (enc : α → AV) : List α → AV
 | [] => .nilS
 | l => .vs (l.map enc) false
theorem slv_sl {α : Type} (enc : α → AV) (l : List α) : Sl enc (slv enc l) l := by
 cases l with
 | nil => exact .nil
 | cons x r => exact .vs (x :: r) false
section
variable {α : Type} {enc : α → AV} {sz : Nat} {ag : Bool} {base : Nat} {H : Heap} {v : AV} {l : List α}
theorem Row.nil : Row enc sz ag base H .nilS [] := .inl ⟨rfl, rfl⟩
theorem hget_lt {H : Heap} {b ver : Nat} {cs : List AV} (h : hget H b ver = some cs) : b < H.length := by
 unfold hget at h
 split at h
 ·rename_i hb; exact (List.getElem?_eq_some_iff.1 hb).1
 ·cases h
theorem hget_mono {H : Heap} {b ver : Nat} {cs : List AV} (h : hget H b ver = some cs) (x : List Blk) : hget (H ++ x) b ver = some cs := by
 rw [hget_old (hget_lt h)]; exact h
theorem Row.more (h : Row enc sz ag base H v l) (x : List Blk) : Row enc sz ag base (H ++ x) v l := by
 rcases h with h | ⟨b, ver, h1, h2, h3, hv4⟩
 ·exact .inl h
 ·exact .inr ⟨b, ver, h1, h2, hget_mono h3 x, hv4⟩
theorem Row.len (h : Row enc sz ag base H v l) {P : Program} {t e : TypeId} (hu : P.underlying t = some (.slice e)) : aLen P H t v = some (.int .i64 (l.length : Nat)) := by
 rcases h with ⟨rfl, rfl⟩ | ⟨b, ver, rfl, h2, h3, hv4⟩
 ·simp [aLen, hu]
 ·simp [aLen, hu]
theorem Row.frozen (h : Row enc sz ag base H v l) (he : EncT enc sz ag) (h0 : 0 < sz) (hag : (ag || sz == 1) = true) (hne : v = .nilS ∨ l ≠ []) : Frz H base v (slv enc l) := by
 rcases h with ⟨rfl, rfl⟩ | ⟨b, ver, rfl, h2, h3, hv4⟩
 ·exact .still rfl
 ·have hw : win (cellsOf enc l) 0 (l.length * sz) = some (cellsOf enc l) := by
   have := cellsOf_length he l
   simp only [win, Nat.zero_add, List.drop_zero]
   rw [if_pos (by omega), List.take_of_length_le (by omega)]
  have hst : FrzL H base (cellsOf enc l) (cellsOf enc l) := .still fun c hc => by
   obtain ⟨x, _, hx⟩ := List.mem_flatMap.1 hc
   exact he.still x c hx
  have := Frz.bs (H := H) (base := base) (s := ⟨b, ver, 0, l.length, 0, sz, ag, false⟩) h2 h0 hag h3 hw hst
  rw [chunk_cellsOf he h0] at this
  cases l with
  | nil =>
    rcases hne with h | h
    ·cases h
    ·exact absurd rfl h
  | cons x r => exact this
theorem Row.appB (h : Row enc sz ag base H v l) (he : EncT enc sz ag) {P : Program} {t xt e : TypeId} {by_ prot : Nat} (ht : RowT P t e sz by_ ag) (hxt : (∃ e', P.underlying xt = some (.slice e')) ∨ P.underlying xt = some .string) {x : AV} {m : List α}
  (hx : elemCells H sz x = some (m.length, cellsOf enc m)) (hm : 0 < m.length) (hr : roomy (l.length + m.length) by_ = true) (hp : prot ≤ base) (hb : base ≤ H.length) :
  ∃ v' H', aAppend P prot H #[t, xt] v x = some (v', some H') ∧ Row enc sz ag base H' v' (l ++ m) ∧ H.length ≤ H'.length ∧ v' ≠ .nilS ∧
   (∀ b ver cs, hget H b ver = some cs → (∀ s, v = .bs s → s.b ≠ b) → hget H' b ver = some cs) ∧ ∀ s', v' = .bs s' → (∃ s, v = .bs s ∧ s'.b = s.b) ∨ s'.b = H.length := by
 obtain ⟨z, hz, hzl⟩ := ht.zero
 have hm0 : ¬ m.length = 0 := by omega
 have hlf := cellsOf_leaf he m
 rcases h with ⟨rfl, rfl⟩ | ⟨b, ver, rfl, h2, h3, hv4⟩
 ·refine ⟨.bs ⟨H.length, 0, 0, m.length, 0, sz, ag, false⟩, H ++ [Blk.cells 0 (cellsOf enc m)], ?_, .inr ⟨H.length, 0, by simp, hb, by rw [hget_new rfl]; simp, rfl⟩, by simp, by simp, fun b ver cs hg _ => hget_mono hg _, fun s' h => .inr (by cases h; rfl)⟩
  simp only [List.length_nil, Nat.zero_add] at hr
  rcases hxt with ⟨e', hu⟩ | hu <;> unfold aAppend <;>
  simp only [ht.row0, List.getElem?_toArray, List.getElem?_cons_zero, List.getElem?_cons_succ, Option.bind_some, ht.elem, ht.size, ht.bytes, ht.agg, hz, hzl, hu, hx, ne_eq, not_true_eq_false, if_false, hlf, if_true, hm0, hr]
 ·refine ⟨.bs ⟨b, ver + 4, 0, l.length + m.length, 0, sz, ag, false⟩, H.set b (Blk.cells (ver + 4) (cellsOf enc l ++ cellsOf enc m)), ?_, .inr ⟨b, ver + 4, by simp, h2, ?_, by omega⟩, by simp, by simp, fun b' ver' cs hg hs => ?_, fun s' h => .inl ⟨_, rfl, by cases h; rfl⟩⟩
  ·have hw : win (cellsOf enc l) 0 (l.length * sz) = some (cellsOf enc l) := by
    have := cellsOf_length he l
    simp only [win, Nat.zero_add, List.drop_zero]
    rw [if_pos (by omega), List.take_of_length_le (by omega)]
   rcases hxt with ⟨e', hu⟩ | hu <;> unfold aAppend <;>
   simp only [List.getElem?_toArray, List.getElem?_cons_zero, List.getElem?_cons_succ, Option.bind_some, ht.elem, ht.size, ht.bytes, ht.agg, hz, hzl, hu, hx, ne_eq, not_true_eq_false, if_false, hlf, if_true, hm0, hr, h3, hw, Bool.false_eq_true,
    Nat.le_trans hp h2, rowOk_zero hv4, and_self]
  ·rw [cellsOf_append]
   simp [hget, hget_lt h3]
  ·have hne : b ≠ b' := hs _ rfl
   unfold hget at hg ⊢
   rw [List.getElem?_set_ne hne]; exact hg
theorem Row.app (h : Row enc sz ag base H v l) (he : EncT enc sz ag) {P : Program} {t xt e : TypeId} {by_ prot : Nat} (ht : RowT P t e sz by_ ag) (hxt : (∃ e', P.underlying xt = some (.slice e')) ∨ P.underlying xt = some .string) {x : AV} {m : List α}
  (hx : elemCells H sz x = some (m.length, cellsOf enc m)) (hm : 0 < m.length) (hr : roomy (l.length + m.length) by_ = true) (hp : prot ≤ base) (hb : base ≤ H.length) :
  ∃ v' H', aAppend P prot H #[t, xt] v x = some (v', some H') ∧ Row enc sz ag base H' v' (l ++ m) ∧ H.length ≤ H'.length ∧ v' ≠ .nilS ∧
   ∀ b ver cs, hget H b ver = some cs → (∀ s, v = .bs s → s.b ≠ b) → hget H' b ver = some cs := by
 obtain ⟨v', H', h1, h2, h3, h4, h5, _⟩ := h.appB he ht hxt hx hm hr hp hb
 exact ⟨v', H', h1, h2, h3, h4, h5⟩
theorem elem_vs {H : Heap} (he : EncT enc sz ag) (m : List α) (full : Bool) : elemCells H sz (.vs (m.map enc) full) = some (m.length, cellsOf enc m) := by
 have : (m.map enc).all (fun v => v.cells.length == sz) = true := by
  rw [List.all_eq_true]
  intro y hy
  obtain ⟨x, _, rfl⟩ := List.mem_map.1 hy
  simp [he.len]
 simp only [elemCells, this, if_true, List.length_map]
 simp [cellsOf, List.flatMap_map]
end
theorem Sl.elems {α : Type} {enc : α → AV} {sz : Nat} {ag : Bool} {v : AV} {l : List α} (h : Sl enc v l) (he : EncT enc sz ag) (H : Heap) : elemCells H sz v = some (l.length, cellsOf enc l) := by
 cases h with
 | nil => rfl
 | vs l full => exact elem_vs he l full
theorem app_zero {P : Program} {prot : Nat} {H : Heap} {t xt e : TypeId} {sz by_ : Nat} {ag : Bool} (ht : RowT P t e sz by_ ag) (hxt : (∃ e', P.underlying xt = some (.slice e')) ∨ P.underlying xt = some .string) {s x : AV}
  (hs : s = .nilS ∨ (∃ es f, s = .vs es f) ∨ ∃ b, s = .bs b) (hx : elemCells H sz x = some (0, [])) : aAppend P prot H #[t, xt] s x = some (s, none) := by
 obtain ⟨z, hz, hzl⟩ := ht.zero
 rcases hs with rfl | ⟨es, f, rfl⟩ | ⟨b, rfl⟩ <;> rcases hxt with ⟨e', hu⟩ | hu <;> unfold aAppend <;>
 simp only [List.getElem?_toArray, List.getElem?_cons_zero, List.getElem?_cons_succ, Option.bind_some, ht.elem, ht.size, ht.bytes, ht.agg, hz, hzl, hu, hx, ne_eq, not_true_eq_false, if_false, List.all_nil, if_true]
theorem app_full {α : Type} {enc : α → AV} {P : Program} {prot : Nat} {H : Heap} {t xt e : TypeId} {sz by_ : Nat} {ag : Bool} (ht : RowT P t e sz by_ ag) (hxt : (∃ e', P.underlying xt = some (.slice e')) ∨ P.underlying xt = some .string) (he : EncT enc sz ag)
  (l : List α) {m : List α} {x : AV} (hx : elemCells H sz x = some (m.length, cellsOf enc m)) (hm : 0 < m.length) (hr : roomy (l.length + m.length) by_ = true) :
  aAppend P prot H #[t, xt] (.vs (l.map enc) true) x = some (.bs ⟨H.length, 0, 0, (l ++ m).length, 0, sz, ag, false⟩, some (H ++ [Blk.cells 0 (cellsOf enc (l ++ m))])) := by
 obtain ⟨z, hz, hzl⟩ := ht.zero
 have hm0 : ¬ m.length = 0 := by omega
 have h1 := elem_vs (H := H) he l true
 have h2 : (l.map enc).all (fun v => v.cells.length == sz) = true := by
  rw [List.all_eq_true]
  intro y hy
  obtain ⟨x, _, rfl⟩ := List.mem_map.1 hy
  simp [he.len]
 have h3 : (l.map enc).flatMap AV.cells = cellsOf enc l := by simp [cellsOf, List.flatMap_map]
 rcases hxt with ⟨e', hu⟩ | hu <;> unfold aAppend <;>
 simp only [List.getElem?_toArray, List.getElem?_cons_zero, List.getElem?_cons_succ, Option.bind_some, ht.elem, ht.size, ht.bytes, ht.agg, hz, hzl, hu, hx, ne_eq, not_true_eq_false, if_false, cellsOf_leaf he m, cellsOf_leaf he l, if_true, hm0, List.length_map, hr, h2, h3, Bool.and_self, cellsOf_append, List.length_append]
theorem lit1 {α : Type} {enc : α → AV} {P : Program} {H : Heap} {t e : TypeId} {sz by_ : Nat} {ag : Bool} (ht : RowT P t e sz by_ ag) (he : EncT enc sz ag) {z : AV} (hz : zeroT P e = some z) (hs : litOk z ag sz = true) (hsz : sz ≤ 16777216) (x : α)
  (hp : AV.plL (enc x).cells = true) : aBuildSlice P H t 1 [(0, enc x)] = some (.vs ([x].map enc) true, none) := by
 obtain ⟨z', hz', hzl⟩ := ht.zero
 rw [hz] at hz'; cases hz'
 have h1 : (zrep 1 z.cells).length = sz := by simp [zrep, hzl]
 have h2 : fillA (fun i => some (i * sz, sz)) (zrep 1 z.cells) [(0, enc x)] = some (enc x).cells := by
  simp only [fillA, Option.bind_some, he.len, Nat.zero_mul, Nat.zero_add, h1, Nat.le_refl, and_self, if_true, splice, List.take_zero, List.nil_append]
  rw [List.drop_eq_nil_of_le (by omega), List.append_nil]
 have h3 : (enc x).cells.all AV.leaf = true := List.all_eq_true.2 (he.leaf x)
 have h4 : chunk sz ag 1 (enc x).cells = [enc x] := by
  have := chunk_cellsOf he ht.pos [x]
  simpa [cellsOf] using this
 unfold aBuildSlice
 simp only [ht.elem, ht.size, ht.agg, hz, Option.bind_some, Nat.one_mul, hsz, hzl, ht.pos, and_self, if_true, h2, h3, hs, hp, h4, List.map_cons, List.map_nil]
end Go.Abs

