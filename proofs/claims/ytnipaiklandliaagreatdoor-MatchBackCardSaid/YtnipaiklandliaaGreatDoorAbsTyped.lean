import Derived.Test.YtnipaiklandliaaGreatDoorAbsLaw
import Derived.Test.YtnipaiklandliaaGreatDoorAbsWalk
import Derived.Test.YtnipaiklandliaaGreatDoorAbsRows
set_option linter.unusedSimpArgs false
namespace Go.Abs
open Go
section
variable {P : Program} {t e : TypeId} {al : List AV}
theorem HasT.int1 {k : IntKind} (hu : P.underlying t = some (.int k)) (h : HasT P t al) : ∃ n, al = [.int k n] ∧ (Lit.int k n).wf = true := by
 cases h with
 | int k' n hu' hw => rw [hu] at hu'; cases hu'; exact ⟨n, rfl, hw⟩
 | bool b hu' => rw [hu] at hu'; cases hu'
 | str s hu' hs => rw [hu] at hu'; cases hu'
 | nilS hu' => rw [hu] at hu'; cases hu'
 | vs es hu' hl h => rw [hu] at hu'; cases hu'
 | struct fs parts hu' hl h => rw [hu] at hu'; cases hu'
theorem HasT.str1 (hu : P.underlying t = some .string) (h : HasT P t al) : ∃ s, al = [.str s] ∧ s.length ≤ maxLen := by
 cases h with
 | str s hu' hs => exact ⟨s, rfl, hs⟩
 | bool b hu' => rw [hu] at hu'; cases hu'
 | int k' n hu' hw => rw [hu] at hu'; cases hu'
 | nilS hu' => rw [hu] at hu'; cases hu'
 | vs es hu' hl h => rw [hu] at hu'; cases hu'
 | struct fs parts hu' hl h => rw [hu] at hu'; cases hu'
inductive HasFs (P : Program) : List Field → List (List AV) → Prop where
 | nil : HasFs P [] []
 | cons {f : Field} {fs : List Field} {p : List AV} {ps : List (List AV)} (h : HasT P f.type p) (hr : HasFs P fs ps) : HasFs P (f :: fs) (p :: ps)
theorem HasFs.inv {f : Field} {fs : List Field} {ps : List (List AV)} (h : HasFs P (f :: fs) ps) : ∃ p r, ps = p :: r ∧ HasT P f.type p ∧ HasFs P fs r := by
 cases h with
 | cons h hr => exact ⟨_, _, rfl, h, hr⟩
theorem HasFs.done {ps : List (List AV)} (h : HasFs P [] ps) : ps = [] := by cases h; rfl
theorem HasFs.of : ∀ {fs : List Field} {ps : List (List AV)}, ps.length = fs.length → (∀ i (h : i < ps.length) (h' : i < fs.length), HasT P fs[i].type ps[i]) → HasFs P fs ps
 | [], [], _, _ => .nil
 | f :: fs, p :: ps, hl, h => .cons (h 0 (by simp) (by simp)) (HasFs.of (by simpa using hl) fun i h1 h2 => by have := h (i + 1) (by simpa using h1) (by simpa using h2); simpa only [List.getElem_cons_succ] using this)
 | [], _ :: _, hl, _ => by simp at hl
 | _ :: _, [], hl, _ => by simp at hl
theorem HasT.struct1 {fs : Array Field} (hu : P.underlying t = some (.struct fs)) (h : HasT P t al) : ∃ ps, al = ps.flatten ∧ HasFs P fs.toList ps := by
 cases h with
 | str s hu' hs => rw [hu] at hu'; cases hu'
 | bool b hu' => rw [hu] at hu'; cases hu'
 | int k' n hu' hw => rw [hu] at hu'; cases hu'
 | nilS hu' => rw [hu] at hu'; cases hu'
 | vs es hu' hl h => rw [hu] at hu'; cases hu'
 | struct fs' parts hu' hl h => rw [hu] at hu'; cases hu'; exact ⟨parts, rfl, .of hl h⟩
theorem HasTV.struct {fs : Array Field} {x : AV} (hu : P.underlying t = some (.struct fs)) (h : HasTV P t x) : ∃ ps, x = .agg ps.flatten ∧ HasFs P fs.toList ps := by
 obtain ⟨al, h, rfl⟩ := h
 obtain ⟨ps, rfl, hf⟩ := h.struct1 hu
 exact ⟨ps, by simp [mkv, isAggT, hu], hf⟩
theorem HasTV.rows {α : Type} {enc : α → AV} {good : α → Prop} {x : AV} (hu : P.underlying t = some (.slice e)) (he : ∀ y, HasTV P e y → ∃ a, y = enc a ∧ good a) (h : HasTV P t x) :
  ∃ l : List α, Sl enc x l ∧ l.length ≤ maxLen ∧ ∀ a ∈ l, good a := by
 rcases h.slice hu with rfl | ⟨es, rfl, hl, hes⟩
 ·exact ⟨[], .nil, by simp, by simp⟩
 ·have : ∃ l : List α, es = l.map enc ∧ ∀ a ∈ l, good a := by
   clear hl h
   induction es with
   | nil => exact ⟨[], rfl, by simp⟩
   | cons y r ih =>
    obtain ⟨a, rfl, ha⟩ := he y (hes y (by simp))
    obtain ⟨l, rfl, hg⟩ := ih fun z hz => hes z (by simp [hz])
    exact ⟨a :: l, rfl, by simpa using ⟨ha, hg⟩⟩
  obtain ⟨l, rfl, hg⟩ := this
  exact ⟨l, .vs _ _, by simpa using hl, hg⟩
end
theorem pureOf_bind {α β : Type} {P : Program} (s : Sem α) (f : α → Sem β) : pureOf P (s >>= f) = (pureOf P s).bind fun a => pureOf P (f a) := by
 show pureOf P (Sem.bind s f) = _
 induction s with
 | pure x => rfl
 | program k ih => simp only [Sem.bind, pureOf]; exact ih P
 | _ => simp [Sem.bind, pureOf]
theorem pureOf_underlying {P : Program} {t : TypeId} {d : TypeDesc} (h : P.underlying t = some d) : pureOf P (underlying t) = some d := by
 simp only [underlying, pureOf_bind]
 show (some P).bind _ = _
 simp only [Option.bind_some, h]
 rfl
theorem pureOf_pure {α : Type} {P : Program} (x : α) : pureOf P (pure x) = some x := rfl
theorem equalIn_bool {P : Program} {t : TypeId} (hu : P.underlying t = some .bool) (d : Nat) (a b : Bool) : pureOf P (Op.equalIn (d + 1) t (.bool a) (.bool b)) = some (a == b) := by
 rw [Op.equalIn, pureOf_bind, pureOf_underlying hu]
 rfl
theorem equalIn_int {P : Program} {t : TypeId} {k : IntKind} (hu : P.underlying t = some (.int k)) (d : Nat) (a b : Int) : pureOf P (Op.equalIn (d + 1) t (.int k a) (.int k b)) = some (a == b) := by
 rw [Op.equalIn, pureOf_bind, pureOf_underlying hu]
 simp [pureOf_pure]
theorem equalIn_str {P : Program} {t : TypeId} (hu : P.underlying t = some .string) (d : Nat) (a b : ByteArray) : pureOf P (Op.equalIn (d + 1) t (.string a) (.string b)) = some (a == b) := by
 rw [Op.equalIn, pureOf_bind, pureOf_underlying hu]
 rfl
section
variable {P : Program} {t : TypeId} {xo yo : Operand}
theorem bin_eqb (hu : P.underlying t = some .bool) (a b : Bool) : aBin P .eql t xo yo (.bool a) (.bool b) = some (.bool (a == b)) := by
 simp only [aBin, nilNe_bool, Bool.false_eq_true, if_false]
 simp [toV, toV1, toV0, eqGuard, binOp]
 have := equalIn_bool hu 9999 a b
 show (pureOf P (do let e ← Op.equalIn (9999 + 1) t (.bool a) (.bool b); pure (Value.bool e))).bind ofV = _
 rw [pureOf_bind, this]
 rfl
theorem bin_neb (hu : P.underlying t = some .bool) (a b : Bool) : aBin P .neq t xo yo (.bool a) (.bool b) = some (.bool (!(a == b))) := by
 simp only [aBin, nilNe_bool, Bool.false_eq_true, if_false]
 simp [toV, toV1, toV0, eqGuard, binOp]
 have := equalIn_bool hu 9999 a b
 show (pureOf P (do let e ← Op.equalIn (9999 + 1) t (.bool a) (.bool b); pure (Value.bool (!e)))).bind ofV = _
 rw [pureOf_bind, this]
 rfl
end
theorem Sl.pre {α : Type} {enc : α → AV} {v : AV} {l : List α} (h : Sl enc v l) {P : Program} {t e : TypeId} {sz n : Nat} {k : IntKind} (hu : P.underlying t = some (.slice e)) (hsz : sizeT P e = some sz)
  (he : ∀ x, (enc x).cells.length = sz) (hn : n ≤ l.length) : ∃ v', aSlice P t v none (some (.int k (n : Nat))) none = some v' ∧ Sl enc v' (l.take n) := by
 cases h with
 | nil =>
  have : n = 0 := by simpa using hn
  subst this
  exact ⟨.nilS, by simp [aSlice, hu, hsz, aBounds, asNat, optInt], .nil⟩
 | vs l full =>
  have h1 : ((l.map enc).all fun v => v.cells.length == sz) = true := by simp [he]
  refine ⟨.vs ((l.take n).map enc) (fullOf full n l.length none), ?_, .vs _ _⟩
  simp only [aSlice, hu, hsz, Option.bind_some, h1, if_true]
  simp [aBounds, asNat, optInt, hn, List.map_take]
section
variable {P : Program} {t s d : TypeId} {xo yo : Operand}
theorem conv_int {k k' : IntKind} (h1 : P.underlying s = some (.int k)) (h2 : P.underlying d = some (.int k')) (H : Heap) (n : Int) : aConvert P H s d (.int k n) = some (.int k' (k'.wrap n), none) := by
 have e : pureOf P (convert s d (.int k n)) = some (.int k' (k'.wrap n)) := by
  unfold convert
  rw [pureOf_bind, pureOf_underlying h1, Option.bind_some, pureOf_bind, pureOf_underlying h2]
  rfl
 simp [aConvert, h1, h2, toV1, toV0, e]
 rfl
theorem bin_shr {k k' : IntKind} (a b : Int) (hb : 0 ≤ b) : aBin P .shr t xo yo (.int k a) (.int k' b) = some (.int k (a.fdiv (2 ^ min b.toNat k.bits))) := by
 simp only [aBin, nilNe_int, Bool.false_eq_true, if_false]
 have : ¬ b < 0 := by omega
 simp [toV, toV1, toV0, eqGuard, binOp, Op.shift, this]; rfl
theorem bin_and {k : IntKind} (a b : Int) : aBin P .and t xo yo (.int k a) (.int k b) = some (.int k (k.wrap (BitVec.ofInt k.bits a &&& BitVec.ofInt k.bits b).toNat)) := by
 simp only [aBin, nilNe_int, Bool.false_eq_true, if_false]
 simp [toV, toV1, toV0, eqGuard, binOp, Op.intBits]; rfl
theorem wrapu64 {n : Int} (h1 : 0 ≤ n) (h2 : n < 18446744073709551616) : IntKind.u64.wrap n = n := by
 simp [IntKind.wrap, IntKind.bits, IntKind.signed]
 omega
end
section
variable {α : Type} {enc : α → AV} {sz : Nat} {ag : Bool}
theorem cellsOf_drop (he : EncT enc sz ag) (l : List α) (k : Nat) (hk : k ≤ l.length) : win (cellsOf enc l) (k * sz) ((l.length - k) * sz) = some (cellsOf enc (l.drop k)) := by
 have h1 := cellsOf_length he (l.take k)
 have h2 := cellsOf_length he (l.drop k)
 have h3 : cellsOf enc l = cellsOf enc (l.take k) ++ cellsOf enc (l.drop k) := by rw [← cellsOf_append, List.take_append_drop]
 simp only [List.length_take, List.length_drop] at h1 h2
 rw [Nat.min_eq_left hk] at h1
 unfold win
 rw [h3, if_pos (by simp; omega), List.drop_append_of_le_length (by omega), List.drop_eq_nil_of_le (by omega), List.nil_append, List.take_of_length_le (by omega)]
def CRow (enc : α → AV) (sz : Nat) (ag : Bool) (H : Heap) (o : AV) (l : List α) : Prop := Row enc sz ag 0 H o l ∨ (o = .vs [] true ∧ l = [])
variable {H : Heap} {o : AV} {l : List α} {P : Program} {t e : TypeId}
theorem CRow.len (h : CRow enc sz ag H o l) (hu : P.underlying t = some (.slice e)) : aLen P H t o = some (.int .i64 (l.length : Nat)) := by
 rcases h with h | ⟨rfl, rfl⟩
 ·exact h.len hu
 ·simp [aLen, hu]
theorem CRow.get (h : CRow enc sz ag H o l) {i : Nat} (hi : i < l.length) (hu : P.underlying t = some (.slice e)) (hs : sizeT P e = some sz) (k : IntKind) :
  ∃ b ver, aIndexAddr P t o (.int k (i : Nat)) = some (.ptr b ver (i * sz)) ∧ hget H b ver = some (cellsOf enc l) := by
 rcases h with (⟨rfl, rfl⟩ | ⟨b, ver, rfl, _, hg, hv4⟩) | ⟨rfl, rfl⟩
 ·simp at hi
 ·exact ⟨b, ver, by simp [aIndexAddr, asNat, hu, hs, hi], hg⟩
 ·simp at hi
theorem CRow.more (h : CRow enc sz ag H o l) (x : List Blk) : CRow enc sz ag (H ++ x) o l := h.imp (fun h => h.more x) id
theorem CRow.tree (h : CRow enc sz ag H o l) (he : EncT enc sz ag) (h0 : 0 < sz) (hag : (ag || sz == 1) = true) (hp : ∀ x, AV.plL (enc x).cells = true) {rest rest' : List AV} (hr : snap H rest = some (rest', false)) :
  ∃ v b, Sl enc v l ∧ snap H (o :: rest) = some (v :: rest', b) := by
 rcases h with (⟨rfl, rfl⟩ | ⟨b, ver, rfl, _, hg, hv4⟩) | ⟨rfl, rfl⟩
 ·exact ⟨.nilS, false, .nil, by simp [snap, hr]⟩
 ·have hw : win (cellsOf enc l) 0 (l.length * sz) = some (cellsOf enc l) := by
   have := cellsOf_drop he l 0 (by simp)
   simpa using this
  have hpl : AV.plL (cellsOf enc l) = true := by
   clear hg hw
   induction l with
   | nil => rfl
   | cons x r ih =>
    rw [show cellsOf enc (x :: r) = (enc x).cells ++ cellsOf enc r from by simp [cellsOf]]
    exact plL_append (hp x) ih
  refine ⟨.vs (l.map enc) false, true, .vs _ _, ?_⟩
  simp only [snap, h0, hag, and_self, if_true, hg, Option.bind_some, hw, hpl, hr, Option.map_some, chunk_cellsOf he h0]
 ·exact ⟨.vs [] true, false, .vs [] true, by simp [snap, hr]⟩
end
section
variable {P : Program} {t e : TypeId} {xo yo : Operand}
theorem ptr_nil_eq (hu : P.underlying t = some (.pointer e)) (b v o : Nat) : aBin P .eql t xo yo (.ptr b v o) .nil = some (.bool false) := by simp [aBin, aNilNe, hu]
theorem bs_nil_eq (hu : P.underlying t = some (.slice e)) (s : BS) : aBin P .eql t xo yo (.bs s) .nilS = some (.bool false) := by simp [aBin, aNilNe, hu]
theorem vs_nil_eq (hu : P.underlying t = some (.slice e)) (es : List AV) (f : Bool) : aBin P .eql t xo yo (.vs es f) .nilS = some (.bool false) := by simp [aBin, aNilNe, hu]
theorem nil_nil_eq (hu : P.underlying t = some (.pointer e)) : aBin P .eql t xo yo .nil .nil = some (.bool true) := by
 have h : aNilNe P t .nil .nil = false := by simp [aNilNe, hu]
 have h2 : pureOf P (Op.equalIn (9999 + 1) t (.pointer none) (.pointer none)) = some true := by
  rw [Op.equalIn, pureOf_bind, pureOf_underlying hu]; rfl
 simp only [aBin, h, Bool.false_eq_true, if_false]
 simp [toV, toV1, toV0, eqGuard, binOp]
 show (pureOf P (do let e ← Op.equalIn (9999 + 1) t (.pointer none) (.pointer none); pure (Value.bool e))).bind ofV = _
 rw [pureOf_bind, h2]; rfl
theorem nilS_nilS_eq (hu : P.underlying t = some (.slice e)) : aBin P .eql t xo yo .nilS .nilS = some (.bool true) := by
 have h : aNilNe P t .nilS .nilS = false := by simp [aNilNe, hu]
 have h2 : pureOf P (Op.equalIn (9999 + 1) t (.slice none 0 0) (.slice none 0 0)) = some true := by
  rw [Op.equalIn, pureOf_bind, pureOf_underlying hu]; rfl
 simp only [aBin, h, Bool.false_eq_true, if_false]
 simp [toV, toV1, toV0, eqGuard, binOp]
 show (pureOf P (do let e ← Op.equalIn (9999 + 1) t (.slice none 0 0) (.slice none 0 0); pure (Value.bool e))).bind ofV = _
 rw [pureOf_bind, h2]; rfl
end
end Go.Abs
section
variable {α : Type} {enc : α → Go.Abs.AV} {sz : Nat} {ag : Bool} {H : Go.Abs.Heap} {o : Go.Abs.AV} {l : List α}
open Go Go.Abs
theorem Go.Abs.CRow.elems (h : CRow enc sz ag H o l) (he : EncT enc sz ag) : elemCells H sz o = some (l.length, cellsOf enc l) := by
 rcases h with (⟨rfl, rfl⟩ | ⟨b, ver, rfl, _, hg, hv4⟩) | ⟨rfl, rfl⟩
 ·rfl
 ·have hw := cellsOf_drop he l 0 (by simp)
  simp only [Nat.zero_mul, Nat.sub_zero, List.drop_zero] at hw
  simp [elemCells, hg, hw]
 ·rfl
theorem Go.Abs.CRow.kind (h : CRow enc sz ag H o l) : o = .nilS ∨ (∃ es f, o = .vs es f) ∨ ∃ s, o = .bs s := by
 rcases h with (⟨rfl, rfl⟩ | ⟨b, ver, rfl, _, hg, hv4⟩) | ⟨rfl, rfl⟩
 ·exact .inl rfl
 ·exact .inr (.inr ⟨_, rfl⟩)
 ·exact .inr (.inl ⟨_, _, rfl⟩)
end
section
open Go Go.Abs
variable {α : Type} {enc : α → AV} {sz : Nat} {ag : Bool} {H : Go.Abs.Heap} {o : AV} {l : List α}
theorem Go.Abs.CRow.app (h : CRow enc sz ag H o l) (he : EncT enc sz ag) {P : Program} {t xt e : TypeId} {by_ : Nat} (ht : RowT P t e sz by_ ag) (hxt : (∃ e', P.underlying xt = some (.slice e')) ∨ P.underlying xt = some .string) {x : AV} {m : List α}
  (hx : elemCells H sz x = some (m.length, cellsOf enc m)) (hm : 0 < m.length) (hr : roomy (l.length + m.length) by_ = true) :
  ∃ b ver H', aAppend P 0 H #[t, xt] o x = some (.bs ⟨b, ver, 0, (l ++ m).length, 0, sz, ag, false⟩, some H') ∧ hget H' b ver = some (cellsOf enc (l ++ m)) ∧ H.length ≤ H'.length ∧
   (∀ b ver cs, hget H b ver = some cs → (∀ s, o = .bs s → s.b ≠ b) → hget H' b ver = some cs) ∧ ver % 4 = 0 := by
 rcases h with h | ⟨rfl, rfl⟩
 ·obtain ⟨v', H', h1, h2, h3, _, h5⟩ := h.app he ht hxt hx hm hr (Nat.le_refl 0) (Nat.zero_le _)
  rcases h2 with ⟨_, h2⟩ | ⟨b, ver, rfl, _, hg, hv4⟩
  ·have := congrArg List.length h2
   simp only [List.length_append, List.length_nil] at this; omega
  ·exact ⟨b, ver, H', h1, hg, h3, h5, hv4⟩
 ·have ha := app_full (P := P) (prot := 0) (H := H) (enc := enc) ht hxt he [] hx hm hr
  simp only [List.map_nil, List.nil_append] at ha ⊢
  exact ⟨_, _, _, ha, by rw [hget_new rfl]; rfl, by simp, fun b ver cs hg _ => hget_mono hg _, rfl⟩
theorem Go.Abs.hget_set_ne {b c v : Nat} {k : Blk} (h : b ≠ c) : hget (H.set c k) b v = hget H b v := by
 unfold hget; rw [List.getElem?_set_ne (fun e => h e.symm)]
theorem Go.Abs.hget_set_same {c v v' : Nat} {cs : List AV} (h : c < H.length) : hget (H.set c (.cells v cs)) c v' = if v = v' then some cs else none := by
 unfold hget; rw [List.getElem?_set_self h]
end
namespace Go.Abs
open Go
theorem pureOf_isAgg {P : Program} {t : TypeId} {b : Bool} (h : isAggT P t = some b) : pureOf P (isAgg t) = some b := by
 unfold isAggT at h
 unfold isAgg
 cases hu : P.underlying t with
 | none => rw [hu] at h; cases h
 | some d =>
  rw [pureOf_bind, pureOf_underlying hu]
  rw [hu] at h
  cases d <;> simp_all <;> subst h <;> rfl
theorem pureOf_part {P : Program} {t : TypeId} {xs : Array Value} {o : Nat} {v : Value} (h : isAggT P t = some false) (hx : xs[o]? = some v) : pureOf P (part t xs o) = some v := by
 unfold part
 rw [pureOf_bind, pureOf_isAgg h]
 simp [hx, pureOf_pure]
inductive EqFs (P : Program) (d : Nat) (xs ys : Array Value) : List Field → Bool → Prop where
 | nil : EqFs P d xs ys [] true
 | cons {f : Field} {fs : List Field} {x y : Value} {b r : Bool} (hn : f.name ≠ "_") (hx : pureOf P (part f.type xs f.offset) = some x) (hy : pureOf P (part f.type ys f.offset) = some y)
   (he : pureOf P (Op.equalIn d f.type x y) = some b) (hr : EqFs P d xs ys fs r) : EqFs P d xs ys (f :: fs) (b && r)
theorem equalIn_struct {P : Program} {t : TypeId} {fs : Array Field} {d : Nat} {xs ys : Array Value} {r : Bool} (hu : P.underlying t = some (.struct fs)) (hs : P.stoodInHeld t = false) (h : EqFs P d xs ys fs.toList r) :
  pureOf P (Op.equalIn (d + 1) t (.agg xs) (.agg ys)) = some r := by
 rw [Op.equalIn, pureOf_bind, pureOf_underlying hu]
 simp only [Option.bind_some]
 rw [pureOf_bind]
 show (some P).bind _ = _
 simp only [Option.bind_some, hs, Bool.false_eq_true, if_false]
 obtain ⟨l⟩ := fs
 simp only [List.forIn_toArray]
 clear hu
 simp only at h
 generalize hb : r = b at h
 clear hb
 induction h with
 | nil => rfl
 | cons hn hx hy he hr ih =>
  rename_i f fs x y b r
  simp only [List.forIn_cons, hn, ne_eq, not_false_eq_true, if_true, pureOf_bind, hx, hy, he, Option.bind_some] at ih ⊢
  cases b with
  | true => simpa [pureOf_pure] using ih
  | false => simp [pureOf_pure]
section
variable {P : Program} {t : TypeId} {xo yo : Operand} {fs : Array Field} {cs ds : List AV} {xs ys : Array Value} {r : Bool}
theorem nilNe_agg (P : Program) (t : TypeId) (cs : List AV) (y : AV) : aNilNe P t (.agg cs) y = false := by
 unfold aNilNe; split <;> simp_all
theorem guard_agg (op : BinOp) (ho : op = .eql ∨ op = .neq) (hg : P.eqGuardType P.depth t = false) : pureOf P (eqGuard op t xo yo (.agg xs) (.agg ys)) = some () := by
 have hp : ∀ {β : Type} (f : Program → Sem β), pureOf P (program >>= f) = pureOf P (f P) := fun f => by rw [pureOf_bind]; rfl
 rcases ho with rfl | rfl <;>
 ·unfold eqGuard
  simp [hp, hg]
  rfl
theorem bin_agg_ne (hu : P.underlying t = some (.struct fs)) (hs : P.stoodInHeld t = false) (hg : P.eqGuardType P.depth t = false) (hx : toV (.agg cs) = some (.agg xs)) (hy : toV (.agg ds) = some (.agg ys)) (h : EqFs P 9999 xs ys fs.toList r) :
  aBin P .neq t xo yo (.agg cs) (.agg ds) = some (.bool (!r)) := by
 simp only [aBin, nilNe_agg, Bool.false_eq_true, if_false, hx, hy, Option.bind_some, pureOf_bind, guard_agg .neq (.inr rfl) hg]
 show (pureOf P (do let e ← Op.equalIn (9999 + 1) t (.agg xs) (.agg ys); pure (Value.bool (!e)))).bind ofV = _
 rw [pureOf_bind, equalIn_struct hu hs h]
 rfl
end
end Go.Abs
namespace Go.Abs
open Go
section
variable {P : Program} {t ty : TypeId} {ts : Array TypeId} {xo yo : Operand} {k k' : IntKind} {a b : Int}
theorem min_int : aMinMax P .min ts ty [.int k a, .int k' b] = some (.int k (min a b)) := by
 have : (if b < a then b else a) = min a b := by split <;> omega
 rw [← this]; rfl
theorem max_int : aMinMax P .max ts ty [.int k a, .int k' b] = some (.int k (max a b)) := by
 have : (if b > a then b else a) = max a b := by split <;> omega
 rw [← this]; rfl
theorem bin_or : aBin P .or t xo yo (.int k a) (.int k b) = some (.int k (k.wrap (BitVec.ofInt k.bits a ||| BitVec.ofInt k.bits b).toNat)) := by
 simp only [aBin, nilNe_int, Bool.false_eq_true, if_false]
 simp [toV, toV1, toV0, eqGuard, binOp, Op.intBits]; rfl
theorem bin_xor : aBin P .xor t xo yo (.int k a) (.int k b) = some (.int k (k.wrap (BitVec.ofInt k.bits a ^^^ BitVec.ofInt k.bits b).toNat)) := by
 simp only [aBin, nilNe_int, Bool.false_eq_true, if_false]
 simp [toV, toV1, toV0, eqGuard, binOp, Op.intBits]; rfl
theorem bin_andNot : aBin P .andNot t xo yo (.int k a) (.int k b) = some (.int k (k.wrap (BitVec.ofInt k.bits a &&& ~~~ BitVec.ofInt k.bits b).toNat)) := by
 simp only [aBin, nilNe_int, Bool.false_eq_true, if_false]
 simp [toV, toV1, toV0, eqGuard, binOp, Op.intBits]; rfl
theorem bin_shl (hb : 0 ≤ b) : aBin P .shl t xo yo (.int k a) (.int k' b) = some (.int k (k.wrap (a * 2 ^ min b.toNat k.bits))) := by
 simp only [aBin, nilNe_int, Bool.false_eq_true, if_false]
 have : ¬ b < 0 := by omega
 simp [toV, toV1, toV0, eqGuard, binOp, Op.shift, this]; rfl
end
def encB (c : UInt8) : AV := .int .u8 c.toNat
theorem encB_len (c : UInt8) : (encB c).cells.length = 1 := rfl
theorem encB_T : EncT encB 1 false where
 len _ := rfl
 leaf x c hc := by simp [encB, AV.cells] at hc; subst hc; rfl
 still x c hc := by simp [encB, AV.cells] at hc; subst hc; rfl
 shape _ := rfl
theorem cellsB (s : List UInt8) : s.map (fun c => AV.int .u8 c.toNat) = cellsOf encB s := by
 induction s with
 | nil => rfl
 | cons c r ih => simp only [List.map_cons, ih]; rfl
theorem plB (s : List UInt8) : AV.plL (cellsOf encB s) = true := by
 induction s with
 | nil => rfl
 | cons c r ih =>
  rw [show cellsOf encB (c :: r) = (encB c).cells ++ cellsOf encB r from by simp [cellsOf]]
  exact plL_append rfl ih
theorem bytes_cut {P : Program} {H : Heap} {t e : TypeId} {b ver at_ : Nat} {s : List UInt8} (hu : P.underlying t = some (.slice e)) (hs : sizeT P e = some 1) (hg : hget H b ver = some (cellsOf encB s)) (hat : at_ < s.length) :
  ∃ o, aSlice P t (.bs ⟨b, ver, 0, s.length, 0, 1, false, false⟩) (some (.int .i64 at_)) none none = some o ∧ snap H [o] = some ([.vs ((s.drop at_).map encB) false], true) := by
 have hw := cellsOf_drop encB_T s at_ (by omega)
 have hc := chunk_cellsOf encB_T (by decide) (s.drop at_)
 have hpl := plB (s.drop at_)
 simp only [Nat.mul_one] at hw
 rw [List.length_drop] at hc
 by_cases h0 : at_ = 0
 ·subst h0
  refine ⟨.bs ⟨b, ver, 0, s.length, 0, 1, false, false⟩, by simp [aSlice, hu, hs, aBounds, optInt, asNat], ?_⟩
  simp only [Nat.sub_zero, List.drop_zero] at hw hc hpl ⊢
  simp [snap, hg, hw, hpl, hc]
 ·have h1 : ¬ s.length = at_ := by omega
  refine ⟨.bs ⟨b, ver, at_, s.length - at_, 0, 1, false, false⟩, by simp [aSlice, hu, hs, aBounds, optInt, asNat, h0, h1, Nat.le_of_lt hat], ?_⟩
  simp [snap, hg, hw, hpl, hc]
end Go.Abs
namespace Go.Abs
open Go
section
variable {α : Type} {enc : α → AV} {sz : Nat} {ag : Bool}
end
end Go.Abs

