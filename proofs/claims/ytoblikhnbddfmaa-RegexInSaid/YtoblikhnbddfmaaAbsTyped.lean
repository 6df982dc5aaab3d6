import Derived.Test.YtoblikhnbddfmaaAbsLaw
import Derived.Test.YtoblikhnbddfmaaAbsWalk
import Derived.Test.YtoblikhnbddfmaaAbsRows
/-! What came in, by its type: rows of structs as lists. -/
set_option linter.unusedSimpArgs false
namespace Go.Abs
open Go

section
variable {P : Program} {t e : TypeId} {al : List AV}
theorem HasT.int1 {k : IntKind} (hu : P.underlying t = some (.int k)) (h : HasT P t al) : ∃ n, al = [.int k n] ∧ (Lit.int k n).wf = true := by
  cases h with
  | int k' n hu' hw => rw [hu] at hu'; cases hu'; exact ⟨n, rfl, hw⟩
  | bool b hu' => rw [hu] at hu'; cases hu'
  | str s hu' hs => rw [hu] at hu'; cases hu'
  | nilS hu' => rw [hu] at hu'; cases hu'
  | vs es hu' hl h => rw [hu] at hu'; cases hu'
  | struct fs parts hu' hl h => rw [hu] at hu'; cases hu'
theorem HasT.bool1 (hu : P.underlying t = some .bool) (h : HasT P t al) : ∃ b, al = [.bool b] := by
  cases h with
  | bool b hu' => exact ⟨b, rfl⟩
  | int k' n hu' hw => rw [hu] at hu'; cases hu'
  | str s hu' hs => rw [hu] at hu'; cases hu'
  | nilS hu' => rw [hu] at hu'; cases hu'
  | vs es hu' hl h => rw [hu] at hu'; cases hu'
  | struct fs parts hu' hl h => rw [hu] at hu'; cases hu'
theorem HasT.str1 (hu : P.underlying t = some .string) (h : HasT P t al) : ∃ s, al = [.str s] ∧ s.length ≤ maxLen := by
  cases h with
  | str s hu' hs => exact ⟨s, rfl, hs⟩
  | bool b hu' => rw [hu] at hu'; cases hu'
  | int k' n hu' hw => rw [hu] at hu'; cases hu'
  | nilS hu' => rw [hu] at hu'; cases hu'
  | vs es hu' hl h => rw [hu] at hu'; cases hu'
  | struct fs parts hu' hl h => rw [hu] at hu'; cases hu'
theorem HasT.slice1 (hu : P.underlying t = some (.slice e)) (h : HasT P t al) : al = [.nilS] ∨ ∃ es, al = [.vs es false] ∧ es.length ≤ maxLen ∧ ∀ y ∈ es, HasTV P e y := by
  cases h with
  | str s hu' hs => rw [hu] at hu'; cases hu'
  | bool b hu' => rw [hu] at hu'; cases hu'
  | int k' n hu' hw => rw [hu] at hu'; cases hu'
  | nilS hu' => exact .inl rfl
  | vs es hu' hl h =>
    rw [hu] at hu'; cases hu'
    refine .inr ⟨es.map (mkv P e), rfl, by simpa using hl, fun y hy => ?_⟩
    obtain ⟨al, hal, rfl⟩ := List.mem_map.1 hy
    obtain ⟨i, hi, rfl⟩ := List.getElem_of_mem hal
    exact ⟨_, h i hi, rfl⟩
  | struct fs parts hu' hl h => rw [hu] at hu'; cases hu'

/-- the fields' values, one behind the other. -/
inductive HasFs (P : Program) : List Field → List (List AV) → Prop where
  | nil : HasFs P [] []
  | cons {f : Field} {fs : List Field} {p : List AV} {ps : List (List AV)} (h : HasT P f.type p) (hr : HasFs P fs ps) : HasFs P (f :: fs) (p :: ps)
theorem HasFs.inv {f : Field} {fs : List Field} {ps : List (List AV)} (h : HasFs P (f :: fs) ps) : ∃ p r, ps = p :: r ∧ HasT P f.type p ∧ HasFs P fs r := by
  cases h with
  | cons h hr => exact ⟨_, _, rfl, h, hr⟩
theorem HasFs.done {ps : List (List AV)} (h : HasFs P [] ps) : ps = [] := by cases h; rfl
theorem HasFs.of : ∀ {fs : List Field} {ps : List (List AV)}, ps.length = fs.length → (∀ i (h : i < ps.length) (h' : i < fs.length), HasT P fs[i].type ps[i]) → HasFs P fs ps
  | [], [], _, _ => .nil
  | f :: fs, p :: ps, hl, h => .cons (h 0 (by simp) (by simp)) (HasFs.of (by simpa using hl) fun i h1 h2 => by have := h (i + 1) (by simpa using h1) (by simpa using h2); simpa only [List.getElem_cons_succ] using this)
  | [], _ :: _, hl, _ => by simp at hl
  | _ :: _, [], hl, _ => by simp at hl
theorem HasT.struct1 {fs : Array Field} (hu : P.underlying t = some (.struct fs)) (h : HasT P t al) : ∃ ps, al = ps.flatten ∧ HasFs P fs.toList ps := by
  cases h with
  | str s hu' hs => rw [hu] at hu'; cases hu'
  | bool b hu' => rw [hu] at hu'; cases hu'
  | int k' n hu' hw => rw [hu] at hu'; cases hu'
  | nilS hu' => rw [hu] at hu'; cases hu'
  | vs es hu' hl h => rw [hu] at hu'; cases hu'
  | struct fs' parts hu' hl h => rw [hu] at hu'; cases hu'; exact ⟨parts, rfl, .of hl h⟩
theorem HasTV.struct {fs : Array Field} {x : AV} (hu : P.underlying t = some (.struct fs)) (h : HasTV P t x) : ∃ ps, x = .agg ps.flatten ∧ HasFs P fs.toList ps := by
  obtain ⟨al, h, rfl⟩ := h
  obtain ⟨ps, rfl, hf⟩ := h.struct1 hu
  exact ⟨ps, by simp [mkv, isAggT, hu], hf⟩

theorem HasTV.rows {α : Type} {enc : α → AV} {good : α → Prop} {x : AV} (hu : P.underlying t = some (.slice e)) (he : ∀ y, HasTV P e y → ∃ a, y = enc a ∧ good a) (h : HasTV P t x) :
    ∃ l : List α, Sl enc x l ∧ l.length ≤ maxLen ∧ ∀ a ∈ l, good a := by
  rcases h.slice hu with rfl | ⟨es, rfl, hl, hes⟩
  · exact ⟨[], .nil, by simp, by simp⟩
  · have : ∃ l : List α, es = l.map enc ∧ ∀ a ∈ l, good a := by
      clear hl h
      induction es with
      | nil => exact ⟨[], rfl, by simp⟩
      | cons y r ih =>
        obtain ⟨a, rfl, ha⟩ := he y (hes y (by simp))
        obtain ⟨l, rfl, hg⟩ := ih fun z hz => hes z (by simp [hz])
        exact ⟨a :: l, rfl, by simpa using ⟨ha, hg⟩⟩
    obtain ⟨l, rfl, hg⟩ := this
    exact ⟨l, .vs _ _, by simpa using hl, hg⟩
end
theorem pureOf_bind {α β : Type} {P : Program} (s : Sem α) (f : α → Sem β) : pureOf P (s >>= f) = (pureOf P s).bind fun a => pureOf P (f a) := by
  show pureOf P (Sem.bind s f) = _
  induction s with
  | pure x => rfl
  | program k ih => simp only [Sem.bind, pureOf]; exact ih P
  | _ => simp [Sem.bind, pureOf]
theorem pureOf_underlying {P : Program} {t : TypeId} {d : TypeDesc} (h : P.underlying t = some d) : pureOf P (underlying t) = some d := by
  simp only [underlying, pureOf_bind]
  show (some P).bind _ = _
  simp only [Option.bind_some, h]
  rfl
theorem pureOf_pure {α : Type} {P : Program} (x : α) : pureOf P (pure x) = some x := rfl
theorem equalIn_bool {P : Program} {t : TypeId} (hu : P.underlying t = some .bool) (d : Nat) (a b : Bool) : pureOf P (Op.equalIn (d + 1) t (.bool a) (.bool b)) = some (a == b) := by
  rw [Op.equalIn, pureOf_bind, pureOf_underlying hu]
  rfl
theorem equalIn_int {P : Program} {t : TypeId} {k : IntKind} (hu : P.underlying t = some (.int k)) (d : Nat) (a b : Int) : pureOf P (Op.equalIn (d + 1) t (.int k a) (.int k b)) = some (a == b) := by
  rw [Op.equalIn, pureOf_bind, pureOf_underlying hu]
  simp [pureOf_pure]
theorem equalIn_str {P : Program} {t : TypeId} (hu : P.underlying t = some .string) (d : Nat) (a b : ByteArray) : pureOf P (Op.equalIn (d + 1) t (.string a) (.string b)) = some (a == b) := by
  rw [Op.equalIn, pureOf_bind, pureOf_underlying hu]
  rfl
section
variable {P : Program} {t : TypeId} {xo yo : Operand}
theorem bin_eqb (hu : P.underlying t = some .bool) (a b : Bool) : aBin P .eql t xo yo (.bool a) (.bool b) = some (.bool (a == b)) := by
  simp only [aBin, nilNe_bool, Bool.false_eq_true, if_false]
  simp [toV, toV1, toV0, eqGuard, binOp]
  have := equalIn_bool hu 9999 a b
  show (pureOf P (do let e ← Op.equalIn (9999 + 1) t (.bool a) (.bool b); pure (Value.bool e))).bind ofV = _
  rw [pureOf_bind, this]
  rfl
theorem bin_neb (hu : P.underlying t = some .bool) (a b : Bool) : aBin P .neq t xo yo (.bool a) (.bool b) = some (.bool (!(a == b))) := by
  simp only [aBin, nilNe_bool, Bool.false_eq_true, if_false]
  simp [toV, toV1, toV0, eqGuard, binOp]
  have := equalIn_bool hu 9999 a b
  show (pureOf P (do let e ← Op.equalIn (9999 + 1) t (.bool a) (.bool b); pure (Value.bool (!e)))).bind ofV = _
  rw [pureOf_bind, this]
  rfl
end

/-- the first ones of a row. -/
theorem Sl.pre {α : Type} {enc : α → AV} {v : AV} {l : List α} (h : Sl enc v l) {P : Program} {t e : TypeId} {sz n : Nat} {k : IntKind} (hu : P.underlying t = some (.slice e)) (hsz : sizeT P e = some sz)
    (he : ∀ x, (enc x).cells.length = sz) (hn : n ≤ l.length) : ∃ v', aSlice P t v none (some (.int k (n : Nat))) none = some v' ∧ Sl enc v' (l.take n) := by
  cases h with
  | nil =>
    have : n = 0 := by simpa using hn
    subst this
    exact ⟨.nilS, by simp [aSlice, hu, hsz, aBounds, asNat, optInt], .nil⟩
  | vs l full =>
    have h1 : ((l.map enc).all fun v => v.cells.length == sz) = true := by simp [he]
    refine ⟨.vs ((l.take n).map enc) (fullOf full n l.length none), ?_, .vs _ _⟩
    simp only [aSlice, hu, hsz, Option.bind_some, h1, if_true]
    simp [aBounds, asNat, optInt, hn, List.map_take]
end Go.Abs
