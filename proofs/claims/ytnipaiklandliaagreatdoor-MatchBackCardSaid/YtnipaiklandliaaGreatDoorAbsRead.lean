import Derived.Test.YtnipaiklandliaaGreatDoorAbsCall
import GoSem.ClaimJoined
import Derived.WalkKit
import Derived.ProofKit
import Derived.OpenShut
import Derived.ShutString
import Derived.ChangeOld
import Derived.Carry
import Derived.SizedLaws
namespace Go.Abs
open Go
def mkv (P : Program) (t : TypeId) (as : List AV) : AV := if isAggT P t = some true then .agg as else as.headD .nil
def laidFrom (P : Program) : Nat → List Field → Option Nat
 | n, [] => some n
 | n, f :: r => if f.offset = n then laidFrom P (n + P.cellsOf f.type) r else none
def plainTs (P : Program) (S : List TypeId) : Bool := S.all fun t => match P.underlying t with
 | some .bool | some (.int _) | some .string => true
 | some (.slice e) => S.contains e && decide (0 < P.cellsOf e)
 | some (.struct fs) => (fs.toList.all fun f => S.contains f.type) && laidFrom P 0 fs.toList == some (P.cellsOf t)
 | _ => false
inductive HasT (P : Program) : TypeId → List AV → Prop where
 | bool {t : TypeId} (b : Bool) (hu : P.underlying t = some .bool) : HasT P t [.bool b]
 | int {t : TypeId} (k : IntKind) (n : Int) (hu : P.underlying t = some (.int k)) (hw : (Lit.int k n).wf = true) : HasT P t [.int k n]
 | str {t : TypeId} (s : List UInt8) (hu : P.underlying t = some .string) (hs : s.length ≤ maxLen) : HasT P t [.str s]
 | nilS {t e : TypeId} (hu : P.underlying t = some (.slice e)) : HasT P t [.nilS]
 | vs {t e : TypeId} (es : List (List AV)) (hu : P.underlying t = some (.slice e)) (hl : es.length ≤ maxLen) (h : ∀ i (h : i < es.length), HasT P e es[i]) : HasT P t [.vs (es.map (mkv P e)) false]
 | struct {t : TypeId} (fs : Array Field) (parts : List (List AV)) (hu : P.underlying t = some (.struct fs)) (hl : parts.length = fs.toList.length)
   (h : ∀ i (h : i < parts.length) (h' : i < fs.toList.length), HasT P fs.toList[i].type parts[i]) : HasT P t parts.flatten
mutual
def bk : AV → Nat
 | .str s => s.length + 1
 | .vs es _ => bkL es + 1
 | .agg cs => bkL cs
 | _ => 1
def bkL : List AV → Nat
 | [] => 0
 | a :: r => bk a + bkL r
end
mutual
def dbk {H : Type} : DataW H → Nat
 | .lit (.string bytes) => bytes.length + 1
 | .lit _ => 1
 | .nil => 1
 | .ptr d => dbk d + 1
 | .slice elems spare => dbkL elems + dbkL spare + 1
 | .agg parts => dbkL parts + 1
 | .iface _ d => dbk d + 1
 | .map entries => dbkE entries + 1
 | .held _ => 1
def dbkL {H : Type} : List (DataW H) → Nat
 | [] => 0
 | d :: r => dbk d + dbkL r
def dbkE {H : Type} : List (Lit × DataW H) → Nat
 | [] => 0
 | x :: r => dbkE1 x + dbkE r
def dbkE1 {H : Type} : Lit × DataW H → Nat
 | (.string bytes, d) => bytes.length + dbk d + 1
 | (_, d) => dbk d + 1
end
theorem bkL_append (a b : List AV) : bkL (a ++ b) = bkL a + bkL b := by
 induction a with
 | nil => simp [bkL]
 | cons x r ih => simp only [List.cons_append, bkL, ih]; omega
theorem bk_mkv_le (P : Program) (t : TypeId) (as : List AV) (h : 0 < as.length) : bk (mkv P t as) ≤ bkL as := by
 unfold mkv
 split
 ·exact Nat.le_refl _
 ·cases as with
  | nil => simp at h
  | cons x r => simp only [List.headD_cons, bkL]; omega
def Env.start (w : World) : Env := { ρ := fun _ => (0, 0), H := [], w := w, ip := 0, lo := w.heap.size }
theorem start_imm {w : World} {cb : Nat} (h : cb < w.heap.size) : Imm (Env.start w) cb :=
 ⟨h, fun ⟨b, _, h2, _⟩ => by rcases h2 with ⟨v, cs, h⟩ | ⟨es, h⟩ <;> simp [Env.start] at h⟩
theorem mapM_get {α β : Type} {f : α → Option β} : ∀ {l : List α} {r : List β}, l.mapM f = some r → r.length = l.length ∧ ∀ i (h : i < l.length) (h' : i < r.length), f l[i] = some r[i]
 | [], r, h => by simp at h; subst h; exact ⟨rfl, fun i h => by simp at h⟩
 | a :: l, r, h => by
  rw [List.mapM_cons] at h
  simp only [Option.bind_eq_bind, Option.bind_eq_some_iff, Option.pure_def, Option.some.injEq] at h
  obtain ⟨b, hb, r', hr, rfl⟩ := h
  obtain ⟨h1, h2⟩ := mapM_get hr
  refine ⟨by simp [h1], fun i hi hi' => ?_⟩
  cases i with
  | zero => exact hb
  | succ i => exact h2 i (by simpa using hi) (by simpa using hi')
theorem LRel.flat {E : Env} : ∀ {parts : List (List AV)} {cs : List (List Value)}, parts.length = cs.length → (∀ i (h : i < parts.length) (h' : i < cs.length), LRel E parts[i] cs[i].toArray) → LRel E parts.flatten cs.flatten.toArray
 | [], [], _, _ => .nil E
 | [], _ :: _, h, _ => by simp at h
 | _ :: _, [], h, _ => by simp at h
 | p :: ps, c :: cs, h, hr => by
  have h0 := hr 0 (by simp) (by simp)
  have h1 := LRel.flat (E := E) (parts := ps) (cs := cs) (by simpa using h) fun i hi hi' => (hr (i + 1) (by simpa using hi) (by simpa using hi') :)
  have := LRel.append (l := p) (m := ps.flatten) (a := c.toArray) (b := cs.flatten.toArray) (by simpa using h0) h1
  simpa using this
theorem laid_flat {P : Program} (cs : List Value) : ∀ (fs : List Field) (n m : Nat), laidFrom P n fs = some m → m ≤ cs.length → n ≤ m ∧ (fs.map fun f => (cs.drop f.offset).take (P.cellsOf f.type)).flatten = (cs.drop n).take (m - n)
 | [], n, m, h, hm => by simp only [laidFrom, Option.some.injEq] at h; subst h; simp
 | f :: fs, n, m, h, hm => by
  simp only [laidFrom] at h
  split at h
  ·rename_i ho
   obtain ⟨h1, h2⟩ := laid_flat cs fs _ _ h hm
   refine ⟨by omega, ?_⟩
   simp only [List.map_cons, List.flatten_cons, h2, ho]
   have e : m - n = P.cellsOf f.type + (m - (n + P.cellsOf f.type)) := by omega
   rw [e, List.take_add, List.drop_drop]
  ·cases h
theorem all_flatten {parts : List (List AV)} (h : ∀ p ∈ parts, p.all AV.leaf = true) : parts.flatten.all AV.leaf = true := by
 rw [List.all_eq_true]
 intro x hx
 obtain ⟨p, hp, hxp⟩ := List.mem_flatten.1 hx
 exact List.all_eq_true.1 (h p hp) x hxp
theorem plL_append {a b : List AV} (ha : AV.plL a = true) (hb : AV.plL b = true) : AV.plL (a ++ b) = true := by
 induction a with
 | nil => exact hb
 | cons x r ih => simp only [AV.plL, Bool.and_eq_true, List.cons_append] at ha ⊢; exact ⟨ha.1, ih ha.2⟩
theorem plL_flatten : ∀ {parts : List (List AV)}, (∀ p ∈ parts, AV.plL p = true) → AV.plL parts.flatten = true
 | [], _ => rfl
 | p :: ps, h => by rw [List.flatten_cons]; exact plL_append (h p (by simp)) (plL_flatten fun q hq => h q (by simp [hq]))
theorem bkL_flatten {H : Type} : ∀ {parts : List (List AV)} {ds : List (DataW H)}, parts.length = ds.length → (∀ i (h : i < parts.length) (h' : i < ds.length), bkL parts[i] ≤ dbk ds[i]) → bkL parts.flatten ≤ dbkL ds
 | [], [], _, _ => Nat.le_refl _
 | [], _ :: _, h, _ => by simp at h
 | _ :: _, [], h, _ => by simp at h
 | p :: ps, d :: ds, h, hr => by
  rw [List.flatten_cons, bkL_append]
  have h0 := hr 0 (by simp) (by simp)
  have h1 := bkL_flatten (parts := ps) (ds := ds) (by simpa using h) fun i hi hi' => (hr (i + 1) (by simpa using hi) (by simpa using hi') :)
  simp only [List.getElem_cons_zero] at h0
  simp only [dbkL]; omega
theorem start_cell {w : World} {a : Addr} {v : Value} (h : w.cell? a = some v) : a.block < w.heap.size ∧ a.spot = none := by
 unfold World.cell? at h
 split at h
 ·rename_i c e z hb
  refine ⟨(Array.getElem?_eq_some_iff.1 hb).1, ?_⟩
  split at h
  ·cases h
  ·rename_i hs; cases hsp : a.spot with
   | none => rfl
   | some s => simp [hsp] at hs
 ·cases h
theorem trod_ok {H : Type} {enc : TypeId × Value → H} {P : Program} {w : World} {S : List TypeId} (hS : plainTs P S = true) : ∀ (fuel : Nat) (t : TypeId) (cs : List Value) (d : DataW H) (ps : List MemPlace), t ∈ S →
  DataW.trod enc P w 0 (fun _ => true) true fuel t cs = some (d, ps) → ∃ as, HasT P t as ∧ LRel (Env.start w) as cs.toArray ∧ AV.plL as = true ∧ as.all AV.leaf = true ∧ bkL as ≤ dbk d := by
 intro fuel
 induction fuel with
 | zero => intro t cs d ps _ h; simp [DataW.trod] at h
 | succ fuel ih =>
  intro t cs d ps ht h
  have hpt := List.all_eq_true.1 hS t ht
  have one : ∀ (x : AV) (v : Value), VRel (Env.start w) x v → LRel (Env.start w) [x] [v].toArray := fun x v h => .cons h (.nil _)
  simp only [DataW.trod] at h
  split at h
  ·rename_i b hu
   simp only [Option.some.injEq, Prod.mk.injEq] at h; obtain ⟨rfl, rfl⟩ := h
   exact ⟨[.bool b], .bool b hu, one _ _ (.bool b), rfl, rfl, by simp [bkL, bk, dbk]⟩
  ·rename_i k k' n hu
   split at h
   ·rename_i hk
    simp only [Option.some.injEq, Prod.mk.injEq] at h; obtain ⟨rfl, rfl⟩ := h
    obtain ⟨rfl, hw⟩ := hk
    exact ⟨[.int _ n], .int _ n hu hw, one _ _ (.int _ n), rfl, rfl, by simp [bkL, bk, dbk]⟩
   ·cases h
  ·rename_i k k' n hu; rw [hu] at hpt; cases hpt
  ·rename_i s hu
   split at h
   ·rename_i hs
    simp only [Option.some.injEq, Prod.mk.injEq] at h; obtain ⟨rfl, rfl⟩ := h
    have e : s = ⟨s.data.toList.toArray⟩ := by simp
    refine ⟨[.str s.data.toList], .str _ hu (by simpa using hs), one _ _ ?_, rfl, rfl, by simp [bkL, bk, dbk]⟩
    have := VRel.str (E := Env.start w) s.data.toList
    rw [← e] at this; exact this
   ·cases h
  ·rename_i e hu; rw [hu] at hpt; cases hpt
  ·rename_i e a hu; rw [hu] at hpt; cases hpt
  ·rename_i e hu
   simp only [Option.some.injEq, Prod.mk.injEq] at h; obtain ⟨rfl, rfl⟩ := h
   exact ⟨[.nilS], .nilS hu, one _ _ .nilS, rfl, rfl, by simp [bkL, bk, dbk]⟩
  ·rename_i e a len cap hu
   rw [hu] at hpt
   simp only [Bool.and_eq_true, decide_eq_true_eq] at hpt
   obtain ⟨he, hpos⟩ := hpt
   have he' : e ∈ S := by simpa using he
   split at h
   case isFalse => cases h
   rename_i hc
   simp only [Option.bind_eq_some_iff, Option.map_eq_some_iff] at h
   obtain ⟨elems, hel, rest, _, h⟩ := h
   simp only [Prod.mk.injEq] at h
   obtain ⟨rfl, rfl⟩ := h
   obtain ⟨hlen, hget⟩ := mapM_get hel
   simp only [List.length_range] at hlen
   have hone : ∀ i, i < len → ∃ (cs : List Value) (as : List AV) (d : DataW H), (w.cells? 0 (a.add (i * P.cellsOf e)) (P.cellsOf e)) = some cs ∧ HasT P e as ∧ LRel (Env.start w) as cs.toArray ∧ AV.plL as = true ∧ as.all AV.leaf = true ∧ bkL as ≤ dbk d ∧ (elems.map (·.1))[i]? = some d := by
    intro i hi
    have := hget i (by simpa using hi) (by omega)
    simp only [List.getElem_range, Option.bind_eq_some_iff] at this
    obtain ⟨cs, h1, h2⟩ := this
    obtain ⟨as, h3, h4, h5, h6, h7⟩ := ih e cs _ _ he' h2
    exact ⟨cs, as, _, h1, h3, h4, h5, h6, h7, by simp [show i < elems.length by omega]⟩
   have hcells : ∀ i, i < len → ∀ cs, (w.cells? 0 (a.add (i * P.cellsOf e)) (P.cellsOf e)) = some cs → cs.length = P.cellsOf e ∧ ∀ j (hj : j < cs.length), w.cell? ((a.add (i * P.cellsOf e)).add j) = some cs[j] := by
    intro i hi cs hcs
    unfold World.cells? at hcs
    rw [if_pos (Nat.zero_le _)] at hcs
    obtain ⟨h1, h2⟩ := mapM_get hcs
    simp only [List.length_range] at h1
    exact ⟨h1, fun j hj => by have := h2 j (by simpa [h1] using hj) hj; simpa using this⟩
   have hsp : 0 < len → Imm (Env.start w) a.block ∧ a.spot = none := by
    intro h0
    obtain ⟨cs, as, d, h1, _⟩ := hone 0 h0
    obtain ⟨h2, h3⟩ := hcells 0 h0 cs h1
    have h4 := h3 0 (by omega)
    simp only [Nat.zero_mul, Addr.add_zero'] at h4
    obtain ⟨h5, h6⟩ := start_cell h4
    exact ⟨start_imm h5, h6⟩
   have hch : ∃ ass : List (List AV), ass.length = len ∧ ∀ i (hi : i < ass.length), ∃ (cs : List Value) (d : DataW H), (w.cells? 0 (a.add (i * P.cellsOf e)) (P.cellsOf e)) = some cs ∧ HasT P e ass[i] ∧ LRel (Env.start w) ass[i] cs.toArray ∧ AV.plL ass[i] = true ∧ ass[i].all AV.leaf = true ∧ bkL ass[i] ≤ dbk d ∧ (elems.map (·.1))[i]? = some d := by
    refine ⟨(List.range len).map fun i => if h : i < len then (hone i h).choose_spec.choose else [], by simp, fun i hi => ?_⟩
    have hi' : i < len := by simpa using hi
    simp only [List.getElem_map, List.getElem_range, hi', dif_pos]
    obtain ⟨d, hd⟩ := (hone i hi').choose_spec.choose_spec
    exact ⟨_, d, hd⟩
   obtain ⟨ass, hal, hass⟩ := hch
   have hmc : ∀ i (hi : i < ass.length), (mkv P e ass[i]).cells = ass[i] := by
    intro i hi
    obtain ⟨cs, d, h1, h2, h3, h4, h5, _⟩ := hass i hi
    unfold mkv
    split
    ·rfl
    ·rename_i hag
     have h6 : ∃ x, ass[i] = [x] := by
      generalize ass[i] = as at h2
      cases h2 with
      | struct fs parts hu' hl' h' => exact absurd (by unfold isAggT; rw [hu']) hag
      | bool => exact ⟨_, rfl⟩
      | int => exact ⟨_, rfl⟩
      | str => exact ⟨_, rfl⟩
      | nilS => exact ⟨_, rfl⟩
      | vs => exact ⟨_, rfl⟩
     obtain ⟨x, hx⟩ := h6
     rw [hx] at h5 ⊢
     simp only [List.headD_cons]
     cases x <;> first | rfl | simp [AV.leaf] at h5
   refine ⟨[.vs (ass.map (mkv P e)) false], .vs ass hu (by rw [hal]; exact Nat.le_trans hc.2.1 hc.2.2) (fun i hi => by obtain ⟨_, _, _, h, _⟩ := hass i hi; exact h), one _ _ ?_, ?_, rfl, ?_⟩
   ·have hlen2 : (ass.map (mkv P e)).length = len := by simp [hal]
    have hcl : ∀ i (hi : i < (ass.map (mkv P e)).length), (ass.map (mkv P e))[i].cells = ass[i]'(by simpa using hi) := fun i hi => by
     rw [List.getElem_map]; exact hmc i (by simpa using hi)
    have hlz : ∀ i (hi : i < ass.length), ass[i].length = P.cellsOf e := fun i hi => by
     obtain ⟨cs, d, h1, h2, h3, _⟩ := hass i hi
     have := h3.1; simp at this
     rw [this]; exact (hcells i (by omega) cs h1).1
    have hcell : ∀ i (hi : i < ass.length) j (hj : j < ass[i].length), ∃ u, w.cell? ⟨a.block, a.off + i * P.cellsOf e + j, none⟩ = some u ∧ VRel (Env.start w) ass[i][j] u := by
     intro i hi j hj
     obtain ⟨cs, d, h1, h2, h3, _⟩ := hass i hi
     have h4 := h3.1
     simp at h4
     have h5 := (hcells i (by omega) cs h1).2 j (by omega)
     have hs := (hsp (by omega)).2
     rw [add_of a _ hs, Addr.add_lit] at h5
     refine ⟨_, h5, ?_⟩
     have := h3.get j hj
     simpa [Array.getD_eq_getD_getElem?, show j < cs.length by omega] using this
    have := VRel.vs (E := Env.start w) (ass.map (mkv P e)) false a cap (P.cellsOf e) (fun i j => (w.cell? ⟨a.block, a.off + i * P.cellsOf e + j, none⟩).getD undef)
     (plL_of fun i hi => by
      rw [List.getElem_map]
      obtain ⟨cs, d, h1, h2, h3, h4, _⟩ := hass i (by simpa using hi)
      unfold mkv
      split
      ·exact h4
      ·cases hq : ass[i]'(by simpa using hi) with
       | nil => rfl
       | cons x r => rw [hq] at h4; simp only [AV.plL, Bool.and_eq_true] at h4; exact h4.1)
     (by rw [hlen2]; exact hc.2.1) (fun h => by cases h) (fun h0 => hsp (by omega))
     (fun i hi => by rw [hcl i hi]; exact hlz i _)
     (fun i hi j hj => by
      have hi' : i < ass.length := by simpa using hi
      have hj' : j < ass[i].length := by rw [hcl i hi] at hj; exact hj
      obtain ⟨u, h1, _⟩ := hcell i hi' j hj'
      show w.cell? _ = _
      rw [h1]; rfl)
     (fun i hi j hj => by
      have hi' : i < ass.length := by simpa using hi
      have hj' : j < ass[i].length := by rw [hcl i hi] at hj; exact hj
      obtain ⟨u, h1, h2⟩ := hcell i hi' j hj'
      rw [h1]
      simp only [hcl i hi]
      exact h2)
    rw [hlen2] at this
    exact this
   ·simp only [AV.plL, AV.pl, Bool.and_true]
    refine plL_of fun i hi => ?_
    rw [List.getElem_map]
    obtain ⟨cs, d, h1, h2, h3, h4, _⟩ := hass i (by simpa using hi)
    unfold mkv
    split
    ·exact h4
    ·cases hq : ass[i]'(by simpa using hi) with
     | nil => rfl
     | cons x r => rw [hq] at h4; simp only [AV.plL, Bool.and_eq_true] at h4; exact h4.1
   ·simp only [bkL, bk, dbk, Nat.add_zero]
    have hsum : ∀ (l : List (List AV)) (ds : List (DataW H)), l.length ≤ ds.length → (∀ i (h : i < l.length) (h' : i < ds.length), 0 < l[i].length ∧ bkL l[i] ≤ dbk ds[i]) → bkL (l.map (mkv P e)) ≤ dbkL ds := by
     intro l
     induction l with
     | nil => intro ds _ _; simp [bkL]
     | cons x l ihl =>
      intro ds hl hr
      cases ds with
      | nil => simp at hl
      | cons y ds =>
       have h0 := hr 0 (by simp) (by simp)
       have h1 := ihl ds (by simpa using hl) fun i hi hi' => (hr (i + 1) (by simpa using hi) (by simpa using hi') :)
       simp only [List.map_cons, bkL, dbkL]
       simp only [List.getElem_cons_zero] at h0
       have := bk_mkv_le P e x h0.1
       omega
    have := hsum ass (elems.map (·.1)) (by simp; omega) fun i hi hi' => by
     obtain ⟨cs, d, h1, h2, h3, h4, h5, h6, h7⟩ := hass i hi
     rw [List.getElem?_eq_getElem hi'] at h7
     simp only [Option.some.injEq] at h7
     rw [h7]
     refine ⟨?_, h6⟩
     have h8 := h3.1
     simp at h8
     rw [h8, (hcells i (by omega) cs h1).1]; exact hpos
    omega
  ·rename_i cs _ _ fs hu
   rw [hu] at hpt
   simp only [Bool.and_eq_true, beq_iff_eq, List.all_eq_true] at hpt
   obtain ⟨hfS, hlaid⟩ := hpt
   split at h
   case isFalse => cases h
   rename_i hcl
   simp only [Option.map_eq_some_iff, Prod.mk.injEq] at h
   obtain ⟨xs, hxs, rfl, rfl⟩ := h
   obtain ⟨hlen, hget⟩ := mapM_get hxs
   have hone : ∀ i (hi : i < fs.toList.length), ∃ as, HasT P fs.toList[i].type as ∧ LRel (Env.start w) as ((cs.drop fs.toList[i].offset).take (P.cellsOf fs.toList[i].type)).toArray ∧ AV.plL as = true ∧ as.all AV.leaf = true ∧ bkL as ≤ dbk (xs[i]'(by omega)).1 := by
    intro i hi
    have := hget i hi (by omega)
    exact ih _ _ _ (xs[i]'(by omega)).2 (by have := hfS _ (List.getElem_mem hi); simpa using this) this
   obtain ⟨parts, hpl, hparts⟩ : ∃ parts : List (List AV), parts.length = fs.toList.length ∧ ∀ i (hi : i < parts.length) (hi' : i < fs.toList.length), HasT P fs.toList[i].type parts[i] ∧ LRel (Env.start w) parts[i] ((cs.drop fs.toList[i].offset).take (P.cellsOf fs.toList[i].type)).toArray ∧ AV.plL parts[i] = true ∧ parts[i].all AV.leaf = true ∧ bkL parts[i] ≤ dbk (xs[i]'(by omega)).1 := by
    refine ⟨(List.range fs.toList.length).map fun i => if h : i < fs.toList.length then (hone i h).choose else [], by simp, fun i hi hi' => ?_⟩
    simp only [List.getElem_map, List.getElem_range, hi', dif_pos]
    exact (hone i hi').choose_spec
   have hflat := laid_flat (P := P) cs fs.toList 0 _ hlaid (Nat.le_of_eq hcl.symm)
   rw [List.drop_zero, Nat.sub_zero, ← hcl, List.take_length] at hflat
   refine ⟨parts.flatten, .struct fs parts hu hpl fun i hi hi' => (hparts i hi hi').1, ?_, plL_flatten fun p hp => ?_, all_flatten fun p hp => ?_, ?_⟩
   ·have := LRel.flat (E := Env.start w) (parts := parts) (cs := fs.toList.map fun f => (cs.drop f.offset).take (P.cellsOf f.type)) (by simp [hpl]) fun i hi hi' => by
     rw [List.getElem_map]; exact (hparts i hi (by simpa using hi')).2.1
    rw [hflat.2] at this
    exact this
   ·obtain ⟨i, hi, rfl⟩ := List.getElem_of_mem hp
    exact (hparts i hi (by omega)).2.2.1
   ·obtain ⟨i, hi, rfl⟩ := List.getElem_of_mem hp
    exact (hparts i hi (by omega)).2.2.2.1
   ·simp only [dbk]
    have := bkL_flatten (H := H) (parts := parts) (ds := xs.map (·.1)) (by simp; omega) fun i hi hi' => by
     rw [List.getElem_map]; exact (hparts i hi (by omega)).2.2.2.2
    omega
  all_goals first
   | (rename_i hu; rw [hu] at hpt; cases hpt)
   | cases h
end Go.Abs

