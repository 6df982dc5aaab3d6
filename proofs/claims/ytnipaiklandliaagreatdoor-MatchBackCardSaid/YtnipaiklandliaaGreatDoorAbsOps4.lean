import Derived.Test.YtnipaiklandliaaGreatDoorAbsOps3
namespace Go.Abs
open Go
section
variable {P : Program} {E : Env}
theorem CellsAt.nil (blk o : Nat) : CellsAt E blk o [] := fun j h => by simp at h
theorem CellsAt.append {blk o : Nat} {a b : List AV} (ha : CellsAt E blk o a) (hb : CellsAt E blk (o + a.length) b) : CellsAt E blk o (a ++ b) := by
 intro j hj
 by_cases h : j < a.length
 ·obtain ⟨u, h1, h2⟩ := ha j h
  exact ⟨u, h1, by rw [List.getElem_append_left h]; exact h2⟩
 ·have hj' : j - a.length < b.length := by simp at hj; omega
  obtain ⟨u, h1, h2⟩ := hb (j - a.length) hj'
  refine ⟨u, ?_, by rw [List.getElem_append_right (Nat.le_of_not_lt h)]; exact h2⟩
  rw [← h1]; congr 2; omega
theorem CellsAt.take {blk o : Nat} {a : List AV} (ha : CellsAt E blk o a) (n : Nat) : CellsAt E blk o (a.take n) := by
 intro j hj
 obtain ⟨u, h1, h2⟩ := ha j (by simp at hj; omega)
 exact ⟨u, h1, by simpa using h2⟩
theorem cells_flat {blk sz : Nat} (es : List AV) : ∀ (o : Nat), (∀ i (h : i < es.length), es[i].cells.length = sz) →
  (∀ i (h : i < es.length) j (hj : j < es[i].cells.length), ∃ u, E.w.cell? ⟨blk, o + i * sz + j, none⟩ = some u ∧ VRel E es[i].cells[j] u) →
  CellsAt E blk o (es.flatMap AV.cells) := by
 induction es with
 | nil => intro o _ _; simpa using CellsAt.nil blk o
 | cons e r ih =>
  intro o hz h
  rw [List.flatMap_cons]
  have he := hz 0 (by simp)
  simp only [List.getElem_cons_zero] at he
  refine CellsAt.append (fun j hj => by have := h 0 (by simp) j hj; simpa using this) ?_
  rw [he]
  refine ih (o + sz) (fun i hi => (hz (i + 1) (by simpa using hi) :)) fun i hi j hj => ?_
  obtain ⟨u, h1, h2⟩ := h (i + 1) (by simpa using hi) j hj
  refine ⟨u, ?_, h2⟩
  rw [← h1]; congr 2; rw [Nat.add_mul]; omega
theorem flat_length (es : List AV) (sz : Nat) (h : es.all (fun v => v.cells.length == sz) = true) : (es.flatMap AV.cells).length = es.length * sz := by
 induction es with
 | nil => simp
 | cons e r ih =>
  simp only [List.all_cons, Bool.and_eq_true, beq_iff_eq] at h
  simp [ih h.2, h.1, Nat.add_mul]; omega
theorem elemCells_ok (hE : HRel E) {sz m : Nat} {x : AV} {xs : List AV} {x' : Value} (hx : VRel E x x') (h : elemCells E.H sz x = some (m, xs)) :
  (Builtin.lenOf x').run P E.w = .ok m E.w ∧ xs.length = m * sz ∧
   ∀ n, n ≤ m → ∃ a : Array Value, (Builtin.firstCells sz n x').run P E.w = .ok a E.w ∧ LRel E (xs.take (n * sz)) a := by
 unfold elemCells at h
 have fin : ∀ (ad : Addr) (len c : Nat) (xs : List AV), ad.spot = none → xs.length = m * sz → CellsAt E ad.block ad.off xs → ∀ n, n ≤ m →
   ∃ a : Array Value, (Builtin.firstCells sz n (.slice (some ad) len c)).run P E.w = .ok a E.w ∧ LRel E (xs.take (n * sz)) a := by
  intro ad len c xs hs hlen hc n hn
  obtain ⟨a, h1, h2⟩ := (hc.take (n * sz)).load (P := P)
  refine ⟨a, ?_, h2⟩
  have hle : n * sz ≤ m * sz := Nat.mul_le_mul_right _ hn
  have e1 : (xs.take (n * sz)).length = n * sz := by simp; omega
  have e2 : ad = ⟨ad.block, ad.off, none⟩ := by cases ad; simp_all
  rw [e1] at h1
  rw [e2]; exact h1
 split at h
 ·simp only [Option.some.injEq, Prod.mk.injEq] at h
  obtain ⟨rfl, rfl⟩ := h
  cases hx
  exact ⟨rfl, by simp, fun n hn => ⟨#[], by simp [Builtin.firstCells], by simpa using LRel.nil E⟩⟩
 ·rename_i es f
  split at h
  ·rename_i hall
   simp only [Option.some.injEq, Prod.mk.injEq] at h
   obtain ⟨rfl, rfl⟩ := h
   cases hx with
   | vs _ _ a c sz' f' hp hc hf hi hz hv hr =>
    refine ⟨rfl, flat_length es sz hall, fun n hn => ?_⟩
    by_cases h0 : 0 < es.length
    ·obtain ⟨him, hsp⟩ := hi h0
     have hsz : ∀ i (h : i < es.length), es[i].cells.length = sz := fun i h => by
      have := List.all_eq_true.1 hall _ (List.getElem_mem h); simpa using this
     have e1 : sz' = sz := by rw [← hz 0 h0, hsz 0 h0]
     subst e1
     exact fin a _ c _ hsp (flat_length es sz' hall) (cells_flat es a.off hsz fun i h j hj => ⟨_, hv i h j hj, hr i h j hj⟩) n hn
    ·have e0 : es = [] := List.length_eq_zero_iff.1 (by omega)
     subst e0
     simp only [List.length_nil, Nat.le_zero] at hn
     subst hn
     exact ⟨#[], by simp [Builtin.firstCells, loadCells, loadCellsFrom], by simpa using LRel.nil E⟩
  ·cases h
 ·rename_i s
  split at h
  ·rename_i hs
   subst hs
   simp only [Option.bind_eq_some_iff, Option.map_eq_some_iff, Prod.mk.injEq] at h
   obtain ⟨cs, hc, c, hw, rfl, rfl⟩ := h
   cases hx with
   | bs _ a c' hb hv hl hx h' =>
    obtain ⟨ha, _⟩ := h' cs hc
    have hca := (hE.cellsAt hc).win hw
    refine ⟨rfl, (win_spec hw).2.2, fun n hn => ?_⟩
    exact fin a _ c' c (by rw [ha]; rfl) (win_spec hw).2.2 (by rw [ha]; exact hca) n hn
  ·cases h
 ·rename_i s
  split at h
  ·rename_i hs
   subst hs
   simp only [Option.some.injEq, Prod.mk.injEq] at h
   obtain ⟨rfl, rfl⟩ := h
   cases hx
   refine ⟨rfl, by simp, fun n hn => ?_⟩
   refine ⟨((s.take n).map fun c => Value.int .u8 c.toNat).toArray, ?_, ?_⟩
   ·simp only [Builtin.firstCells, Sem.run_pure]
    congr 1
    apply Array.ext'
    simp
   ·rw [LRel.list]
    refine ⟨by simp, fun j => ?_⟩
    by_cases hj : j < (s.take n).length
    ·have hj2 : j < n ∧ j < s.length := by simp at hj; omega
     simp only [Nat.mul_one, ← List.map_take]
     simp only [List.getD, List.getElem?_map, List.getElem?_eq_getElem hj, Option.map_some, Option.getD_some]
     exact .int _ _
    ·simp only [Nat.mul_one, ← List.map_take]
     simp only [List.getD, List.getElem?_map, List.getElem?_eq_none (Nat.le_of_not_lt hj), Option.map_none, Option.getD_none]
     exact .undef E
  ·cases h
 ·cases h
theorem run_lenGrow {need old bytes : Nat} (h : old < need) (hr : roomy need bytes = true) :
  ((need : Int) > IntKind.i64.max) = False ∧ Builtin.nextslicecap need old * bytes ≤ 281474976710656 := by
 simp only [roomy, decide_eq_true_eq] at hr
 have h1 : need ≤ need * bytes := Nat.le_mul_of_pos_right _ hr.1
 refine ⟨eq_false (by rw [IntKind.max_i64]; omega), growslice_fits h hr.2⟩
theorem append_grows {t xt ty e : TypeId} {sz by_ : Nat} {i : TypeInfo} {xi : TypeDesc} {base : Option Addr} {n c m : Nat} {x' : Value} {old new : Array Value} {z : Value}
  (ht : P.underlying t = some (.slice e)) (hxt : P.underlying xt = some xi) (hni : ∀ k, xi ≠ .int k) (hi : P.info? e = some i) (hz : i.zero = some z) (hsz : i.size = sz) (hby : i.bytes = by_)
  (hlen' : (Builtin.lenOf x').run P E.w = .ok m E.w) (hroom : c < n + m) (hr : roomy (n + m) by_ = true)
  (hold' : (Builtin.firstCells sz n (.slice base n c)).run P E.drew.w = .ok old E.drew.w)
  (hnew' : (Builtin.firstCells sz m x').run P E.drew.w = .ok new E.drew.w) :
  ∃ (cap : Nat) (rest : Array Value), n + m ≤ cap ∧ rest.size = (cap - (n + m)) * z.cells.size ∧ (Builtin.append_ #[t, xt] ty #[.slice base n c, x']).run P E.w =
   .ok (.slice (some ⟨E.w.heap.size, 0, none⟩) (n + m) cap) (E.drew.w.alloc (.cells (old ++ new ++ rest) e)) := by
 obtain ⟨h1, h2⟩ := run_lenGrow hroom hr
 simp only [roomy, decide_eq_true_eq] at hr
 have hb0 : ¬ (by_ = 0) := by omega
 subst hsz hby
 refine ⟨grownCap E.w (n + m) c e, Builtin.zeroCells z.cells (grownCap E.w (n + m) c e - (n + m)), grownCap_ge _ _ _ _, size_zeroCells _ _, ?_⟩
 have hg : ¬ (Builtin.nextslicecap (n + m) c * i.bytes > 2 ^ 48) := by omega
 simp only [Builtin.append_, List.getElem?_toArray, List.getElem?_cons_zero, List.getElem?_cons_succ, Sem.run_bind, run_underlying ht, run_underlying hxt, Result.andThen_ok, sizeOf, typeInfo, run_program, hi,
  Sem.run_pure, Bool.false_eq_true, if_false, hlen', Bool.not_false, if_true, if_neg (Nat.not_le.2 hroom), h1, false_and, hg, run_choose, Question.forced, run_askRoom]
 change ((Builtin.firstCells i.size n (.slice base n c)).run P E.drew.w).andThen _ = _
 rw [hold']
 simp only [Result.andThen_ok]
 rw [hnew']
 simp only [Result.andThen_ok, zeroValue, Sem.run_bind, typeInfo, run_program, hi, Sem.run_pure, hz, newRow, run_newObj]
 rfl
theorem append_room {t xt ty e : TypeId} {sz : Nat} {xi : TypeDesc} {a : Addr} {n c m : Nat} {x' : Value} {new : Array Value} {w' : World}
  (ht : P.underlying t = some (.slice e)) (hxt : P.underlying xt = some xi) (hni : ∀ k, xi ≠ .int k) (hsz : sizeT P e = some sz)
  (hlen : (Builtin.lenOf x').run P E.w = .ok m E.w) (hroom : n + m ≤ c)
  (hnew : (Builtin.firstCells sz m x').run P E.w = .ok new E.w) (hst : (storeCells (a.add (n * sz)) new.toList).run P E.w = .ok () w') :
  (Builtin.append_ #[t, xt] ty #[.slice (some a) n c, x']).run P E.w = .ok (.slice (some a) (n + m) c) w' := by
 simp only [Builtin.append_, List.getElem?_toArray, List.getElem?_cons_zero, List.getElem?_cons_succ, Sem.run_bind, run_underlying ht, run_underlying hxt, Result.andThen_ok, sizeT_run hsz,
  Sem.run_pure, Bool.false_eq_true, if_false, hlen, Bool.not_false, if_true, hroom, hnew, hst]
theorem append_none {t xt ty e : TypeId} {sz : Nat} {xi : TypeDesc} {base : Option Addr} {n c : Nat} {x' : Value} {new : Array Value}
  (ht : P.underlying t = some (.slice e)) (hxt : P.underlying xt = some xi) (hni : ∀ k, xi ≠ .int k) (hsz : sizeT P e = some sz)
  (hlen : (Builtin.lenOf x').run P E.w = .ok 0 E.w) (hroom : n ≤ c) (hnew : (Builtin.firstCells sz 0 x').run P E.w = .ok new E.w) (hn : new = #[]) :
  (Builtin.append_ #[t, xt] ty #[.slice base n c, x']).run P E.w = .ok (.slice base n c) E.w := by
 subst hn
 simp only [Builtin.append_, List.getElem?_toArray, List.getElem?_cons_zero, List.getElem?_cons_succ, Sem.run_bind, run_underlying ht, run_underlying hxt, Result.andThen_ok, sizeT_run hsz,
  Sem.run_pure, Bool.false_eq_true, if_false, hlen, Bool.not_false, if_true, Nat.add_zero, hroom, hnew]
 cases base <;> simp [storeCells]
theorem LRel.ofCells {cs xs : List AV} {old new : Array Value} (h1 : LRel E cs old) (h2 : LRel E xs new) (rest : Array Value) :
  (cs ++ xs).length ≤ (old ++ new ++ rest).size ∧ ∀ j (h : j < (cs ++ xs).length), VRel E (cs ++ xs)[j] ((old ++ new ++ rest).getD j Go.undef) := by
 have h3 := h1.append h2
 exact ⟨by have := h3.1; simp only [Array.size_append] at this ⊢; omega, fun j h => h3.getD' rest j h⟩
theorem all_append {a b : List AV} (ha : a.all AV.leaf = true) (hb : b.all AV.leaf = true) : (a ++ b).all AV.leaf = true := by simp_all
theorem win_leaf {cs c : List AV} {off n : Nat} (h : cs.all AV.leaf = true) (hw : win cs off n = some c) : c.all AV.leaf = true := by
 obtain ⟨_, rfl, _⟩ := win_spec hw
 rw [List.all_eq_true] at h ⊢
 intro x hx
 exact h x (List.mem_of_mem_drop (List.mem_of_mem_take hx))
theorem HRel.leaf (hE : HRel E) {b ver : Nat} {cs : List AV} (h : hget E.H b ver = some cs) : cs.all AV.leaf = true := by
 obtain ⟨cc, e, z, hh, hl, _, hr⟩ := hE.cells b ver cs (alive_of_hget h)
 rw [List.all_eq_true]
 intro x hx
 obtain ⟨j, hj, rfl⟩ := List.getElem_of_mem hx
 exact (hr j hj).1
theorem Same.ok (hE : HRel E) (prot : Nat) : ∃ E', E'.H = E.H ∧ HRel E' ∧ Step prot E E' ∧ E'.w = E.w := ⟨E, rfl, hE, Step.refl prot E, rfl⟩
def Outcome1 (P : Program) (E : Env) (prot : Nat) (s : Sem Value) (r : AV) (h : Option Heap) : Prop :=
 ∃ v' E', s.run P E.w = .ok v' E'.w ∧ E'.H = h.getD E.H ∧ HRel E' ∧ Step prot E E' ∧ VRel E' r v'
theorem Outcome1.quiet (hE : HRel E) {prot : Nat} {s : Sem Value} {r : AV} {v' : Value} (h : s.run P E.w = .ok v' E.w) (hr : VRel E r v') : Outcome1 P E prot s r none :=
 ⟨v', E, h, rfl, hE, Step.refl prot E, hr⟩
theorem aAppend_ok (hE : HRel E) {prot : Nat} {ts : Array TypeId} {ty : TypeId} {s x r : AV} {h : Option Heap} {s' x' : Value} (hip : E.ip ≤ prot)
  (hs : VRel E s s') (hx : VRel E x x') (hts : ts.size = 2) (hh : aAppend P prot E.H ts s x = some (r, h)) : Outcome1 P E prot (Builtin.append_ ts ty #[s', x']) r h := by
 unfold aAppend at hh
 simp only [Option.bind_eq_some_iff] at hh
 obtain ⟨t, ht, xt, hxt, e, he, sz, hsz, by_, hby, ag, hag, u, hu, zz, hzz, hh⟩ := hh
 split at hh
 case isTrue => cases hh
 rename_i hzl
 simp only [ne_eq, Decidable.not_not] at hzl
 simp only [Option.bind_eq_some_iff] at hh
 obtain ⟨p, hel, hh⟩ := hh
 obtain ⟨m, xs⟩ := p
 dsimp only at hh
 obtain ⟨zv, _, hzr, i, hi, hz⟩ := zeroT_run hzz
 have hzs : zv.cells.size = sz := by rw [← (hzr E).cells.1]; exact hzl
 obtain rfl : ts = #[t, xt] := by
  obtain ⟨l⟩ := ts
  match l, hts with
  | [a, b], _ => simp at ht hxt; rw [ht, hxt]
 have het : P.underlying t = some (.slice e) := by
  unfold sliceElem at he
  split at he
  ·simp only [Option.some.injEq] at he; subst he; assumption
  ·cases he
 obtain ⟨xi, hxi, hni⟩ : ∃ xi, P.underlying xt = some xi ∧ ∀ k, xi ≠ .int k := by
  split at hu
  ·cases hu
  ·cases hu
  ·rename_i xi hne hxi
   exact ⟨xi, hxi, fun k hk => hne k hk⟩
 have hsi : i.size = sz := by simp only [sizeT, hi, Option.map_some, Option.some.injEq] at hsz; exact hsz
 have hbi : i.bytes = by_ := by simp only [bytesT, hi, Option.map_some, Option.some.injEq] at hby; exact hby
 split at hh
 case isFalse => cases hh
 rename_i hlf
 obtain ⟨hlen, hxl, hfc⟩ := elemCells_ok (P := P) hE hx hel
 have hD : VRel E.drew x x' := hx.mono (Step.drew prot E).all
 obtain ⟨_, _, hfcD⟩ := elemCells_ok (P := P) hE.drew hD hel
 have none0 : m = 0 → ∀ (base : Option Addr) (n c : Nat), n ≤ c → (Builtin.append_ #[t, xt] ty #[.slice base n c, x']).run P E.w = .ok (.slice base n c) E.w := by
  intro hm base n c hnc
  subst hm
  obtain ⟨a, h1, h2⟩ := hfc 0 (Nat.le_refl _)
  refine append_none het hxi hni hsz hlen hnc h1 ?_
  have := h2.1
  simp at this
  exact Array.size_eq_zero_iff.1 this.symm
 have grows : ∀ (old : List AV) (base : Option Addr) (n c : Nat), elemCells E.H sz s = some (n, old) → s' = .slice base n c → old.all AV.leaf = true → c < n + m → roomy (n + m) by_ = true →
   ∃ (cap : Nat) (cc : Array Value), n + m ≤ cap ∧ (Builtin.append_ #[t, xt] ty #[s', x']).run P E.w = .ok (.slice (some ⟨E.w.heap.size, 0, none⟩) (n + m) cap) (E.drew.w.alloc (.cells cc e)) ∧
    (old ++ xs).length + (cap - (n + m)) * zv.cells.size = cc.size ∧ ∀ j (h : j < (old ++ xs).length), VRel E.drew (old ++ xs)[j] (cc.getD j Go.undef) := by
  intro old base n c hes hs' holf hc hr
  have hsD : VRel E.drew s s' := hs.mono (Step.drew prot E).all
  obtain ⟨_, hol, hfo⟩ := elemCells_ok (P := P) hE.drew hsD hes
  obtain ⟨a1, h1, h2⟩ := hfo n (Nat.le_refl _)
  obtain ⟨a2, h3, h4⟩ := hfcD m (Nat.le_refl _)
  rw [List.take_of_length_le (by omega)] at h2 h4
  subst hs'
  obtain ⟨cap, rest, hcap, hrs, hrun⟩ := append_grows (ty := ty) het hxi hni hi hz hsi hbi hlen hc hr h1 h3
  have := LRel.ofCells h2 h4 rest
  exact ⟨cap, _, hcap, hrun, by have e1 := h2.1; have e2 := h4.1; simp [hrs]; omega, this.2⟩
 split at hh
 ·-- nil
  cases hs
  split at hh
  ·rename_i hm
   simp only [Option.some.injEq, Prod.mk.injEq] at hh
   obtain ⟨rfl, rfl⟩ := hh
   exact .quiet hE (none0 hm none 0 0 (Nat.le_refl _)) .nilS
  ·split at hh
   ·rename_i hm hr
    simp only [Option.some.injEq, Prod.mk.injEq] at hh
    obtain ⟨rfl, rfl⟩ := hh
    obtain ⟨cap, cc, hcap, hrun, hsz', hrel⟩ := grows [] none 0 0 rfl rfl rfl (by omega) (by simpa using hr)
    simp only [List.nil_append, Nat.zero_add] at hsz' hrel hcap hrun
    obtain ⟨hH, hS⟩ := newCellsT hE.drew prot (rowV e) e .row hlf (by omega) hrel
    refine ⟨_, _, hrun, rfl, hH, (Step.drew prot E).trans hS, .bs _ _ _ (by simp [Env.alloc, Env.drew]) (fun v c h => by simp [Env.alloc, Env.drew] at h; exact Nat.le_of_eq h.1) hcap (fun h => by cases h) fun c _ => ⟨by simp [at0, Env.alloc, Env.drew, upd], cc, e, (0, 0), ?_, ?_⟩⟩
    ·simp only [Env.alloc, Env.drew, upd, if_true]; exact heap_alloc_new _ _
    ·simp only [Env.alloc, Env.drew, upd, if_true]
     rw [hzs] at hsz'
     have : cap * sz = m * sz + (cap - m) * sz := by rw [← Nat.add_mul]; congr 1; omega
     omega
   ·cases hh
 ·-- a tree
  rename_i es full
  split at hh
  ·rename_i hm
   simp only [Option.some.injEq, Prod.mk.injEq] at hh
   obtain ⟨rfl, rfl⟩ := hh
   cases hs with
   | vs _ _ a c sz' f' hp hc hf hi' hz' hv hr => exact .quiet hE (none0 hm _ _ _ hc) (.vs es full a c sz' f' hp hc hf hi' hz' hv hr)
  ·split at hh
   ·rename_i hm hcond
    simp only [Bool.and_eq_true] at hcond
    obtain ⟨⟨⟨hfull, hr⟩, hall⟩, hesl⟩ := hcond
    simp only [Option.some.injEq, Prod.mk.injEq] at hh
    obtain ⟨rfl, rfl⟩ := hh
    cases hs with
    | vs _ _ a c sz' f' hp hc hf hi' hz' hv hr' =>
     have hc' := hf hfull
     obtain ⟨cap, cc, hcap, hrun, hsz', hrel⟩ := grows (es.flatMap AV.cells) (some a) es.length c (by simp [elemCells, hall]) rfl hesl (by omega) hr
     obtain ⟨hH, hS⟩ := newCells hE.drew prot e (all_append hesl hlf) (by omega) hrel
     refine ⟨_, _, hrun, rfl, hH, (Step.drew prot E).trans hS, .bs _ _ _ (by simp [Env.alloc, Env.drew]) (fun v c _ => by simp) hcap (fun h => by cases h) fun c _ => ⟨by simp [at0, Env.alloc, Env.drew, upd], cc, e, (0, 0), ?_, ?_⟩⟩
     ·simp only [Env.alloc, Env.drew, upd, if_true]; exact heap_alloc_new _ _
     ·simp only [Env.alloc, Env.drew, upd, if_true]
      rw [hzs, List.length_append, flat_length es sz hall, hxl] at hsz'
      have : cap * sz = es.length * sz + m * sz + (cap - (es.length + m)) * sz := by rw [← Nat.add_mul, ← Nat.add_mul]; congr 1; omega
      omega
   ·cases hh
 ·-- a block
  rename_i hd
  split at hh
  ·rename_i hm
   simp only [Option.some.injEq, Prod.mk.injEq] at hh
   obtain ⟨rfl, rfl⟩ := hh
   have hs0 := hs
   cases hs with
   | bs _ a c hb hv hl hx' h' => exact .quiet hE (none0 hm _ _ _ hl) hs0
  ·rename_i hm
   split at hh
   case isTrue => cases hh
   rename_i hdsz
   simp only [ne_eq, Decidable.not_not] at hdsz
   simp only [Option.bind_eq_some_iff] at hh
   obtain ⟨cs, hcs, old, hold, hh⟩ := hh
   split at hh
   case isFalse => cases hh
   rename_i hr
   have hes : elemCells E.H sz (.bs hd) = some (hd.len, old) := by simp [elemCells, hdsz, hcs, hold]
   have holf := win_leaf (hE.leaf hcs) hold
   have hs0 := hs
   cases hs with
   | bs _ a c hb hv hl hx' h' =>
    obtain ⟨ha, cc0, e0, z0, hh0, hle0⟩ := h' cs hcs
    split at hh
    ·-- capacity is known
     rename_i hex
     have hcap' := hx' hex
     split at hh
     ·rename_i hroom
      simp only [Option.map_eq_some_iff, Prod.mk.injEq] at hh
      obtain ⟨H', hput, rfl, rfl⟩ := hh
      obtain ⟨a1, h1, h2⟩ := hfc m (Nat.le_refl _)
      rw [List.take_of_length_le (by omega)] at h2
      obtain ⟨E', e1, e2, e3, e4, _⟩ := hput_ok (P := P) (vs := a1.toList) hE hip (by simpa using h2) hput
      refine ⟨_, E', append_room het hxi hni hsz hlen (by omega) h1 ?_, e1, e2, e3, ?_⟩
      ·rw [ha, add_at0]; exact e4
      ·have := hs0.mono e3.all
       cases this with
       | bs _ _ _ hb2 hv2 hl2 hx2 h2' => exact .bs { hd with len := hd.len + m } a c hb2 hv2 (by simp only; omega) hx2 h2'
     ·rename_i hroom
      simp only [Option.some.injEq, Prod.mk.injEq] at hh
      obtain ⟨rfl, rfl⟩ := hh
      obtain ⟨cap, cc, hcap, hrun, hsz', hrel⟩ := grows old (some a) hd.len c hes rfl holf (by omega) hr
      obtain ⟨hH, hS⟩ := newCells hE.drew prot e (all_append holf hlf) (by omega) hrel
      refine ⟨_, _, hrun, rfl, hH, (Step.drew prot E).trans hS, .bs _ _ _ (by simp [Env.alloc, Env.drew]) (fun v c _ => by simp) hcap (fun h => by cases h) fun c _ => ⟨by simp [at0, Env.alloc, Env.drew, upd], cc, e, (0, 0), ?_, ?_⟩⟩
      ·simp only [Env.alloc, Env.drew, upd, if_true]; exact heap_alloc_new _ _
      ·simp only [Env.alloc, Env.drew, upd, if_true]
       rw [hzs, List.length_append, (win_spec hold).2.2, hxl] at hsz'
       have : cap * sz = hd.len * sz + m * sz + (cap - (hd.len + m)) * sz := by rw [← Nat.add_mul, ← Nat.add_mul]; congr 1; omega
       omega
    ·split at hh
     case isFalse => cases hh
     rename_i hex hguard
     obtain ⟨hprot, hguard⟩ := hguard
     obtain ⟨hev, hev5⟩ := rowOk_spec hguard
     simp only [Option.some.injEq, Prod.mk.injEq] at hh
     obtain ⟨rfl, rfl⟩ := hh
     have hbk := alive_of_hget hcs
     obtain ⟨ccb, eb, zb, hwb, hlb, hzb, hrb⟩ := hE.cells _ _ _ hbk
     have hver : TagOk hd.ver (E.ρ hd.b) eb ccb.size cs.length := by
      obtain ⟨cc', e', z', t2, t3⟩ := hE.tag _ _ _ hbk
      rw [hwb] at t2
      cases t2
      exact t3
     have hver2 : ∀ {p : Nat × Nat} {n k : Nat}, p.2 = 0 → TagOk (hd.ver + 4) p e n k := fun hp => ⟨fun h => by omega, fun h => ⟨(hev5 (by omega)).1, hp⟩, fun h => by omega⟩
     have heq : ccb = cc0 ∧ eb = e0 ∧ zb = z0 := by rw [hwb] at hh0; cases hh0; exact ⟨rfl, rfl, rfl⟩
     obtain ⟨rfl, rfl, rfl⟩ := heq
     have hol : old.length = hd.len * sz := (win_spec hold).2.2
     by_cases hroom : hd.len + m ≤ c
     ·-- in place
      obtain ⟨a1, h1, h2⟩ := hfc m (Nat.le_refl _)
      rw [List.take_of_length_le (by omega)] at h2
      have hmul : (hd.len + m) * sz ≤ c * sz := Nat.mul_le_mul_right _ hroom
      rw [Nat.add_mul] at hmul
      have h2s := h2.1
      have hrun := run_storeCells (P := P) (E.ρ hd.b).1 ((E.ρ hd.b).2 + (hd.off + hd.len * sz)) eb zb a1.toList 0 ccb E.w hwb (by simp; rw [hdsz] at hle0; omega) (hzb (by omega)) (LRel.one (by simpa using h2) hlf)
      simp only [Nat.add_zero] at hrun
      have hBR : BRel E ((E.ρ hd.b).1, (E.ρ hd.b).2 + hd.off) (.cells (hd.ver + 4) (old ++ xs)) (.cells (wr ccb ((E.ρ hd.b).2 + (hd.off + hd.len * sz)) a1.toList) eb zb) := by
       refine .cells _ _ _ _ _ (by rw [wr_size]; simp only [List.length_append]; rw [hdsz] at hle0; omega) (fun _ => by rw [wr_size]; exact hzb (by omega)) (fun j hj => ?_) (hver.next hev fun h4 h5 => by have := (hev5 h4).2; simp only; omega)
       rw [wr_get _ _ _ (by simp; rw [hdsz] at hle0; omega)]
       simp only [List.length_append] at hj
       by_cases hjo : j < old.length
       ·rw [if_neg (by omega), List.getElem_append_left hjo]
        obtain ⟨hw1, hw2, _⟩ := win_spec hold
        have := hrb (hd.off + j) (by omega)
        refine ⟨all_get holf j hjo, ?_⟩
        subst hw2
        simpa [Nat.add_assoc] using this.2
       ·rw [if_pos (by simp; omega), List.getElem_append_right (by omega)]
        refine ⟨all_get hlf _ _, ?_⟩
        have := h2.get (j - old.length) (by omega)
        rw [show (E.ρ hd.b).1 = (E.ρ hd.b).1 from rfl, show (E.ρ hd.b).2 + hd.off + j - ((E.ρ hd.b).2 + (hd.off + hd.len * sz)) = j - old.length by omega]
        simpa [Array.getD_eq_getD_getElem?, List.getD] using this
      refine ⟨_, _, append_room het hxi hni hsz hlen hroom h1 (by rw [ha, add_at0]; exact hrun), rfl,
       hE.write (p := ((E.ρ hd.b).1, (E.ρ hd.b).2 + hd.off)) hbk hwb (by omega) rfl (fun h => by omega) (wr_size _ _ _) (by omega) hBR, Step.write (p := ((E.ρ hd.b).1, (E.ρ hd.b).2 + hd.off)) hE hbk hwb (by omega) rfl (fun h => by omega) (wr_size _ _ _) hprot hip, ?_⟩
      refine .bs _ _ _ (by simpa [Env.put] using hb) (fun v c' hc' => ?_) hroom (fun h => by cases h) fun c' hc' => ⟨?_, wr ccb ((E.ρ hd.b).2 + (hd.off + hd.len * sz)) a1.toList, eb, zb, ?_, ?_⟩
      ·simp only [Env.put] at hc'
       rw [get_set_eq hb] at hc'
       cases hc'; exact Nat.le_refl _
      ·rw [ha]; simp [at0, Env.put, upd]
      ·simp only [Env.put, upd, if_true]; exact setBlk_same _ _ _ (Array.getElem?_eq_some_iff.1 hwb).1
      ·simp only [Env.put, upd, if_true]
       rw [wr_size, hdsz] at *
       omega
     ·obtain ⟨cap, cc, hcap, hrun, hsz', hrel⟩ := grows old (some a) hd.len c hes rfl holf (by omega) hr
      have hbk' : E.drew.H[hd.b]? = some (Blk.cells hd.ver cs) := hbk
      have hBR : BRel E.drew (E.drew.w.heap.size, 0) (.cells (hd.ver + 4) (old ++ xs)) (.cells cc e) :=
       .cells _ _ _ _ _ (by simp only [Nat.zero_add]; omega) (fun _ i _ => by simp) (fun j hj => ⟨all_get (all_append holf hlf) j hj, by simpa using hrel j hj⟩) (hver2 rfl)
      refine ⟨_, _, hrun, rfl, hE.drew.move hbk' (by omega) hBR, (Step.drew prot E).trans (Step.move hE.drew _ hbk' (by omega) hprot), ?_⟩
      refine .bs _ _ _ (by simpa [Env.put, Env.drew] using hb) (fun v c' hc' => ?_) hcap (fun h => by cases h) fun c' hc' => ⟨?_, cc, e, (0, 0), ?_, ?_⟩
      ·simp only [Env.put, Env.drew] at hc'
       rw [get_set_eq hb] at hc'
       cases hc'; exact Nat.le_refl _
      ·simp [at0, Env.put, Env.drew, upd]
      ·simp only [Env.put, upd, if_true]; exact heap_alloc_new _ _
      ·simp only [Env.put, Env.drew, upd, if_true]
       rw [hzs, List.length_append, hol, hxl] at hsz'
       have : cap * sz = hd.len * sz + m * sz + (cap - (hd.len + m)) * sz := by rw [← Nat.add_mul, ← Nat.add_mul]; congr 1; omega
       omega
 ·cases hh
end
end Go.Abs

