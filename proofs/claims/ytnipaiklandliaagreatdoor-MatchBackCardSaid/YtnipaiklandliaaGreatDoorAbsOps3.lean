import Derived.Test.YtnipaiklandliaaGreatDoorAbsOps2
namespace Go.Abs
open Go
section
variable {P : Program} {E : Env}
def wr : Array Value → Nat → List Value → Array Value
 | cur, _, [] => cur
 | cur, k, v :: r => wr (cur.setIfInBounds k v) (k + 1) r
theorem wr_size (cur : Array Value) (k : Nat) (vs : List Value) : (wr cur k vs).size = cur.size := by
 induction vs generalizing cur k with
 | nil => rfl
 | cons v r ih => simp [wr, ih]
theorem wr_get (cur : Array Value) (k : Nat) (vs : List Value) (hk : k + vs.length ≤ cur.size) (j : Nat) :
  (wr cur k vs).getD j undef = if k ≤ j ∧ j < k + vs.length then vs.getD (j - k) undef else cur.getD j undef := by
 induction vs generalizing cur k with
 | nil => rw [if_neg (by simp)]; rfl
 | cons v r ih =>
  simp only [List.length_cons] at hk
  simp only [wr]
  rw [ih _ _ (by simp; omega)]
  by_cases h1 : k + 1 ≤ j ∧ j < k + 1 + r.length
  ·rw [if_pos h1, if_pos (by simp; omega), show j - k = (j - (k + 1)) + 1 by omega]; simp
  ·rw [if_neg h1]
   by_cases h2 : j = k
   ·subst h2
    rw [if_pos (by simp)]
    simp [Array.getD_eq_getD_getElem?, show j < cur.size by omega]
   ·rw [if_neg (by simp; omega), Array.getD_eq_getD_getElem?, Array.getD_eq_getD_getElem?, Array.getElem?_setIfInBounds, if_neg (by omega)]
theorem setBlk_self {w : World} {g : Nat} {o : Obj} (h : w.heap[g]? = some o) : setBlk w g o = w := by
 obtain ⟨hlt, he⟩ := Array.getElem?_eq_some_iff.1 h
 have : w.heap.setIfInBounds g o = w.heap := by
  apply Array.ext_getElem?
  intro j
  rw [Array.getElem?_setIfInBounds]
  split
  ·rename_i e; subst e; simp [hlt, he]
  ·rfl
 cases w; simp_all [setBlk]
theorem setBlk_twice (w : World) (g : Nat) (o o' : Obj) : setBlk (setBlk w g o) g o' = setBlk w g o' := by simp [setBlk]
theorem setCell_eq {w : World} {g off : Nat} {cur : Array Value} {t : TypeId} {z : Nat × Nat} (h : w.heap[g]? = some (.cells cur t z)) (v : Value) :
  w.setCell ⟨g, off, none⟩ v = setBlk w g (.cells (cur.setIfInBounds off v) t z) := by
 obtain ⟨hlt, he⟩ := Array.getElem?_eq_some_iff.1 h
 simp only [World.setCell, setBlk]
 congr 1
 apply Array.ext_getElem?
 intro j
 rw [Array.getElem?_modify, Array.getElem?_setIfInBounds]
 split
 ·rename_i e; subst e; simp [hlt, he]
 ·rfl
theorem run_storeCells (g o : Nat) (t : TypeId) (z : Nat × Nat) : ∀ (vs : List Value) (i : Nat) (cur : Array Value) (w : World), w.heap[g]? = some (.cells cur t z) →
  o + i + vs.length ≤ cur.size → (∀ j, j < cur.size → ¬ (z.1 ≤ j ∧ j < z.2)) → (∀ v ∈ vs, v.oneCell' = true) →
  (storeCells ⟨g, o, none⟩ vs i).run P w = .ok () (setBlk w g (.cells (wr cur (o + i) vs) t z))
 | [], i, cur, w, h, _, _, _ => by simp [storeCells, wr, setBlk_self h]
 | v :: r, i, cur, w, h, hk, hz, h1 => by
  simp only [List.length_cons] at hk
  have hc : w.cell? ⟨g, o + i, none⟩ = some cur[o + i] := by simp [World.cell?, h, show o + i < cur.size by omega]
  have hf : w.frozen? ⟨g, o + i, none⟩ = false := by
   have := hz (o + i) (by omega)
   obtain ⟨z1, z2⟩ := z
   simp only [World.frozen?, h]
   simp only at this
   simp
   omega
  simp only [storeCells, Sem.run_bind, Addr.add_lit, run_store P w _ v .plain (h1 v (by simp)), hc, hf, Bool.false_eq_true, if_false, Result.andThen_ok, setCell_eq h]
  rw [run_storeCells g o t z r (i + 1) (cur.setIfInBounds (o + i) v) _ (setBlk_same _ _ _ (Array.getElem?_eq_some_iff.1 h).1) (by simp; omega) (by simpa using hz) (fun u hu => h1 u (by simp [hu]))]
  rw [setBlk_twice]
  simp [wr, Nat.add_assoc]
theorem splice_length {cs xs : List AV} {off : Nat} (h : off + xs.length ≤ cs.length) : (splice cs off xs).length = cs.length := by
 simp [splice]; omega
theorem splice_get {cs xs : List AV} {off : Nat} (h : off + xs.length ≤ cs.length) (j : Nat) (hj : j < (splice cs off xs).length) :
  (splice cs off xs)[j] = if h' : off ≤ j ∧ j < off + xs.length then xs[j - off] else cs[j]'(by rw [splice_length h] at hj; exact hj) := by
 have hj' := hj
 rw [splice_length h] at hj'
 apply Option.some.inj
 rw [← List.getElem?_eq_getElem hj]
 unfold splice
 rcases Nat.lt_or_ge j off with h1 | h1
 ·rw [dif_neg (by omega), ← List.getElem?_eq_getElem, List.append_assoc, List.getElem?_append_left (by simp; omega), List.getElem?_take_of_lt h1]
 ·rcases Nat.lt_or_ge j (off + xs.length) with h2 | h2
  ·rw [dif_pos ⟨h1, h2⟩, ← List.getElem?_eq_getElem, List.append_assoc, List.getElem?_append_right (by simp; omega), List.getElem?_append_left (by simp; omega)]
   congr 1; simp; omega
  ·rw [dif_neg (by omega), ← List.getElem?_eq_getElem, List.getElem?_append_right (by simp; omega), List.getElem?_drop]
   congr 1; simp; omega
theorem all_get {l : List AV} (h : l.all AV.leaf = true) (j : Nat) (hj : j < l.length) : l[j].leaf = true := List.all_eq_true.1 h _ (List.getElem_mem hj)
theorem LRel.one {l : List AV} {vs : List Value} (h : LRel E l vs.toArray) (hl : l.all AV.leaf = true) : ∀ v ∈ vs, v.oneCell' = true := by
 intro v hv
 obtain ⟨j, hj, rfl⟩ := List.getElem_of_mem hv
 have hlen : l.length = vs.length := by simpa using h.1
 have := h.get j (by omega)
 have h2 := this.isLeaf (all_get hl j (by omega))
 simpa [Array.getD_eq_getD_getElem?, hj] using h2
theorem hput_ok (hE : HRel E) {prot b ver off : Nat} {xs : List AV} {vs : List Value} {H' : Heap} (hip : E.ip ≤ prot) (hx : LRel E xs vs.toArray) (h : hput prot E.H b ver off xs = some H') :
  ∃ E', E'.H = H' ∧ HRel E' ∧ Step prot E E' ∧ (storeCells (at0 (E.ρ b) off) vs).run P E.w = .ok () E'.w ∧ hget E.H b ver ≠ none := by
 unfold hput at h
 simp only [Option.bind_eq_some_iff] at h
 obtain ⟨cs, hc, h⟩ := h
 split at h
 ·rename_i hh
  obtain ⟨hp, hle, hlf, hv3⟩ := hh
  simp only [Option.some.injEq] at h; subst h
  have hb := alive_of_hget hc
  obtain ⟨cc, e, z, hw, hl, hz, hr⟩ := hE.cells b ver cs hb
  have hlen : xs.length = vs.length := by simpa using hx.1
  have hrun := run_storeCells (P := P) (E.ρ b).1 ((E.ρ b).2 + off) e z vs 0 cc E.w hw (by omega) (hz hv3) (hx.one hlf)
  refine ⟨E.put b (E.ρ b) (.cells ver (splice cs off xs)) (setBlk E.w (E.ρ b).1 (.cells (wr cc ((E.ρ b).2 + off) vs) e z)), rfl,
   hE.write hb hw (Nat.le_refl _) rfl (fun _ => rfl) (wr_size _ _ _) (by omega) ?_, Step.write hE hb hw (Nat.le_refl _) rfl (fun _ => rfl) (wr_size _ _ _) hp hip, hrun, by simp [hc]⟩
  refine .cells _ _ _ _ _ (by rw [splice_length (by omega), wr_size]; exact hl) (fun _ => by rw [wr_size]; exact hz hv3) (fun j hj => ?_) (by
   obtain ⟨cc', e', z', t2, t3⟩ := hE.tag b ver cs hb
   rw [hw] at t2
   cases t2
   rw [wr_size, splice_length (by omega)]; exact t3)
  have hj' := hj
  rw [splice_length (by omega)] at hj'
  rw [splice_get (by omega) j hj, wr_get _ _ _ (by omega)]
  by_cases h1 : off ≤ j ∧ j < off + xs.length
  ·rw [dif_pos h1, if_pos (by omega), show (E.ρ b).2 + j - ((E.ρ b).2 + off) = j - off by omega]
   refine ⟨all_get hlf _ _, ?_⟩
   have := hx.get (j - off) (by omega)
   simpa [Array.getD_eq_getD_getElem?, List.getD] using this
  ·rw [dif_neg h1, if_neg (by omega)]
   exact hr j hj'
 ·cases h
theorem aStore_ok (hE : HRel E) {t : TypeId} {prot : Nat} {a v : AV} {a' v' : Value} {H' : Heap} (hip : E.ip ≤ prot) (ha : VRel E a a') (hv : VRel E v v')
  (h : aStore P t prot E.H a v = some H') : ∃ E', E'.H = H' ∧ HRel E' ∧ Step prot E E' ∧ (Instr.storeAt t a' v').run P E.w = .ok () E'.w := by
 cases ha with
 | ptr b ver off ad hb hv' hp =>
  simp only [aStore, Option.bind_eq_some_iff] at h
  obtain ⟨n, hn, h⟩ := h
  split at h
  ·rename_i hlen
   have hcl := hv.cells
   obtain ⟨E', h1, h2, h3, h4, h5⟩ := hput_ok (P := P) (vs := v'.cells.toList) hE hip (by simpa using hcl) h
   obtain ⟨cs, hc⟩ := Option.ne_none_iff_exists'.1 h5
   refine ⟨E', h1, h2, h3, ?_⟩
   have hsz : v'.cells.size = n := by rw [← hcl.1, hlen]
   simp [Instr.storeAt, Instr.sureAddr, storeVar, sizeT_run hn, hsz, hp cs hc, h4]
  ·cases h
 | _ => simp [aStore] at h
def Env.drew (E : Env) : Env := { E with w := { E.w with drawn := E.w.drawn + 1 } }
theorem Step.drew (prot : Nat) (E : Env) : Step prot E E.drew :=
 ⟨Nat.le_refl _, fun _ v' cs' _ h => ⟨v', cs', h, Nat.le_refl _, fun _ => rfl⟩, fun _ es' _ h => ⟨⟨es', h⟩, rfl⟩, fun _ h => ⟨h, rfl⟩, fun _ cc _ z h => ⟨cc, z, h, rfl⟩,
  fun _ _ _ => ⟨rfl, rfl, fun _ => rfl⟩, Nat.le_refl _, rfl, rfl, rfl, rfl, rfl⟩
theorem HRel.drew (hE : HRel E) : HRel E.drew :=
 .mk' (fun _ _ h ha => let ⟨o, ho, hr⟩ := hE.blk h ha; ⟨o, ho, hr.mono (Step.drew 0 E).all⟩) hE.inj hE.ge hE.lo
theorem newCellsT (hE : HRel E) (prot v : Nat) {cs : List AV} {cc : Array Value} (e : TypeId) (ht : TagOk v (E.w.heap.size, 0) e cc.size cs.length) (hl : cs.all AV.leaf = true) (hle : cs.length ≤ cc.size)
  (hr : ∀ j (h : j < cs.length), VRel E cs[j] (cc.getD j undef)) :
  HRel (E.alloc (.cells v cs) (.cells cc e)) ∧ Step prot E (E.alloc (.cells v cs) (.cells cc e)) :=
 ⟨hE.alloc _ _ (.cells _ _ _ _ _ (by simpa using hle) (fun _ i _ => by simp) (fun j h => ⟨all_get hl j h, by simpa using hr j h⟩) ht), Step.alloc prot hE _ _⟩
theorem newCells (hE : HRel E) (prot : Nat) {cs : List AV} {cc : Array Value} (e : TypeId) (hl : cs.all AV.leaf = true) (hle : cs.length ≤ cc.size)
  (hr : ∀ j (h : j < cs.length), VRel E cs[j] (cc.getD j undef)) :
  HRel (E.alloc (.cells 0 cs) (.cells cc e)) ∧ Step prot E (E.alloc (.cells 0 cs) (.cells cc e)) := newCellsT hE prot 0 e .zero hl hle hr
theorem LRel.getD' {l : List AV} {a : Array Value} (h : LRel E l a) (r : Array Value) (j : Nat) (hj : j < l.length) : VRel E l[j] ((a ++ r).getD j Go.undef) := by
 have := h.get j hj
 have hs := h.1
 rw [Array.getD_eq_getD_getElem?, Array.getElem?_append_left (by omega), ← Array.getD_eq_getD_getElem?]; exact this
theorem ptr_newT (E : Env) (v : Nat) (cs : List AV) (o : Obj) : VRel (E.alloc (.cells v cs) o) (.ptr E.H.length v 0) (.pointer (some ⟨E.w.heap.size, 0, none⟩)) :=
 .ptr _ _ _ _ (by simp [Env.alloc]) (fun v' c h => by simp [Env.alloc] at h; omega) fun c _ => by simp [at0, Env.alloc, upd]
theorem ptr_new (E : Env) (cs : List AV) (o : Obj) : VRel (E.alloc (.cells 0 cs) o) (.ptr E.H.length 0 0) (.pointer (some ⟨E.w.heap.size, 0, none⟩)) := ptr_newT E 0 cs o
theorem tag_odd (P : Program) (t : TypeId) : tagT P t % 4 ≠ 2 := by
 have h2 : ∀ n : Nat, (4 * n + 1) % 4 ≠ 2 := fun n => by omega
 unfold tagT
 split
 ·exact h2 t
 ·simp
theorem tag_three (P : Program) (t : TypeId) : tagT P t % 4 ≠ 3 := by
 have h2 : ∀ n : Nat, (4 * n + 1) % 4 ≠ 3 := fun n => by omega
 unfold tagT
 split
 ·exact h2 t
 ·simp
theorem tag_half {P : Program} {t : TypeId} (h : tagT P t % 4 = 1) : t = tagT P t / 4 := by
 unfold tagT at h ⊢
 split at h <;> rename_i hb
 ·have h2 : ∀ n : Nat, n = (4 * n + 1) / 4 := fun n => by omega
  simp only [hb, if_true]
  exact h2 t
 ·simp at h
theorem alloc_ok (hE : HRel E) (prot : Nat) {e : TypeId} {z : AV} (h : zeroT P e = some z) (hl : z.cells.all AV.leaf = true) :
  ∃ v' E', (Instr.alloc e true (.tuple #[])).run P E.w = .ok v' E'.w ∧ E'.H = E.H ++ [Blk.cells (tagT P e) z.cells] ∧ HRel E' ∧ Step prot E E' ∧ VRel E' (.ptr E.H.length (tagT P e) 0) v' := by
 obtain ⟨zv, hz, hr, _⟩ := zeroT_run h
 have hc := (hr E).cells
 obtain ⟨h1, h2⟩ := newCellsT hE prot (tagT P e) e ⟨fun hv => ⟨rfl, tag_half hv, hc.1.symm⟩, fun hv => by have := tag_odd P e; omega, fun hv => by have := tag_three P e; omega⟩ hl (Nat.le_of_eq hc.1) hc.get
 exact ⟨_, _, by simp [Instr.alloc, hz, newVar, newRow]; rfl, rfl, h1, h2, ptr_newT E _ _ _⟩
theorem box_ok (hE : HRel E) (prot : Nat) {e : TypeId} {v : AV} {v' : Value} (hv : VRel E v v') (hl : v.cells.all AV.leaf = true) :
  ∃ u E', (Instr.box e v').run P E.w = .ok u E'.w ∧ E'.H = E.H ++ [Blk.cells (tagT P e) v.cells] ∧ HRel E' ∧ Step prot E E' ∧ VRel E' (.ptr E.H.length (tagT P e) 0) u := by
 have hc := hv.cells
 obtain ⟨h1, h2⟩ := newCellsT hE prot (tagT P e) e ⟨fun hv => ⟨rfl, tag_half hv, hc.1.symm⟩, fun hv => by have := tag_odd P e; omega, fun hv => by have := tag_three P e; omega⟩ hl (Nat.le_of_eq hc.1) hc.get
 exact ⟨_, _, by simp [Instr.box, newVar, newRow]; rfl, rfl, h1, h2, ptr_newT E _ _ _⟩
end
end Go.Abs

