import Derived.Test.YtnipaiklandliaaGreatDoorAbsOps4
import Derived.Laws.Tables
import Derived.IntWalk
namespace Go.Abs
open Go
section
variable {P : Program} {E : Env}
theorem sliceElem_eq {t e : TypeId} (he : sliceElem P t = some e) : P.underlying t = some (.slice e) := by
 unfold sliceElem at he
 split at he
 ·simp only [Option.some.injEq] at he; subst he; assumption
 ·cases he
theorem LRel.splice {cs xs : List AV} {a : Array Value} {vs : List Value} {off : Nat} (hc : LRel E cs a) (hx : LRel E xs vs.toArray) (h : off + xs.length ≤ cs.length) :
  LRel E (splice cs off xs) (wr a off vs) := by
 have hs := hc.1
 have hl : xs.length = vs.length := by simpa using hx.1
 refine .of (by rw [splice_length h, wr_size]; exact hs) fun j hj => ?_
 have hj' := hj
 rw [splice_length h] at hj'
 rw [splice_get h j hj, wr_get _ _ _ (by omega)]
 by_cases h1 : off ≤ j ∧ j < off + xs.length
 ·rw [dif_pos h1, if_pos (by omega)]
  have := hx.get (j - off) (by omega)
  simpa [Array.getD_eq_getD_getElem?, List.getD] using this
 ·rw [dif_neg h1, if_neg (by omega)]
  exact hc.get j hj'
theorem fold_wr (l : List Value) : ∀ (k off : Nat) (a : Array Value), (l.zipIdx k).foldl (fun cs (x : Value × Nat) => cs.setIfInBounds (off + x.2) x.1) a = wr a (off + k) l := by
 induction l with
 | nil => intro k off a; rfl
 | cons v r ih => intro k off a; simp only [List.zipIdx_cons, List.foldl_cons, wr]; rw [ih]; rfl
theorem fill_wr (xs a : Array Value) (off : Nat) : xs.zipIdx.foldl (fun cs (x : Value × Nat) => cs.setIfInBounds (off + x.2) x.1) a = wr a off xs.toList := by
 rw [← Array.foldl_toList, Array.toList_zipIdx, fold_wr]; simp
theorem fillA_ok {place : Nat → Option (Nat × Nat)} {ps : List (Nat × AV)} {ps' : List (Nat × Value)} (hp : PRel E ps ps') : ∀ {cs cs2 : List AV} {a : Array Value}, LRel E cs a →
  fillA place cs ps = some cs2 → ∃ a2, Instr.fill place a ps' = some a2 ∧ LRel E cs2 a2 := by
 induction hp with
 | nil => intro cs cs2 a hl h; simp only [fillA, Option.some.injEq] at h; subst h; exact ⟨a, rfl, hl⟩
 | cons i hv hr ih =>
  rename_i v v' l l'
  intro cs cs2 a hl h
  simp only [fillA, Option.bind_eq_some_iff] at h
  obtain ⟨⟨off, size⟩, hpl, h⟩ := h
  dsimp only at h
  split at h
  ·rename_i hc
   have hvc := hv.cells
   have hs := hl.1
   have hsz : v'.cells.size = size := by rw [← hvc.1]; exact hc.1
   obtain ⟨a2, h1, h2⟩ := ih (hl.splice (vs := v'.cells.toList) (by simpa using hvc) (by omega)) h
   refine ⟨a2, ?_, h2⟩
   simp only [Instr.fill, hpl, hsz]
   have hnot : ¬ (off + size > a.size) := by omega
   simp only [ne_eq, not_true_eq_false, decide_false, Bool.false_or, hnot, Bool.false_eq_true, if_false]
   rw [fill_wr]; exact h1
  ·cases h
theorem aBuild_ok {t : TypeId} {ps : List (Nat × AV)} {ps' : Array (Nat × Value)} {r : AV} (hp : PRel E ps ps'.toList) (h : aBuild P t ps = some r) :
  ∃ v', (Instr.build t ps').run P E.w = .ok v' E.w ∧ VRel E r v' := by
 unfold aBuild at h
 simp only [Option.bind_eq_some_iff] at h
 obtain ⟨z, hz, h⟩ := h
 obtain ⟨zv, hzr, hzv, i, hi, hiz⟩ := zeroT_run hz
 have hcells := (hzv E).cells
 split at h
 ·rename_i fs hu
  simp only [Option.bind_eq_some_iff, Option.map_eq_some_iff] at h
  obtain ⟨places, hpl, cs, hf, rfl⟩ := h
  obtain ⟨a2, h1, h2⟩ := fillA_ok hp hcells hf
  refine ⟨.agg a2, ?_, .agg _ _ h2.1 h2.get⟩
  refine run_build E.w t ps' a2 ?_
  unfold Program.built
  simp only [hi, hu, hiz, hpl]
  simpa using h1
 ·rename_i n e hu
  simp only [Option.bind_eq_some_iff, Option.map_eq_some_iff] at h
  obtain ⟨sz, hsz, cs, hf, rfl⟩ := h
  obtain ⟨a2, h1, h2⟩ := fillA_ok hp hcells hf
  refine ⟨.agg a2, ?_, .agg _ _ h2.1 h2.get⟩
  refine run_build E.w t ps' a2 ?_
  simp only [sizeT, Option.map_eq_some_iff] at hsz
  obtain ⟨ie, hie, rfl⟩ := hsz
  unfold Program.built
  simp only [hi, hu, hiz, hie]
  exact h1
 ·cases h
theorem zrep_ok {zs : List AV} {za : Array Value} (h : LRel E zs za) (n : Nat) (h0 : 0 < zs.length) :
  LRel E (zrep n zs) ((Array.range (n * zs.length)).map fun i => za[i % za.size]!) := by
 refine .of (by simp [zrep]) fun j hj => ?_
 have hj' : j < n * zs.length := by simpa [zrep] using hj
 have hs := h.1
 have hm : j % zs.length < zs.length := Nat.mod_lt _ h0
 have := h.get (j % zs.length) hm
 simp only [zrep, List.getElem_map, List.getElem_range]
 simp only [Array.getD_eq_getD_getElem?, Array.getElem?_map, Array.getElem?_range, hj', if_true, Option.map_some, Option.getD_some]
 rw [← hs, show zs.getD (j % zs.length) .nil = zs[j % zs.length] by simp [List.getD, hm]]
 have e : za[j % zs.length]! = za.getD (j % zs.length) Go.undef := by
  rw [getElem!_pos za _ (by omega), Array.getD_eq_getD_getElem?, Array.getElem?_eq_getElem (by omega)]; rfl
 rw [e]; exact this
theorem chunk_length (sz : Nat) (ag : Bool) : ∀ (n : Nat) (c : List AV), (chunk sz ag n c).length = n := by
 intro n
 induction n with
 | zero => intro c; rfl
 | succ n ih => intro c; simp [chunk, ih]
theorem chunk_get (sz : Nat) (ag : Bool) : ∀ (n : Nat) (c : List AV) (i : Nat) (h : i < (chunk sz ag n c).length), (chunk sz ag n c)[i] = if ag then .agg ((c.drop (i * sz)).take sz) else (c.drop (i * sz)).headD .nil := by
 intro n
 induction n with
 | zero => intro c i h; simp [chunk] at h
 | succ n ih =>
  intro c i h
  cases i with
  | zero => simp [chunk]
  | succ i =>
   simp only [chunk, List.getElem_cons_succ]
   rw [ih]
   simp only [List.drop_drop]
   have : sz + i * sz = (i + 1) * sz := by rw [Nat.add_mul]; omega
   rw [this]
theorem chunk_cells {sz : Nat} {ag : Bool} {n : Nat} {c : List AV} (h0 : 0 < sz) (hag : (ag || sz == 1) = true) (hc : c.length = n * sz) (hl : ∀ v ∈ c, v.leaf = true) (i : Nat) (h : i < (chunk sz ag n c).length) :
  (chunk sz ag n c)[i].cells = (c.drop (i * sz)).take sz := by
 rw [chunk_get]
 cases ag with
 | true => rfl
 | false =>
  simp only [Bool.false_or, beq_iff_eq] at hag
  subst hag
  rw [chunk_length] at h
  simp only [Bool.false_eq_true, if_false, Nat.mul_one] at hc ⊢
  have hi : i < c.length := by omega
  rw [List.drop_eq_getElem_cons hi]
  simp only [List.headD_cons, List.take_succ_cons, List.take_zero]
  have := hl c[i] (List.getElem_mem hi)
  generalize c[i] = x at this ⊢
  cases x <;> first | rfl | simp [AV.leaf] at this
theorem chunk_pl {sz : Nat} {ag : Bool} : ∀ {n : Nat} {c : List AV}, AV.plL c = true → AV.plL (chunk sz ag n c) = true := by
 have htake : ∀ (m : Nat) (c : List AV), AV.plL c = true → AV.plL (c.take m) = true ∧ AV.plL (c.drop m) = true := fun m c h =>
  ⟨plL_of fun j hj => by have := plL_get h j (by simp at hj; omega); simpa using this, plL_of fun j hj => by have := plL_get h (m + j) (by simp at hj; omega); simpa using this⟩
 intro n
 induction n with
 | zero => intro c _; rfl
 | succ n ih =>
  intro c h
  simp only [chunk, AV.plL, Bool.and_eq_true]
  refine ⟨?_, ih (htake sz c h).2⟩
  cases ag with
  | true => exact (htake sz c h).1
  | false =>
   cases c with
   | nil => rfl
   | cons x c => simp only [AV.plL, Bool.and_eq_true] at h; exact h.1
theorem tree_ok {E : Env} {c : List AV} {blk off len cap sz : Nat} {ag full : Bool} (h0 : 0 < sz) (hag : (ag || sz == 1) = true) (hlen : c.length = len * sz) (hc : CellsAt E blk off c) (hp : AV.plL c = true)
  (hl : ∀ v ∈ c, v.leaf = true) (hi : Imm E blk) (hle : len ≤ cap) (hf : full = true → cap = len) : VRel E (.vs (chunk sz ag len c) full) (.slice (some ⟨blk, off, none⟩) len cap) := by
 have hcl := chunk_length sz ag len c
 have e1 : len = (chunk sz ag len c).length := hcl.symm
 have hz : ∀ i (h : i < (chunk sz ag len c).length), (chunk sz ag len c)[i].cells.length = sz := fun i h => by
  rw [chunk_cells h0 hag hlen hl]
  rw [hcl] at h
  have : (i + 1) * sz ≤ len * sz := Nat.mul_le_mul_right _ h
  rw [Nat.add_mul] at this
  simp; omega
 have key : ∀ i (h : i < (chunk sz ag len c).length) j (hj : j < (chunk sz ag len c)[i].cells.length), ∃ u, E.w.cell? ⟨blk, off + i * sz + j, none⟩ = some u ∧ VRel E (chunk sz ag len c)[i].cells[j] u := by
  intro i h j hj
  have hj' := hj
  rw [hz i h] at hj'
  rw [hcl] at h
  have hb : (i + 1) * sz ≤ len * sz := Nat.mul_le_mul_right _ h
  rw [Nat.add_mul] at hb
  obtain ⟨u, h1, h2⟩ := hc (i * sz + j) (by omega)
  refine ⟨u, by rw [← h1]; congr 2; omega, ?_⟩
  have e2 : (chunk sz ag len c)[i].cells[j] = c[i * sz + j] := by
   apply Option.some.inj
   rw [← List.getElem?_eq_getElem, chunk_cells h0 hag hlen hl, List.getElem?_take_of_lt hj', List.getElem?_drop, List.getElem?_eq_getElem]
  rw [e2]; exact h2
 have := VRel.vs (E := E) (chunk sz ag len c) full ⟨blk, off, none⟩ cap sz (fun i j => (E.w.cell? ⟨blk, off + i * sz + j, none⟩).getD undef) (chunk_pl hp) (by rw [hcl]; exact hle) (fun h => by rw [hcl]; exact hf h)
  (fun _ => ⟨hi, rfl⟩) hz (fun i h j hj => by obtain ⟨u, h1, _⟩ := key i h j hj; rw [h1]; rfl) (fun i h j hj => by obtain ⟨u, h1, h2⟩ := key i h j hj; rw [h1]; exact h2)
 rw [hcl] at this
 exact this
def Env.grow (E : Env) (o : Obj) : Env := { E with w := E.w.alloc o }
theorem Step.grow (prot : Nat) {E : Env} (hE : HRel E) (o : Obj) : Step prot E (E.grow o) where
 len := Nat.le_refl _
 cell _ v' cs' _ h := ⟨v', cs', h, Nat.le_refl _, fun _ => rfl⟩
 map _ es' _ h := ⟨⟨es', h⟩, rfl⟩
 imm _ hi := ⟨⟨by simpa [Env.grow] using Nat.lt_succ_of_lt hi.1, hi.2⟩, heap_alloc_old _ _ _ hi.1⟩
 shape cb cc e z h := ⟨cc, z, (heap_alloc_old E.w o cb (Array.getElem?_eq_some_iff.1 h).1).trans h, rfl⟩
 prot _ _ _ := ⟨rfl, rfl, fun ha => heap_alloc_old _ _ _ (hE.lt ha)⟩
 size := by simp [Env.grow]
 os := rfl
 tape := rfl
 output := rfl
 ip := rfl
 lo := rfl
theorem HRel.grow {E : Env} (hE : HRel E) (o : Obj) : HRel (E.grow o) :=
 .mk' (fun _ _ h ha => by obtain ⟨o', ho, hr⟩ := hE.blk h ha; exact ⟨o', (heap_alloc_old _ _ _ (hE.lt ha)).trans ho, hr.mono (Step.grow 0 hE o).all⟩) hE.inj hE.ge (by simpa [Env.grow] using Nat.le_succ_of_le hE.lo)
theorem newRow_tree (hE : HRel E) (prot : Nat) {cs : List AV} {cc : Array Value} (e : TypeId) (hl : cs.all AV.leaf = true) (hr : LRel E cs cc) {len sz : Nat} {ag : Bool} (h0 : 0 < sz) (hag : (ag || sz == 1) = true) (hsz : cs.length = len * sz) (hp : AV.plL cs = true) :
  ∃ E', E.w.alloc (.cells cc e) = E'.w ∧ E'.H = E.H ∧ HRel E' ∧ Step prot E E' ∧
   VRel E' (.vs (chunk sz ag len cs) true) (.slice (some ⟨E.w.heap.size, 0, none⟩) len len) := by
 have hst := Step.grow prot hE (.cells cc e)
 refine ⟨E.grow (.cells cc e), rfl, rfl, hE.grow _, hst, ?_⟩
 have hn : (E.grow (.cells cc e)).w.heap[E.w.heap.size]? = some (.cells cc e) := heap_alloc_new _ _
 refine tree_ok h0 hag hsz (fun j hj => ⟨cc.getD j undef, ?_, ?_⟩) hp (fun v hv => List.all_eq_true.1 hl v hv) ⟨by simp [Env.grow], ?_⟩ (Nat.le_refl _) (fun _ => rfl)
 ·have := hr.1
  simp [World.cell?, hn, Array.getD_eq_getD_getElem?, show j < cc.size by omega]
 ·have := (hr.get j hj)
  exact this.mono hst.all
 ·rintro ⟨b, _, h2, h3⟩
  have := hE.lt h2
  have h3' : (E.ρ b).1 = E.w.heap.size := h3
  omega
theorem newRow_bs (hE : HRel E) (prot : Nat) {cs : List AV} {cc : Array Value} (e : TypeId) (hl : cs.all AV.leaf = true) (hr : LRel E cs cc) {len cap sz : Nat} {ag : Bool} (hlc : len ≤ cap) (hsz : cs.length = cap * sz) :
  ∃ E', E.w.alloc (.cells cc e) = E'.w ∧ E'.H = E.H ++ [Blk.cells 0 cs] ∧ HRel E' ∧ Step prot E E' ∧
   VRel E' (.bs ⟨E.H.length, 0, 0, len, cap, sz, ag, true⟩) (.slice (some ⟨E.w.heap.size, 0, none⟩) len cap) := by
 obtain ⟨h1, h2⟩ := newCells hE prot e hl (Nat.le_of_eq hr.1) hr.get
 refine ⟨E.alloc (.cells 0 cs) (.cells cc e), rfl, rfl, h1, h2, .bs _ _ _ (by simp [Env.alloc]) (fun v c _ => by simp) hlc (fun _ => rfl) fun c _ => ⟨by simp [at0, Env.alloc, upd], cc, e, (0, 0), ?_, ?_⟩⟩
 ·simp only [Env.alloc, upd, if_true]; exact heap_alloc_new _ _
 ·simp only [Env.alloc, upd, if_true]; have := hr.1; omega
theorem aBuildSlice_ok (hE : HRel E) {prot : Nat} {t : TypeId} {len : Nat} {ps : List (Nat × AV)} {ps' : Array (Nat × Value)} {r : AV} {h : Option Heap} (hp : PRel E ps ps'.toList)
  (hh : aBuildSlice P E.H t len ps = some (r, h)) : Outcome1 P E prot (Instr.buildSlice t len ps') r h := by
 unfold aBuildSlice at hh
 simp only [Option.bind_eq_some_iff] at hh
 obtain ⟨e, he, sz, hsz, ag, hag, z, hz, hh⟩ := hh
 obtain ⟨zv, hzr, hzv, i, hi, hiz⟩ := zeroT_run hz
 have hcells := (hzv E).cells
 split at hh
 case isFalse => cases hh
 rename_i hc
 simp only [Option.bind_eq_some_iff] at hh
 obtain ⟨cs, hf, hh⟩ := hh
 split at hh
 case isFalse => cases hh
 rename_i hl
 have hu := sliceElem_eq he
 by_cases hlen : len = 0
 ·subst hlen
  have hz0 : LRel E (zrep 0 z.cells) (#[] : Array Value) := by simpa [zrep] using LRel.nil E
  obtain ⟨a2, h1, h2⟩ := fillA_ok hp hz0 hf
  have hcs : cs.length = 0 := by
   have : ∀ (ps : List (Nat × AV)) (c0 c1 : List AV), fillA (fun i => some (i * sz, sz)) c0 ps = some c1 → c1.length = c0.length := by
    intro ps
    induction ps with
    | nil => intro c0 c1 h; simp only [fillA, Option.some.injEq] at h; rw [h]
    | cons p r ih =>
     obtain ⟨i, v⟩ := p
     intro c0 c1 h
     simp only [fillA, Option.bind_some] at h
     split at h
     ·rename_i hq
      rw [ih _ _ h, splice_length (by omega)]
     ·cases h
   rw [this _ _ _ hf]; simp [zrep]
  have hr0 : Array.range 0 = #[] := rfl
  split at hh
  ·rename_i hcl
   have hcl := litOk_spec hcl
   split at hh
   case isFalse => cases hh
   rename_i hpl
   simp only [Option.some.injEq, Prod.mk.injEq] at hh
   obtain ⟨rfl, rfl⟩ := hh
   obtain ⟨E', e1, e2, e3, e4, e5⟩ := newRow_tree hE prot e hl h2 (len := 0) (sz := sz) (ag := ag) hc.2.2 hcl.2 (by omega) hpl
   refine ⟨_, E', ?_, e2, e3, e4, e5⟩
   rw [← e1]
   simp [Instr.buildSlice, run_underlying hu, sizeT_run hsz, hr0, h1, newRow]
  ·simp only [Option.some.injEq, Prod.mk.injEq] at hh
   obtain ⟨rfl, rfl⟩ := hh
   obtain ⟨E', e1, e2, e3, e4, e5⟩ := newRow_bs hE prot e hl h2 (len := 0) (cap := 0) (sz := sz) (ag := ag) (Nat.le_refl _) (by omega)
   refine ⟨_, E', ?_, e2, e3, e4, e5⟩
   rw [← e1]
   simp [Instr.buildSlice, run_underlying hu, sizeT_run hsz, hr0, h1, newRow]
 ·have hz0 := zrep_ok hcells len (by omega)
  rw [hc.2.1] at hz0
  obtain ⟨a2, h1, h2⟩ := fillA_ok hp hz0 hf
  have hcs : cs.length = len * sz := by
   have : ∀ (ps : List (Nat × AV)) (c0 c1 : List AV), fillA (fun i => some (i * sz, sz)) c0 ps = some c1 → c1.length = c0.length := by
    intro ps
    induction ps with
    | nil => intro c0 c1 h; simp only [fillA, Option.some.injEq] at h; rw [h]
    | cons p r ih =>
     obtain ⟨i, v⟩ := p
     intro c0 c1 h
     simp only [fillA, Option.bind_some] at h
     split at h
     ·rename_i hq
      rw [ih _ _ h, splice_length (by omega)]
     ·cases h
   rw [this _ _ _ hf]; simp [zrep, hc.2.1]
  have hsi : i.size = sz ∨ True := .inr trivial
  have hpos : ¬ (len * sz = 0) := by
   intro h; rcases Nat.mul_eq_zero.1 h with h | h <;> omega
  have hsm : ¬ (len * sz > 2 ^ 24) := by omega
  split at hh
  ·rename_i hcl
   have hcl := litOk_spec hcl
   split at hh
   case isFalse => cases hh
   rename_i hpl
   simp only [Option.some.injEq, Prod.mk.injEq] at hh
   obtain ⟨rfl, rfl⟩ := hh
   obtain ⟨E', e1, e2, e3, e4, e5⟩ := newRow_tree hE prot e hl h2 (len := len) (sz := sz) (ag := ag) hc.2.2 hcl.2 hcs hpl
   refine ⟨_, E', ?_, e2, e3, e4, e5⟩
   rw [← e1]
   simp [Instr.buildSlice, run_underlying hu, sizeT_run hsz, hzr, hpos, hsm, h1, newRow]
  ·simp only [Option.some.injEq, Prod.mk.injEq] at hh
   obtain ⟨rfl, rfl⟩ := hh
   obtain ⟨E', e1, e2, e3, e4, e5⟩ := newRow_bs hE prot e hl h2 (len := len) (cap := len) (sz := sz) (ag := ag) (Nat.le_refl _) hcs
   refine ⟨_, E', ?_, e2, e3, e4, e5⟩
   rw [← e1]
   simp [Instr.buildSlice, run_underlying hu, sizeT_run hsz, hzr, hpos, hsm, h1, newRow]
theorem aMakeSlice_ok (hE : HRel E) {prot : Nat} {t : TypeId} {l c r : AV} {l' c' : Value} {h : Option Heap} (hl : VRel E l l') (hc : VRel E c c')
  (hh : aMakeSlice P E.H t l c = some (r, h)) : Outcome1 P E prot (Instr.makeSlice t l' c') r h := by
 unfold aMakeSlice at hh
 simp only [Option.bind_eq_some_iff] at hh
 obtain ⟨e, he, sz, hsz, by_, hby, ag, hag, z, hz, hh⟩ := hh
 obtain ⟨zv, hzr, hzv, i, hi, hiz⟩ := zeroT_run hz
 have hcells := (hzv E).cells
 have hu := sliceElem_eq he
 have hbi : i.bytes = by_ := by simp only [bytesT, hi, Option.map_some, Option.some.injEq] at hby; exact hby
 split at hh
 ·rename_i k1 ln k2 cp
  cases hl; cases hc
  split at hh
  case isFalse => cases hh
  rename_i hq
  simp only [Option.some.injEq, Prod.mk.injEq] at hh
  obtain ⟨rfl, rfl⟩ := hh
  obtain ⟨h0, h1, h2, hr, hzs, hs0, hlf⟩ := hq
  simp only [roomy, decide_eq_true_eq] at hr
  have hb2 : cp.toNat * by_ ≤ 140737488355328 := hr.2
  have hw : ∀ n : Int, 0 ≤ n → n ≤ 9223372036854775807 → IntKind.i64.wrap n = n := fun n a b => IntWalk.i64_in _ (by omega)
  have hwl := hw ln h0 (by omega)
  have hwc := hw cp (by omega) h2
  have hbc : (i.bytes : Int) * cp ≤ 140737488355328 := by
   rw [hbi]
   have : ((cp.toNat * by_ : Nat) : Int) ≤ ((140737488355328 : Nat) : Int) := Int.ofNat_le.2 hb2
   rw [Int.natCast_mul, Int.toNat_of_nonneg (by omega)] at this
   rw [Int.mul_comm]; exact this
  have t1 : (decide (cp < 0) || decide ((i.bytes : Int) * cp > 2 ^ 48)) = false := by
   rw [Bool.or_eq_false_iff]; exact ⟨decide_eq_false (by omega), decide_eq_false (by omega)⟩
  have hzz := zrep_ok hcells cp.toNat (by omega)
  rw [hzs] at hzz
  obtain ⟨E', e1, e2, e3, e4, e5⟩ := newRow_bs hE prot e hlf hzz (len := ln.toNat) (cap := cp.toNat) (sz := sz) (ag := ag) (by omega) (by simp [zrep, hzs])
  refine ⟨_, E', ?_, e2, e3, e4, e5⟩
  rw [← e1]
  have hneg : decide (ln < 0) = false := decide_eq_false (by omega)
  have hgt : decide (ln > cp) = false := decide_eq_false (by omega)
  simp only [Instr.makeSlice, Sem.run_bind, run_underlying hu, Result.andThen_ok, asInt, asIntOf, Sem.run_pure, typeInfo, run_program, hi, hwl, hwc, t1, hneg, hgt, Bool.or_self, Bool.false_eq_true, if_false, run_askRoom, sizeT_run hsz]
  by_cases hn : cp.toNat * sz = 0
  ·rw [if_pos hn]
   have hr0 : Array.range 0 = #[] := rfl
   simp [hn, hr0, newRow]
  ·rw [if_neg hn]
   simp [hzr, newRow]
 ·cases hh
theorem aCopy_ok (hE : HRel E) {prot : Nat} {ts : Array TypeId} {ty : TypeId} {d x r : AV} {h : Option Heap} {d' x' : Value} (hip : E.ip ≤ prot)
  (hd : VRel E d d') (hx : VRel E x x') (hh : aCopy P prot E.H ts d x = some (r, h)) : Outcome1 P E prot (Builtin.copy_ ts ty #[d', x']) r h := by
 unfold aCopy at hh
 simp only [Option.bind_eq_some_iff] at hh
 obtain ⟨t, ht, e, he, sz, hsz, p, hel, hh⟩ := hh
 obtain ⟨m, xs⟩ := p
 dsimp only at hh
 have hu := sliceElem_eq he
 obtain ⟨hlen, hxl, hfc⟩ := elemCells_ok (P := P) hE hx hel
 split at hh
 ·simp only [Option.some.injEq, Prod.mk.injEq] at hh
  obtain ⟨rfl, rfl⟩ := hh
  cases hd
  obtain ⟨a, h1, h2⟩ := hfc 0 (Nat.zero_le _)
  refine .quiet hE (v' := .int .i64 0) ?_ (.int _ _)
  simp [Builtin.copy_, ht, run_underlying hu, hlen, sizeT_run hsz, h1, goInt]
 ·rename_i hd0
  split at hh
  case isTrue => cases hh
  rename_i hdsz
  simp only [ne_eq, Decidable.not_not] at hdsz
  have hs0 := hd
  cases hd with
  | bs _ a c hb hv hl hx' h' =>
   obtain ⟨a1, h1, h2⟩ := hfc (Nat.min m hd0.len) (Nat.min_le_left _ _)
   split at hh
   ·rename_i hn
    simp only [Option.some.injEq, Prod.mk.injEq] at hh
    obtain ⟨rfl, rfl⟩ := hh
    refine .quiet hE (v' := .int .i64 0) ?_ (.int _ _)
    rw [hn] at h1 h2
    have ha1 : a1 = #[] := by have := h2.1; simp at this; exact Array.size_eq_zero_iff.1 this.symm
    subst ha1
    simp [Builtin.copy_, ht, run_underlying hu, hlen, hn, sizeT_run hsz, h1, goInt, storeCells]
   ·rename_i hn
    simp only [Option.map_eq_some_iff, Prod.mk.injEq] at hh
    obtain ⟨H', hput, rfl, rfl⟩ := hh
    obtain ⟨E', e1, e2, e3, e4, e5⟩ := hput_ok (P := P) (vs := a1.toList) hE hip (by simpa using h2) hput
    obtain ⟨cs, hcs⟩ := Option.ne_none_iff_exists'.1 e5
    refine ⟨.int .i64 (Nat.min m hd0.len), E', ?_, e1, e2, e3, .int _ _⟩
    have ha := (h' cs hcs).1
    rw [← ha] at e4
    simp [Builtin.copy_, ht, run_underlying hu, hlen, sizeT_run hsz, h1, goInt, e4]
 ·cases hh
theorem optInt_spec {x : Option AV} {x' : Option Value} {n : Option Nat} (hx : match x, x' with | none, none => True | some v, some v' => VRel E v v' | _, _ => False) (h : optInt x = some n) :
  (x' = none ∧ n = none) ∨ ∃ k i, x' = some (.int k (i : Nat)) ∧ n = some i := by
 cases x with
 | none => cases x' with
  | none => simp only [optInt, Option.some.injEq] at h; exact .inl ⟨rfl, h.symm⟩
  | some v => exact hx.elim
 | some v => cases x' with
  | none => exact hx.elim
  | some v' =>
   dsimp only at hx
   cases hx <;> simp only [optInt, reduceCtorEq] at h
   rename_i k i
   split at h
   ·simp only [Option.some.injEq] at h
    exact .inr ⟨k, i.toNat, by rw [Int.toNat_of_nonneg (by assumption)], h.symm⟩
   ·cases h
def ORel (E : Env) (x : Option AV) (x' : Option Value) : Prop := match x, x' with | none, none => True | some v, some v' => VRel E v v' | _, _ => False
theorem sliceBound_run (k : IntKind) (i y : Nat) (code : BoundsCode) (h : i ≤ y) (w : World) : (Instr.sliceBound (.int k i) y code).run P w = .ok i w := by
 have : (0 : Int) ≤ (i : Int) ∧ (i : Int) ≤ (y : Int) := by omega
 simp [Instr.sliceBound, asIntOf, this]
theorem aBounds_ok {len room cap : Nat} {isS : Bool} {lo hi mx : Option AV} {lo' hi' mx' : Option Value} {l h : Nat} {m : Option Nat} (hl : ORel E lo lo') (hh : ORel E hi hi') (hm : ORel E mx mx')
  (hb : aBounds len room lo hi mx = some (l, h, m)) (hrc : room ≤ cap) (w : World) :
  (Instr.sliceBounds isS len cap lo' hi' mx').run P w = .ok (l, h, m.getD cap) w ∧ l ≤ h ∧ h ≤ m.getD room ∧ m.getD room ≤ room ∧ (hi = none → h = len) := by
 unfold aBounds at hb
 simp only [Option.bind_eq_some_iff] at hb
 obtain ⟨l0, h1, h0, h2, m0, h3, hb⟩ := hb
 split at hb
 case isFalse => cases hb
 rename_i hc
 simp only [Option.some.injEq, Prod.mk.injEq] at hb
 obtain ⟨rfl, rfl, rfl⟩ := hb
 obtain ⟨c1, c2, c3, c4⟩ := hc
 have hhi : hi = none → h0.getD len = len := fun e => by subst e; simp only [optInt, Option.some.injEq] at h2; subst h2; rfl
 refine ⟨?_, c1, c2, c3, hhi⟩
 rcases optInt_spec hm h3 with ⟨rfl, rfl⟩ | ⟨k3, i3, rfl, rfl⟩
 ·simp only [Option.getD_none] at c2 ⊢
  rcases optInt_spec hh h2 with ⟨rfl, rfl⟩ | ⟨k2, i2, rfl, rfl⟩
  ·simp only [Option.getD_none] at c1 c2 ⊢
   rcases optInt_spec hl h1 with ⟨rfl, rfl⟩ | ⟨k1, i1, rfl, rfl⟩
   ·simp [Instr.sliceBounds]
   ·simp only [Option.getD_some] at c1 ⊢
    simp [Instr.sliceBounds, sliceBound_run k1 i1 len _ c1]
  ·simp only [Option.getD_some] at c1 c2 ⊢
   have b2 := fun code => sliceBound_run (P := P) k2 i2 cap code (by omega) w
   rcases optInt_spec hl h1 with ⟨rfl, rfl⟩ | ⟨k1, i1, rfl, rfl⟩
   ·simp [Instr.sliceBounds, b2]
   ·simp only [Option.getD_some] at c1 ⊢
    simp [Instr.sliceBounds, b2, sliceBound_run k1 i1 i2 _ c1]
 ·simp only [Option.getD_some, Option.isSome_some, true_imp_iff] at c2 c3 c4 ⊢
  have b3 := fun code => sliceBound_run (P := P) k3 i3 cap code (by omega) w
  rcases optInt_spec hh h2 with ⟨rfl, rfl⟩ | ⟨k2, i2, rfl, rfl⟩
  ·simp at c4
  ·simp only [Option.getD_some] at c1 c2 ⊢
   have b2 := fun code => sliceBound_run (P := P) k2 i2 i3 code c2 w
   rcases optInt_spec hl h1 with ⟨rfl, rfl⟩ | ⟨k1, i1, rfl, rfl⟩
   ·simp [Instr.sliceBounds, b2, b3]
   ·simp only [Option.getD_some] at c1 ⊢
    simp [Instr.sliceBounds, b2, b3, sliceBound_run k1 i1 i2 _ c1]
theorem bytes_extract (s : List UInt8) (l h : Nat) : (⟨s.toArray⟩ : ByteArray).extract l h = ⟨((s.drop l).take (h - l)).toArray⟩ := by
 apply ByteArray.ext
 simp
theorem aSlice_ok {t : TypeId} {x r : AV} {x' : Value} {lo hi mx : Option AV} {lo' hi' mx' : Option Value} (hx : VRel E x x') (hl : ORel E lo lo') (hh : ORel E hi hi') (hm : ORel E mx mx')
  (h : aSlice P t x lo hi mx = some r) : ∃ v', (Instr.sliceAt t x' lo' hi' mx').run P E.w = .ok v' E.w ∧ VRel E r v' := by
 unfold aSlice at h
 split at h
 ·-- a text
  rename_i s hu
  simp only [Option.bind_eq_some_iff] at h
  obtain ⟨⟨l, h', m⟩, hb, h⟩ := h
  dsimp only at h
  split at h
  ·cases h
  ·rename_i hmn
   simp only [Option.some.injEq] at h; subst h
   cases hx
   have hmx : mx' = none := by
    cases mx' with
    | none => rfl
    | some v' =>
     unfold aBounds at hb
     simp only [Option.bind_eq_some_iff] at hb
     obtain ⟨l0, _, h0, _, m0, h3, hb⟩ := hb
     rcases optInt_spec hm h3 with ⟨e, _⟩ | ⟨k, i, _, rfl⟩
     ·cases e
     ·split at hb
      ·simp only [Option.some.injEq, Prod.mk.injEq] at hb
       obtain ⟨_, _, rfl⟩ := hb
       simp at hmn
      ·cases hb
   subst hmx
   obtain ⟨hr, _⟩ := aBounds_ok (P := P) (isS := false) (cap := s.length) hl hh hm hb (Nat.le_refl _) E.w
   refine ⟨_, ?_, .str _⟩
   simp [Instr.sliceAt, Instr.slice, run_underlying hu, bytes_size, hr, bytes_extract]
 ·-- nil
  rename_i e hu
  simp only [Option.bind_eq_some_iff, Option.map_eq_some_iff] at h
  obtain ⟨sz, hsz, ⟨l, h', m⟩, hb, rfl⟩ := h
  cases hx
  obtain ⟨hr, h1, h2, h3, _⟩ := aBounds_ok (P := P) (isS := true) (cap := 0) hl hh hm hb (Nat.le_refl _) E.w
  have e1 : l = 0 := by omega
  have e2 : h' = 0 := by omega
  have e3 : m.getD 0 = 0 := by omega
  subst e1 e2
  rw [e3] at hr
  refine ⟨_, ?_, .nilS⟩
  simp [Instr.sliceAt, Instr.slice, run_underlying hu, hr, sizeT_run hsz]
 ·-- a tree
  rename_i e es full hu
  simp only [Option.bind_eq_some_iff] at h
  obtain ⟨sz, hsz, h⟩ := h
  split at h
  case isFalse => cases h
  rename_i hall
  simp only [Option.map_eq_some_iff] at h
  obtain ⟨⟨l, h', m⟩, hb, rfl⟩ := h
  cases hx with
  | vs _ _ a c sz' f hp hc hf hi' hz hv hr =>
   obtain ⟨hrun, h1, h2, h3, _⟩ := aBounds_ok (P := P) (isS := true) (cap := c) hl hh hm hb hc E.w
   have hle : h' ≤ es.length := by omega
   have hmc : h' ≤ m.getD c := by cases m <;> simp_all; omega
   refine ⟨.slice (if m.getD c = l then some a else some (a.add (l * sz))) (h' - l) (m.getD c - l), by simp [Instr.sliceAt, Instr.slice, run_underlying hu, hrun, sizeT_run hsz], ?_⟩
   have hlen : ((es.drop l).take (h' - l)).length = h' - l := by simp; omega
   have hful : (fullOf full h' es.length m) = true → m.getD c - l = ((es.drop l).take (h' - l)).length := by
    rw [hlen]
    cases m with
    | none => intro hq; simp only [fullOf, Bool.and_eq_true, beq_iff_eq] at hq; have := hf hq.1; simp only [Option.getD_none]; omega
    | some m0 => intro hq; simp only [fullOf, beq_iff_eq] at hq; simp only [Option.getD_some]; omega
   have hpl : AV.plL ((es.drop l).take (h' - l)) = true := plL_of fun j hj => by
    have := plL_get hp (l + j) (by omega); simpa using this
   have e0 : h' - l = ((es.drop l).take (h' - l)).length := hlen.symm
   have key : ∀ a' : Addr, (0 < h' - l → a' = ⟨a.block, a.off + l * sz, none⟩) →
     VRel E (.vs ((es.drop l).take (h' - l)) (fullOf full h' es.length m)) (.slice (some a') (h' - l) (m.getD c - l)) := by
    intro a' ha'
    have hsz' : 0 < es.length → sz' = sz := fun h0 => by
     rw [← hz 0 h0]
     have := List.all_eq_true.1 hall _ (List.getElem_mem h0); simpa using this
    have := VRel.vs (E := E) ((es.drop l).take (h' - l)) (fullOf full h' es.length m) a' (m.getD c - l) sz' (fun i j => f (l + i) j) hpl (by rw [hlen]; omega) hful
     (fun h0 => by rw [hlen] at h0; rw [ha' h0]; exact ⟨(hi' (by omega)).1, rfl⟩)
     (fun i hi => by rw [hlen] at hi; have := hz (l + i) (by omega); simpa using this)
     (fun i hi j hj => by
      rw [hlen] at hi
      have hj' : j < es[l + i].cells.length := by simpa using hj
      have := hv (l + i) (by omega) j hj'
      have e : a.off + l * sz + i * sz + j = a.off + (l + i) * sz + j := by rw [Nat.add_mul]; omega
      rw [hsz' (by omega)] at this ⊢
      rw [ha' (by omega)]
      show E.w.cell? ⟨a.block, a.off + l * sz + i * sz + j, none⟩ = _
      rw [e]; exact this)
     (fun i hi j hj => by
      rw [hlen] at hi
      have hj' : j < es[l + i].cells.length := by simpa using hj
      have := hr (l + i) (by omega) j hj'
      simpa using this)
    rw [hlen] at this
    exact this
   by_cases hml : m.getD c = l
   ·rw [if_pos hml]
    exact key a fun h0 => by omega
   ·rw [if_neg hml]
    exact key _ fun h0 => add_of _ _ (hi' (by omega)).2
 ·-- a block
  rename_i e s hu
  simp only [Option.bind_eq_some_iff] at h
  obtain ⟨sz, hsz, h⟩ := h
  split at h
  case isTrue => cases h
  rename_i hdsz
  simp only [ne_eq, Decidable.not_not] at hdsz
  simp only [Option.bind_eq_some_iff] at h
  obtain ⟨⟨l, h', m⟩, hb, h⟩ := h
  dsimp only at h
  cases hx with
  | bs _ a c hbl hv hlc hx' hcs =>
   have hrc : (if s.ex then s.cap else s.len) ≤ c := by
    split
    ·rename_i hex; rw [hx' hex]; exact Nat.le_refl _
    ·exact hlc
   obtain ⟨hrun, h1, h2, h3, _⟩ := aBounds_ok (P := P) (isS := true) (cap := c) hl hh hm hb hrc E.w
   have fin : ∀ v', VRel E r v' → v' = .slice (if m.getD c = l then some a else some (a.add (l * sz))) (h' - l) (m.getD c - l) →
     ∃ v', (Instr.sliceAt t (.slice (some a) s.len c) lo' hi' mx').run P E.w = .ok v' E.w ∧ VRel E r v' := by
    intro v' hv' e1
    refine ⟨v', ?_, hv'⟩
    rw [e1]
    simp [Instr.sliceAt, Instr.slice, run_underlying hu, hrun, sizeT_run hsz]
   have empty : ∀ (f : Bool) (a' : Addr) (c' : Nat), (f = true → c' = 0) → VRel E (.vs [] f) (.slice (some a') 0 c') := fun f a' c' hf =>
    VRel.vs (E := E) [] f a' c' 0 (fun _ _ => Go.undef) rfl (by simp) (by simpa using hf) (fun h => by simp at h) (fun i h => by simp at h) (fun i h => by simp at h) (fun i h => by simp at h)
   have sub : ∀ (s2 : BS) (c' : Nat), s2.b = s.b → s2.ver = s.ver → s2.off = s.off + l * sz → s2.len = h' - l → s2.sz = s.sz → s2.len ≤ c' → (s2.ex = true → c' = s2.cap) → l + c' ≤ c →
     VRel E (.bs s2) (.slice (some (a.add (l * sz))) (h' - l) c') := by
    intro s2 c' e1 e2 e3 e4 e5 e6 e7 e8
    rw [← e4]
    refine .bs s2 _ c' (by rw [e1]; exact hbl) (by rw [e1, e2]; exact hv) e6 e7 fun cs hc => ?_
    rw [e1, e2] at hc
    obtain ⟨ha, cc, ee, z, hw, hsz2⟩ := hcs cs hc
    rw [e1, e3, e5]
    refine ⟨by rw [ha, add_at0], cc, ee, z, hw, ?_⟩
    have hmul : (l + c') * sz ≤ c * sz := Nat.mul_le_mul_right _ e8
    rw [Nat.add_mul] at hmul
    rw [hdsz] at *
    omega
   cases m with
   | some m0 =>
    simp only [Option.getD_some] at *
    split at h
    ·rename_i hml
     simp only [Option.some.injEq] at h; subst h
     refine fin _ (empty true a (m0 - l) (by omega)) ?_
     rw [if_pos hml, show h' - l = 0 by omega]
    ·rename_i hml
     simp only [Option.some.injEq] at h; subst h
     refine fin _ (sub { s with off := s.off + l * sz, len := h' - l, cap := m0 - l, ex := true } (m0 - l) rfl rfl rfl rfl rfl (by simp only; omega) (fun _ => rfl) (by omega)) ?_
     rw [if_neg hml]
   | none =>
    simp only [Option.getD_none] at *
    split at h
    ·rename_i hex
     have hcap := hx' hex
     simp only [hex, if_true] at h2 h3 hrc
     split at h
     ·rename_i hcl
      simp only [Option.some.injEq] at h; subst h
      refine fin _ (empty true a (c - l) (by omega)) ?_
      rw [if_pos (by omega), show h' - l = 0 by omega]
     ·rename_i hcl
      simp only [Option.some.injEq] at h; subst h
      refine fin _ (sub { s with off := s.off + l * sz, len := h' - l, cap := s.cap - l } (c - l) rfl rfl rfl rfl rfl (by simp only; omega) (fun _ => by simp only; omega) (by omega)) ?_
      rw [if_neg (by omega)]
    ·rename_i hex
     simp only [hex, Bool.false_eq_true, if_false] at h2 h3 hrc
     split at h
     ·rename_i hl0
      subst hl0
      simp only [Option.some.injEq] at h; subst h
      refine fin _ (sub { s with len := h' } c rfl rfl (by simp) (by simp) rfl (by simp only; omega) (fun e => absurd e (by simpa using hex)) (by omega)) ?_
      split <;> simp [Addr.add_zero']
     ·rename_i hl0
      split at h
      ·rename_i hhl
       simp only [Option.some.injEq] at h; subst h
       subst hhl
       by_cases hcl : c = h'
       ·refine fin _ (empty false a (c - h') (fun e => by cases e)) ?_
        rw [if_pos hcl, Nat.sub_self]
       ·refine fin _ (empty false (a.add (h' * sz)) (c - h') (fun e => by cases e)) ?_
        rw [if_neg hcl, Nat.sub_self]
      ·rename_i hhl
       simp only [Option.some.injEq] at h; subst h
       refine fin _ (sub { s with off := s.off + l * sz, len := h' - l } (c - l) rfl rfl rfl rfl rfl (by simp only; omega) (fun e => absurd e (by simpa using hex)) (by omega)) ?_
       rw [if_neg (by omega)]
 ·cases h
end
end Go.Abs

