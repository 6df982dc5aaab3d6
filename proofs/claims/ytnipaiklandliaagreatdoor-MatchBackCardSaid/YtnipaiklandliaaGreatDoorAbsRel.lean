import Derived.Test.YtnipaiklandliaaGreatDoorAbsDef
import Derived.Laws.AppendOwn
namespace Go.Abs
open Go
structure Env where
 ρ : Nat → Nat × Nat
 H : Heap
 w : World
 ip : Nat
 lo : Nat
def alive (H : Heap) (b : Nat) : Prop := (∃ v cs, H[b]? = some (Blk.cells v cs)) ∨ ∃ es, H[b]? = some (Blk.map es)
def Wr (E : Env) (cb : Nat) : Prop := ∃ b, E.ip ≤ b ∧ alive E.H b ∧ (E.ρ b).1 = cb
def Imm (E : Env) (cb : Nat) : Prop := cb < E.w.heap.size ∧ ¬ Wr E cb
def at0 (p : Nat × Nat) (off : Nat) : Addr := ⟨p.1, p.2 + off, none⟩
inductive VRel (E : Env) : AV → Value → Prop where
 | bool (b : Bool) : VRel E (.bool b) (.bool b)
 | int (k : IntKind) (n : Int) : VRel E (.int k n) (.int k n)
 | str (s : List UInt8) : VRel E (.str s) (.string ⟨s.toArray⟩)
 | nil : VRel E .nil (.pointer none)
 | ptr (b ver off : Nat) (a : Addr) (hb : b < E.H.length) (hv : ∀ v cs, E.H[b]? = some (Blk.cells v cs) → ver ≤ v) (h : ∀ cs, hget E.H b ver = some cs → a = at0 (E.ρ b) off) : VRel E (.ptr b ver off) (.pointer (some a))
 | vptr (cs : List AV) (off : Nat) (a : Addr) (o : Nat) (f : Nat → Value) (hp : AV.plL cs = true) (hi : Imm E a.block) (hs : a.spot = none) (ho : a.off = o + off)
   (hc : ∀ j, j < cs.length → E.w.cell? ⟨a.block, o + j, none⟩ = some (f j)) (hr : ∀ j (h : j < cs.length), VRel E cs[j] (f j)) : VRel E (.vptr cs off) (.pointer (some a))
 | nilS : VRel E .nilS (.slice none 0 0)
 | vs (es : List AV) (full : Bool) (a : Addr) (c sz : Nat) (f : Nat → Nat → Value) (hp : AV.plL es = true) (hc : es.length ≤ c) (hf : full = true → c = es.length)
   (hi : 0 < es.length → Imm E a.block ∧ a.spot = none) (hz : ∀ i (h : i < es.length), es[i].cells.length = sz)
   (hv : ∀ i (h : i < es.length) j, j < es[i].cells.length → E.w.cell? ⟨a.block, a.off + i * sz + j, none⟩ = some (f i j))
   (hr : ∀ i (h : i < es.length) j (hj : j < es[i].cells.length), VRel E es[i].cells[j] (f i j)) : VRel E (.vs es full) (.slice (some a) es.length c)
 | bs (s : BS) (a : Addr) (c : Nat) (hb : s.b < E.H.length) (hv : ∀ v cs, E.H[s.b]? = some (Blk.cells v cs) → s.ver ≤ v) (hl : s.len ≤ c) (hx : s.ex = true → c = s.cap)
   (h : ∀ cs, hget E.H s.b s.ver = some cs → a = at0 (E.ρ s.b) s.off ∧ ∃ cc e z, E.w.heap[(E.ρ s.b).1]? = some (.cells cc e z) ∧ (E.ρ s.b).2 + s.off + c * s.sz ≤ cc.size) :
   VRel E (.bs s) (.slice (some a) s.len c)
 | nilM : VRel E .nilM (.map none)
 | map (r m : Nat) (hb : r < E.H.length) (h : ∀ es, hmap E.H r = some es → m = (E.ρ r).1) : VRel E (.map r) (.map (some m))
 | nilF : VRel E .nilF .nilFunc
 | func (f : Nat) (first caps : List AV) (first' caps' : Array Value) (h1 : first.length = first'.size) (h2 : caps.length = caps'.size)
   (hr1 : ∀ j (h : j < first.length), VRel E first[j] (first'.getD j undef)) (hr2 : ∀ j (h : j < caps.length), VRel E caps[j] (caps'.getD j undef)) :
   VRel E (.func f first caps) (.func (.func f) first' caps')
 | nilI : VRel E .nilI .nilIface
 | iface (t : Nat) (v : AV) (v' : Value) (h : VRel E v v') : VRel E (.iface t v) (.iface t v')
 | agg (cs : List AV) (cs' : Array Value) (h : cs.length = cs'.size) (hr : ∀ j (h : j < cs.length), VRel E cs[j] (cs'.getD j undef)) : VRel E (.agg cs) (.agg cs')
 | tup (cs : List AV) (cs' : Array Value) (h : cs.length = cs'.size) (hr : ∀ j (h : j < cs.length), VRel E cs[j] (cs'.getD j undef)) : VRel E (.tup cs) (.tuple cs')
 | adr (a : Addr) : VRel E (.adr a) (.pointer (some a))
 | it (r m : Nat) (hb : r < E.H.length) (h : ∀ es, hmap E.H r = some es → m = (E.ρ r).1) : VRel E (.it r) (.pointer (some ⟨m, 0, none⟩))
def TagOk (v : Nat) (p : Nat × Nat) (e : TypeId) (n m : Nat) : Prop := (v % 4 = 1 → p.2 = 0 ∧ e = v / 4 ∧ n = m) ∧ (v % 4 = 2 → e = 5 ∧ p.2 = 0) ∧ (v % 4 = 3 → p.1 = v / 4 ∧ p.2 = 0)
theorem TagOk.zero {p : Nat × Nat} {n m : Nat} {e : TypeId} : TagOk 0 p e n m := ⟨fun h => by simp at h, fun h => by simp at h, fun h => by simp at h⟩
theorem TagOk.row {p1 n m : Nat} {e : TypeId} : TagOk (rowV e) (p1, 0) e n m := by
 unfold rowV
 split
 ·rename_i h; exact ⟨fun h => by simp at h, fun _ => ⟨h, rfl⟩, fun h => by simp at h⟩
 ·exact .zero
theorem TagOk.next {v : Nat} {p p' : Nat × Nat} {n m n' m' : Nat} {e : TypeId} (h : TagOk v p e n m) (hv : v % 2 = 0) (hp : v % 4 = 2 → p.2 = 0 → p'.2 = 0) : TagOk (v + 4) p' e n' m' :=
 ⟨fun h => by omega, fun h' => have h4 : v % 4 = 2 := by omega
  ⟨(h.2.1 h4).1, hp h4 (h.2.1 h4).2⟩, fun h => by omega⟩
inductive MRel (E : Env) : List (AV × AV) → Obj → Prop where
 | map (es : List (AV × AV)) (es' : Array MapEntry) (ck : Nat) (hf : mfit es = true) (hl : es.length = es'.size)
   (hr : ∀ j (h : j < es.length), VRel E es[j].1 (es'.getD j default).key ∧ VRel E es[j].2 (es'.getD j default).val) : MRel E es (.map es' ck)
 | it (s : List UInt8) (k : Nat) : MRel E (itB s k) (.stringIter ⟨s.toArray⟩ k)
structure HRel (E : Env) : Prop where
 cells : ∀ b v cs, E.H[b]? = some (Blk.cells v cs) → ∃ cc e z, E.w.heap[(E.ρ b).1]? = some (.cells cc e z) ∧ (E.ρ b).2 + cs.length ≤ cc.size ∧
  (v % 4 ≠ 3 → ∀ i, i < cc.size → ¬ (z.1 ≤ i ∧ i < z.2)) ∧ ∀ j (h : j < cs.length), cs[j].leaf = true ∧ VRel E cs[j] (cc.getD ((E.ρ b).2 + j) undef)
 tag : ∀ b v cs, E.H[b]? = some (Blk.cells v cs) → ∃ cc e z, E.w.heap[(E.ρ b).1]? = some (.cells cc e z) ∧ TagOk v (E.ρ b) e cc.size cs.length
 maps : ∀ r es, E.H[r]? = some (Blk.map es) → ∃ o, E.w.heap[(E.ρ r).1]? = some o ∧ MRel E es o
 inj : ∀ b b', alive E.H b → alive E.H b' → (E.ρ b).1 = (E.ρ b').1 → b = b'
 ge : ∀ b, alive E.H b → E.lo ≤ (E.ρ b).1
 lo : E.lo ≤ E.w.heap.size
theorem alive_of_hget {H : Heap} {b ver : Nat} {cs : List AV} (h : hget H b ver = some cs) : H[b]? = some (Blk.cells ver cs) := by
 unfold hget at h
 split at h
 ·rename_i v c hb
  split at h
  ·rename_i hv; subst hv; simp only [Option.some.injEq] at h; subst h; exact hb
  ·cases h
 ·cases h
theorem hget_of {H : Heap} {b ver : Nat} {cs : List AV} (h : H[b]? = some (Blk.cells ver cs)) : hget H b ver = some cs := by simp [hget, h]
theorem hmap_eq {H : Heap} {b : Nat} {es : List (AV × AV)} (h : hmap H b = some es) : H[b]? = some (Blk.map es) := by
 unfold hmap at h
 split at h
 ·rename_i c hb; simp only [Option.some.injEq] at h; subst h; exact hb
 ·cases h
theorem hmap_of {H : Heap} {b : Nat} {es : List (AV × AV)} (h : H[b]? = some (Blk.map es)) : hmap H b = some es := by simp [hmap, h]
structure Step (prot : Nat) (E E' : Env) : Prop where
 len : E.H.length ≤ E'.H.length
 cell : ∀ b v' cs', b < E.H.length → E'.H[b]? = some (Blk.cells v' cs') → ∃ v cs, E.H[b]? = some (Blk.cells v cs) ∧ v ≤ v' ∧ (v' = v → E'.ρ b = E.ρ b)
 map : ∀ b es', b < E.H.length → hmap E'.H b = some es' → (∃ es, hmap E.H b = some es) ∧ E'.ρ b = E.ρ b
 imm : ∀ cb, Imm E cb → Imm E' cb ∧ E'.w.heap[cb]? = E.w.heap[cb]?
 shape : ∀ (cb : Nat) cc e z, E.w.heap[cb]? = some (.cells cc e z) → ∃ cc' z', E'.w.heap[cb]? = some (.cells cc' e z') ∧ cc'.size = cc.size
 prot : ∀ b, b < prot → b < E.H.length → E'.H[b]? = E.H[b]? ∧ E'.ρ b = E.ρ b ∧ (alive E.H b → E'.w.heap[(E.ρ b).1]? = E.w.heap[(E.ρ b).1]?)
 size : E.w.heap.size ≤ E'.w.heap.size
 os : E'.w.os = E.w.os
 tape : E'.w.tape = E.w.tape
 output : E'.w.output = E.w.output
 ip : E'.ip = E.ip
 lo : E'.lo = E.lo
theorem Step.refl (prot : Nat) (E : Env) : Step prot E E :=
 ⟨Nat.le_refl _, fun _ v' cs' _ h => ⟨v', cs', h, Nat.le_refl _, fun _ => rfl⟩, fun _ es' _ h => ⟨⟨es', h⟩, rfl⟩, fun _ h => ⟨h, rfl⟩, fun _ cc _ z h => ⟨cc, z, h, rfl⟩,
  fun _ _ _ => ⟨rfl, rfl, fun _ => rfl⟩, Nat.le_refl _, rfl, rfl, rfl, rfl, rfl⟩
theorem Step.trans {prot : Nat} {A B C : Env} (h : Step prot A B) (k : Step prot B C) : Step prot A C where
 len := Nat.le_trans h.len k.len
 cell b v' cs' hb hc := by
  obtain ⟨v1, cs1, h1, l1, e1⟩ := k.cell b v' cs' (Nat.lt_of_lt_of_le hb h.len) hc
  obtain ⟨v2, cs2, h2, l2, e2⟩ := h.cell b v1 cs1 hb h1
  exact ⟨v2, cs2, h2, Nat.le_trans l2 l1, fun e => (e1 (by omega)).trans (e2 (by omega))⟩
 map b es' hb hc := by
  obtain ⟨⟨cs, h1⟩, e1⟩ := k.map b es' (Nat.lt_of_lt_of_le hb h.len) hc
  obtain ⟨h2, e2⟩ := h.map b cs hb h1
  exact ⟨h2, e1.trans e2⟩
 imm cb hi := by
  obtain ⟨h1, e1⟩ := h.imm cb hi
  obtain ⟨h2, e2⟩ := k.imm cb h1
  exact ⟨h2, e2.trans e1⟩
 shape cb cc e z hs := by
  obtain ⟨cc1, z1, h1, e1⟩ := h.shape cb cc e z hs
  obtain ⟨cc2, z2, h2, e2⟩ := k.shape cb cc1 e z1 h1
  exact ⟨cc2, z2, h2, e2.trans e1⟩
 prot b hb hl := by
  obtain ⟨h1, e1, f1⟩ := h.prot b hb hl
  obtain ⟨h2, e2, f2⟩ := k.prot b hb (Nat.lt_of_lt_of_le hl h.len)
  refine ⟨h2.trans h1, e2.trans e1, fun ha => ?_⟩
  have ha' : alive B.H b := by unfold alive at *; rw [h1]; exact ha
  rw [← f1 ha, ← e1]; exact f2 ha'
 size := Nat.le_trans h.size k.size
 os := k.os.trans h.os
 tape := k.tape.trans h.tape
 output := k.output.trans h.output
 ip := k.ip.trans h.ip
 lo := k.lo.trans h.lo
theorem cell?_same {w w' : World} {b o : Nat} (h : w'.heap[b]? = w.heap[b]?) : w'.cell? ⟨b, o, none⟩ = w.cell? ⟨b, o, none⟩ := by simp [World.cell?, h]
structure Keep (E E' : Env) : Prop where
 imm : ∀ cb, Imm E cb → Imm E' cb ∧ E'.w.heap[cb]? = E.w.heap[cb]?
structure KeepAll (E E' : Env) : Prop extends Keep E E' where
 len : E.H.length ≤ E'.H.length
 cell : ∀ b v' cs', b < E.H.length → E'.H[b]? = some (Blk.cells v' cs') → ∃ v cs, E.H[b]? = some (Blk.cells v cs) ∧ v ≤ v' ∧ (v' = v → E'.ρ b = E.ρ b)
 map : ∀ b es', b < E.H.length → hmap E'.H b = some es' → (∃ es, hmap E.H b = some es) ∧ E'.ρ b = E.ρ b
 shape : ∀ (cb : Nat) cc e z, E.w.heap[cb]? = some (.cells cc e z) → ∃ cc' z', E'.w.heap[cb]? = some (.cells cc' e z') ∧ cc'.size = cc.size
theorem Step.all {prot : Nat} {E E' : Env} (h : Step prot E E') : KeepAll E E' := ⟨⟨h.imm⟩, h.len, h.cell, h.map, h.shape⟩
theorem VRel.mono {E E' : Env} (hs : KeepAll E E') {v : AV} {v' : Value} (h : VRel E v v') : VRel E' v v' := by
 induction h with
 | bool b => exact .bool b
 | int k n => exact .int k n
 | str s => exact .str s
 | nil => exact .nil
 | ptr b ver off a hb hv h =>
  refine .ptr b ver off a (Nat.lt_of_lt_of_le hb hs.len) (fun v' cs' hc => ?_) fun cs' hc => ?_
  ·obtain ⟨v, cs, h1, l1, _⟩ := hs.cell b v' cs' hb hc
   exact Nat.le_trans (hv v cs h1) l1
  ·obtain ⟨v, cs, h1, l1, e1⟩ := hs.cell b ver cs' hb (alive_of_hget hc)
   obtain rfl : ver = v := Nat.le_antisymm (hv v cs h1) l1
   rw [e1 rfl]; exact h cs (hget_of h1)
 | vptr cs off a o f hp hi hsp ho hc hr ih =>
  obtain ⟨hi', he⟩ := hs.imm _ hi
  exact .vptr cs off a o f hp hi' hsp ho (fun j hj => by rw [cell?_same he]; exact hc j hj) ih
 | nilS => exact .nilS
 | vs es full a c sz f hp hc hf hi hz hv hr ih =>
  refine .vs es full a c sz f hp hc hf (fun h0 => ⟨(hs.imm _ (hi h0).1).1, (hi h0).2⟩) hz (fun i h j hj => ?_) ih
  rw [cell?_same (hs.imm _ (hi (Nat.lt_of_le_of_lt (Nat.zero_le _) h)).1).2]; exact hv i h j hj
 | bs s a c hb hv hl hx h =>
  refine .bs s a c (Nat.lt_of_lt_of_le hb hs.len) (fun v' cs' hc => ?_) hl hx fun cs' hc => ?_
  ·obtain ⟨v, cs, h1, l1, _⟩ := hs.cell _ v' cs' hb hc
   exact Nat.le_trans (hv v cs h1) l1
  ·obtain ⟨v, cs, h1, l1, e1⟩ := hs.cell _ _ cs' hb (alive_of_hget hc)
   have ev := Nat.le_antisymm (hv v cs h1) l1
   rw [← ev] at h1
   obtain ⟨ha, cc, e, z, hh, hle⟩ := h cs (hget_of h1)
   obtain ⟨cc', z', h2, e2⟩ := hs.shape _ _ _ _ hh
   rw [e1 ev]; exact ⟨ha, cc', e, z', h2, by omega⟩
 | nilM => exact .nilM
 | map r m hb h =>
  refine .map r m (Nat.lt_of_lt_of_le hb hs.len) fun es' hc => ?_
  obtain ⟨⟨es, h1⟩, e1⟩ := hs.map r es' hb hc
  rw [e1]; exact h es h1
 | nilF => exact .nilF
 | func f first caps first' caps' h1 h2 hr1 hr2 ih1 ih2 => exact .func f first caps first' caps' h1 h2 ih1 ih2
 | nilI => exact .nilI
 | iface t v v' h ih => exact .iface t v v' ih
 | agg cs cs' h hr ih => exact .agg cs cs' h ih
 | tup cs cs' h hr ih => exact .tup cs cs' h ih
 | adr a => exact .adr a
 | it r m hb h =>
  refine .it r m (Nat.lt_of_lt_of_le hb hs.len) fun es' hc => ?_
  obtain ⟨⟨es, h1⟩, e1⟩ := hs.map r es' hb hc
  rw [e1]; exact h es h1
theorem MRel.mono {E E' : Env} (hs : KeepAll E E') {es : List (AV × AV)} {o : Obj} (h : MRel E es o) : MRel E' es o := by
 cases h with
 | map es es' ck hf hl hr => exact .map es es' ck hf hl fun j h => ⟨(hr j h).1.mono hs, (hr j h).2.mono hs⟩
 | it s k => exact .it s k
theorem MRel.cells {E : Env} {es : List (AV × AV)} {o : Obj} (h : MRel E es o) : ∀ cc e z, o ≠ .cells cc e z := by
 intro cc e z he; subst he; cases h
theorem plL_get {l : List AV} (h : AV.plL l = true) (j : Nat) (hj : j < l.length) : AV.pl l[j] = true := by
 induction l generalizing j with
 | nil => simp at hj
 | cons a r ih =>
  simp only [AV.plL, Bool.and_eq_true] at h
  cases j with
  | zero => exact h.1
  | succ j => simpa using ih h.2 j (by simpa using hj)
theorem plL_of {l : List AV} (h : ∀ j (hj : j < l.length), AV.pl l[j] = true) : AV.plL l = true := by
 induction l with
 | nil => rfl
 | cons a r ih =>
  simp only [AV.plL, Bool.and_eq_true]
  exact ⟨h 0 (by simp), ih fun j hj => (h (j + 1) (by simpa using hj) :)⟩
theorem pl_cells {v : AV} (h : AV.pl v = true) : AV.plL v.cells = true := by
 cases v <;> simp_all [AV.cells, AV.pl, AV.plL]
theorem VRel.plain {E E' : Env} (hs : Keep E E') {v : AV} {v' : Value} (h : VRel E v v') (hp : AV.pl v = true) : VRel E' v v' := by
 induction h with
 | bool b => exact .bool b
 | int k n => exact .int k n
 | str s => exact .str s
 | nil => exact .nil
 | ptr => simp [AV.pl] at hp
 | vptr cs off a o f hp' hi hsp ho hc hr ih =>
  obtain ⟨hi', he⟩ := hs.imm _ hi
  exact .vptr cs off a o f hp' hi' hsp ho (fun j hj => by rw [cell?_same he]; exact hc j hj) fun j hj => ih j hj (plL_get hp' j hj)
 | nilS => exact .nilS
 | vs es full a c sz f hp' hc hf hi hz hv hr ih =>
  refine .vs es full a c sz f hp' hc hf (fun h0 => ⟨(hs.imm _ (hi h0).1).1, (hi h0).2⟩) hz (fun i h j hj => ?_) fun i h j hj => ih i h j hj (plL_get (pl_cells (plL_get hp' i h)) j hj)
  rw [cell?_same (hs.imm _ (hi (Nat.lt_of_le_of_lt (Nat.zero_le _) h)).1).2]; exact hv i h j hj
 | bs => simp [AV.pl] at hp
 | nilM => exact .nilM
 | map => simp [AV.pl] at hp
 | nilF => exact .nilF
 | func f first caps first' caps' h1 h2 hr1 hr2 ih1 ih2 =>
  simp only [AV.pl, Bool.and_eq_true] at hp
  exact .func f first caps first' caps' h1 h2 (fun j h => ih1 j h (plL_get hp.1 j h)) (fun j h => ih2 j h (plL_get hp.2 j h))
 | nilI => exact .nilI
 | iface t v v' h ih => exact .iface t v v' (ih (by simpa [AV.pl] using hp))
 | agg cs cs' h hr ih => exact .agg cs cs' h fun j hj => ih j hj (plL_get (by simpa [AV.pl] using hp) j hj)
 | tup cs cs' h hr ih => exact .tup cs cs' h fun j hj => ih j hj (plL_get (by simpa [AV.pl] using hp) j hj)
 | adr a => exact .adr a
 | it => simp [AV.pl] at hp
def LRel (E : Env) (l : List AV) (a : Array Value) : Prop := l.length = a.size ∧ ∀ j, VRel E (l.getD j (.tup [])) (a.getD j undef)
theorem VRel.undef (E : Env) : VRel E (.tup []) Go.undef := .tup [] #[] rfl fun j h => by simp at h
theorem LRel.of {E : Env} {l : List AV} {a : Array Value} (h : l.length = a.size) (hr : ∀ j (h : j < l.length), VRel E l[j] (a.getD j Go.undef)) : LRel E l a := by
 refine ⟨h, fun j => ?_⟩
 by_cases hj : j < l.length
 ·have := hr j hj; simpa [List.getD, List.getElem?_eq_getElem hj] using this
 ·have h1 : l.getD j (.tup []) = .tup [] := by simp [List.getD, List.getElem?_eq_none (Nat.le_of_not_lt hj)]
  have h2 : a.getD j Go.undef = Go.undef := by simp [Array.getD, show ¬ j < a.size by omega]
  rw [h1, h2]; exact .undef E
theorem LRel.get {E : Env} {l : List AV} {a : Array Value} (h : LRel E l a) (j : Nat) (hj : j < l.length) : VRel E l[j] (a.getD j Go.undef) := by
 have := h.2 j; simpa [List.getD, List.getElem?_eq_getElem hj] using this
theorem LRel.mono {E E' : Env} (hs : KeepAll E E') {l : List AV} {a : Array Value} (h : LRel E l a) : LRel E' l a := ⟨h.1, fun j => (h.2 j).mono hs⟩
theorem LRel.nil (E : Env) : LRel E [] #[] := .of rfl fun j h => by simp at h
theorem LRel.list {E : Env} {l : List AV} {a : List Value} : LRel E l a.toArray ↔ l.length = a.length ∧ ∀ j, VRel E (l.getD j (.tup [])) (a.getD j Go.undef) := by
 simp [LRel]
theorem LRel.cons {E : Env} {v : AV} {l : List AV} {v' : Value} {a : List Value} (h : VRel E v v') (hr : LRel E l a.toArray) : LRel E (v :: l) (v' :: a).toArray := by
 rw [LRel.list] at hr ⊢
 refine ⟨by simp [hr.1], fun j => ?_⟩
 cases j with
 | zero => simpa using h
 | succ j => simpa using hr.2 j
theorem LRel.append {E : Env} {l m : List AV} {a b : Array Value} (h : LRel E l a) (k : LRel E m b) : LRel E (l ++ m) (a ++ b) := by
 refine ⟨by simp [h.1, k.1], fun j => ?_⟩
 by_cases hj : j < l.length
 ·have := h.2 j
  have e1 : (l ++ m).getD j (.tup []) = l.getD j (.tup []) := by simp [List.getD, List.getElem?_append_left hj]
  have e2 : (a ++ b).getD j Go.undef = a.getD j Go.undef := by simp [Array.getD_eq_getD_getElem?, Array.getElem?_append_left (show j < a.size by rw [← h.1]; exact hj)]
  rw [e1, e2]; exact this
 ·have := k.2 (j - l.length)
  have e1 : (l ++ m).getD j (.tup []) = m.getD (j - l.length) (.tup []) := by simp [List.getD, List.getElem?_append_right (Nat.le_of_not_lt hj)]
  have e2 : (a ++ b).getD j Go.undef = b.getD (j - l.length) Go.undef := by simp [Array.getD_eq_getD_getElem?, Array.getElem?_append_right (show a.size ≤ j by rw [← h.1]; omega), h.1]
  rw [e1, e2]; exact this
theorem VRel.toV0 {E : Env} {v : AV} {v' x : Value} (h : VRel E v v') (hx : toV0 v = some x) : v' = x := by
 cases h <;> simp [Abs.toV0] at hx <;> exact hx
theorem VRel.toV1 {E : Env} {v : AV} {v' x : Value} (h : VRel E v v') (hx : toV1 v = some x) : v' = x := by
 cases h with
 | iface t v v' h => simp only [Abs.toV1, Option.map_eq_some_iff] at hx; obtain ⟨y, hy, rfl⟩ := hx; rw [h.toV0 hy]
 | _ => first | exact VRel.toV0 (E := E) (by constructor <;> assumption) hx | (simp [Abs.toV1, Abs.toV0] at hx; try exact hx)
end Go.Abs

