import Derived.Test.YtnipaiklandliaaGreatDoorAbsRel
namespace Go.Abs
open Go
def upd (ρ : Nat → Nat × Nat) (b : Nat) (p : Nat × Nat) : Nat → Nat × Nat := fun x => if x = b then p else ρ x
def setBlk (w : World) (g : Nat) (o : Obj) : World := { w with heap := w.heap.setIfInBounds g o }
theorem setBlk_same (w : World) (g : Nat) (o : Obj) (h : g < w.heap.size) : (setBlk w g o).heap[g]? = some o := by simp [setBlk, h]
theorem setBlk_ne (w : World) (g k : Nat) (o : Obj) (h : k ≠ g) : (setBlk w g o).heap[k]? = w.heap[k]? := by
 simp only [setBlk]; rw [Array.getElem?_setIfInBounds]; rw [if_neg (by omega)]
theorem setBlk_size (w : World) (g : Nat) (o : Obj) : (setBlk w g o).heap.size = w.heap.size := by simp [setBlk]
theorem alive_lt {H : Heap} {b : Nat} (h : alive H b) : b < H.length := by
 rcases h with ⟨v, cs, h⟩ | ⟨es, h⟩ <;> exact (List.getElem?_eq_some_iff.1 h).1
theorem HRel.lt {E : Env} (h : HRel E) {b : Nat} (ha : alive E.H b) : (E.ρ b).1 < E.w.heap.size := by
 rcases ha with ⟨v, cs, hb⟩ | ⟨es, hb⟩
 ·obtain ⟨cc, e, z, hh, _⟩ := h.cells b v cs hb; exact (Array.getElem?_eq_some_iff.1 hh).1
 ·obtain ⟨o, hh, _⟩ := h.maps b es hb; exact (Array.getElem?_eq_some_iff.1 hh).1
inductive BRel (E : Env) (p : Nat × Nat) : Blk → Obj → Prop where
 | cells (v : Nat) (cs : List AV) (cc : Array Value) (e : TypeId) (z : Nat × Nat) (hl : p.2 + cs.length ≤ cc.size) (hz : v % 4 ≠ 3 → ∀ i, i < cc.size → ¬ (z.1 ≤ i ∧ i < z.2))
   (hr : ∀ j (h : j < cs.length), cs[j].leaf = true ∧ VRel E cs[j] (cc.getD (p.2 + j) undef)) (ht : TagOk v p e cc.size cs.length) : BRel E p (.cells v cs) (.cells cc e z)
 | map (es : List (AV × AV)) (o : Obj) (h : MRel E es o) : BRel E p (.map es) o
theorem BRel.mono {E E' : Env} (hs : KeepAll E E') {p : Nat × Nat} {b : Blk} {o : Obj} (h : BRel E p b o) : BRel E' p b o := by
 cases h with
 | cells v cs cc e z hl hz hr ht => exact .cells v cs cc e z hl hz (fun j h => ⟨(hr j h).1, (hr j h).2.mono hs⟩) ht
 | map es o h => exact .map es o (h.mono hs)
theorem HRel.blk {E : Env} (h : HRel E) {b : Nat} {blk : Blk} (hb : E.H[b]? = some blk) (ha : alive E.H b) : ∃ o, E.w.heap[(E.ρ b).1]? = some o ∧ BRel E (E.ρ b) blk o := by
 rcases ha with ⟨v, cs, hb'⟩ | ⟨es, hb'⟩
 ·rw [hb] at hb'; cases hb'
  obtain ⟨cc, e, z, hh, hl, hz, hr⟩ := h.cells b v cs hb
  exact ⟨_, hh, .cells v cs cc e z hl hz hr (by
   obtain ⟨cc', e', z', t2, t3⟩ := h.tag b v cs hb
   rw [hh] at t2
   cases t2
   exact t3)⟩
 ·rw [hb] at hb'; cases hb'
  obtain ⟨o, hh, hr⟩ := h.maps b es hb
  exact ⟨_, hh, .map es o hr⟩
theorem HRel.mk' {E : Env} (hb : ∀ b blk, E.H[b]? = some blk → alive E.H b → ∃ o, E.w.heap[(E.ρ b).1]? = some o ∧ BRel E (E.ρ b) blk o)
  (inj : ∀ b b', alive E.H b → alive E.H b' → (E.ρ b).1 = (E.ρ b').1 → b = b') (ge : ∀ b, alive E.H b → E.lo ≤ (E.ρ b).1) (lo : E.lo ≤ E.w.heap.size) : HRel E where
 cells b v cs h := by
  obtain ⟨o, ho, hr⟩ := hb b _ h (.inl ⟨v, cs, h⟩)
  cases hr with
  | cells _ _ cc e z hl hz hr ht => exact ⟨cc, e, z, ho, hl, hz, hr⟩
 tag b v cs h := by
  obtain ⟨o, ho, hr⟩ := hb b _ h (.inl ⟨v, cs, h⟩)
  cases hr with
  | cells _ _ cc e z hl hz hr ht => exact ⟨cc, e, z, ho, ht⟩
 maps r es h := by
  obtain ⟨o, ho, hr⟩ := hb r _ h (.inr ⟨es, h⟩)
  cases hr with
  | map _ o h => exact ⟨o, ho, h⟩
 inj := inj
 ge := ge
 lo := lo
def Env.alloc (E : Env) (blk : Blk) (o : Obj) : Env :=
 { E with ρ := upd E.ρ E.H.length (E.w.heap.size, 0), H := E.H ++ [blk], w := E.w.alloc o }
theorem get_app_old {H : Heap} {b : Nat} {x : Blk} (h : b < H.length) : (H ++ [x])[b]? = H[b]? := List.getElem?_append_left h
theorem get_app_new {H : Heap} {x : Blk} : (H ++ [x])[H.length]? = some x := by simp
theorem Step.alloc (prot : Nat) {E : Env} (hE : HRel E) (blk : Blk) (o : Obj) : Step prot E (E.alloc blk o) where
 len := by simp [Env.alloc]
 cell b v' cs' hb hc := by
  simp only [Env.alloc] at hc ⊢
  rw [get_app_old hb] at hc
  exact ⟨v', cs', hc, Nat.le_refl _, fun _ => by simp [upd, show b ≠ E.H.length by omega]⟩
 map b es' hb hc := by
  simp only [Env.alloc] at hc ⊢
  have hc' := hmap_eq hc
  rw [get_app_old hb] at hc'
  exact ⟨⟨es', hmap_of hc'⟩, by simp [upd, show b ≠ E.H.length by omega]⟩
 imm cb hi := by
  refine ⟨⟨by simpa [Env.alloc] using Nat.lt_succ_of_lt hi.1, ?_⟩, heap_alloc_old _ _ _ hi.1⟩
  rintro ⟨b, h1, h2, h3⟩
  simp only [Env.alloc, upd] at h1 h2 h3
  split at h3
  ·simp at h3; have := hi.1; omega
  ·rename_i hne
   have hlt := alive_lt h2
   have hlt : b < E.H.length := by simp at hlt; omega
   refine hi.2 ⟨b, h1, ?_, h3⟩
   unfold alive at *; rw [get_app_old hlt] at h2; exact h2
 shape cb cc e z h := ⟨cc, z, (heap_alloc_old E.w o cb (Array.getElem?_eq_some_iff.1 h).1).trans h, rfl⟩
 prot b _ hl := ⟨get_app_old hl, by simp [Env.alloc, upd, show b ≠ E.H.length by omega], fun ha => heap_alloc_old _ _ _ (hE.lt ha)⟩
 size := by simp [Env.alloc]
 os := rfl
 tape := rfl
 output := rfl
 ip := rfl
 lo := rfl
theorem HRel.alloc {E : Env} (hE : HRel E) (blk : Blk) (o : Obj) (hb : BRel E (E.w.heap.size, 0) blk o) : HRel (E.alloc blk o) := by
 have hs := (Step.alloc 0 hE blk o).all
 have hold : ∀ b, alive (E.H ++ [blk]) b → b = E.H.length ∨ (b < E.H.length ∧ alive E.H b) := fun b ha => by
  have hlt := alive_lt ha
  by_cases h : b = E.H.length
  ·exact .inl h
  ·have hlt : b < E.H.length := by simp at hlt; omega
   refine .inr ⟨hlt, ?_⟩
   unfold alive at *; rw [get_app_old hlt] at ha; exact ha
 refine .mk' (fun b blk' h ha => ?_) (fun b b' ha ha' he => ?_) (fun b ha => ?_) (by simpa [Env.alloc] using Nat.le_succ_of_le hE.lo)
 ·rcases hold b ha with rfl | ⟨hlt, ha'⟩
  ·simp only [Env.alloc] at h ⊢
   rw [get_app_new] at h
   cases h
   refine ⟨o, ?_, ?_⟩
   ·simp only [upd, if_true]; exact heap_alloc_new _ _
   ·have := hb.mono hs; simpa [Env.alloc, upd] using this
  ·simp only [Env.alloc] at h
   rw [get_app_old hlt] at h
   obtain ⟨o', ho, hr⟩ := hE.blk h ha'
   have hne : b ≠ E.H.length := by omega
   refine ⟨o', ?_, ?_⟩
   ·simp only [Env.alloc, upd, hne, if_false]; rw [heap_alloc_old _ _ _ (hE.lt ha')]; exact ho
   ·have := hr.mono hs; simpa [Env.alloc, upd, hne] using this
 ·simp only [Env.alloc, upd] at he
  rcases hold b ha with rfl | ⟨hlt, h1⟩ <;> rcases hold b' ha' with rfl | ⟨hlt', h2⟩
  ·rfl
  ·rw [if_pos rfl, if_neg (by omega)] at he; have := hE.lt h2; simp at he; omega
  ·rw [if_neg (by omega), if_pos rfl] at he; have := hE.lt h1; simp at he; omega
  ·rw [if_neg (by omega), if_neg (by omega)] at he; exact hE.inj b b' h1 h2 he
 ·simp only [Env.alloc, upd]
  rcases hold b ha with rfl | ⟨hlt, h1⟩
  ·simpa using hE.lo
  ·rw [if_neg (by omega)]; exact hE.ge b h1
def Env.put (E : Env) (b : Nat) (p : Nat × Nat) (blk : Blk) (w : World) : Env :=
 { E with ρ := upd E.ρ b p, H := E.H.set b blk, w := w }
theorem alive_set {H : Heap} {b x : Nat} {blk : Blk} (hb : alive H b) (h : alive (H.set b blk) x) : alive H x := by
 by_cases e : x = b
 ·subst e; exact hb
 ·unfold alive at *; rw [List.getElem?_set_ne (by omega)] at h; exact h
theorem get_set_ne {H : Heap} {b x : Nat} {blk : Blk} (h : x ≠ b) : (H.set b blk)[x]? = H[x]? := List.getElem?_set_ne (by omega)
theorem get_set_eq {H : Heap} {b : Nat} {blk : Blk} (h : b < H.length) : (H.set b blk)[b]? = some blk := by simp [h]
theorem Step.write {prot : Nat} {E : Env} (hE : HRel E) {b : Nat} {v v' : Nat} {cs cs' : List AV} {cc cc' : Array Value} {e : TypeId} {z z' : Nat × Nat} {p : Nat × Nat}
  (hb : E.H[b]? = some (Blk.cells v cs)) (hw : E.w.heap[(E.ρ b).1]? = some (.cells cc e z)) (hv : v ≤ v') (hp : p.1 = (E.ρ b).1) (hsame : v' = v → p = E.ρ b)
  (hsz : cc'.size = cc.size) (hprot : prot ≤ b) (hip : E.ip ≤ prot) : Step prot E (E.put b p (.cells v' cs') (setBlk E.w (E.ρ b).1 (.cells cc' e z'))) where
 len := by simp [Env.put]
 cell x u cs1 hx hc := by
  simp only [Env.put] at hc ⊢
  by_cases ex : x = b
  ·subst ex
   rw [get_set_eq hx] at hc
   cases hc
   exact ⟨v, cs, hb, hv, fun e1 => by simp [upd, hsame e1]⟩
  ·rw [get_set_ne ex] at hc
   exact ⟨u, cs1, hc, Nat.le_refl _, fun _ => by simp [upd, ex]⟩
 map x es' hx hc := by
  simp only [Env.put] at hc ⊢
  have hc' := hmap_eq hc
  by_cases ex : x = b
  ·subst ex; rw [get_set_eq hx] at hc'; cases hc'
  ·rw [get_set_ne ex] at hc'
   exact ⟨⟨es', hmap_of hc'⟩, by simp [upd, ex]⟩
 imm cb hi := by
  have hne : cb ≠ (E.ρ b).1 := fun h => hi.2 ⟨b, by omega, .inl ⟨v, cs, hb⟩, h.symm⟩
  refine ⟨⟨by simpa [Env.put, setBlk_size] using hi.1, ?_⟩, setBlk_ne _ _ _ _ hne⟩
  rintro ⟨x, h1, h2, h3⟩
  simp only [Env.put, upd] at h1 h2 h3
  have hax := alive_set (.inl ⟨v, cs, hb⟩) h2
  split at h3
  ·rw [hp] at h3; exact hne h3.symm
  ·exact hi.2 ⟨x, h1, hax, h3⟩
 shape cb cc1 e1 z1 h := by
  by_cases ex : cb = (E.ρ b).1
  ·subst ex
   rw [hw] at h; cases h
   exact ⟨cc', z', setBlk_same _ _ _ (Array.getElem?_eq_some_iff.1 hw).1, hsz⟩
  ·exact ⟨cc1, z1, (setBlk_ne _ _ _ _ ex).trans h, rfl⟩
 prot x hx hl := by
  have ex : x ≠ b := by omega
  exact ⟨get_set_ne ex, by simp [Env.put, upd, ex], fun ha => setBlk_ne _ _ _ _ fun h => ex (hE.inj x b ha (.inl ⟨v, cs, hb⟩) h)⟩
 size := by simp [Env.put, setBlk_size]
 os := rfl
 tape := rfl
 output := rfl
 ip := rfl
 lo := rfl
theorem HRel.write {E : Env} (hE : HRel E) {b : Nat} {v v' : Nat} {cs cs' : List AV} {cc cc' : Array Value} {e : TypeId} {z z' : Nat × Nat} {p : Nat × Nat}
  (hb : E.H[b]? = some (Blk.cells v cs)) (hw : E.w.heap[(E.ρ b).1]? = some (.cells cc e z)) (hv : v ≤ v') (hp : p.1 = (E.ρ b).1) (hsame : v' = v → p = E.ρ b)
  (hsz : cc'.size = cc.size) (hip : E.ip ≤ b) (hr : BRel E p (.cells v' cs') (.cells cc' e z')) :
  HRel (E.put b p (.cells v' cs') (setBlk E.w (E.ρ b).1 (.cells cc' e z'))) := by
 have hs := (Step.write (prot := b) (cs' := cs') (z' := z') hE hb hw hv hp hsame hsz (Nat.le_refl _) hip).all
 have hal : alive E.H b := .inl ⟨v, cs, hb⟩
 refine .mk' (fun x blk' h ha => ?_) (fun x x' ha ha' he => ?_) (fun x ha => ?_) (by simpa [Env.put, setBlk_size] using hE.lo)
 ·have hax := alive_set hal ha
  simp only [Env.put] at h
  by_cases ex : x = b
  ·subst ex
   rw [get_set_eq (alive_lt hal)] at h
   cases h
   refine ⟨.cells cc' e z', ?_, ?_⟩
   ·simp only [Env.put, upd, if_true]; rw [hp]; exact setBlk_same _ _ _ (hE.lt hal)
   ·simpa [Env.put, upd] using hr.mono hs
  ·rw [get_set_ne ex] at h
   obtain ⟨o', ho, hro⟩ := hE.blk h hax
   have hne : (E.ρ x).1 ≠ (E.ρ b).1 := fun h => ex (hE.inj x b hax hal h)
   refine ⟨o', ?_, ?_⟩
   ·simp only [Env.put, upd, ex, if_false]; rw [setBlk_ne _ _ _ _ hne]; exact ho
   ·have := hro.mono hs; simpa [Env.put, upd, ex] using this
 ·have h1 := alive_set hal ha
  have h2 := alive_set hal ha'
  simp only [Env.put, upd] at he
  have e1 : (if x = b then p else E.ρ x).1 = (E.ρ x).1 := by split <;> simp_all
  have e2 : (if x' = b then p else E.ρ x').1 = (E.ρ x').1 := by split <;> simp_all
  rw [e1, e2] at he
  exact hE.inj x x' h1 h2 he
 ·have h1 := alive_set hal ha
  simp only [Env.put, upd]
  have e1 : (if x = b then p else E.ρ x).1 = (E.ρ x).1 := by split <;> simp_all
  rw [e1]; exact hE.ge x h1
theorem Step.move {prot : Nat} {E : Env} (hE : HRel E) {b : Nat} {v v' : Nat} {cs cs' : List AV} (o : Obj)
  (hb : E.H[b]? = some (Blk.cells v cs)) (hv : v < v') (hprot : prot ≤ b) : Step prot E (E.put b (E.w.heap.size, 0) (.cells v' cs') (E.w.alloc o)) where
 len := by simp [Env.put]
 cell x u cs1 hx hc := by
  simp only [Env.put] at hc ⊢
  by_cases ex : x = b
  ·subst ex
   rw [get_set_eq hx] at hc
   cases hc
   exact ⟨v, cs, hb, by omega, fun e1 => by omega⟩
  ·rw [get_set_ne ex] at hc
   exact ⟨u, cs1, hc, Nat.le_refl _, fun _ => by simp [upd, ex]⟩
 map x es' hx hc := by
  simp only [Env.put] at hc ⊢
  have hc' := hmap_eq hc
  by_cases ex : x = b
  ·subst ex; rw [get_set_eq hx] at hc'; cases hc'
  ·rw [get_set_ne ex] at hc'
   exact ⟨⟨es', hmap_of hc'⟩, by simp [upd, ex]⟩
 imm cb hi := by
  refine ⟨⟨by simpa [Env.put] using Nat.lt_succ_of_lt hi.1, ?_⟩, heap_alloc_old _ _ _ hi.1⟩
  rintro ⟨x, h1, h2, h3⟩
  simp only [Env.put, upd] at h1 h2 h3
  have hax := alive_set (.inl ⟨v, cs, hb⟩) h2
  split at h3
  ·simp at h3; have := hi.1; omega
  ·exact hi.2 ⟨x, h1, hax, h3⟩
 shape cb cc e z h := ⟨cc, z, (heap_alloc_old E.w o cb (Array.getElem?_eq_some_iff.1 h).1).trans h, rfl⟩
 prot x hx hl := by
  have ex : x ≠ b := by omega
  exact ⟨get_set_ne ex, by simp [Env.put, upd, ex], fun ha => heap_alloc_old _ _ _ (hE.lt ha)⟩
 size := by simp [Env.put]
 os := rfl
 tape := rfl
 output := rfl
 ip := rfl
 lo := rfl
theorem HRel.move {E : Env} (hE : HRel E) {b : Nat} {v v' : Nat} {cs cs' : List AV} {o : Obj}
  (hb : E.H[b]? = some (Blk.cells v cs)) (hv : v < v') (hr : BRel E (E.w.heap.size, 0) (.cells v' cs') o) :
  HRel (E.put b (E.w.heap.size, 0) (.cells v' cs') (E.w.alloc o)) := by
 have hs := (Step.move (prot := b) (cs' := cs') hE o hb hv (Nat.le_refl _)).all
 have hal : alive E.H b := .inl ⟨v, cs, hb⟩
 refine .mk' (fun x blk' h ha => ?_) (fun x x' ha ha' he => ?_) (fun x ha => ?_) (by simpa [Env.put] using Nat.le_succ_of_le hE.lo)
 ·have hax := alive_set hal ha
  simp only [Env.put] at h
  by_cases ex : x = b
  ·subst ex
   rw [get_set_eq (alive_lt hal)] at h
   cases h
   refine ⟨o, ?_, ?_⟩
   ·simp only [Env.put, upd, if_true]; exact heap_alloc_new _ _
   ·simpa [Env.put, upd] using hr.mono hs
  ·rw [get_set_ne ex] at h
   obtain ⟨o', ho, hro⟩ := hE.blk h hax
   refine ⟨o', ?_, ?_⟩
   ·simp only [Env.put, upd, ex, if_false]; rw [heap_alloc_old _ _ _ (hE.lt hax)]; exact ho
   ·have := hro.mono hs; simpa [Env.put, upd, ex] using this
 ·have h1 := alive_set hal ha
  have h2 := alive_set hal ha'
  simp only [Env.put, upd] at he
  by_cases e1 : x = b <;> by_cases e2 : x' = b
  ·rw [e1, e2]
  ·rw [if_pos e1, if_neg e2] at he; have := hE.lt h2; simp at he; omega
  ·rw [if_neg e1, if_pos e2] at he; have := hE.lt h1; simp at he; omega
  ·rw [if_neg e1, if_neg e2] at he; exact hE.inj x x' h1 h2 he
 ·have h1 := alive_set hal ha
  simp only [Env.put, upd]
  split
  ·exact hE.lo
  ·exact hE.ge x h1
theorem Step.mput {prot : Nat} {E : Env} (hE : HRel E) {r : Nat} {es es1 : List (AV × AV)} {o o1 : Obj}
  (hb : E.H[r]? = some (Blk.map es)) (hw : E.w.heap[(E.ρ r).1]? = some o) (hnc : ∀ cc e z, o ≠ .cells cc e z) (hprot : prot ≤ r) (hip : E.ip ≤ prot) :
  Step prot E (E.put r (E.ρ r) (.map es1) (setBlk E.w (E.ρ r).1 o1)) where
 len := by simp [Env.put]
 cell x u cs1 hx hc := by
  simp only [Env.put] at hc ⊢
  by_cases ex : x = r
  ·subst ex; rw [get_set_eq hx] at hc; cases hc
  ·rw [get_set_ne ex] at hc
   exact ⟨u, cs1, hc, Nat.le_refl _, fun _ => by simp [upd, ex]⟩
 map x es2 hx hc := by
  simp only [Env.put] at hc ⊢
  have hc' := hmap_eq hc
  by_cases ex : x = r
  ·subst ex; exact ⟨⟨es, hmap_of hb⟩, by simp [upd]⟩
  ·rw [get_set_ne ex] at hc'
   exact ⟨⟨es2, hmap_of hc'⟩, by simp [upd, ex]⟩
 imm cb hi := by
  have hne : cb ≠ (E.ρ r).1 := fun h => hi.2 ⟨r, by omega, .inr ⟨es, hb⟩, h.symm⟩
  refine ⟨⟨by simpa [Env.put, setBlk_size] using hi.1, ?_⟩, setBlk_ne _ _ _ _ hne⟩
  rintro ⟨x, h1, h2, h3⟩
  simp only [Env.put, upd] at h1 h2 h3
  have hax := alive_set (.inr ⟨es, hb⟩) h2
  split at h3
  ·exact hne h3.symm
  ·exact hi.2 ⟨x, h1, hax, h3⟩
 shape cb cc1 e1 z1 h := by
  by_cases ex : cb = (E.ρ r).1
  ·subst ex; rw [hw] at h; exact absurd (Option.some.inj h) (hnc _ _ _)
  ·exact ⟨cc1, z1, (setBlk_ne _ _ _ _ ex).trans h, rfl⟩
 prot x hx hl := by
  have ex : x ≠ r := by omega
  exact ⟨get_set_ne ex, by simp [Env.put, upd, ex], fun ha => setBlk_ne _ _ _ _ fun h => ex (hE.inj x r ha (.inr ⟨es, hb⟩) h)⟩
 size := by simp [Env.put, setBlk_size]
 os := rfl
 tape := rfl
 output := rfl
 ip := rfl
 lo := rfl
theorem HRel.mput {E : Env} (hE : HRel E) {r : Nat} {es es1 : List (AV × AV)} {o o1 : Obj}
  (hb : E.H[r]? = some (Blk.map es)) (hw : E.w.heap[(E.ρ r).1]? = some o) (hnc : ∀ cc e z, o ≠ .cells cc e z) (hip : E.ip ≤ r) (hr : BRel E (E.ρ r) (.map es1) o1) :
  HRel (E.put r (E.ρ r) (.map es1) (setBlk E.w (E.ρ r).1 o1)) := by
 have hs := (Step.mput (prot := r) (es1 := es1) (o1 := o1) hE hb hw hnc (Nat.le_refl _) hip).all
 have hal : alive E.H r := .inr ⟨es, hb⟩
 have e1 : ∀ x, (if x = r then E.ρ r else E.ρ x) = E.ρ x := fun x => by split <;> simp_all
 refine .mk' (fun x blk' h ha => ?_) (fun x x' ha ha' he => ?_) (fun x ha => ?_) (by simpa [Env.put, setBlk_size] using hE.lo)
 ·have hax := alive_set hal ha
  simp only [Env.put] at h
  by_cases ex : x = r
  ·subst ex
   rw [get_set_eq (alive_lt hal)] at h
   cases h
   refine ⟨o1, ?_, ?_⟩
   ·simp only [Env.put, upd, if_true]; exact setBlk_same _ _ _ (hE.lt hal)
   ·simpa [Env.put, upd] using hr.mono hs
  ·rw [get_set_ne ex] at h
   obtain ⟨o', ho, hro⟩ := hE.blk h hax
   have hne : (E.ρ x).1 ≠ (E.ρ r).1 := fun h => ex (hE.inj x r hax hal h)
   refine ⟨o', ?_, ?_⟩
   ·simp only [Env.put, upd, ex, if_false]; rw [setBlk_ne _ _ _ _ hne]; exact ho
   ·have := hro.mono hs; simpa [Env.put, upd, ex] using this
 ·simp only [Env.put, upd, e1] at he
  exact hE.inj x x' (alive_set hal ha) (alive_set hal ha') he
 ·simp only [Env.put, upd, e1]
  exact hE.ge x (alive_set hal ha)
end Go.Abs

