import Derived.Test.YtnipaiklandliaaGreatDoorAbsOps5
import Derived.Laws.BytesString
import Derived.Laws.Cover4
import Derived.MapKept
namespace Go.Abs
open Go
section
variable {P : Program} {E : Env}
theorem freeze_new (w : World) (arr : Array Value) (e : TypeId) : (w.alloc (.cells arr e)).freeze ⟨w.heap.size, arr.size, none⟩ 1 = w.alloc (.cells arr e (arr.size, arr.size + 1)) := by
 simp only [World.freeze, World.alloc, Nat.one_ne_zero, if_false]
 congr 1
 apply Array.ext_getElem?
 intro j
 rw [Array.getElem?_modify, Array.getElem?_push, Array.getElem?_push]
 by_cases h : w.heap.size = j
 ·subst h; simp
 ·rw [if_neg h, if_neg (by omega), if_neg (by omega)]
theorem toBytes_ok (hE : HRel E) {prot : Nat} {src dst e : TypeId} {s : List UInt8} (hs : P.underlying src = some .string) (hd : P.underlying dst = some (.slice e)) (he : P.underlying e = some (.int .u8)) :
  Outcome1 P E prot (convert src dst (.string ⟨s.toArray⟩)) (.bs ⟨E.H.length, 0, 0, s.length, 0, 1, false, false⟩) (some (E.H ++ [Blk.cells 0 (s.map fun c => .int .u8 c.toNat)])) := by
 let cap := grownCap E.w s.length 0 e
 have hge : s.length ≤ cap := grownCap_ge _ _ _ _
 let arr : Array Value := (s.map fun c => Value.int .u8 c.toNat).toArray ++ Array.replicate (cap - s.length) (.int .u8 0)
 have hsz : arr.size = cap := by simp [arr]; omega
 have hr : ∀ j (h : j < (s.map fun c => AV.int .u8 c.toNat).length), VRel E.drew (s.map fun c => AV.int .u8 c.toNat)[j] (arr.getD j Go.undef) := by
  intro j h
  have h' : j < s.length := by simpa using h
  have e1 : arr.getD j Go.undef = .int .u8 s[j].toNat := by
   simp only [arr]
   rw [Array.getD_eq_getD_getElem?, Array.getElem?_append_left (by simpa using h')]
   simp [h']
  rw [e1]; simp only [List.getElem_map]; exact .int _ _
 have hlf : (s.map fun c => AV.int .u8 c.toNat).all AV.leaf = true := by simp [AV.leaf]
 have hBR : BRel E.drew (E.drew.w.heap.size, 0) (.cells 0 (s.map fun c => .int .u8 c.toNat)) (.cells arr e (arr.size, arr.size + 1)) :=
  .cells _ _ _ _ _ (by simp [hsz]; exact hge) (fun _ i hi h => by simp only at h; omega) (fun j h => ⟨all_get hlf j h, by simpa using hr j h⟩) (.zero)
 refine ⟨.slice (some ⟨E.w.heap.size, 0, none⟩) s.length cap, E.drew.alloc (.cells 0 (s.map fun c => .int .u8 c.toNat)) (.cells arr e (arr.size, arr.size + 1)), ?_, rfl,
  hE.drew.alloc _ _ hBR, (Step.drew prot E).trans (Step.alloc prot hE.drew _ _), ?_⟩
 ·have hch : ∀ w : World, (choose (.appendCap s.length 0 e)).run P w = .ok (grownCap w s.length 0 e) { w with drawn := w.drawn + 1 } := fun w => by
   simp [Question.forced, grownCap]
  have hm : (s.toArray.map fun b => Value.int .u8 b.toNat) = (s.map fun c => Value.int .u8 c.toNat).toArray := by simp
  have hshape : ((E.w.drew.alloc (.cells arr e)).shape? E.w.heap.size) = some (e, arr.size) := by
   have : (E.w.drew.alloc (.cells arr e)).heap[E.w.heap.size]? = some (.cells arr e) := heap_alloc_new E.w.drew _
   simp only [World.shape?, this]
  have := freeze_new E.w.drew arr e
  have hmk : (markStringish ⟨E.w.heap.size, 0, none⟩).run P (E.w.drew.alloc (.cells arr e)) = .ok () (E.w.drew.alloc (.cells arr e (arr.size, arr.size + 1))) := by
   simp only [markStringish, Sem.run_bind, run_shape, Result.andThen_ok, hshape, run_freeze]
   exact congrArg (Result.ok _) this
  simp only [convert, Sem.run_bind, run_underlying hs, run_underlying hd, run_underlying he, Result.andThen_ok, Conv.stringToBytes, bytes_size, hch, newRow, run_newObj, Sem.run_pure]
  rw [hm]
  show (((markStringish ⟨E.w.heap.size, 0, none⟩).run P (E.w.drew.alloc (.cells arr e))).andThen fun _ w' => Result.ok (Value.slice (some ⟨E.w.heap.size, 0, none⟩) s.length cap) w') = _
  rw [hmk]
  rfl
 ·refine .bs _ _ _ (by simp [Env.alloc, Env.drew]) (fun v c _ => by simp) hge (fun h => by cases h) fun c _ => ⟨by simp [at0, Env.alloc, Env.drew, upd], arr, e, (arr.size, arr.size + 1), ?_, ?_⟩
  ·simp only [Env.alloc, Env.drew, upd, if_true]; exact heap_alloc_new _ _
  ·simp [Env.alloc, Env.drew, upd, hsz]
theorem bytesOf_spec {cs : List AV} {l : List UInt8} {a : Array Value} (h : bytesOf cs = some l) (hr : LRel E cs a) :
  ∃ ns : List Int, a = (ns.map (Value.int .u8)).toArray ∧ l = ns.map fun n => UInt8.ofNat n.toNat := by
 obtain ⟨a⟩ := a
 rw [LRel.list] at hr
 induction cs generalizing l a with
 | nil =>
  simp only [bytesOf, Option.some.injEq] at h; subst h
  have h0 : a = [] := List.length_eq_zero_iff.1 (by simpa using hr.1.symm)
  subst h0
  exact ⟨[], rfl, rfl⟩
 | cons c r ih =>
  cases c with
  | int k n =>
   cases k <;> simp only [bytesOf, reduceCtorEq] at h
   simp only [Option.map_eq_some_iff] at h
   obtain ⟨l', hl', rfl⟩ := h
   cases a with
   | nil => simp at hr
   | cons u b =>
    obtain ⟨ns, h1, h2⟩ := ih hl' b ⟨by simpa using hr.1, fun j => by simpa using hr.2 (j + 1)⟩
    have h0 := hr.2 0
    simp only [List.getD_cons_zero] at h0
    cases h0
    refine ⟨n :: ns, ?_, by simp [h2]⟩
    simp only [List.map_cons, Array.mk.injEq] at h1 ⊢
    simp [h1]
  | _ => simp [bytesOf] at h
theorem fold_push (ns : List Int) : ∀ (s : ByteArray), (ns.foldl (fun r n => r.push (UInt8.ofNat n.toNat)) s).data.toList = s.data.toList ++ ns.map fun n => UInt8.ofNat n.toNat := by
 induction ns with
 | nil => intro s; simp
 | cons n r ih => intro s; simp [ih]
theorem runesOf_spec {cs : List AV} {l : List Int} {a : Array Value} (h : runesOf cs = some l) (hr : LRel E cs a) : a = (l.map (Value.int .i32)).toArray := by
 obtain ⟨a⟩ := a
 rw [LRel.list] at hr
 induction cs generalizing l a with
 | nil =>
  simp only [runesOf, Option.some.injEq] at h; subst h
  have h0 : a = [] := List.length_eq_zero_iff.1 (by simpa using hr.1.symm)
  subst h0
  rfl
 | cons c r ih =>
  cases c with
  | int k n =>
   cases k <;> simp only [runesOf, reduceCtorEq] at h
   simp only [Option.map_eq_some_iff] at h
   obtain ⟨l', hl', rfl⟩ := h
   cases a with
   | nil => simp at hr
   | cons u b =>
    have h1 := ih hl' b ⟨by simpa using hr.1, fun j => by simpa using hr.2 (j + 1)⟩
    have h0 := hr.2 0
    simp only [List.getD_cons_zero] at h0
    cases h0
    simp only [List.map_cons, Array.mk.injEq] at h1 ⊢
    simp [h1]
  | _ => simp [runesOf] at h
theorem fold_runes (ns : List Int) : ∀ (s : ByteArray), (ns.foldl (fun r n => r ++ Utf8.encode n) s).data.toList = s.data.toList ++ ns.flatMap encR := by
 induction ns with
 | nil => intro s; simp
 | cons n r ih => intro s; simp [ih, encR, ByteArray.data_append]
theorem aConvert_ok (hE : HRel E) {prot : Nat} {src dst : TypeId} {x r : AV} {h : Option Heap} {x' : Value} (hx : VRel E x x') (hh : aConvert P E.H src dst x = some (r, h)) :
  Outcome1 P E prot (convert src dst x') r h := by
 unfold aConvert at hh
 split at hh
 ·rename_i e s hs hd
  cases hx
  split at hh
  ·rename_i he
   simp only [Option.some.injEq, Prod.mk.injEq] at hh
   obtain ⟨rfl, rfl⟩ := hh
   exact toBytes_ok hE hs hd he
  ·cases hh
 ·rename_i e _ hs hd
  split at hh
  ·rename_i he
   split at hh
   ·cases hh
   rename_i hnstr
   simp only [Option.bind_eq_some_iff, Option.map_eq_some_iff, Prod.mk.injEq] at hh
   obtain ⟨⟨m, cs⟩, hel, l, hl, rfl, rfl⟩ := hh
   dsimp only at hl
   obtain ⟨hlen, hxl, hfc⟩ := elemCells_ok (P := P) hE hx hel
   obtain ⟨a, h1, h2⟩ := hfc m (Nat.le_refl _)
   rw [List.take_of_length_le (by omega)] at h2
   obtain ⟨ns, rfl, rfl⟩ := bytesOf_spec hl h2
   have hns : ns.length = m := by have := h2.1; simp at this; omega
   cases x' with
   | slice ad n c =>
    have hconv : (convert src dst (.slice ad n c)).run P E.w = (Conv.bytesToString (.slice ad n c)).run P E.w := by
     simp [convert, run_underlying hs, run_underlying hd, run_underlying he]
    have hnm : n = m := by
     simp only [Builtin.lenOf, Sem.run_pure, Result.ok.injEq] at hlen; exact hlen.1
    subst hnm
    cases ad with
    | none =>
     have h0 : ns = [] := by
      simp only [Builtin.firstCells, Sem.run_pure, Result.ok.injEq] at h1
      have := congrArg Array.size h1.1; simp at this; exact List.length_eq_zero_iff.1 this.symm
     subst h0
     exact .quiet hE (v' := .string ⟨([] : List UInt8).toArray⟩) (by rw [hconv]; rfl) (.str [])
    | some ad =>
     have h3 : (loadCells ad n).run P E.w = .ok (ns.map (Value.int .u8)).toArray E.w := by
      have : (Builtin.firstCells 1 n (.slice (some ad) n c)).run P E.w = (loadCells ad (n * 1)).run P E.w := rfl
      rw [this, Nat.mul_one] at h1; exact h1
     refine .quiet hE (v' := .string ⟨(ns.map fun n => UInt8.ofNat n.toNat).toArray⟩) ?_ (.str _)
     rw [hconv, run_bytesToString E.w ad n c ns h3]
     congr 2
     apply ByteArray.ext
     apply Array.ext'
     rw [fold_push]; simp
   | string s' =>
    cases hx with
    | str s0 => exact absurd rfl (hnstr s0)
   | _ => simp [Builtin.lenOf] at hlen
  ·rename_i he
   split at hh
   ·cases hh
   rename_i hnstr
   simp only [Option.bind_eq_some_iff, Option.map_eq_some_iff, Prod.mk.injEq] at hh
   obtain ⟨⟨m, cs⟩, hel, ns, hl, rfl, rfl⟩ := hh
   dsimp only at hl
   obtain ⟨hlen, hxl, hfc⟩ := elemCells_ok (P := P) hE hx hel
   obtain ⟨a, h1, h2⟩ := hfc m (Nat.le_refl _)
   rw [List.take_of_length_le (by omega)] at h2
   have ha := runesOf_spec hl h2
   subst ha
   have hns : ns.length = m := by have := h2.1; simp at this; omega
   cases x' with
   | slice ad n c =>
    have hconv : (convert src dst (.slice ad n c)).run P E.w = (Conv.runesToString (.slice ad n c)).run P E.w := by
     simp [convert, run_underlying hs, run_underlying hd, run_underlying he]
    have hnm : n = m := by
     simp only [Builtin.lenOf, Sem.run_pure, Result.ok.injEq] at hlen; exact hlen.1
    subst hnm
    cases ad with
    | none =>
     have h0 : ns = [] := by
      simp only [Builtin.firstCells, Sem.run_pure, Result.ok.injEq] at h1
      have := congrArg Array.size h1.1; simp at this; exact List.length_eq_zero_iff.1 this.symm
     subst h0
     exact .quiet hE (v' := .string ⟨([] : List UInt8).toArray⟩) (by rw [hconv]; rfl) (.str [])
    | some ad =>
     have h3 : (loadCells ad n).run P E.w = .ok (ns.map (Value.int .i32)).toArray E.w := by
      have : (Builtin.firstCells 1 n (.slice (some ad) n c)).run P E.w = (loadCells ad (n * 1)).run P E.w := rfl
      rw [this, Nat.mul_one] at h1; exact h1
     refine .quiet hE (v' := .string ⟨(ns.flatMap encR).toArray⟩) ?_ (.str _)
     rw [hconv, run_runesToString E.w ad n c ns h3]
     congr 2
     apply ByteArray.ext
     apply Array.ext'
     unfold runesBytes
     rw [fold_runes]; simp
   | string s' =>
    cases hx with
    | str s0 => exact absurd rfl (hnstr s0)
   | _ => simp [Builtin.lenOf] at hlen
  ·cases hh
 ·-- a builder's address as one of no type
  rename_i t b ver off hs hd
  split at hh
  case isFalse => cases hh
  rename_i hcond
  obtain ⟨rfl, rfl⟩ := hcond
  simp only [Option.bind_eq_some_iff] at hh
  obtain ⟨n, hn, cs, hcs, hh⟩ := hh
  split at hh
  case isFalse => cases hh
  rename_i hcond
  obtain ⟨hn0, hc0⟩ := hcond
  simp only [Option.some.injEq, Prod.mk.injEq] at hh
  obtain ⟨rfl, rfl⟩ := hh
  have hx0 := hx
  cases hx with
  | ptr _ _ _ ad hb hv h =>
   obtain ⟨cc, e, z, hw, htag⟩ := hE.tag _ _ _ (alive_of_hget hcs)
   have o1 : ∀ n : Nat, (4 * n + 1) % 4 = 1 := fun n => by omega
   have o2 : ∀ n : Nat, (4 * n + 1) / 4 = n := fun n => by omega
   obtain ⟨h1, h2, h3⟩ := htag.1 (o1 t)
   have he : e = t := h2.trans (o2 t)
   subst he
   have had := h cs hcs
   subst had
   have hsh : E.w.shape? (E.ρ b).1 = some (e, cc.size) := by simp [World.shape?, hw]
   refine .quiet hE (v' := .pointer (some (at0 (E.ρ b) 0))) ?_ hx0
   have hsz : (sizeOf e).run P E.w = .ok n E.w := sizeT_run hn E.w
   simp [convert, run_underlying hs, run_underlying hd, Conv.unsafePointer, Conv.seenAt, viewAt, cellsIn, at0, hsh, hsz, hn0]
   omega
 ·-- and back
  rename_i t b ver off hs hd
  split at hh
  case isFalse => cases hh
  rename_i hcond
  obtain ⟨rfl, rfl⟩ := hcond
  simp only [Option.bind_eq_some_iff] at hh
  obtain ⟨n, hn, cs, hcs, hh⟩ := hh
  split at hh
  case isFalse => cases hh
  rename_i hcond
  obtain ⟨hn0, hlies⟩ := hcond
  simp only [Option.some.injEq, Prod.mk.injEq] at hh
  obtain ⟨rfl, rfl⟩ := hh
  have hx0 := hx
  cases hx with
  | ptr _ _ _ ad hb hv h =>
   obtain ⟨cc, e, z, hw, htag⟩ := hE.tag _ _ _ (alive_of_hget hcs)
   have o1 : ∀ n : Nat, (4 * n + 1) % 4 = 1 := fun n => by omega
   have o2 : ∀ n : Nat, (4 * n + 1) / 4 = n := fun n => by omega
   obtain ⟨h1, h2, h3⟩ := htag.1 (o1 t)
   have he : e = t := h2.trans (o2 t)
   subst he
   have had := h cs hcs
   subst had
   have hsh : E.w.shape? (E.ρ b).1 = some (e, cc.size) := by simp [World.shape?, hw]
   refine .quiet hE (v' := .pointer (some (at0 (E.ρ b) 0))) ?_ hx0
   have hsz : (sizeOf e).run P E.w = .ok n E.w := sizeT_run hn E.w
   rw [← h3] at hlies
   simp [convert, run_underlying hs, run_underlying hd, Conv.unsafePointer, Conv.seenAt, viewAt, variablesAt, at0, hsh, hsz, hn0, h1, hlies]
 ·simp only [Option.bind_eq_some_iff, Option.map_eq_some_iff, Prod.mk.injEq] at hh
  obtain ⟨a, ha, v, ⟨u, hu, hv⟩, rfl, rfl⟩ := hh
  have e1 := hx.toV1 ha
  subst e1
  exact .quiet hE (pureOf_run hu E.w) (ofV1_rel hv)
end
end Go.Abs

