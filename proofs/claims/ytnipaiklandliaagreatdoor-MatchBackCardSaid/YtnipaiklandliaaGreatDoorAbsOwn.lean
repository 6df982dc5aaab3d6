import Derived.Test.YtnipaiklandliaaGreatDoorAbsCall
import Derived.Room.Shelf.Join48
namespace Go.Abs
open Go
theorem Env.growW {E : Env} (hE : HRel E) {w' : World} (hb : RowKit.Below E.w.heap.size E.w w') (prot : Nat) : HRel { E with w := w' } ∧ Step prot E { E with w := w' } := by
 have same : ∀ k, k < E.w.heap.size → w'.heap[k]? = E.w.heap[k]? := hb.block
 have lt : ∀ (cb : Nat) (o : Obj), E.w.heap[cb]? = some o → cb < E.w.heap.size := fun cb o h => (Array.getElem?_eq_some_iff.1 h).1
 have hk : KeepAll E { E with w := w' } := ⟨⟨fun cb hi => ⟨⟨Nat.lt_of_lt_of_le hi.1 hb.size, hi.2⟩, same cb hi.1⟩⟩, Nat.le_refl _, fun _ v' cs' _ h => ⟨v', cs', h, Nat.le_refl _, fun _ => rfl⟩, fun _ es' _ h => ⟨⟨es', h⟩, rfl⟩,
  fun cb cc e z h => ⟨cc, z, (same cb (lt cb _ h)).trans h, rfl⟩⟩
 refine ⟨.mk' (fun b k hb' ha => ?_) hE.inj hE.ge (Nat.le_trans hE.lo hb.size), hk.len, hk.cell, hk.map, hk.imm, hk.shape, fun b _ _ => ⟨rfl, rfl, fun ha => same _ (hE.lt ha)⟩, hb.size, hb.os, hb.tape, hb.output, rfl, rfl⟩
 obtain ⟨o, ho, hr⟩ := hE.blk hb' ha
 exact ⟨o, (same _ (lt _ _ ho)).trans ho, hr.mono hk⟩
def strsOf : List AV → Option (List (List UInt8))
 | [] => some []
 | .str s :: r => (strsOf r).map (s :: ·)
 | _ => none
theorem strsOf_eq : ∀ {es : List AV} {xs : List (List UInt8)}, strsOf es = some xs → es = xs.map AV.str
 | [], xs, h => by cases h; rfl
 | e :: r, xs, h => by
  cases e with
  | str s =>
   simp only [strsOf, Option.map_eq_some_iff] at h
   obtain ⟨ys, h1, rfl⟩ := h
   rw [strsOf_eq h1]; rfl
  | _ => cases h
theorem strsOf_map (xs : List (List UInt8)) : strsOf (xs.map AV.str) = some xs := by
 induction xs with
 | nil => rfl
 | cons x r ih => simp only [List.map_cons, strsOf, ih, Option.map_some]
def joinOwn (J : FuncId) : CallT := fun prot f args H =>
 if f = J then match args with
  | [.nilS, .str _] => some (.str [], none)
  | [x, .str sep] => if prot ≤ H.length then (snap H [x]).bind fun l => match l.1 with
    | [.vs es _] => (strsOf es).bind fun xs => if 0 < es.length ∧ es.length ≤ 140737488355328 ∧ (Lib.join xs sep).length ≤ 281474976710656 then some (.str (Lib.join xs sep), none) else none
    | _ => none
   else none
  | _ => none
 else none
theorem joinOwn_ok {P : Program} {ρ : Shelf.Ren} (L : Proofs.Lays.n156 P ρ) (X : Proofs.Builder.Extra P ρ) {fn : Func} {c : Code} (hfn : P.funcs[ρ.f 156]? = some fn) (hb : fn.body = some c) : CallOk P (joinOwn (ρ.f 156)) := by
 intro prot f args H r h hh
 unfold joinOwn at hh
 split at hh
 case isFalse => cases hh
 rename_i hf
 subst hf
 refine .inl ⟨fn, c, hfn, hb, fun E args' hEH hE hip ha => ?_⟩
 subst hEH
 have two : ∀ x sep, LRel E [x, .str sep] args' → ∃ a0, args' = #[a0, .string ⟨sep.toArray⟩] ∧ VRel E x a0 := fun x sep ha => by
  have hs : args'.size = 2 := by have := ha.1; simpa using this.symm
  obtain ⟨l⟩ := args'
  match l, hs with
  | [a0, a1], _ =>
   have h0 := ha.get 0 (by simp)
   have h1 := ha.get 1 (by simp)
   have h1' : VRel E (.str sep) a1 := h1
   cases h1'
   exact ⟨a0, rfl, h0⟩
 split at hh
 ·rename_i sep
  cases hh
  obtain ⟨a0, rfl, h0⟩ := two _ _ ha
  cases h0
  refine (Proofs.Any.strings_Join_none L X none 0 _ E.w).mono ?_
  rintro e w' ⟨rfl, rfl⟩
  exact ⟨_, E, rfl, rfl, rfl, hE, Step.refl _ _, .str []⟩
 ·rename_i x sep _
  split at hh
  case isFalse => cases hh
  rename_i hpl
  simp only [Option.bind_eq_some_iff] at hh
  obtain ⟨l, hsn, hh⟩ := hh
  split at hh
  case h_2 => cases hh
  rename_i es fl hl
  simp only [Option.bind_eq_some_iff] at hh
  obtain ⟨xs, hxs, hh⟩ := hh
  split at hh
  case isFalse => cases hh
  rename_i hc
  obtain ⟨c1, c2, c3⟩ := hc
  cases hh
  obtain ⟨a0, rfl, h0⟩ := two _ _ ha
  obtain ⟨l1, l2⟩ := l
  dsimp only at hl
  subst hl
  obtain ⟨hl1, -⟩ := snap_ok hE (Nat.le_trans hip hpl) hsn (a := [a0]) (.cons h0 (.nil E))
  have hv : VRel (E.shut E.H.length) (.vs es fl) a0 := hl1.get 0 (by simp)
  have hes := strsOf_eq hxs
  subst hes
  cases hv with
  | vs _ _ a cp sz f hp hcp hf hi hz hcell hr =>
   simp only [List.length_map] at c1 c2 hcp
   obtain ⟨hImm, hspot⟩ := hi (by simpa using c1)
   have hsz : sz = 1 := by
    have := hz 0 (by simpa using c1)
    simpa [AV.cells] using this.symm
   subst hsz
   obtain ⟨ab, ao, sp⟩ := a
   dsimp only at hImm hspot hcell
   subst hspot
   have hcells : ∀ (j : Nat) (x : ByteArray), (xs.map fun s => (⟨s.toArray⟩ : ByteArray))[j]? = some x → E.w.cell? ⟨ab, ao + j, none⟩ = some (.string x) := fun j x hj => by
    rw [List.getElem?_map] at hj
    simp only [Option.map_eq_some_iff] at hj
    obtain ⟨s, hs, rfl⟩ := hj
    obtain ⟨hlt, hs⟩ := List.getElem?_eq_some_iff.1 hs
    have e0 : (xs.map AV.str)[j]'(by simpa using hlt) = .str s := by simp [hs]
    have h1 := hcell j (by simpa using hlt) 0 (by rw [e0]; simp [AV.cells])
    have h2 := hr j (by simpa using hlt) 0 (by rw [e0]; simp [AV.cells])
    simp only [e0, AV.cells, List.getElem_cons_zero] at h2
    generalize hfv : f j 0 = u at h1 h2
    cases h2
    rw [Nat.mul_one, Nat.add_zero] at h1
    exact h1
   have hdl : (xs.map fun s => (⟨s.toArray⟩ : ByteArray)).map (·.data.toList) = xs := by
    rw [List.map_map]
    have : ((fun x : ByteArray => x.data.toList) ∘ fun s : List UInt8 => (⟨s.toArray⟩ : ByteArray)) = id := by funext s; simp
    rw [this, List.map_id]
   have := Proofs.Any.strings_Join_48 L X ab ao cp (xs.map fun s => (⟨s.toArray⟩ : ByteArray)) ⟨sep.toArray⟩ E.w hcells hImm.1 (by simpa using c2) (by simpa using hcp) (by rw [hdl]; exact c3)
   rw [hdl] at this
   simp only [List.length_map] at this ⊢
   refine this.mono ?_
   rintro e w' ⟨rfl, hw⟩
   obtain ⟨g1, g2⟩ := Env.growW hE hw prot
   exact ⟨_, { E with w := w' }, rfl, rfl, rfl, g1, g2, .str _⟩
 ·cases hh
theorem joinOwn_live (J : FuncId) (prot : Nat) (H : Heap) (xs : List (List UInt8)) (s : BS) (b : Bool) (sep : List UInt8) (hs : snap H [.bs s] = some ([.vs (xs.map AV.str) false], b)) (h0 : xs ≠ []) (hp : prot ≤ H.length) (h1 : xs.length ≤ 140737488355328) (h2 : (Lib.join xs sep).length ≤ 281474976710656) :
  joinOwn J prot J [.bs s, .str sep] H = some (.str (Lib.join xs sep), none) := by
 have h3 : 0 < xs.length := List.length_pos_iff.2 h0
 simp only [joinOwn, if_true, hp, hs, Option.bind_some, strsOf_map, List.length_map, h3, h1, h2, and_self]
end Go.Abs

