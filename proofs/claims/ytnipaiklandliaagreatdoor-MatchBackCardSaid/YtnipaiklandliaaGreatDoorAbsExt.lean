import Derived.Test.YtnipaiklandliaaGreatDoorAbsCode
namespace Go.Abs
open Go
section
variable {P : Program} {E : Env}
theorem idxByte_run (P : Program) (w : World) (s : List UInt8) (c : Int) : (Extern.BytealgIndexByte.indexByte #[.string ⟨s.toArray⟩, .int .u8 c]).run P w = .ok (.int .i64 (idxByte s c.toNat.toUInt8)) w := by
 have h0 : Extern.BytealgIndexByte.indexByte #[.string ⟨s.toArray⟩, .int .u8 c] = (match (List.range (ByteArray.mk s.toArray).size).find? fun i => (ByteArray.mk s.toArray)[i]! == c.toNat.toUInt8 with
  | some i => pure (goInt i)
  | none => pure (goInt (-1))) := rfl
 have e : (fun i => (⟨s.toArray⟩ : ByteArray)[i]! == c.toNat.toUInt8) = fun i => s.getD i 0 == c.toNat.toUInt8 := by
  funext i
  congr 1
  by_cases hi : i < s.length
  ·rw [getElem!_pos _ _ (by exact hi)]
   show s.toArray[i] = _
   simp [List.getD, hi]
  ·rw [getElem!_neg _ _ (by exact hi)]
   simp [List.getD, hi]; rfl
 have e2 : (ByteArray.mk s.toArray).size = s.length := rfl
 rw [h0, e, e2]
 unfold idxByte
 cases (List.range s.length).find? fun i => s.getD i 0 == c.toNat.toUInt8 <;> rfl
theorem extern_run (hN : NoCount P) {f : FuncId} {fn : Func} (hfn : P.funcs[f]? = some fn) (hb : fn.body = none) {e : Array Value → Sem Value} (h1 : Extern.findNext fn = none) (h2 : Extern.find fn = some e) {args : Array Value} {v : Value} {w w' : World}
  (h : (e args).run P w = .ok v w') : (callFunc f args).run P w = .ok (.value v) w' := by
 simp only [callFunc, Sem.run_bind, run_program, Result.andThen_ok, hfn, hN _ _ hfn, Bool.false_eq_true, if_false, hb, Option.isNone_none, if_true, run_mark, h1, h2, h, Sem.run_pure]
theorem rtypeV_run {t : TypeId} {r : AV} (h : rtypeV P t = some r) (w : World) : ∃ v, (Extern.ReflectliteType.toType t).run P w = .ok v w ∧ VRel E r v := by
 simp only [rtypeV, Option.map_eq_some_iff] at h
 obtain ⟨⟨n, rt⟩, h1, rfl⟩ := h
 refine ⟨.iface rt (.agg #[typeHandle P t]), ?_, .iface _ _ _ (.agg _ _ rfl fun j hj => ?_)⟩
 ·simp [Extern.ReflectliteType.toType, cutType, Extern.Rtype.handle, h1]
 ·match j, hj with
  | 0, _ => exact .adr _
theorem valueV_run {t : TypeId} {p r : AV} {a : Addr} {fl : Nat} (h : valueV P t p fl = some r) (hp : VRel E p (.pointer (some a))) (w : World) :
  ∃ v, (Extern.ReflectliteValue.mk t a fl).run P w = .ok v w ∧ VRel E r v := by
 simp only [valueV, Option.map_eq_some_iff] at h
 obtain ⟨k, h1, rfl⟩ := h
 have h2 := pureOf_run h1 w
 refine ⟨.agg #[typeHandle P t, .pointer (some a), .int .u64 (Int.ofNat (k + 128 + fl))], ?_, .agg _ _ rfl fun j hj => ?_⟩
 ·simp [Extern.ReflectliteValue.mk, Extern.Rtype.handle, h2, Extern.ReflectliteValue.flagIndir]
 ·match j, hj with
  | 0, _ => exact .adr _
  | 1, _ => exact hp
  | 2, _ => exact .int _ _
theorem ofHnd_run {a : Addr} {t : TypeId} (h : ofHnd P a = some t) (w : World) : (Extern.Rtype.ofHandle (.pointer (some a))).run P w = .ok t w := by
 unfold ofHnd at h
 split at h
 case isFalse => cases h
 rename_i hb
 cases h
 have hb' : a.block = P.globals.size := by simpa using hb
 simp [Extern.Rtype.ofHandle, handleType, hb']
theorem value_rel {a : Addr} {b ver o : Nat} {f : Int} {v' : Value} (h : VRel E (.agg [.adr a, .ptr b ver o, .int .u64 f]) v') :
  ∃ p, v' = .agg #[.pointer (some a), .pointer (some p), .int .u64 f] ∧ VRel E (.ptr b ver o) (.pointer (some p)) := by
 cases h with
 | agg _ cs hl hr =>
  obtain ⟨l⟩ := cs
  match l, hl with
  | [x, y, z], _ =>
   have h0 := hr 0 (by simp)
   have h1 := hr 1 (by simp)
   have h2 := hr 2 (by simp)
   simp at h0 h1 h2
   cases h0
   cases h2
   have h1' := h1
   cases h1 with
   | ptr _ _ _ p _ _ _ => exact ⟨p, rfl, h1'⟩
theorem partsAny_run {a p : Addr} {f : Int} {t : TypeId} (hf : f ≠ 0) (h : ofHnd P a = some t) (w : World) :
  (Extern.ReflectliteValue.partsAny (.agg #[.pointer (some a), .pointer (some p), .int .u64 f])).run P w = .ok (some (t, p, f.toNat)) w := by
 have h1 := ofHnd_run h w
 match f, hf with
 | .ofNat 0, hf => exact absurd rfl hf
 | .ofNat (n + 1), _ =>
  have e : Extern.ReflectliteValue.partsAny (.agg #[.pointer (some a), .pointer (some p), .int .u64 (Int.ofNat (n + 1))]) = (do pure (some (← Extern.Rtype.ofHandle (.pointer (some a)), p, n + 1))) := rfl
  rw [e]; simp [h1]
 | .negSucc n, _ =>
  have e : Extern.ReflectliteValue.partsAny (.agg #[.pointer (some a), .pointer (some p), .int .u64 (Int.negSucc n)]) = (do pure (some (← Extern.Rtype.ofHandle (.pointer (some a)), p, 0))) := rfl
  rw [e]; simp [h1]
theorem parts_run {a p : Addr} {f : Int} {t : TypeId} (hf : f ≠ 0) (h : ofHnd P a = some t) (hu : unpacked P t = true) (w : World) :
  (Extern.ReflectliteValue.parts (.agg #[.pointer (some a), .pointer (some p), .int .u64 f])).run P w = .ok (some (t, p, f.toNat)) w := by
 unfold unpacked at hu
 obtain ⟨x, hx⟩ := Option.isSome_iff_exists.1 hu
 have h2 := pureOf_run hx w
 simp [Extern.ReflectliteValue.parts, partsAny_run (p := p) hf h w, h2]
theorem load_var (hE : HRel E) {b ver o : Nat} {p : Addr} {t : TypeId} {r : AV} (hp : VRel E (.ptr b ver o) (.pointer (some p))) (h : aLoad P t E.H (.ptr b ver o) = some r) :
  ∃ v', (loadVar t p).run P E.w = .ok v' E.w ∧ VRel E r v' := by
 obtain ⟨v', h1, h2⟩ := aLoad_ok hE hp h
 exact ⟨v', by simpa [Instr.loadAt, Instr.sureAddr] using h1, h2⟩
theorem store_var (hE : HRel E) {prot b ver o : Nat} {p : Addr} {t : TypeId} {v : AV} {v' : Value} {H' : Heap} (hip : E.ip ≤ prot) (hp : VRel E (.ptr b ver o) (.pointer (some p))) (hv : VRel E v v') (h : aStore P t prot E.H (.ptr b ver o) v = some H') :
  ∃ E', E'.H = H' ∧ HRel E' ∧ Step prot E E' ∧ (storeVar t p v').run P E.w = .ok () E'.w := by
 obtain ⟨E', h1, h2, h3, h4⟩ := aStore_ok hE hip hp hv h
 exact ⟨E', h1, h2, h3, by simpa [Instr.storeAt, Instr.sureAddr] using h4⟩
theorem toVi_rel {v : AV} {v' x : Value} (h : VRel E v v') (hx : toVi v = some x) : v' = x := by
 unfold toVi at hx
 split at hx
 ·simp only [Option.map_eq_some_iff] at hx
  obtain ⟨y, hy, rfl⟩ := hx
  cases h with
  | iface _ _ u hu => rw [hu.toV hy]
 ·exact h.toV hx
theorem toVis_rel {l : List AV} {vs : List Value} {a : Array Value} (h : toVis l = some vs) (hl : LRel E l a) : a = vs.toArray := by
 induction l generalizing vs a with
 | nil =>
  simp only [toVis, Option.some.injEq] at h
  subst h
  exact Array.size_eq_zero_iff.1 (by simpa using hl.1.symm)
 | cons v r ih =>
  simp only [toVis, Option.bind_eq_some_iff, Option.map_eq_some_iff] at h
  obtain ⟨y, hy, z, hz, rfl⟩ := h
  obtain ⟨a⟩ := a
  cases a with
  | nil => simp [LRel] at hl
  | cons u a =>
   have h0 : VRel E v u := by simpa using hl.2 0
   have h1 : LRel E r a.toArray := LRel.list.2 ⟨by simpa using hl.1, fun j => by simpa using hl.2 (j + 1)⟩
   have h2 := ih hz h1
   rw [toVi_rel h0 hy]
   simp only [Array.mk.injEq] at h2
   rw [h2]
theorem ofVp_rel {v : Value} {x : AV} (h : ofVp v = some x) : VRel E x v := by
 unfold ofVp at h
 split at h
 ·cases h; exact .adr _
 ·exact ofV0_rel h
theorem ofVps_rel {l : List Value} {x : List AV} (h : ofVps l = some x) : LRel E x l.toArray := by
 induction l generalizing x with
 | nil => simp only [ofVps, Option.some.injEq] at h; subst h; exact .nil E
 | cons v r ih =>
  simp only [ofVps, Option.bind_eq_some_iff, Option.map_eq_some_iff] at h
  obtain ⟨y, hy, z, hz, rfl⟩ := h
  exact .cons (ofVp_rel hy) (ih hz)
theorem ofVi_rel {v : Value} {x : AV} (h : ofVi v = some x) : VRel E x v := by
 unfold ofVi at h
 split at h
 ·simp only [Option.map_eq_some_iff] at h
  obtain ⟨l, hl, rfl⟩ := h
  have := ofVps_rel (E := E) hl
  simp only [Array.toArray_toList] at this
  exact .iface _ _ _ (.agg _ _ this.1 this.get)
 ·simp only [Option.map_eq_some_iff] at h
  obtain ⟨y, hy, rfl⟩ := h
  exact .iface _ _ _ (ofVp_rel hy)
 ·exact ofVp_rel h
theorem method_eq (z : Sem Value) (f : TypeId → Addr → Nat → Nat → Sem Value) (v : Value) : Extern.ReflectliteValue.method z f #[v] = (do match ← Extern.ReflectliteValue.parts v with | none => z | some (t, a, fl) => f t a fl (fl % 32)) := rfl
theorem methodAny_eq (z : Sem Value) (f : TypeId → Addr → Nat → Nat → Sem Value) (v : Value) : Extern.ReflectliteValue.methodAny z f #[v] = (do match ← Extern.ReflectliteValue.partsAny v with | none => z | some (t, a, fl) => f t a fl (fl % 32)) := rfl
theorem set_run {v x : Value} {t s : TypeId} {a b : Addr} {fl gl : Nat} {w w' : World} {u : Value} (h1 : (Extern.ReflectliteValue.parts v).run P w = .ok (some (t, a, fl)) w) (h2 : (Extern.ReflectliteValue.parts x).run P w = .ok (some (s, b, gl)) w)
  (h3 : (fl / 256 % 2 == 0) = false) (h4 : (loadVar s b).run P w = .ok u w) (h5 : (Extern.Rtype.directlyAssignable t s).run P w = .ok true w) (h6 : (storeVar t a u).run P w = .ok () w') :
  (Extern.ReflectliteValue.set #[v, x]).run P w = .ok (.tuple #[]) w' := by
 obtain ⟨K, hK, hk⟩ : ∃ K : Option (TypeId × Addr × Nat) → Option (TypeId × Addr × Nat) → Sem Value, Extern.ReflectliteValue.set #[v, x] = (Extern.ReflectliteValue.parts v >>= fun p1 => Extern.ReflectliteValue.parts x >>= fun p2 => K p1 p2) ∧
   (K (some (t, a, fl)) (some (s, b, gl))).run P w = .ok (.tuple #[]) w' := by
  refine ⟨_, rfl, ?_⟩
  dsimp only
  simp [Extern.ReflectliteValue.flagAddr, h3, h4, h5, h6]
 rw [hK]
 simp only [Sem.run_bind, h1, h2, Result.andThen_ok, hk]
def ExtRuns (P : Program) (E : Env) (prot : Nat) (f : FuncId) (args : Array Value) (r : AV) (h : Option Heap) : Prop :=
 ∃ v' E', (callFunc f args).run P E.w = .ok (.value v') E'.w ∧ E'.H = h.getD E.H ∧ HRel E' ∧ Step prot E E' ∧ VRel E' r v'
theorem ExtRuns.quiet (hN : NoCount P) {f : FuncId} {fn : Func} (hfn : P.funcs[f]? = some fn) (hb : fn.body = none) (hE : HRel E) {prot : Nat} {e : Array Value → Sem Value} (h1 : Extern.findNext fn = none) (h2 : Extern.find fn = some e) {args : Array Value} {r : AV}
  (h : ∃ v, (e args).run P E.w = .ok v E.w ∧ VRel E r v) : ExtRuns P E prot f args r none := by
 obtain ⟨v, h3, h4⟩ := h
 exact ⟨v, E, extern_run hN hfn hb h1 h2 h3, rfl, hE, Step.refl _ _, h4⟩
theorem aExt0_ok (hN : NoCount P) {f : FuncId} {fn : Func} (hfn : P.funcs[f]? = some fn) (hb : fn.body = none) (hE : HRel E) {prot : Nat} {args : List AV} {args' : Array Value} (ha : LRel E args args') {v : AV}
  (h : aExt0 fn args = some v) : ExtRuns P E prot f args' v none := by
 unfold aExt0 at h
 split at h
 case isFalse hno =>
  split at h
  case isFalse => cases h
  rename_i hn
  split at h
  case h_2 => cases h
  rename_i x
  simp only [Option.some.injEq] at h
  subst h
  obtain ⟨x', rfl, hx⟩ := ha.single
  have h1 : Extern.findNext fn = none := by
   simp only [Extern.findNext, hn.1, hn.2]
   kernel_rfl
  have h2 : Extern.find fn = some Extern.AbiNoEscape.same := by
   simp only [Extern.find, hn.1, hn.2]
   kernel_rfl
  exact .quiet hN hfn hb hE h1 h2 ⟨x', rfl, hx⟩
 rename_i hn
 split at h
 case h_2 => cases h
 rename_i s c
 simp only [Option.some.injEq] at h
 subst h
 obtain ⟨x', y', rfl, hx, hy⟩ := ha.two
 cases hx
 cases hy
 have h1 : Extern.findNext fn = none := by
  simp only [Extern.findNext, hn.1, hn.2]
  kernel_rfl
 have h2 : Extern.find fn = some Extern.BytealgIndexByte.indexByte := by
  simp only [Extern.find, hn.1, hn.2]
  kernel_rfl
 exact .quiet hN hfn hb hE h1 h2 ⟨_, idxByte_run P E.w s c, .int _ _⟩
theorem typeOf_ok {x r : AV} {x' : Value} (hx : VRel E x x') (h : x = .nilI ∧ r = .nilI ∨ ∃ t v, x = .iface t v ∧ rtypeV P t = some r) :
  ∃ v, (Extern.ReflectliteType.typeOf #[x']).run P E.w = .ok v E.w ∧ VRel E r v := by
 rcases h with ⟨rfl, rfl⟩ | ⟨t, v, rfl, h⟩
 ·cases hx; exact ⟨_, rfl, .nilI⟩
 ·cases hx with
  | iface _ _ u hu =>
   obtain ⟨y, h1, h2⟩ := rtypeV_run (E := E) h E.w
   exact ⟨y, h1, h2⟩
theorem valueOf_ok (hE : HRel E) (prot : Nat) {t : TypeId} {v r : AV} {x' : Value} (hx : VRel E (.iface t v) x') (hl : v.cells.all AV.leaf = true) (h : valueV P t (.ptr E.H.length 0 0) 0 = some r) :
  ∃ u E', (Extern.ReflectliteValue.unpack x').run P E.w = .ok u E'.w ∧ E'.H = E.H ++ [Blk.cells 0 v.cells] ∧ HRel E' ∧ Step prot E E' ∧ VRel E' r u := by
 cases hx with
 | iface _ _ v' hv =>
  have hc := hv.cells
  obtain ⟨h1, h2⟩ := newCells hE prot t hl (Nat.le_of_eq hc.1) hc.get
  obtain ⟨u, h3, h4⟩ := valueV_run h (ptr_new E v.cells (.cells v'.cells t)) (E.alloc (.cells 0 v.cells) (.cells v'.cells t)).w
  refine ⟨u, E.alloc (.cells 0 v.cells) (.cells v'.cells t), ?_, rfl, h1, h2, h4⟩
  simp only [Extern.ReflectliteValue.unpack, Sem.run_bind, newVar, newRow, run_newObj, Result.andThen_ok, Sem.run_pure]
  exact h3
theorem valType_ok {a : Addr} {b ver o : Nat} {f : Int} {t : TypeId} {r : AV} {x' : Value} (hx : VRel E (.agg [.adr a, .ptr b ver o, .int .u64 f]) x') (hf : f ≠ 0) (ht : ofHnd P a = some t) (h : rtypeV P t = some r) (z : Sem Value) :
  ∃ v, (Extern.ReflectliteValue.methodAny z (fun t _ _ _ => Extern.ReflectliteType.toType t) #[x']).run P E.w = .ok v E.w ∧ VRel E r v := by
 obtain ⟨p, rfl, hp⟩ := value_rel hx
 obtain ⟨y, h1, h2⟩ := rtypeV_run (E := E) h E.w
 exact ⟨y, by rw [methodAny_eq]; simp [partsAny_run (p := p) hf ht E.w, h1], h2⟩
theorem valNil_ok (hE : HRel E) {a : Addr} {b ver o : Nat} {f : Int} {t : TypeId} {r : AV} {x' : Value} (hx : VRel E (.agg [.adr a, .ptr b ver o, .int .u64 f]) x') (hf : f ≠ 0) (ht : ofHnd P a = some t) (hu : unpacked P t = true)
  (hk : [18, 19, 20, 21, 22, 23, 26].contains (f.toNat % 32) = true) (h : isNilB P t E.H (.ptr b ver o) = some r) (z : Sem Value) :
  ∃ v, (Extern.ReflectliteValue.method z Extern.ReflectliteValue.isNil #[x']).run P E.w = .ok v E.w ∧ VRel E r v := by
 obtain ⟨p, rfl, hp⟩ := value_rel hx
 simp only [isNilB, Option.bind_eq_some_iff] at h
 obtain ⟨q, hq, h⟩ := h
 obtain ⟨q', h1, h2⟩ := load_var hE hp hq
 have key : ∀ c : Bool, r = .bool c → (match q' with
   | .chan none | .nilFunc | .nilIface | .map none | .pointer none | .slice none _ _ => (pure (.bool true) : Sem Value)
   | _ => pure (.bool false)).run P E.w = .ok (.bool c) E.w → ∃ v, (Extern.ReflectliteValue.method z Extern.ReflectliteValue.isNil #[.agg #[.pointer (some a), .pointer (some p), .int .u64 f]]).run P E.w = .ok v E.w ∧ VRel E r v := by
  rintro c rfl hc
  refine ⟨.bool c, ?_, .bool c⟩
  rw [method_eq]
  simp only [Sem.run_bind, parts_run (p := p) hf ht hu E.w, Result.andThen_ok, Extern.ReflectliteValue.isNil, hk, Bool.not_true, Bool.false_eq_true, if_false, h1]
  exact hc
 split at h <;> simp only [Option.some.injEq, reduceCtorEq] at h <;> subst h <;> cases h2 <;> exact key _ rfl rfl
theorem valElem_ok (hE : HRel E) {a : Addr} {b ver o : Nat} {f : Int} {t : TypeId} {r : AV} {x' : Value} (hx : VRel E (.agg [.adr a, .ptr b ver o, .int .u64 f]) x') (hf : f ≠ 0) (ht : ofHnd P a = some t) (hu : unpacked P t = true)
  (hk : f.toNat % 32 = 22) (h : elemB P t E.H (.ptr b ver o) = some r) (z : Sem Value) :
  ∃ v, (Extern.ReflectliteValue.method z Extern.ReflectliteValue.elem #[x']).run P E.w = .ok v E.w ∧ VRel E r v := by
 obtain ⟨p, rfl, hp⟩ := value_rel hx
 simp only [elemB, Option.bind_eq_some_iff] at h
 obtain ⟨q, hq, e, he, h⟩ := h
 obtain ⟨q', h1, h2⟩ := load_var hE hp hq
 have h3 := pureOf_run he E.w
 split at h
 case h_2 => cases h
 rename_i e
 split at h
 case h_2 => cases h
 have h2' := h2
 cases h2 with
 | ptr _ _ _ ad _ _ _ =>
  obtain ⟨v, h4, h5⟩ := valueV_run h h2' E.w
  refine ⟨v, ?_, h5⟩
  rw [method_eq]
  simp only [Sem.run_bind, parts_run (p := p) hf ht hu E.w, Result.andThen_ok, Extern.ReflectliteValue.elem, hk]
  rw [show ((22 : Nat) != 20 && (22 : Nat) != 22) = false from rfl]
  simp only [Bool.false_eq_true, if_false, Sem.run_bind, h1, h3, Result.andThen_ok]
  exact h4
theorem valSet_ok (hE : HRel E) {prot : Nat} (hip : E.ip ≤ prot) {a c : Addr} {b ver o b' ver' o' : Nat} {f g : Int} {t s : TypeId} {v : AV} {H' : Heap} {x' y' : Value} (hx : VRel E (.agg [.adr a, .ptr b ver o, .int .u64 f]) x')
  (hy : VRel E (.agg [.adr c, .ptr b' ver' o', .int .u64 g]) y') (hf : f ≠ 0) (hg : g ≠ 0) (hfl : f.toNat / 256 % 2 ≠ 0) (ht : ofHnd P a = some t) (hs : ofHnd P c = some s) (hu : unpacked P t = true) (hu' : unpacked P s = true)
  (hd : (pureOf P (Extern.Rtype.directlyAssignable t s)).getD false = true) (hl : aLoad P s E.H (.ptr b' ver' o') = some v) (h : aStore P t prot E.H (.ptr b ver o) v = some H') :
  ∃ u E', (Extern.ReflectliteValue.set #[x', y']).run P E.w = .ok u E'.w ∧ E'.H = H' ∧ HRel E' ∧ Step prot E E' ∧ VRel E' (.tup []) u := by
 obtain ⟨p, rfl, hp⟩ := value_rel hx
 obtain ⟨q, rfl, hq⟩ := value_rel hy
 obtain ⟨v', h1, h2⟩ := load_var hE hq hl
 obtain ⟨E', e1, e2, e3, e4⟩ := store_var hE hip hp h2 h
 have hd' : (Extern.Rtype.directlyAssignable t s).run P E.w = .ok true E.w := by
  cases hq : pureOf P (Extern.Rtype.directlyAssignable t s) with
  | none => rw [hq] at hd; cases hd
  | some x => rw [hq] at hd; simp only [Option.getD_some] at hd; subst hd; exact pureOf_run hq E.w
 refine ⟨.tuple #[], E', ?_, e1, e2, e3, .undef E'⟩
 exact set_run (parts_run hf ht hu E.w) (parts_run hg hs hu' E.w) (by simpa using hfl) h1 hd' e4
theorem aExt_ok (hN : NoCount P) {f : FuncId} {fn : Func} (hfn : P.funcs[f]? = some fn) (hb : fn.body = none) (hE : HRel E) {prot : Nat} (hip : E.ip ≤ prot) {args : List AV} {args' : Array Value} (ha : LRel E args args') {v : AV} {hh : Option Heap}
  (h : aExt P prot E.H fn args = some (v, hh)) : ExtRuns P E prot f args' v hh := by
 unfold aExt at h
 split at h
 case isFalse => cases h
 rename_i ho
 split at h
 ·rename_i hn
  have h1 : Extern.findNext fn = none := by simp only [Extern.findNext, hn, ho]; kernel_rfl
  have h2 : Extern.find fn = some Extern.ReflectliteType.typeOf := by simp only [Extern.find, hn, ho]; kernel_rfl
  split at h
  ·obtain ⟨x', rfl, hx⟩ := ha.single
   simp only [Option.some.injEq, Prod.mk.injEq] at h
   obtain ⟨rfl, rfl⟩ := h
   exact .quiet hN hfn hb hE h1 h2 (typeOf_ok hx (.inl ⟨rfl, rfl⟩))
  ·obtain ⟨x', rfl, hx⟩ := ha.single
   simp only [Option.map_eq_some_iff, Prod.mk.injEq] at h
   obtain ⟨r, hr, rfl, rfl⟩ := h
   exact .quiet hN hfn hb hE h1 h2 (typeOf_ok hx (.inr ⟨_, _, rfl, hr⟩))
  ·cases h
 split at h
 ·rename_i hn
  have h1 : Extern.findNext fn = none := by simp only [Extern.findNext, hn, ho]; kernel_rfl
  have h2 : Extern.find fn = some (fun args => Extern.ReflectliteValue.unpack (args.getD 0 (.tuple #[]))) := by simp only [Extern.find, hn, ho]; kernel_rfl
  split at h
  case h_2 => cases h
  obtain ⟨x', rfl, hx⟩ := ha.single
  split at h
  case isFalse => cases h
  rename_i hl
  simp only [Option.map_eq_some_iff, Prod.mk.injEq] at h
  obtain ⟨r, hr, rfl, rfl⟩ := h
  obtain ⟨u, E', e1, e2, e3, e4, e5⟩ := valueOf_ok hE prot hx hl hr
  exact ⟨u, E', extern_run hN hfn hb h1 h2 e1, e2, e3, e4, e5⟩
 split at h
 ·rename_i hn
  have h1 : Extern.findNext fn = none := by simp only [Extern.findNext, hn, ho]; kernel_rfl
  have h2 : Extern.find fn = some (Extern.ReflectliteValue.methodAny (Extern.ReflectliteValue.valueError "reflectlite.Value.Type" 0) fun t _ _ _ => Extern.ReflectliteType.toType t) := by simp only [Extern.find, hn, ho]; kernel_rfl
  split at h
  case h_2 => cases h
  obtain ⟨x', rfl, hx⟩ := ha.single
  split at h
  ·cases h
  rename_i hf
  simp only [Option.bind_eq_some_iff, Option.map_eq_some_iff, Prod.mk.injEq] at h
  obtain ⟨t, ht, r, hr, rfl, rfl⟩ := h
  exact .quiet hN hfn hb hE h1 h2 (valType_ok hx hf ht hr _)
 split at h
 ·rename_i hn
  have h1 : Extern.findNext fn = none := by simp only [Extern.findNext, hn, ho]; kernel_rfl
  have h2 : Extern.find fn = some (Extern.ReflectliteValue.method (Extern.ReflectliteValue.valueError "reflectlite.Value.IsNil" 0) Extern.ReflectliteValue.isNil) := by simp only [Extern.find, hn, ho]; kernel_rfl
  split at h
  case h_2 => cases h
  obtain ⟨x', rfl, hx⟩ := ha.single
  split at h
  ·cases h
  rename_i hf
  simp only [Option.bind_eq_some_iff] at h
  obtain ⟨t, ht, h⟩ := h
  split at h
  case isFalse => cases h
  rename_i hu
  simp only [Bool.and_eq_true] at hu
  simp only [Option.map_eq_some_iff, Prod.mk.injEq] at h
  obtain ⟨r, hr, rfl, rfl⟩ := h
  exact .quiet hN hfn hb hE h1 h2 (valNil_ok hE hx hf ht hu.1 hu.2 hr _)
 split at h
 ·rename_i hn
  have h1 : Extern.findNext fn = none := by simp only [Extern.findNext, hn, ho]; kernel_rfl
  have h2 : Extern.find fn = some (Extern.ReflectliteValue.method (Extern.ReflectliteValue.valueError "reflectlite.Value.Elem" 0) Extern.ReflectliteValue.elem) := by simp only [Extern.find, hn, ho]; kernel_rfl
  split at h
  case h_2 => cases h
  obtain ⟨x', rfl, hx⟩ := ha.single
  split at h
  ·cases h
  rename_i hf
  simp only [Option.bind_eq_some_iff] at h
  obtain ⟨t, ht, h⟩ := h
  split at h
  case isFalse => cases h
  rename_i hu
  simp only [Bool.and_eq_true, beq_iff_eq] at hu
  simp only [Option.map_eq_some_iff, Prod.mk.injEq] at h
  obtain ⟨r, hr, rfl, rfl⟩ := h
  exact .quiet hN hfn hb hE h1 h2 (valElem_ok hE hx hf ht hu.1 hu.2 hr _)
 split at h
 ·rename_i hn
  have h1 : Extern.findNext fn = none := by simp only [Extern.findNext, hn, ho]; kernel_rfl
  have h2 : Extern.find fn = some Extern.ReflectliteValue.set := by simp only [Extern.find, hn, ho]; kernel_rfl
  split at h
  case h_2 => cases h
  obtain ⟨x', y', rfl, hx, hy⟩ := ha.two
  split at h
  ·cases h
  rename_i hf
  simp only [not_or] at hf
  simp only [Option.bind_eq_some_iff] at h
  obtain ⟨t, ht, s, hs, h⟩ := h
  split at h
  case isFalse => cases h
  rename_i hu
  simp only [Bool.and_eq_true] at hu
  simp only [Option.bind_eq_some_iff] at h
  obtain ⟨x, hx1, h⟩ := h
  obtain ⟨H', hq, rfl, rfl⟩ := loud_spec h
  obtain ⟨u, E', e1, e2, e3, e4, e5⟩ := valSet_ok hE hip hx hy hf.1 hf.2.1 hf.2.2 ht hs hu.1.1 hu.1.2 hu.2 hx1 hq
  exact ⟨u, E', extern_run hN hfn hb h1 h2 e1, e2, e3, e4, e5⟩
 split at h
 ·rename_i hn
  have h1 : Extern.findNext fn = none := by
   simp only [pureExts, List.contains_cons, List.contains_nil, Bool.or_false, Bool.or_eq_true, beq_iff_eq] at hn
   rcases hn with hn | hn | hn | hn | hn <;> (simp only [Extern.findNext, hn, ho]; kernel_rfl)
  simp only [Option.bind_eq_some_iff, Option.map_eq_some_iff, Prod.mk.injEq] at h
  obtain ⟨e, h2, l, hl, y, hy, r, hr, rfl, rfl⟩ := h
  have e1 := toVis_rel hl ha
  subst e1
  exact .quiet hN hfn hb hE h1 h2 ⟨y, pureOf_run hy E.w, ofVi_rel hr⟩
 ·obtain ⟨hq, rfl⟩ := quiet_spec h
  exact aExt0_ok hN hfn hb hE ha hq
end
end Go.Abs

