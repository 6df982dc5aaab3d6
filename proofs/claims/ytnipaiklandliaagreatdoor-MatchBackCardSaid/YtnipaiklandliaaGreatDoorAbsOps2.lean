import Derived.Test.YtnipaiklandliaaGreatDoorAbsOps
namespace Go.Abs
open Go
section
variable {P : Program} {E : Env}
theorem add_of (a : Addr) (n : Nat) (h : a.spot = none) : a.add n = ⟨a.block, a.off + n, none⟩ := by
 obtain ⟨b, o, s⟩ := a; simp only at h; subst h; exact Addr.add_lit b o n
theorem add_at0 (p : Nat × Nat) (o n : Nat) : (at0 p o).add n = at0 p (o + n) := by
 simp [at0, Addr.add_lit, Nat.add_assoc]
theorem aIndexAddr_ok {t : TypeId} {x ix r : AV} {x' ix' : Value} (hx : VRel E x x') (hix : VRel E ix ix') (h : aIndexAddr P t x ix = some r) :
  ∃ v', (Instr.indexAt t x' ix').run P E.w = .ok v' E.w ∧ VRel E r v' := by
 unfold aIndexAddr at h
 simp only [Option.bind_eq_some_iff] at h
 obtain ⟨i, hi, h⟩ := h
 obtain ⟨k, rfl⟩ := asNat_spec hix hi
 split at h
 ·rename_i e hu
  simp only [Option.bind_eq_some_iff] at h
  obtain ⟨n, hn, h⟩ := h
  have hrun : ∀ (a : Addr) (len c : Nat), i < len → (Instr.indexAt t (.slice (some a) len c) (.int k i)).run P E.w = .ok (.pointer (some (a.add (i * n)))) E.w := fun a len c hlt => by
   have h1 : (0 : Int) ≤ (i : Int) ∧ (i : Int) < (len : Int) := by omega
   simp [Instr.indexAt, asIntOf, run_underlying hu, sizeT_run hn, h1]
   intro hge; omega
  cases hx with
  | vs es full a c sz f hp hc hf hi' hz hv hr =>
   simp only [Option.bind_eq_some_iff] at h
   obtain ⟨v, hv', h⟩ := h
   split at h
   ·rename_i hsz
    simp only [Option.some.injEq] at h; subst h
    obtain ⟨hlt, rfl⟩ := List.getElem?_eq_some_iff.1 hv'
    obtain ⟨him, hsp⟩ := hi' (by omega)
    have esz := hz i hlt
    have hnz : n = sz := by omega
    subst hnz
    refine ⟨_, hrun a _ c hlt, ?_⟩
    rw [add_of _ _ hsp]
    exact .vptr _ 0 _ (a.off + i * n) (f i) (pl_cells (plL_get hp i hlt)) him rfl rfl (fun j hj => hv i hlt j hj) (fun j hj => hr i hlt j hj)
   ·cases h
  | bs s a c hb hv hl hx h' =>
   simp only at h
   split at h
   ·rename_i hlt
    simp only [Option.some.injEq] at h; subst h
    refine ⟨_, hrun a _ c hlt.1, .ptr _ _ _ _ hb hv fun cs hc => ?_⟩
    rw [(h' cs hc).1, add_at0]
   ·cases h
  | _ => simp at h
 ·rename_i len e hu
  simp only [Option.bind_eq_some_iff] at h
  obtain ⟨n, hn, h⟩ := h
  split at h
  ·rename_i hlt
   have hrun : ∀ (a : Addr), (Instr.indexAt t (.pointer (some a)) (.int k i)).run P E.w = .ok (.pointer (some (a.add (i * n)))) E.w := fun a => by
    have h1 : (0 : Int) ≤ (i : Int) ∧ (i : Int) < (len : Int) := by omega
    simp [Instr.indexAt, asIntOf, run_underlying hu, sizeT_run hn, h1, Instr.sureAddr]
    intro hge; omega
   cases hx with
   | ptr b ver off a hb hv hp =>
    simp only [Option.some.injEq] at h; subst h
    refine ⟨_, hrun a, .ptr _ _ _ _ hb hv fun cs hc => ?_⟩
    rw [hp cs hc, add_at0]
   | vptr cs off a o f hp hi' hs ho hc hr =>
    simp only [Option.some.injEq] at h; subst h
    refine ⟨_, hrun a, ?_⟩
    rw [add_of _ _ hs]
    exact .vptr _ _ _ o f hp hi' rfl (by simp only [ho]; omega) hc hr
   | _ => simp at h
  ·cases h
 ·cases h
theorem bytes_get (l : List UInt8) (i : Nat) : (⟨l.toArray⟩ : ByteArray)[i]? = l[i]? := by
 by_cases h : i < l.length
 ·rw [getElem?_pos (⟨l.toArray⟩ : ByteArray) i (by simpa [ByteArray.size] using h), List.getElem?_eq_getElem h]; rfl
 ·rw [getElem?_neg (⟨l.toArray⟩ : ByteArray) i (by simpa [ByteArray.size] using h), List.getElem?_eq_none (Nat.le_of_not_lt h)]
theorem bytes_size (l : List UInt8) : (⟨l.toArray⟩ : ByteArray).size = l.length := rfl
theorem aIndex_ok {t : TypeId} {x ix r : AV} {x' ix' : Value} (hx : VRel E x x') (hix : VRel E ix ix') (h : aIndex P t x ix = some r) :
  ∃ v', (Instr.index t x' ix').run P E.w = .ok v' E.w ∧ VRel E r v' := by
 unfold aIndex at h
 simp only [Option.bind_eq_some_iff] at h
 obtain ⟨i, hi, h⟩ := h
 obtain ⟨k, rfl⟩ := asNat_spec hix hi
 split at h
 ·rename_i s hu
  simp only [Option.map_eq_some_iff] at h
  obtain ⟨c, hc, rfl⟩ := h
  cases hx
  refine ⟨_, ?_, .int _ _⟩
  simp [Instr.index, asIntOf, run_underlying hu, bytes_get, hc]
 ·rename_i len e cs hu
  cases hx with
  | agg _ cs' hl hr =>
   simp only [Option.bind_eq_some_iff] at h
   obtain ⟨n, hn, h⟩ := h
   split at h
   ·rename_i hlt
    obtain ⟨v', h1, h2⟩ := part_ok (.of hl hr) h
    refine ⟨v', ?_, h2⟩
    simp [Instr.index, asIntOf, run_underlying hu, sizeT_run hn, h1]
    intro hge; omega
   ·cases h
 ·cases h
theorem aLen_ok (hE : HRel E) {t ty : TypeId} {ts : Array TypeId} {x r : AV} {x' : Value} (ht : ts[0]? = some t) (hx : VRel E x x') (h : aLen P E.H t x = some r) :
  ∃ v', (Builtin.len_ ts ty #[x']).run P E.w = .ok v' E.w ∧ VRel E r v' := by
 unfold aLen at h
 split at h
 ·rename_i s hu
  simp only [Option.some.injEq] at h; subst h
  cases hx
  exact ⟨_, by simp [Builtin.len_, ht, run_underlying hu, goInt, bytes_size], .int _ _⟩
 ·rename_i hu
  simp only [Option.some.injEq] at h; subst h
  cases hx
  exact ⟨_, by simp [Builtin.len_, ht, run_underlying hu, goInt], .int _ _⟩
 ·rename_i es f hu
  simp only [Option.some.injEq] at h; subst h
  cases hx
  exact ⟨_, by simp [Builtin.len_, ht, run_underlying hu, goInt], .int _ _⟩
 ·rename_i s hu
  simp only [Option.some.injEq] at h; subst h
  cases hx
  exact ⟨_, by simp [Builtin.len_, ht, run_underlying hu, goInt], .int _ _⟩
 ·rename_i hu
  simp only [Option.some.injEq] at h; subst h
  cases hx
  exact ⟨_, by simp [Builtin.len_, ht, run_underlying hu, goInt], .int _ _⟩
 ·rename_i k e r' hu
  simp only [Option.bind_eq_some_iff] at h
  obtain ⟨es, hes, h⟩ := h
  split at h
  case isFalse => cases h
  rename_i hfit
  simp only [Option.some.injEq] at h; subst h
  cases hx with
  | map _ m hb hm =>
   have e1 := hm es hes
   subst e1
   obtain ⟨es', ck, hh, hl⟩ : ∃ es' ck, E.w.heap[(E.ρ r').1]? = some (.map es' ck) ∧ es.length = es'.size := by
    obtain ⟨o, hh, hr⟩ := hE.maps _ _ (hmap_eq hes)
    cases hr with
    | map _ es' ck _ hl _ => exact ⟨es', ck, hh, hl⟩
    | it s k => cases hfit
   exact ⟨_, by simp [Builtin.len_, ht, run_underlying hu, goInt, getObj, Sem.run, hh, hl], .int _ _⟩
 ·rename_i n e _ hu
  simp only [Option.some.injEq] at h; subst h
  exact ⟨_, by simp [Builtin.len_, ht, run_underlying hu, goInt], .int _ _⟩
 ·cases h
theorem aNilNe_ok {t : TypeId} {x y : AV} {x' y' : Value} (hx : VRel E x x') (hy : VRel E y y') (h : aNilNe P t x y = true) :
  (Op.equal t x' y').run P E.w = .ok false E.w ∧ (∀ op xo yo, eqGuard op t xo yo x' y' = pure ()) ∧
   binOp .eql t x' y' = (do pure (.bool (← Op.equal t x' y'))) ∧ binOp .neq t x' y' = (do pure (.bool (!(← Op.equal t x' y')))) := by
 unfold aNilNe at h
 split at h <;> first
  | (
    rename_i hu; cases hx; cases hy
    refine ⟨(fun d => by simp only [Op.equalIn, Sem.run_bind, run_underlying hu, Result.andThen_ok]; rfl : ∀ d, (Op.equalIn (d + 1) _ _ _).run P E.w = _) 9999, fun op xo yo => by cases op <;> rfl, rfl, rfl⟩)
  | cases h
theorem bytes_toList (l : List UInt8) : (⟨l.toArray⟩ : ByteArray).toList = l := by
 have h : ∀ (n i : Nat) (r : List UInt8), l.length - i = n → ByteArray.toList.loop ⟨l.toArray⟩ i r = r.reverse ++ l.drop i := by
  intro n
  induction n with
  | zero =>
   intro i r h
   unfold ByteArray.toList.loop
   rw [if_neg (by simp [ByteArray.size]; omega), List.drop_eq_nil_of_le (by omega)]
   simp
  | succ n ih =>
   intro i r h
   have hlt : i < l.length := by omega
   unfold ByteArray.toList.loop
   rw [if_pos (by simpa [ByteArray.size] using hlt), ih (i + 1) _ (by omega), List.drop_eq_getElem_cons hlt]
   simp [ByteArray.get!, hlt]
 have := h l.length 0 [] (by simp)
 simpa [ByteArray.toList] using this
theorem aStr_ok {op : BinOp} {s t : List UInt8} {r : AV} (h : aStr op s t = some r) (ty : TypeId) (w : World) :
  ∃ v', (binOp op ty (.string ⟨s.toArray⟩) (.string ⟨t.toArray⟩)).run P w = .ok v' w ∧ VRel E r v' := by
 have hb : binOp op ty (.string ⟨s.toArray⟩) (.string ⟨t.toArray⟩) = Op.stringOp op ⟨s.toArray⟩ ⟨t.toArray⟩ := by cases op <;> rfl
 rw [hb]
 unfold aStr at h
 have hs : (⟨s.toArray⟩ : ByteArray).size = s.length := by simp [ByteArray.size]
 have ht : (⟨t.toArray⟩ : ByteArray).size = t.length := by simp [ByteArray.size]
 split at h
 ·split at h
  ·cases h
  ·rename_i hle
   simp only [Option.some.injEq] at h; subst h
   have e : (⟨s.toArray⟩ : ByteArray) ++ ⟨t.toArray⟩ = ⟨(s ++ t).toArray⟩ := by
    apply ByteArray.ext; simp
   refine ⟨_, ?_, .str _⟩
   simp only [Op.stringOp, hs, ht, IntKind.max_i64, if_neg hle, e]; rfl
 all_goals first
  | (simp only [Option.some.injEq] at h; subst h; exact ⟨_, by simp only [Op.stringOp, bytes_toList]; rfl, .bool _⟩)
  | cases h
theorem toVs_rel {l : List AV} {vs : List Value} {a : Array Value} (h : toVs l = some vs) (hl : LRel E l a) : a = vs.toArray := by
 obtain ⟨a⟩ := a
 rw [LRel.list] at hl
 congr 1
 induction l generalizing vs a with
 | nil => simp only [toVs, Option.some.injEq] at h; subst h; exact List.length_eq_zero_iff.1 (by simpa using hl.1.symm)
 | cons x r ih =>
  simp only [toVs, Option.bind_eq_some_iff, Option.map_eq_some_iff] at h
  obtain ⟨y, hy, z, hz, rfl⟩ := h
  cases a with
  | nil => simp at hl
  | cons u b =>
   have h0 := hl.2 0
   simp only [List.getD_cons_zero] at h0
   rw [h0.toV1 hy, ih hz b ⟨by simpa using hl.1, fun j => by simpa using hl.2 (j + 1)⟩]
theorem VRel.toV {v : AV} {v' x : Value} (h : VRel E v v') (hx : toV v = some x) : v' = x := by
 have h0 := h
 cases h with
 | agg cs cs' hl hr =>
  simp only [Abs.toV, Option.map_eq_some_iff] at hx
  obtain ⟨l, hl', rfl⟩ := hx
  rw [toVs_rel hl' (.of hl hr)]
 | _ => exact h0.toV1 hx
theorem aBin_ok {op : BinOp} {t : TypeId} {xo yo : Operand} {x y r : AV} {x' y' : Value} (hx : VRel E x x') (hy : VRel E y y') (h : aBin P op t xo yo x y = some r) :
  ∃ v', (do eqGuard op t xo yo x' y'; binOp op t x' y' : Sem Value).run P E.w = .ok v' E.w ∧ VRel E r v' := by
 unfold aBin at h
 split at h
 ·cases hx; cases hy
  obtain ⟨v', h1, h2⟩ := aStr_ok (P := P) h t E.w
  refine ⟨v', ?_, h2⟩
  have hg : ∀ s : ByteArray, eqGuard op t xo yo (.string s) (.string ⟨‹List UInt8›.toArray⟩) = pure () := fun s => by cases op <;> rfl
  simp only [eqGuard_at_string, Sem.run_bind, Sem.run_pure, Result.andThen_ok, h1]
 ·split at h
  ·rename_i hne
   obtain ⟨h1, h2, h3, h4⟩ := aNilNe_ok hx hy hne
   split at h
   ·simp only [Option.some.injEq] at h; subst h
    exact ⟨_, by simp only [h2, h3, Sem.run_bind, Sem.run_pure, Result.andThen_ok, h1], .bool _⟩
   ·simp only [Option.some.injEq] at h; subst h
    exact ⟨_, by simp only [h2, h4, Sem.run_bind, Sem.run_pure, Result.andThen_ok, h1]; rfl, .bool _⟩
   ·cases h
  ·simp only [Option.bind_eq_some_iff] at h
   obtain ⟨a, ha, b, hb, v, hv, ho⟩ := h
   have e1 := hx.toV ha
   have e2 := hy.toV hb
   subst e1 e2
   exact ⟨v, pureOf_run hv E.w, ofV_rel ho⟩
theorem aUn_ok {op : UnOp} {x r : AV} {x' : Value} (hx : VRel E x x') (h : ((toV1 x).bind fun v => (pureOf P (Op.unary op v)).bind ofV1) = some r) :
  ∃ v', (Op.unary op x').run P E.w = .ok v' E.w ∧ VRel E r v' := by
 simp only [Option.bind_eq_some_iff] at h
 obtain ⟨a, ha, v, hv, ho⟩ := h
 have e1 := hx.toV1 ha
 subst e1
 exact ⟨v, pureOf_run hv E.w, ofV1_rel ho⟩
theorem aMinMax_ok {b : Builtin} {ts : Array TypeId} {ty : TypeId} {args : List AV} {args' : Array Value} {r : AV} (hx : LRel E args args') (h : aMinMax P b ts ty args = some r) :
  ∃ v', (b = .max ∧ (Builtin.max_ ts ty args').run P E.w = .ok v' E.w ∨ b = .min ∧ (Builtin.min_ ts ty args').run P E.w = .ok v' E.w) ∧ VRel E r v' := by
 unfold aMinMax at h
 simp only [Option.bind_eq_some_iff] at h
 obtain ⟨vs, hvs, h⟩ := h
 have e1 := toVs_rel hvs hx
 subst e1
 split at h
 ·simp only [Option.bind_eq_some_iff] at h
  obtain ⟨v, hv, ho⟩ := h
  exact ⟨v, .inl ⟨rfl, pureOf_run hv E.w⟩, ofV1_rel ho⟩
 ·simp only [Option.bind_eq_some_iff] at h
  obtain ⟨v, hv, ho⟩ := h
  exact ⟨v, .inr ⟨rfl, pureOf_run hv E.w⟩, ofV1_rel ho⟩
 ·cases h
end
end Go.Abs

