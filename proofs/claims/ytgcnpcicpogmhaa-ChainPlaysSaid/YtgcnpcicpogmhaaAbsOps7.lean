import Derived.Test.YtgcnpcicpogmhaaAbsOps6
/-! Maps. -/
namespace Go.Abs
open Go

section
variable {P : Program} {E : Env}

theorem keyT_spec {t k e : TypeId} (h : keyT P t = some (k, e)) : P.underlying t = some (.map k e) ∧ ∃ d, P.underlying k = some d ∧ ((∃ q, d = .int q) ∨ d = .string) := by
  unfold keyT at h
  split at h
  · rename_i k' e' hu
    split at h
    · rename_i q hk
      simp only [Option.some.injEq, Prod.mk.injEq] at h; obtain ⟨rfl, rfl⟩ := h
      exact ⟨hu, _, hk, .inl ⟨q, rfl⟩⟩
    · rename_i hk
      simp only [Option.some.injEq, Prod.mk.injEq] at h; obtain ⟨rfl, rfl⟩ := h
      exact ⟨hu, _, hk, .inr rfl⟩
    · cases h
  · cases h

theorem bytes_beq (s t : List UInt8) : ((⟨s.toArray⟩ : ByteArray) == ⟨t.toArray⟩) = (s == t) := by
  rw [Bool.eq_iff_iff, MapKept.bytes_beq]
  simp

/-- the key is one of its type. -/
def KeyOf (d : TypeDesc) : AV → Prop
  | .str _ => d = .string
  | .int _ _ => ∃ q, d = .int q
  | _ => False

theorem keyFits_spec {k : TypeId} {d : TypeDesc} {x : AV} (hd : P.underlying k = some d) (h : keyFits P k x = true) : KeyOf d x := by
  unfold keyFits at h
  rw [hd] at h
  cases x <;> simp only [KeyOf, Bool.false_eq_true] at h ⊢
  · cases d <;> simp_all
  · cases d <;> simp_all

theorem keyEq_run {d : TypeDesc} {a b : AV} {a' b' : Value} {r : Bool} (hk : KeyOf d a) (ha : VRel E a a') (hb : VRel E b b') (h : keyEq a b = some r) : Instr.sameNow d a' b' = some r := by
  unfold keyEq at h
  split at h
  · simp only [Option.some.injEq] at h; subst h
    cases ha; cases hb
    simp only [KeyOf] at hk; subst hk
    simp [Instr.sameNow, bytes_beq]
  · cases ha; cases hb
    obtain ⟨q, rfl⟩ := hk
    split at h
    · rename_i e; simp only [Option.some.injEq] at h; subst h; simp [Instr.sameNow, e]
    · cases h
  · cases h

theorem mfind_run {d : TypeDesc} {k : AV} {k' : Value} (hk : KeyOf d k) (hkr : VRel E k k') : ∀ (es : List (AV × AV)) (es' : List MapEntry) (i : Nat) (r : Option (Nat × AV)), es.length = es'.length →
    (∀ j (h : j < es.length), VRel E es[j].1 (es'.getD j default).key ∧ VRel E es[j].2 (es'.getD j default).val) → mfind k es i = some r →
    ∃ r', Instr.findNow d k' es' i = some r' ∧ match r, r' with
      | none, none => True
      | some (n, v), some (n', v') => n = n' ∧ VRel E v v' ∧ i ≤ n ∧ ∃ h : n - i < es.length, keyEq k es[n - i].1 = some true
      | _, _ => False := by
  intro es
  induction es with
  | nil =>
    intro es' i r hl _ h
    simp only [mfind, Option.some.injEq] at h; subst h
    have : es' = [] := List.length_eq_zero_iff.1 (by simpa using hl.symm)
    subst this
    exact ⟨none, rfl, trivial⟩
  | cons x es ih =>
    obtain ⟨a, v⟩ := x
    intro es' i r hl hr h
    cases es' with
    | nil => simp at hl
    | cons y es' =>
      simp only [mfind, Option.bind_eq_some_iff] at h
      obtain ⟨b, hb, h⟩ := h
      have h0 := hr 0 (by simp)
      simp only [List.getElem_cons_zero, List.getD_cons_zero] at h0
      have hs := keyEq_run hk hkr h0.1 hb
      cases b with
      | true =>
        simp only [if_true, Option.some.injEq] at h; subst h
        exact ⟨some (i, y.val), by simp [Instr.findNow, hs], rfl, h0.2, Nat.le_refl _, by simp, by simpa using hb⟩
      | false =>
        simp only [Bool.false_eq_true, if_false] at h
        obtain ⟨r', h1, h2⟩ := ih es' (i + 1) r (by simpa using hl) (fun j hj => by have := hr (j + 1) (by simpa using hj); simpa using this) h
        refine ⟨r', by simp [Instr.findNow, hs, h1], ?_⟩
        cases r with
        | none => cases r' with
          | none => exact trivial
          | some p => exact h2.elim
        | some p =>
          obtain ⟨n, u⟩ := p
          cases r' with
          | none => exact h2.elim
          | some p' =>
            obtain ⟨n', u'⟩ := p'
            obtain ⟨e1, e2, e3, hlt, e4⟩ := h2
            refine ⟨e1, e2, by omega, by simp; omega, ?_⟩
            have : n - i = (n - (i + 1)) + 1 := by omega
            simp only [this, List.getElem_cons_succ]; exact e4

theorem checkKey_run {k : TypeId} {d : TypeDesc} {x : AV} {x' : Value} (hd : P.underlying k = some d) (hk : KeyOf d x) (hx : VRel E x x') (b : Bool) (w : World) : (Instr.checkKey b 10000 k x').run P w = .ok () w := by
  have : ∀ n, (Instr.checkKey b (n + 1) k x').run P w = .ok () w := fun n => by
    unfold Instr.checkKey
    simp only [Sem.run_bind, run_underlying hd, Result.andThen_ok]
    cases hx <;> simp only [KeyOf] at hk
    · obtain ⟨q, rfl⟩ := hk; rfl
    · subst hk; rfl
  exact this 9999

/-- what a map holds, in Go's memory. -/
theorem mapAt (hE : HRel E) {r m : Nat} {es : List (AV × AV)} (h : hmap E.H r = some es) (hm : m = (E.ρ r).1) :
    ∃ es' ck, E.w.heap[m]? = some (.map es' ck) ∧ es.length = es'.toList.length ∧ ∀ j (h : j < es.length), VRel E es[j].1 (es'.toList.getD j default).key ∧ VRel E es[j].2 (es'.toList.getD j default).val := by
  subst hm
  obtain ⟨es', ck, h1, h2, h3⟩ := hE.maps _ _ (hmap_eq h)
  refine ⟨es', ck, h1, by simpa using h2, fun j hj => ?_⟩
  have := h3 j hj
  simpa [Array.getD_eq_getD_getElem?, List.getD] using this

theorem aLookup_ok (hE : HRel E) {t : TypeId} {m k r : AV} {m' k' : Value} {ok : Bool} (hm : VRel E m m') (hk : VRel E k k') (h : aLookup P E.H t m k ok = some r) :
    ∃ v', (Instr.lookup t m' k' ok).run P E.w = .ok v' E.w ∧ VRel E r v' := by
  unfold aLookup at h
  simp only [Option.bind_eq_some_iff] at h
  obtain ⟨⟨kt, e⟩, hkt, h⟩ := h
  dsimp only at h
  obtain ⟨hu, d, hd, _⟩ := keyT_spec hkt
  split at h
  case isFalse => cases h
  rename_i hfit
  have hkey := keyFits_spec hd hfit
  simp only [Option.bind_eq_some_iff, Option.map_eq_some_iff] at h
  obtain ⟨es, hes, rr, hf, ⟨v, b⟩, hvb, rfl⟩ := h
  have fin : ∀ (esl : List MapEntry), es.length = esl.length → (∀ j (h : j < es.length), VRel E es[j].1 (esl.getD j default).key ∧ VRel E es[j].2 (esl.getD j default).val) →
      ∃ fk u, (Instr.findKey kt k' esl).run P E.w = .ok fk E.w ∧ VRel E v u ∧ ((∃ n, fk = some (n, u) ∧ b = true) ∨ fk = none ∧ (zeroValue e).run P E.w = .ok u E.w ∧ b = false) := by
    intro esl hl hr
    obtain ⟨r', h1, h2⟩ := mfind_run hkey hk es esl 0 rr hl hr hf
    have hrun := MapKept.run_findKey (P := P) (w := E.w) hd h1
    cases rr with
    | none =>
      cases r' with
      | some p => exact h2.elim
      | none =>
        simp only [Option.map_eq_some_iff, Prod.mk.injEq] at hvb
        obtain ⟨z, hz, rfl, rfl⟩ := hvb
        obtain ⟨zv, hzr, hzv, _⟩ := zeroT_run hz
        exact ⟨none, zv, hrun, hzv E, .inr ⟨rfl, hzr _, rfl⟩⟩
    | some p =>
      obtain ⟨n, u⟩ := p
      cases r' with
      | none => exact h2.elim
      | some p' =>
        obtain ⟨n', u'⟩ := p'
        simp only [Option.some.injEq, Prod.mk.injEq] at hvb
        obtain ⟨rfl, rfl⟩ := hvb
        exact ⟨_, u', hrun, h2.2.1, .inl ⟨n', rfl, rfl⟩⟩
  have pack : ∀ (u : Value), VRel E v u → VRel E (if ok then .tup [v, .bool b] else v) (if ok then .tuple #[u, .bool b] else u) := fun u hu => by
    cases ok
    · exact hu
    · refine .tup _ _ rfl fun j hj => ?_
      match j, hj with
      | 0, _ => exact hu
      | 1, _ => exact .bool b
  cases hm with
  | nilM =>
    simp only [Option.some.injEq] at hes; subst hes
    obtain ⟨fk, u, h1, h2, h3⟩ := fin [] rfl (fun j hj => by simp at hj)
    refine ⟨_, ?_, pack u h2⟩
    rcases h3 with ⟨n, rfl, rfl⟩ | ⟨rfl, hz, rfl⟩
    · simp [Instr.lookup, run_underlying hu, checkKey_run hd hkey hk, h1]
    · simp [Instr.lookup, run_underlying hu, checkKey_run hd hkey hk, h1, hz]
  | map r0 m0 hb hm0 =>
    obtain ⟨es', ck, h3, h4, h5⟩ := mapAt hE hes (hm0 es hes)
    obtain ⟨fk, u, h1, h2, h6⟩ := fin es'.toList h4 h5
    refine ⟨_, ?_, pack u h2⟩
    rcases h6 with ⟨n, rfl, rfl⟩ | ⟨rfl, hz, rfl⟩
    · simp [Instr.lookup, run_underlying hu, checkKey_run hd hkey hk, MapKept.run_getObj_map h3, h1]
    · simp [Instr.lookup, run_underlying hu, checkKey_run hd hkey hk, MapKept.run_getObj_map h3, h1, hz]
  | _ => simp at hes

theorem sameBits_run {k x : AV} {k' x' : Value} (hk : VRel E k k') (hx : VRel E x x') (h : keyEq k x = some true) : Instr.sameBits 10000 x' k' = true := by
  unfold keyEq at h
  split at h
  · cases hk; cases hx
    simp only [Option.some.injEq, beq_iff_eq] at h; subst h
    exact (MapKept.bytes_beq _ _).2 rfl
  · cases hk; cases hx
    split at h
    · rename_i e; simp only [Option.some.injEq, beq_iff_eq] at h; subst h e
      show (_ == _ && _ == _) = true
      simp
    · cases h
  · cases h

theorem aMapPut_ok (hE : HRel E) {prot : Nat} {t : TypeId} {m k v : AV} {m' k' v' : Value} {H' : Heap} (hip : E.ip ≤ prot) (hm : VRel E m m') (hk : VRel E k k') (hv : VRel E v v')
    (h : aMapPut P prot E.H t m k v = some H') : ∃ E', E'.H = H' ∧ HRel E' ∧ Step prot E E' ∧ (Instr.mapUpdate t m' k' v').run P E.w = .ok () E'.w := by
  unfold aMapPut at h
  simp only [Option.bind_eq_some_iff] at h
  obtain ⟨⟨kt, e⟩, hkt, h⟩ := h
  dsimp only at h
  obtain ⟨hu, d, hd, _⟩ := keyT_spec hkt
  split at h
  case isFalse => cases h
  rename_i hfit
  have hkey := keyFits_spec hd hfit
  cases hm with
  | map r m0 hb hm0 =>
    dsimp only at h
    split at h
    case isFalse => cases h
    rename_i hpr
    simp only [Option.bind_eq_some_iff, Option.map_eq_some_iff] at h
    obtain ⟨es, hes, rr, hf, h⟩ := h
    obtain ⟨es', ck, h3, h4, h5⟩ := mapAt hE hes (hm0 es hes)
    obtain rfl := hm0 es hes
    obtain ⟨r', h1, h2⟩ := mfind_run hkey hk es es'.toList 0 rr h4 h5 hf
    have hrun := MapKept.run_findKey (P := P) (w := E.w) hd h1
    have hb' := hmap_eq hes
    have hset : ∀ o, (setObj (E.ρ r).1 o).run P E.w = .ok () (setBlk E.w (E.ρ r).1 o) := fun o => by rw [MapKept.run_setObj_map o h3]; rfl
    cases rr with
    | none =>
      cases r' with
      | some p => exact h2.elim
      | none =>
        subst h
        have hBR : BRel E (E.ρ r) (.map (es ++ [(k, v)])) (.map (es'.push { key := k', val := v', born := ck }) (ck + 1)) := by
          refine .map _ _ _ (by simpa using h4) fun j hj => ?_
          by_cases hjl : j < es.length
          · have := h5 j hjl
            rw [List.getElem_append_left hjl]
            have hs : j < es'.size := by rw [h4] at hjl; simpa using hjl
            simpa [Array.getD_eq_getD_getElem?, Array.getElem?_push_lt hs, List.getD, hs] using this
          · have hje : j = es.length := by simp at hj; omega
            subst hje
            have hs : es.length = es'.size := by simpa using h4
            simp only [hs, Array.getD_eq_getD_getElem?, Array.getElem?_push_size, Option.getD_some]
            simp only [← hs, List.getElem_append_right (Nat.le_refl _), Nat.sub_self, List.getElem_cons_zero]
            exact ⟨hk, hv⟩
        refine ⟨_, rfl, hE.mput hb' h3 (by omega) hBR, Step.mput hE hb' h3 hpr hip, ?_⟩
        simp [Instr.mapUpdate, run_underlying hu, checkKey_run hd hkey hk, MapKept.run_getObj_map h3, hrun, hset]
        rfl
    | some p =>
      obtain ⟨n, u⟩ := p
      cases r' with
      | none => exact h2.elim
      | some p' =>
        obtain ⟨n', u'⟩ := p'
        obtain ⟨rfl, hu', _, hlt, hke⟩ := h2
        simp only [Nat.sub_zero] at hlt hke
        subst h
        have hs : n < es'.size := by rw [h4] at hlt; simpa using hlt
        have hold := (h5 n hlt).1
        have hkeep : (Instr.keyThatStays (((es'[n]?).map (·.key)).getD k') k').run P E.w = .ok k' E.w := by
          have : Instr.sameBits 10000 (((es'[n]?).map (·.key)).getD k') k' = true := by
            refine sameBits_run hk ?_ hke
            simpa [List.getD, hs] using hold
          simp [Instr.keyThatStays, this]
        have hBR : BRel E (E.ρ r) (.map (es.modify n fun _ => (k, v))) (.map (es'.modify n fun e => { e with key := k', val := v' }) ck) := by
          refine .map _ _ _ (by simpa using h4) fun j hj => ?_
          have hjl : j < es.length := by simpa using hj
          have hsj : j < es'.size := by rw [h4] at hjl; simpa using hjl
          rw [List.getElem_modify, Array.getD_eq_getD_getElem?, Array.getElem?_modify]
          by_cases e1 : n = j
          · subst e1
            simp only [if_true, Array.getElem?_eq_getElem hsj, Option.map_some, Option.getD_some]
            exact ⟨hk, hv⟩
          · simp only [e1, if_false]
            have := h5 j hjl
            simpa [List.getD, hsj] using this
        refine ⟨_, rfl, hE.mput hb' h3 (by omega) hBR, Step.mput hE hb' h3 hpr hip, ?_⟩
        simp [Instr.mapUpdate, run_underlying hu, checkKey_run hd hkey hk, MapKept.run_getObj_map h3, hrun, hkeep, hset]
        rfl
  | _ => simp at h

theorem aDelete_ok (hE : HRel E) {prot : Nat} {ts : Array TypeId} {ty t : TypeId} {m k : AV} {m' k' : Value} {H' : Heap} (hip : E.ip ≤ prot) (ht : ts[0]? = some t) (hm : VRel E m m') (hk : VRel E k k')
    (h : aDelete P prot E.H t m k = some H') : ∃ E', E'.H = H' ∧ HRel E' ∧ Step prot E E' ∧ (Builtin.delete_ ts ty #[m', k']).run P E.w = .ok (.tuple #[]) E'.w := by
  unfold aDelete at h
  simp only [Option.bind_eq_some_iff] at h
  obtain ⟨⟨kt, e⟩, hkt, h⟩ := h
  dsimp only at h
  obtain ⟨hu, d, hd, _⟩ := keyT_spec hkt
  split at h
  case isFalse => cases h
  rename_i hfit
  have hkey := keyFits_spec hd hfit
  cases hm with
  | map r m0 hb hm0 =>
    dsimp only at h
    split at h
    case isFalse => cases h
    rename_i hpr
    simp only [Option.bind_eq_some_iff, Option.map_eq_some_iff] at h
    obtain ⟨es, hes, rr, hf, h⟩ := h
    obtain ⟨es', ck, h3, h4, h5⟩ := mapAt hE hes (hm0 es hes)
    obtain rfl := hm0 es hes
    obtain ⟨r', h1, h2⟩ := mfind_run hkey hk es es'.toList 0 rr h4 h5 hf
    have hrun := MapKept.run_findKey (P := P) (w := E.w) hd h1
    have hb' := hmap_eq hes
    have hset : ∀ o, (setObj (E.ρ r).1 o).run P E.w = .ok () (setBlk E.w (E.ρ r).1 o) := fun o => by rw [MapKept.run_setObj_map o h3]; rfl
    cases rr with
    | none =>
      cases r' with
      | some p => exact h2.elim
      | none =>
        subst h
        have hself : setBlk E.w (E.ρ r).1 (.map es' ck) = E.w := setBlk_self h3
        refine ⟨E, rfl, hE, Step.refl _ _, ?_⟩
        simp [Builtin.delete_, ht, run_underlying hu, checkKey_run hd hkey hk, MapKept.run_getObj_map h3, hrun, hset, hself]
    | some p =>
      obtain ⟨n, u⟩ := p
      cases r' with
      | none => exact h2.elim
      | some p' =>
        obtain ⟨n', u'⟩ := p'
        obtain ⟨rfl, hu', _, hlt, hke⟩ := h2
        simp only [Nat.sub_zero] at hlt hke
        subst h
        have hs : n < es'.size := by rw [h4] at hlt; simpa using hlt
        have hBR : BRel E (E.ρ r) (.map (es.eraseIdx n)) (.map (es'.eraseIdxIfInBounds n) ck) := by
          have hsz : (es'.eraseIdxIfInBounds n).toList = es'.toList.eraseIdx n := by simp [Array.eraseIdxIfInBounds, hs]
          have hle : es.length = es'.size := by simpa using h4
          refine .map _ _ _ (by rw [← Array.length_toList, hsz, List.length_eraseIdx, List.length_eraseIdx, h4]) fun j hj => ?_
          have hg : (es'.eraseIdxIfInBounds n).getD j default = (es'.toList.eraseIdx n).getD j default := by
            rw [← hsz, Array.getD_eq_getD_getElem?, List.getD, Array.getElem?_toList]
          rw [hg, List.getElem_eraseIdx]
          simp only [List.getD, List.getElem?_eraseIdx]
          rw [List.length_eraseIdx, if_pos hlt] at hj
          split
          · rename_i hjn
            have := h5 j (by omega)
            simpa [List.getD] using this
          · rename_i hjn
            have := h5 (j + 1) (by omega)
            simpa [List.getD] using this
        refine ⟨_, rfl, hE.mput hb' h3 (by omega) hBR, Step.mput hE hb' h3 hpr hip, ?_⟩
        simp [Builtin.delete_, ht, run_underlying hu, checkKey_run hd hkey hk, MapKept.run_getObj_map h3, hrun, hset]
        rfl
  | _ => simp at h

theorem aClear_ok (hE : HRel E) {prot : Nat} {ts : Array TypeId} {ty t : TypeId} {m : AV} {m' : Value} {H' : Heap} {d : TypeDesc} (hip : E.ip ≤ prot) (ht : ts[0]? = some t) (hu : P.underlying t = some d) (hm : VRel E m m')
    (h : aClear prot E.H m = some H') : ∃ E', E'.H = H' ∧ HRel E' ∧ Step prot E E' ∧ (Builtin.clear_ ts ty #[m']).run P E.w = .ok (.tuple #[]) E'.w := by
  unfold aClear at h
  cases hm with
  | map r m0 hb hm0 =>
    dsimp only at h
    split at h
    case isFalse => cases h
    rename_i hpr
    simp only [Option.map_eq_some_iff] at h
    obtain ⟨es, hes, h⟩ := h
    obtain ⟨es', ck, h3, h4, h5⟩ := mapAt hE hes (hm0 es hes)
    obtain rfl := hm0 es hes
    have hb' := hmap_eq hes
    have hset : ∀ o, (setObj (E.ρ r).1 o).run P E.w = .ok () (setBlk E.w (E.ρ r).1 o) := fun o => by rw [MapKept.run_setObj_map o h3]; rfl
    subst h
    have hBR : BRel E (E.ρ r) (.map []) (.map #[] ck) := .map _ _ _ rfl fun j hj => by simp at hj
    refine ⟨_, rfl, hE.mput hb' h3 (by omega) hBR, Step.mput hE hb' h3 hpr hip, ?_⟩
    simp [Builtin.clear_, ht, run_underlying hu, MapKept.run_getObj_map h3, hset]
    rfl
  | _ => simp at h

end
end Go.Abs
