import Derived.Test.YtnipaiklandliaaGreatDoorAbsOps6
import Derived.Lib.UnsafeStr
namespace Go.Abs
open Go
section
variable {P : Program} {E : Env}
theorem keyT_spec {t k e : TypeId} (h : keyT P t = some (k, e)) : P.underlying t = some (.map k e) ∧ ∃ d, P.underlying k = some d ∧ ((∃ q, d = .int q) ∨ d = .string) := by
 unfold keyT at h
 split at h
 ·rename_i k' e' hu
  split at h
  ·rename_i q hk
   simp only [Option.some.injEq, Prod.mk.injEq] at h; obtain ⟨rfl, rfl⟩ := h
   exact ⟨hu, _, hk, .inl ⟨q, rfl⟩⟩
  ·rename_i hk
   simp only [Option.some.injEq, Prod.mk.injEq] at h; obtain ⟨rfl, rfl⟩ := h
   exact ⟨hu, _, hk, .inr rfl⟩
  ·cases h
 ·cases h
theorem bytes_beq (s t : List UInt8) : ((⟨s.toArray⟩ : ByteArray) == ⟨t.toArray⟩) = (s == t) := by
 rw [Bool.eq_iff_iff, MapKept.bytes_beq]
 simp
def KeyOf (d : TypeDesc) : AV → Prop
 | .str _ => d = .string
 | .int _ _ => ∃ q, d = .int q
 | _ => False
theorem keyFits_spec {k : TypeId} {d : TypeDesc} {x : AV} (hd : P.underlying k = some d) (h : keyFits P k x = true) : KeyOf d x := by
 unfold keyFits at h
 rw [hd] at h
 cases x <;> simp only [KeyOf, Bool.false_eq_true] at h ⊢
 ·cases d <;> simp_all
 ·cases d <;> simp_all
theorem keyEq_run {d : TypeDesc} {a b : AV} {a' b' : Value} {r : Bool} (hk : KeyOf d a) (ha : VRel E a a') (hb : VRel E b b') (h : keyEq a b = some r) : Instr.sameNow d a' b' = some r := by
 unfold keyEq at h
 split at h
 ·simp only [Option.some.injEq] at h; subst h
  cases ha; cases hb
  simp only [KeyOf] at hk; subst hk
  simp [Instr.sameNow, bytes_beq]
 ·cases ha; cases hb
  obtain ⟨q, rfl⟩ := hk
  split at h
  ·rename_i e; simp only [Option.some.injEq] at h; subst h; simp [Instr.sameNow, e]
  ·cases h
 ·cases h
theorem mfind_run {d : TypeDesc} {k : AV} {k' : Value} (hk : KeyOf d k) (hkr : VRel E k k') : ∀ (es : List (AV × AV)) (es' : List MapEntry) (i : Nat) (r : Option (Nat × AV)), es.length = es'.length →
  (∀ j (h : j < es.length), VRel E es[j].1 (es'.getD j default).key ∧ VRel E es[j].2 (es'.getD j default).val) → mfind k es i = some r →
  ∃ r', Instr.findNow d k' es' i = some r' ∧ match r, r' with
   | none, none => True
   | some (n, v), some (n', v') => n = n' ∧ VRel E v v' ∧ i ≤ n ∧ ∃ h : n - i < es.length, keyEq k es[n - i].1 = some true
   | _, _ => False := by
 intro es
 induction es with
 | nil =>
  intro es' i r hl _ h
  simp only [mfind, Option.some.injEq] at h; subst h
  have : es' = [] := List.length_eq_zero_iff.1 (by simpa using hl.symm)
  subst this
  exact ⟨none, rfl, trivial⟩
 | cons x es ih =>
  obtain ⟨a, v⟩ := x
  intro es' i r hl hr h
  cases es' with
  | nil => simp at hl
  | cons y es' =>
   simp only [mfind, Option.bind_eq_some_iff] at h
   obtain ⟨b, hb, h⟩ := h
   have h0 := hr 0 (by simp)
   simp only [List.getElem_cons_zero, List.getD_cons_zero] at h0
   have hs := keyEq_run hk hkr h0.1 hb
   cases b with
   | true =>
    simp only [if_true, Option.some.injEq] at h; subst h
    exact ⟨some (i, y.val), by simp [Instr.findNow, hs], rfl, h0.2, Nat.le_refl _, by simp, by simpa using hb⟩
   | false =>
    simp only [Bool.false_eq_true, if_false] at h
    obtain ⟨r', h1, h2⟩ := ih es' (i + 1) r (by simpa using hl) (fun j hj => by have := hr (j + 1) (by simpa using hj); simpa using this) h
    refine ⟨r', by simp [Instr.findNow, hs, h1], ?_⟩
    cases r with
    | none => cases r' with
     | none => exact trivial
     | some p => exact h2.elim
    | some p =>
     obtain ⟨n, u⟩ := p
     cases r' with
     | none => exact h2.elim
     | some p' =>
      obtain ⟨n', u'⟩ := p'
      obtain ⟨e1, e2, e3, hlt, e4⟩ := h2
      refine ⟨e1, e2, by omega, by simp; omega, ?_⟩
      have : n - i = (n - (i + 1)) + 1 := by omega
      simp only [this, List.getElem_cons_succ]; exact e4
theorem checkKey_run {k : TypeId} {d : TypeDesc} {x : AV} {x' : Value} (hd : P.underlying k = some d) (hk : KeyOf d x) (hx : VRel E x x') (b : Bool) (w : World) : (Instr.checkKey b 10000 k x').run P w = .ok () w := by
 have : ∀ n, (Instr.checkKey b (n + 1) k x').run P w = .ok () w := fun n => by
  unfold Instr.checkKey
  simp only [Sem.run_bind, run_underlying hd, Result.andThen_ok]
  cases hx <;> simp only [KeyOf] at hk
  ·obtain ⟨q, rfl⟩ := hk; rfl
  ·subst hk; rfl
 exact this 9999
theorem find_ne {k : AV} {es : List (AV × AV)} {rr : Option (Nat × AV)} (h : mfind k es 0 = some rr) : ∀ s j, es ≠ itB s j := by
 rintro s j rfl
 simp only [itB, mfind] at h
 have : keyEq k (.tup []) = none := by cases k <;> rfl
 rw [this] at h; cases h
theorem fit_key {kt : TypeId} {k : AV} (h : keyFits P kt k = true) : mfitK k = true := by
 cases k <;> first | rfl | cases h
theorem mfit_modify {k v : AV} : ∀ {es : List (AV × AV)} {n : Nat}, mfit es = true → mfitK k = true → mfit (es.modify n fun _ => (k, v)) = true
 | [], n, _, _ => by cases n <;> rfl
 | e :: es, 0, h, hk => by
  simp only [mfit, List.all_cons, Bool.and_eq_true, List.modify_zero_cons] at h ⊢
  exact ⟨hk, h.2⟩
 | e :: es, n + 1, h, hk => by
  simp only [mfit, List.all_cons, Bool.and_eq_true, List.modify_succ_cons] at h ⊢
  exact ⟨h.1, mfit_modify (es := es) h.2 hk⟩
theorem mfit_erase {es : List (AV × AV)} {n : Nat} (h : mfit es = true) : mfit (es.eraseIdx n) = true := by
 unfold mfit at h ⊢
 rw [List.all_eq_true] at h ⊢
 exact fun e he => h e (List.mem_of_mem_eraseIdx he)
theorem mapAt (hE : HRel E) {r m : Nat} {es : List (AV × AV)} (h : hmap E.H r = some es) (hm : m = (E.ρ r).1) (hne : ∀ s k, es ≠ itB s k) :
  ∃ es' ck, E.w.heap[m]? = some (.map es' ck) ∧ es.length = es'.toList.length ∧ (∀ j (h : j < es.length), VRel E es[j].1 (es'.toList.getD j default).key ∧ VRel E es[j].2 (es'.toList.getD j default).val) ∧ mfit es = true := by
 subst hm
 obtain ⟨es', ck, h1, h2, h3, h4⟩ : ∃ es' ck, E.w.heap[(E.ρ r).1]? = some (.map es' ck) ∧ es.length = es'.size ∧ (∀ j (h : j < es.length), VRel E es[j].1 (es'.getD j default).key ∧ VRel E es[j].2 (es'.getD j default).val) ∧ mfit es = true := by
  obtain ⟨o, hh, hr⟩ := hE.maps _ _ (hmap_eq h)
  cases hr with
  | map _ es' ck hf hl hr => exact ⟨es', ck, hh, hl, hr, hf⟩
  | it s k => exact absurd rfl (hne s k)
 refine ⟨es', ck, h1, by simpa using h2, fun j hj => ?_, h4⟩
 have := h3 j hj
 simpa [Array.getD_eq_getD_getElem?, List.getD] using this
theorem aLookup_ok (hE : HRel E) {t : TypeId} {m k r : AV} {m' k' : Value} {ok : Bool} (hm : VRel E m m') (hk : VRel E k k') (h : aLookup P E.H t m k ok = some r) :
  ∃ v', (Instr.lookup t m' k' ok).run P E.w = .ok v' E.w ∧ VRel E r v' := by
 unfold aLookup at h
 simp only [Option.bind_eq_some_iff] at h
 obtain ⟨⟨kt, e⟩, hkt, h⟩ := h
 dsimp only at h
 obtain ⟨hu, d, hd, _⟩ := keyT_spec hkt
 split at h
 case isFalse => cases h
 rename_i hfit
 have hkey := keyFits_spec hd hfit
 simp only [Option.bind_eq_some_iff, Option.map_eq_some_iff] at h
 obtain ⟨es, hes, rr, hf, ⟨v, b⟩, hvb, rfl⟩ := h
 have fin : ∀ (esl : List MapEntry), es.length = esl.length → (∀ j (h : j < es.length), VRel E es[j].1 (esl.getD j default).key ∧ VRel E es[j].2 (esl.getD j default).val) →
   ∃ fk u, (Instr.findKey kt k' esl).run P E.w = .ok fk E.w ∧ VRel E v u ∧ ((∃ n, fk = some (n, u) ∧ b = true) ∨ fk = none ∧ (zeroValue e).run P E.w = .ok u E.w ∧ b = false) := by
  intro esl hl hr
  obtain ⟨r', h1, h2⟩ := mfind_run hkey hk es esl 0 rr hl hr hf
  have hrun := MapKept.run_findKey (P := P) (w := E.w) hd h1
  cases rr with
  | none =>
   cases r' with
   | some p => exact h2.elim
   | none =>
    simp only [Option.map_eq_some_iff, Prod.mk.injEq] at hvb
    obtain ⟨z, hz, rfl, rfl⟩ := hvb
    obtain ⟨zv, hzr, hzv, _⟩ := zeroT_run hz
    exact ⟨none, zv, hrun, hzv E, .inr ⟨rfl, hzr _, rfl⟩⟩
  | some p =>
   obtain ⟨n, u⟩ := p
   cases r' with
   | none => exact h2.elim
   | some p' =>
    obtain ⟨n', u'⟩ := p'
    simp only [Option.some.injEq, Prod.mk.injEq] at hvb
    obtain ⟨rfl, rfl⟩ := hvb
    exact ⟨_, u', hrun, h2.2.1, .inl ⟨n', rfl, rfl⟩⟩
 have pack : ∀ (u : Value), VRel E v u → VRel E (if ok then .tup [v, .bool b] else v) (if ok then .tuple #[u, .bool b] else u) := fun u hu => by
  cases ok
  ·exact hu
  ·refine .tup _ _ rfl fun j hj => ?_
   match j, hj with
   | 0, _ => exact hu
   | 1, _ => exact .bool b
 cases hm with
 | nilM =>
  simp only [Option.some.injEq] at hes; subst hes
  obtain ⟨fk, u, h1, h2, h3⟩ := fin [] rfl (fun j hj => by simp at hj)
  refine ⟨_, ?_, pack u h2⟩
  rcases h3 with ⟨n, rfl, rfl⟩ | ⟨rfl, hz, rfl⟩
  ·simp [Instr.lookup, run_underlying hu, checkKey_run hd hkey hk, h1]
  ·simp [Instr.lookup, run_underlying hu, checkKey_run hd hkey hk, h1, hz]
 | map r0 m0 hb hm0 =>
  obtain ⟨es', ck, h3, h4, h5, h6⟩ := mapAt hE hes (hm0 es hes) (find_ne hf)
  obtain ⟨fk, u, h1, h2, h6⟩ := fin es'.toList h4 h5
  refine ⟨_, ?_, pack u h2⟩
  rcases h6 with ⟨n, rfl, rfl⟩ | ⟨rfl, hz, rfl⟩
  ·simp [Instr.lookup, run_underlying hu, checkKey_run hd hkey hk, MapKept.run_getObj_map h3, h1]
  ·simp [Instr.lookup, run_underlying hu, checkKey_run hd hkey hk, MapKept.run_getObj_map h3, h1, hz]
 | _ => simp at hes
theorem sameBits_run {k x : AV} {k' x' : Value} (hk : VRel E k k') (hx : VRel E x x') (h : keyEq k x = some true) : Instr.sameBits 10000 x' k' = true := by
 unfold keyEq at h
 split at h
 ·cases hk; cases hx
  simp only [Option.some.injEq, beq_iff_eq] at h; subst h
  exact (MapKept.bytes_beq _ _).2 rfl
 ·cases hk; cases hx
  split at h
  ·rename_i e; simp only [Option.some.injEq, beq_iff_eq] at h; subst h e
   show (_ == _ && _ == _) = true
   simp
  ·cases h
 ·cases h
theorem aMapPut_ok (hE : HRel E) {prot : Nat} {t : TypeId} {m k v : AV} {m' k' v' : Value} {H' : Heap} (hip : E.ip ≤ prot) (hm : VRel E m m') (hk : VRel E k k') (hv : VRel E v v')
  (h : aMapPut P prot E.H t m k v = some H') : ∃ E', E'.H = H' ∧ HRel E' ∧ Step prot E E' ∧ (Instr.mapUpdate t m' k' v').run P E.w = .ok () E'.w := by
 unfold aMapPut at h
 simp only [Option.bind_eq_some_iff] at h
 obtain ⟨⟨kt, e⟩, hkt, h⟩ := h
 dsimp only at h
 obtain ⟨hu, d, hd, _⟩ := keyT_spec hkt
 split at h
 case isFalse => cases h
 rename_i hfit
 have hkey := keyFits_spec hd hfit
 cases hm with
 | map r m0 hb hm0 =>
  dsimp only at h
  split at h
  case isFalse => cases h
  rename_i hpr
  simp only [Option.bind_eq_some_iff, Option.map_eq_some_iff] at h
  obtain ⟨es, hes, rr, hf, h⟩ := h
  obtain ⟨es', ck, h3, h4, h5, h6⟩ := mapAt hE hes (hm0 es hes) (find_ne hf)
  obtain rfl := hm0 es hes
  obtain ⟨r', h1, h2⟩ := mfind_run hkey hk es es'.toList 0 rr h4 h5 hf
  have hrun := MapKept.run_findKey (P := P) (w := E.w) hd h1
  have hb' := hmap_eq hes
  have hset : ∀ o, (setObj (E.ρ r).1 o).run P E.w = .ok () (setBlk E.w (E.ρ r).1 o) := fun o => by rw [MapKept.run_setObj_map o h3]; rfl
  cases rr with
  | none =>
   cases r' with
   | some p => exact h2.elim
   | none =>
    subst h
    have hBR : BRel E (E.ρ r) (.map (es ++ [(k, v)])) (.map (es'.push { key := k', val := v', born := ck }) (ck + 1)) := by
     refine .map _ _ (.map _ _ _ (by unfold mfit at h6 ⊢; rw [List.all_append, h6]; simp [fit_key hfit]) (by simpa using h4) fun j hj => ?_)
     by_cases hjl : j < es.length
     ·have := h5 j hjl
      rw [List.getElem_append_left hjl]
      have hs : j < es'.size := by rw [h4] at hjl; simpa using hjl
      simpa [Array.getD_eq_getD_getElem?, Array.getElem?_push_lt hs, List.getD, hs] using this
     ·have hje : j = es.length := by simp at hj; omega
      subst hje
      have hs : es.length = es'.size := by simpa using h4
      simp only [hs, Array.getD_eq_getD_getElem?, Array.getElem?_push_size, Option.getD_some]
      simp only [← hs, List.getElem_append_right (Nat.le_refl _), Nat.sub_self, List.getElem_cons_zero]
      exact ⟨hk, hv⟩
    refine ⟨_, rfl, hE.mput hb' h3 (by simp) (by omega) hBR, Step.mput hE hb' h3 (by simp) hpr hip, ?_⟩
    simp [Instr.mapUpdate, run_underlying hu, checkKey_run hd hkey hk, MapKept.run_getObj_map h3, hrun, hset]
    rfl
  | some p =>
   obtain ⟨n, u⟩ := p
   cases r' with
   | none => exact h2.elim
   | some p' =>
    obtain ⟨n', u'⟩ := p'
    obtain ⟨rfl, hu', _, hlt, hke⟩ := h2
    simp only [Nat.sub_zero] at hlt hke
    subst h
    have hs : n < es'.size := by rw [h4] at hlt; simpa using hlt
    have hold := (h5 n hlt).1
    have hkeep : (Instr.keyThatStays (((es'[n]?).map (·.key)).getD k') k').run P E.w = .ok k' E.w := by
     have : Instr.sameBits 10000 (((es'[n]?).map (·.key)).getD k') k' = true := by
      refine sameBits_run hk ?_ hke
      simpa [List.getD, hs] using hold
     simp [Instr.keyThatStays, this]
    have hBR : BRel E (E.ρ r) (.map (es.modify n fun _ => (k, v))) (.map (es'.modify n fun e => { e with key := k', val := v' }) ck) := by
     refine .map _ _ (.map _ _ _ (mfit_modify h6 (fit_key hfit)) (by simpa using h4) fun j hj => ?_)
     have hjl : j < es.length := by simpa using hj
     have hsj : j < es'.size := by rw [h4] at hjl; simpa using hjl
     rw [List.getElem_modify, Array.getD_eq_getD_getElem?, Array.getElem?_modify]
     by_cases e1 : n = j
     ·subst e1
      simp only [if_true, Array.getElem?_eq_getElem hsj, Option.map_some, Option.getD_some]
      exact ⟨hk, hv⟩
     ·simp only [e1, if_false]
      have := h5 j hjl
      simpa [List.getD, hsj] using this
    refine ⟨_, rfl, hE.mput hb' h3 (by simp) (by omega) hBR, Step.mput hE hb' h3 (by simp) hpr hip, ?_⟩
    simp [Instr.mapUpdate, run_underlying hu, checkKey_run hd hkey hk, MapKept.run_getObj_map h3, hrun, hkeep, hset]
    rfl
 | _ => simp at h
theorem aDelete_ok (hE : HRel E) {prot : Nat} {ts : Array TypeId} {ty t : TypeId} {m k : AV} {m' k' : Value} {H' : Heap} (hip : E.ip ≤ prot) (ht : ts[0]? = some t) (hm : VRel E m m') (hk : VRel E k k')
  (h : aDelete P prot E.H t m k = some H') : ∃ E', E'.H = H' ∧ HRel E' ∧ Step prot E E' ∧ (Builtin.delete_ ts ty #[m', k']).run P E.w = .ok (.tuple #[]) E'.w := by
 unfold aDelete at h
 simp only [Option.bind_eq_some_iff] at h
 obtain ⟨⟨kt, e⟩, hkt, h⟩ := h
 dsimp only at h
 obtain ⟨hu, d, hd, _⟩ := keyT_spec hkt
 split at h
 case isFalse => cases h
 rename_i hfit
 have hkey := keyFits_spec hd hfit
 cases hm with
 | map r m0 hb hm0 =>
  dsimp only at h
  split at h
  case isFalse => cases h
  rename_i hpr
  simp only [Option.bind_eq_some_iff, Option.map_eq_some_iff] at h
  obtain ⟨es, hes, rr, hf, h⟩ := h
  obtain ⟨es', ck, h3, h4, h5, h6⟩ := mapAt hE hes (hm0 es hes) (find_ne hf)
  obtain rfl := hm0 es hes
  obtain ⟨r', h1, h2⟩ := mfind_run hkey hk es es'.toList 0 rr h4 h5 hf
  have hrun := MapKept.run_findKey (P := P) (w := E.w) hd h1
  have hb' := hmap_eq hes
  have hset : ∀ o, (setObj (E.ρ r).1 o).run P E.w = .ok () (setBlk E.w (E.ρ r).1 o) := fun o => by rw [MapKept.run_setObj_map o h3]; rfl
  cases rr with
  | none =>
   cases r' with
   | some p => exact h2.elim
   | none =>
    subst h
    have hself : setBlk E.w (E.ρ r).1 (.map es' ck) = E.w := setBlk_self h3
    refine ⟨E, rfl, hE, Step.refl _ _, ?_⟩
    simp [Builtin.delete_, ht, run_underlying hu, checkKey_run hd hkey hk, MapKept.run_getObj_map h3, hrun, hset, hself]
  | some p =>
   obtain ⟨n, u⟩ := p
   cases r' with
   | none => exact h2.elim
   | some p' =>
    obtain ⟨n', u'⟩ := p'
    obtain ⟨rfl, hu', _, hlt, hke⟩ := h2
    simp only [Nat.sub_zero] at hlt hke
    subst h
    have hs : n < es'.size := by rw [h4] at hlt; simpa using hlt
    have hBR : BRel E (E.ρ r) (.map (es.eraseIdx n)) (.map (es'.eraseIdxIfInBounds n) ck) := by
     have hsz : (es'.eraseIdxIfInBounds n).toList = es'.toList.eraseIdx n := by simp [Array.eraseIdxIfInBounds, hs]
     have hle : es.length = es'.size := by simpa using h4
     refine .map _ _ (.map _ _ _ (mfit_erase h6) (by rw [← Array.length_toList, hsz, List.length_eraseIdx, List.length_eraseIdx, h4]) fun j hj => ?_)
     have hg : (es'.eraseIdxIfInBounds n).getD j default = (es'.toList.eraseIdx n).getD j default := by
      rw [← hsz, Array.getD_eq_getD_getElem?, List.getD, Array.getElem?_toList]
     rw [hg, List.getElem_eraseIdx]
     simp only [List.getD, List.getElem?_eraseIdx]
     rw [List.length_eraseIdx, if_pos hlt] at hj
     split
     ·rename_i hjn
      have := h5 j (by omega)
      simpa [List.getD] using this
     ·rename_i hjn
      have := h5 (j + 1) (by omega)
      simpa [List.getD] using this
    refine ⟨_, rfl, hE.mput hb' h3 (by simp) (by omega) hBR, Step.mput hE hb' h3 (by simp) hpr hip, ?_⟩
    simp [Builtin.delete_, ht, run_underlying hu, checkKey_run hd hkey hk, MapKept.run_getObj_map h3, hrun, hset]
    rfl
 | _ => simp at h
theorem aClear_ok (hE : HRel E) {prot : Nat} {ts : Array TypeId} {ty t : TypeId} {m : AV} {m' : Value} {H' : Heap} {d : TypeDesc} (hip : E.ip ≤ prot) (ht : ts[0]? = some t) (hu : P.underlying t = some d) (hm : VRel E m m')
  (h : aClear prot E.H m = some H') : ∃ E', E'.H = H' ∧ HRel E' ∧ Step prot E E' ∧ (Builtin.clear_ ts ty #[m']).run P E.w = .ok (.tuple #[]) E'.w := by
 unfold aClear at h
 cases hm with
 | map r m0 hb hm0 =>
  dsimp only at h
  split at h
  case isFalse => cases h
  rename_i hpr
  simp only [Option.bind_eq_some_iff] at h
  obtain ⟨es, hes, h⟩ := h
  split at h
  case isFalse => cases h
  rename_i hfit
  simp only [Option.some.injEq] at h
  obtain ⟨es', ck, h3, h4, h5, h6⟩ := mapAt hE hes (hm0 es hes) (by rintro s k rfl; cases hfit)
  obtain rfl := hm0 es hes
  have hb' := hmap_eq hes
  have hset : ∀ o, (setObj (E.ρ r).1 o).run P E.w = .ok () (setBlk E.w (E.ρ r).1 o) := fun o => by rw [MapKept.run_setObj_map o h3]; rfl
  subst h
  have hBR : BRel E (E.ρ r) (.map []) (.map #[] ck) := BRel.map _ _ (.map _ _ _ rfl rfl fun j hj => by simp at hj)
  refine ⟨_, rfl, hE.mput hb' h3 (by simp) (by omega) hBR, Step.mput hE hb' h3 (by simp) hpr hip, ?_⟩
  simp [Builtin.clear_, ht, run_underlying hu, MapKept.run_getObj_map h3, hset]
  rfl
 | _ => simp at h
theorem equal_ptr {t e : TypeId} {n : Nat} (hu : P.underlying t = some (.pointer e)) (hn : sizeT P e = some n) (h0 : n ≠ 0) (p : Nat × Nat) (o o' : Nat) (w : World) :
  (Op.equal t (.pointer (some (at0 p o))) (.pointer (some (at0 p o')))).run P w = .ok (o == o') w := by
 show (Op.equalIn (9999 + 1) t _ _).run P w = _
 rw [Op.equalIn]
 have hsz := sizeT_run hn w
 simp [run_underlying hu, hsz, h0, sameAddr, at0]
 by_cases h : o = o'
 ·subst h; simp
 ·have : ¬ p.2 + o = p.2 + o' := by omega
  rw [beq_eq_false_iff_ne.2 h, beq_eq_false_iff_ne]
  intro hh
  exact this (congrArg Addr.off hh)
theorem aBinH_ok {op : BinOp} {t : TypeId} {xo yo : Operand} {x y r : AV} {x' y' : Value} (hx : VRel E x x') (hy : VRel E y y') (h : aBinH P E.H op t xo yo x y = some r) :
  ∃ v', (do eqGuard op t xo yo x' y'; binOp op t x' y').run P E.w = .ok v' E.w ∧ VRel E r v' := by
 unfold aBinH at h
 split at h
 ·rename_i e b v o b' v' o' hu
  simp only [Option.bind_eq_some_iff] at h
  obtain ⟨n, hn, cs, hcs, h⟩ := h
  split at h
  case isFalse => cases h
  rename_i hc
  obtain ⟨h0, rfl, rfl⟩ := hc
  cases hx with
  | ptr _ _ _ a hb hv ha =>
   cases hy with
   | ptr _ _ _ a' hb' hv' ha' =>
    obtain rfl := ha cs hcs
    obtain rfl := ha' cs hcs
    have heq := fun w => equal_ptr hu hn h0 (E.ρ b) o o' w
    split at h
    ·simp only [Option.some.injEq] at h
     subst h
     exact ⟨_, by simp [eqGuard, binOp, heq], .bool _⟩
    ·simp only [Option.some.injEq] at h
     subst h
     exact ⟨_, by simp [eqGuard, binOp, heq], .bool _⟩
    ·cases h
 ·rename_i ms s v u w hu
  split at h
  ·exact aBin_ok hx hy h
  ·rename_i hne
   cases hx with
   | iface _ _ v1 _ =>
    cases hy with
    | iface _ _ w1 _ =>
     have hd : ∀ d : Nat, (Op.equalIn (d + 1) t (.iface s v1) (.iface u w1)).run P E.w = .ok false E.w := fun d => by simp [Op.equalIn, run_underlying hu, hne]
     have he : (Op.equal t (.iface s v1) (.iface u w1)).run P E.w = .ok false E.w := by simp [Op.equal, Op.maxDepth, hd 9999]
     split at h
     ·simp only [Option.some.injEq] at h
      subst h
      exact ⟨_, by simp [eqGuard, binOp, he], .bool _⟩
     ·simp only [Option.some.injEq] at h
      subst h
      exact ⟨_, by simp [eqGuard, binOp, he], .bool _⟩
     ·cases h
 ·exact aBin_ok hx hy h
theorem sliceData_ok {s : BS} {s' : Value} (ts : Array TypeId) (ty : TypeId) (hx : VRel E (.bs s) s') (h0 : 0 < s.len) :
  ∃ v', (Builtin.unsafeSliceData_ ts ty #[s']).run P E.w = .ok v' E.w ∧ VRel E (.ptr s.b s.ver s.off) v' := by
 cases hx with
 | bs _ a c hb hv hl hxx h => exact ⟨_, Lib.run_unsafeSliceData_row E.w ts ty a s.len c (by omega), .ptr _ _ _ _ hb hv fun cs hcs => (h cs hcs).1⟩
theorem bytesOk_spec : ∀ {ws : List AV} {l : List UInt8}, bytesOk ws = true → bytesOf ws = some l → l.length = ws.length ∧ ∀ (j : Nat) (x : UInt8), l[j]? = some x → ws[j]? = some (AV.int .u8 (x.toNat : Int))
 | [], l, _, h => by simp only [bytesOf, Option.some.injEq] at h; subst h; simp
 | .int .u8 n :: r, l, hb, h => by
  simp only [bytesOf, Option.map_eq_some_iff] at h
  obtain ⟨l', h1, rfl⟩ := h
  simp only [bytesOk, Bool.and_eq_true, decide_eq_true_eq] at hb
  obtain ⟨h2, h3⟩ := bytesOk_spec hb.2 h1
  refine ⟨by simp [h2], fun j x hx => ?_⟩
  cases j with
  | zero =>
   simp only [List.getElem?_cons_zero, Option.some.injEq] at hx ⊢
   subst hx
   have : (UInt8.ofNat n.toNat).toNat = n.toNat := by
    simp only [UInt8.toNat_ofNat']
    omega
   rw [this, Int.toNat_of_nonneg hb.1.1]
  | succ j => simpa using h3 j x (by simpa using hx)
theorem freeze_ne {w : World} {a : Addr} {n k : Nat} (h : k ≠ a.block) : (w.freeze a n).heap[k]? = w.heap[k]? := by
 unfold World.freeze
 split
 ·rfl
 ·simp [Array.getElem?_modify, Ne.symm h]
theorem freeze_eq {w : World} {a : Addr} {n : Nat} {cc : Array Value} {e : TypeId} {z : Nat × Nat} (h : w.heap[a.block]? = some (.cells cc e z)) : ∃ z', (w.freeze a n).heap[a.block]? = some (.cells cc e z') := by
 unfold World.freeze
 split
 ·exact ⟨z, h⟩
 ·simp [Array.getElem?_modify, h]
theorem unsafeString_ok (hE : HRel E) {prot b ver : Nat} {cs ws : List AV} {l : List UInt8} {p' : Value} {pt it ty : TypeId} (hip : E.ip ≤ prot) (hb : prot ≤ b) (hx : VRel E (.ptr b ver 0) p') (hv : ver % 4 = 2) (hc5 : P.cellsOf 5 = 1)
  (hp : P.underlying pt = some (.pointer 5)) (hcs : hget E.H b ver = some cs) {n : Int} (hn0 : 0 < n) (hn : n ≤ 9223372036854775807) (hw : win cs 0 n.toNat = some ws) (hok : bytesOk ws = true) (hl : bytesOf ws = some l) :
  Outcome1 P E prot (Builtin.unsafeString_ #[pt, it] ty #[p', .int .i64 n]) (.str l) (some (E.H.set b .dead)) := by
 have hbk := alive_of_hget hcs
 have hal : alive E.H b := .inl ⟨_, _, hbk⟩
 obtain ⟨cc, e, z, hh, hle, hz, hr⟩ := hE.cells _ _ _ hbk
 obtain ⟨cc', e', z', hh', htag⟩ := hE.tag _ _ _ hbk
 rw [hh] at hh'; cases hh'
 obtain ⟨he, hp2⟩ := htag.2.1 hv
 obtain ⟨hl1, hl2⟩ := bytesOk_spec hok hl
 obtain ⟨hw1, hw2, hw3⟩ := win_spec hw
 have hlen : l.length = n.toNat := by omega
 have hln : (l.length : Int) = n := by omega
 cases hx with
 | ptr _ _ _ a hblt hvv ha =>
  obtain rfl := ha cs hcs
  have hat : at0 (E.ρ b) 0 = ⟨(E.ρ b).1, 0, none⟩ := by simp [at0, hp2]
  have hcell : ∀ j x, l[j]? = some x → E.w.cell? ((⟨(E.ρ b).1, 0, none⟩ : Addr).add j) = some (.int .u8 x.toNat) := fun j x hx => by
   have h1 := hl2 j x hx
   rw [hw2] at h1
   have hj : j < n.toNat := by
    have := (List.getElem?_eq_some_iff.1 hx).1
    omega
   have h2 : cs[j]? = some (.int .u8 x.toNat) := by
    simpa [List.getElem?_take_of_lt hj] using h1
   obtain ⟨hjc, h3⟩ := List.getElem?_eq_some_iff.1 h2
   obtain ⟨u, h5, h4⟩ := hE.cell hcs j hjc
   rw [h3] at h4
   cases h4
   have e : (⟨(E.ρ b).1, 0, none⟩ : Addr).add j = ⟨(E.ρ b).1, j, none⟩ := by
    unfold Addr.add
    by_cases hj0 : j = 0 <;> simp [hj0]
   rw [e]
   have e2 : at0 (E.ρ b) j = ⟨(E.ρ b).1, j, none⟩ := by simp [at0, hp2]
   rw [e2] at h5
   exact h5
  have hsh : E.w.shape? (E.ρ b).1 = some (5, cc.size) := by simp [World.shape?, hh, he]
  have hrun := Lib.run_unsafeString_row E.w pt it ty 5 hp hc5 (E.ρ b).1 cc.size hsh l (by intro h; subst h; simp at hlen; omega) (by omega) (by omega) hcell
  rw [hln, ← hat] at hrun
  let E' : Env := { E with H := E.H.set b .dead, w := E.w.freeze (at0 (E.ρ b) 0) l.length }
  have hne : ∀ x, alive E'.H x → x ≠ b := by
   rintro x hx rfl
   rcases hx with ⟨v, c, h⟩ | ⟨es, h⟩ <;> simp [E', List.getElem?_set_self hblt] at h
  have hsame : ∀ {x : Nat}, x ≠ b → E'.H[x]? = E.H[x]? := fun h => by simp [E', List.getElem?_set_ne (Ne.symm h)]
  have halive : ∀ {x : Nat}, alive E'.H x → alive E.H x := fun {x} h => by
   have := hsame (hne x h)
   unfold alive at *; rw [← this]; exact h
  have hheap : ∀ {k : Nat}, k ≠ (E.ρ b).1 → E'.w.heap[k]? = E.w.heap[k]? := fun h => freeze_ne (a := at0 (E.ρ b) 0) h
  have hsize : E'.w.heap.size = E.w.heap.size := by
   simp only [E', World.freeze]
   split <;> simp
  have hst : Step prot E E' := by
   refine ⟨by simp [E'], fun x v' cs' hx hc => ?_, fun x es' hx hm => ?_, fun cb hi => ?_, fun cb cc2 e2 z2 h => ?_, fun x hx hxl => ?_, by omega, ?_, ?_, ?_, rfl, rfl⟩
   ·have := hsame (hne x (.inl ⟨_, _, hc⟩))
    rw [this] at hc
    exact ⟨v', cs', hc, Nat.le_refl _, fun _ => rfl⟩
   ·have hc := hmap_eq hm
    rw [hsame (hne x (.inr ⟨_, hc⟩))] at hc
    exact ⟨⟨es', hmap_of hc⟩, rfl⟩
   ·have hcb : cb ≠ (E.ρ b).1 := fun h => hi.2 ⟨b, by omega, hal, h.symm⟩
    exact ⟨⟨by rw [hsize]; exact hi.1, fun ⟨x, h1, h2, h3⟩ => hi.2 ⟨x, h1, halive h2, h3⟩⟩, hheap hcb⟩
   ·by_cases hcb : cb = (E.ρ b).1
    ·subst hcb
     obtain ⟨z3, h3⟩ := freeze_eq (w := E.w) (a := at0 (E.ρ b) 0) (n := l.length) h
     exact ⟨cc2, z3, h3, rfl⟩
    ·exact ⟨cc2, z2, (hheap hcb).trans h, rfl⟩
   ·have hxb : x ≠ b := by omega
    exact ⟨hsame hxb, rfl, fun ha => hheap fun h => hxb (hE.inj x b ha hal h)⟩
   ·simp only [E', World.freeze]; split <;> rfl
   ·simp only [E', World.freeze]; split <;> rfl
   ·simp only [E', World.freeze]; split <;> rfl
  refine ⟨_, E', hrun, rfl, ?_, hst, .str l⟩
  refine .mk' (fun x blk hx ha => ?_) (fun x y hx hy h => hE.inj x y (halive hx) (halive hy) h) (fun x hx => hE.ge x (halive hx)) (by rw [hsize]; exact hE.lo)
  have hxb := hne x ha
  rw [hsame hxb] at hx
  obtain ⟨o, ho, hro⟩ := hE.blk hx (halive ha)
  exact ⟨o, by rw [← ho]; exact hheap fun h => hxb (hE.inj x b (halive ha) hal h), hro.mono hst.all⟩
theorem aRange_ok (hE : HRel E) {prot : Nat} {t : TypeId} {x r : AV} {x' : Value} {h : Option Heap} (hx : VRel E x x') (hh : aRange P E.H t x = some (r, h)) : Outcome1 P E prot (Instr.range t x') r h := by
 unfold aRange at hh
 split at hh
 ·rename_i s hu
  simp only [Option.some.injEq, Prod.mk.injEq] at hh
  obtain ⟨rfl, rfl⟩ := hh
  cases hx
  refine ⟨.pointer (some ⟨E.w.heap.size, 0, none⟩), E.alloc (.map (itB s 0)) (.stringIter ⟨s.toArray⟩ 0), ?_, rfl, hE.alloc _ _ (.map _ _ (.it s 0)), Step.alloc prot hE _ _, .it _ _ (by simp [Env.alloc]) fun es _ => by simp [Env.alloc, upd]⟩
  simp only [Instr.range, Sem.run_bind, run_underlying hu, Result.andThen_ok]
  rfl
 ·cases hh
theorem itB_inj {s s' : List UInt8} {k k' : Nat} (h : itB s k = itB s' k') : s = s' ∧ k = k' := by
 simp only [itB, List.cons.injEq, Prod.mk.injEq, AV.tup.injEq, AV.str.injEq, AV.int.injEq, and_true, true_and] at h
 exact ⟨h.1, by omega⟩
theorem hit_eq {H : Heap} {r k : Nat} {s : List UInt8} (h : hit H r = some (s, k)) : hmap H r = some (itB s k) := by
 unfold hit at h
 split at h
 ·rename_i s' k' hm
  split at h
  ·rename_i h0
   simp only [Option.some.injEq, Prod.mk.injEq] at h
   obtain ⟨rfl, rfl⟩ := h
   rw [hm]
   have : ((k'.toNat : Nat) : Int) = k' := by omega
   simp only [itB, this]
  ·cases h
 ·cases h
theorem itAt (hE : HRel E) {r k : Nat} {s : List UInt8} (h : hit E.H r = some (s, k)) : E.w.heap[(E.ρ r).1]? = some (.stringIter ⟨s.toArray⟩ k) := by
 obtain ⟨o, hh, hr⟩ := hE.maps _ _ (hmap_eq (hit_eq h))
 rw [hh]
 generalize hes : itB s k = es at hr
 cases hr with
 | map _ es' ck hf _ _ => rw [← hes] at hf; cases hf
 | it s' k' =>
  obtain ⟨rfl, rfl⟩ := itB_inj hes
  rfl
theorem aNext_ok (hE : HRel E) {prot : Nat} (hip : E.ip ≤ prot) {x r : AV} {x' : Value} {h : Option Heap} {ty : TypeId} (hx : VRel E x x') (hh : aNext prot E.H x = some (r, h)) : Outcome1 P E prot (Instr.next x' true ty) r h := by
 unfold aNext at hh
 split at hh
 ·rename_i b
  split at hh
  case isFalse => cases hh
  rename_i hpr
  rw [Option.map_eq_some_iff] at hh
  obtain ⟨⟨s, k⟩, hi, hh⟩ := hh
  dsimp only at hh
  have hw := itAt hE hi
  have hm := hmap_eq (hit_eq hi)
  cases hx with
  | it _ m hb hm0 =>
   obtain rfl := hm0 _ (hit_eq hi)
   have hsz : (⟨s.toArray⟩ : ByteArray).size = s.length := rfl
   have hget : (getObj (E.ρ b).1).run P E.w = .ok (.stringIter ⟨s.toArray⟩ k) E.w := by simp [getObj, Sem.run, hw]
   split at hh
   ·rename_i hlt
    simp only [Prod.mk.injEq] at hh
    obtain ⟨rfl, rfl⟩ := hh
    have hBR : BRel E (E.ρ b) (.map (itB s (k + (Utf8.decode ⟨s.toArray⟩ k).2))) (.stringIter ⟨s.toArray⟩ (k + (Utf8.decode ⟨s.toArray⟩ k).2)) := .map _ _ (.it _ _)
    have hset : ∀ o, (setObj (E.ρ b).1 o).run P E.w = .ok () (setBlk E.w (E.ρ b).1 o) := fun o => by simp [setObj, Sem.run, hw, setBlk]
    refine ⟨.tuple #[.bool true, goInt k, .int .i32 (Utf8.decode ⟨s.toArray⟩ k).1], _, ?_, rfl, hE.mput hm hw (by simp) (by omega) hBR, Step.mput hE hm hw (by simp) hpr hip, ?_⟩
    ·simp only [Instr.next, Sem.run_bind, hget, Result.andThen_ok, hsz, hlt, if_true, hset, Sem.run_pure]
     rfl
    ·refine .tup _ _ rfl fun j hj => ?_
     match j, hj with
     | 0, _ => exact .bool _
     | 1, _ => exact .int _ _
     | 2, _ => exact .int _ _
   ·rename_i hlt
    simp only [Prod.mk.injEq] at hh
    obtain ⟨rfl, rfl⟩ := hh
    refine ⟨.tuple #[.bool false], E, ?_, rfl, hE, Step.refl _ _, .tup _ _ rfl fun j hj => ?_⟩
    ·simp only [Instr.next, Sem.run_bind, hget, Result.andThen_ok, hsz, hlt, if_false, Sem.run_pure]
    ·match j, hj with
     | 0, _ => exact .bool _
 ·cases hh
end
end Go.Abs

