import Derived.Test.YtnipaiklandliaaGreatDoorAbsOps7
import Derived.Stop.Asserts
namespace Go.Abs
open Go
section
variable {P : Program} {E : Env}
theorem gload_ok (hE : HRel E) {t : TypeId} {g : Nat} {r : AV} (h : gload P t E.H g = some r) :
  ∃ v', (Instr.loadAt t (.pointer (some ⟨g, 0, none⟩))).run P E.w = .ok v' E.w ∧ VRel E r v' := by
 simp only [gload, Option.bind_eq_some_iff] at h
 obtain ⟨cs, hc, h⟩ := h
 obtain ⟨v', h1, h2⟩ := (hE.cellsAt hc).loadVar h
 obtain ⟨cc, e, z, _, ht⟩ := hE.tag _ _ _ (alive_of_hget hc)
 have h3 : gver g % 4 = 3 := by unfold gver; omega
 have h4 : gver g / 4 = g := by unfold gver; omega
 obtain ⟨e1, e2⟩ := ht.2.2 h3
 rw [h4] at e1
 rw [e1, e2] at h1
 exact ⟨v', by simpa [Instr.loadAt, Instr.sureAddr] using h1, h2⟩
theorem hasAll_lacking {want : Array (String × TypeId)} {got : Array Method} : hasAll want got = true ↔ lacking want got = [] := by
 unfold hasAll lacking
 simp only [List.all_eq_true, List.map_eq_nil_iff, List.filter_eq_nil_iff, Bool.not_eq_true', Bool.not_eq_false]
theorem fails_ok {t : TypeId} {r : AV} {f : Sem Value} {ok : Bool} (h : (if ok then (zeroT P t).map fun z => AV.tup [z, .bool false] else none) = some r) :
  ∃ v', (if ok = true then (do pure (.tuple #[← zeroValue t, .bool false])) else f : Sem Value).run P E.w = .ok v' E.w ∧ VRel E r v' := by
 split at h
 case isFalse => cases h
 rename_i hok
 subst hok
 simp only [Option.map_eq_some_iff] at h
 obtain ⟨z, hz, rfl⟩ := h
 obtain ⟨zv, hzr, hr, _⟩ := zeroT_run hz
 refine ⟨.tuple #[zv, .bool false], by simp [hzr], .tup _ _ rfl fun j hj => ?_⟩
 match j, hj with
 | 0, _ => exact hr E
 | 1, _ => exact .bool false
theorem holds_ok {ok : Bool} {v r : AV} {v' : Value} (hv : VRel E v v') (h : some (if ok then AV.tup [v, .bool true] else v) = some r) : VRel E r (if ok then .tuple #[v', .bool true] else v') := by
 simp only [Option.some.injEq] at h
 subst h
 cases ok with
 | false => exact hv
 | true =>
  refine .tup _ _ rfl fun j hj => ?_
  match j, hj with
  | 0, _ => exact hv
  | 1, _ => exact .bool true
theorem aAssert_ok {x r : AV} {x' : Value} {xT t : TypeId} {ok : Bool} (hx : VRel E x x') (h : aAssert P x t ok = some r) :
  ∃ v', (Instr.typeAssert x' xT t ok).run P E.w = .ok v' E.w ∧ VRel E r v' := by
 unfold aAssert at h
 simp only at h
 split at h
 ·cases hx
  simp only [Option.bind_eq_some_iff] at h
  obtain ⟨d, hu, h⟩ := h
  have hk : ∀ f : Sem Value, ∃ v', (if ok = true then (do pure (.tuple #[← zeroValue t, .bool false])) else f : Sem Value).run P E.w = .ok v' E.w ∧ VRel E r v' := fun f => fails_ok h
  cases d <;> (obtain ⟨v', h1, h2⟩ := hk _; exact ⟨v', by simp only [Instr.typeAssert, Sem.run_bind, run_underlying hu, Result.andThen_ok]; exact h1, h2⟩)
 ·rename_i s v
  cases hx with
  | iface _ _ v1 hv =>
   split at h
   ·rename_i want hu
    simp only [Option.bind_eq_some_iff] at h
    obtain ⟨i, hi, h⟩ := h
    split at h
    ·rename_i ha
     have := missingMethod_none (hasAll_lacking.1 ha)
     refine ⟨_, ?_, holds_ok (.iface s v v1 hv) h⟩
     simp [Instr.typeAssert, run_underlying hu, typeInfo, hi, this]
    ·rename_i ha
     obtain ⟨m, hm⟩ := missingMethod_some (fun e => ha (hasAll_lacking.2 e))
     have hk : ∀ f : Sem Value, ∃ v', (if ok = true then (do pure (.tuple #[← zeroValue t, .bool false])) else f : Sem Value).run P E.w = .ok v' E.w ∧ VRel E r v' := fun f => fails_ok h
     obtain ⟨v', h1, h2⟩ := hk _
     exact ⟨v', by simp only [Instr.typeAssert, Sem.run_bind, run_underlying hu, Result.andThen_ok, typeInfo, run_program, hi, Sem.run_pure, hm]; exact h1, h2⟩
   ·rename_i d hni hu
    split at h
    ·rename_i he
     refine ⟨_, ?_, holds_ok hv h⟩
     cases d <;> first | exact absurd rfl (hni _) | simp [Instr.typeAssert, run_underlying hu, he]
    ·rename_i he
     have hk : ∀ f : Sem Value, ∃ v', (if ok = true then (do pure (.tuple #[← zeroValue t, .bool false])) else f : Sem Value).run P E.w = .ok v' E.w ∧ VRel E r v' := fun f => fails_ok h
     cases d <;> first | exact absurd rfl (hni _) | (obtain ⟨v', h1, h2⟩ := hk _; exact ⟨v', by simp only [Instr.typeAssert, Sem.run_bind, run_underlying hu, Result.andThen_ok, if_neg he]; exact h1, h2⟩)
   ·cases h
 ·cases h
theorem aFollow_ok : ∀ {l : List FieldStep} {t xt : TypeId} {v x : AV} {v' : Value}, VRel E v v' → aFollow P l t v = some (xt, x) →
  ∃ x', (follow l t (.val v')).run P E.w = .ok (xt, .val x') E.w ∧ VRel E x x'
 | [], t, xt, v, x, v', hv, h => by
  simp only [aFollow, Option.some.injEq, Prod.mk.injEq] at h
  obtain ⟨rfl, rfl⟩ := h
  exact ⟨v', rfl, hv⟩
 | s :: l, t, xt, v, x, v', hv, h => by
  simp only [aFollow] at h
  split at h
  case h_2 => cases h
  rename_i fs hu
  simp only [Option.bind_eq_some_iff] at h
  obtain ⟨f, hf, h⟩ := h
  split at h
  ·cases h
  rename_i hd
  split at h
  case h_2 => cases h
  rename_i cs
  simp only [Option.bind_eq_some_iff] at h
  obtain ⟨y, hy, h⟩ := h
  cases hv with
  | agg _ a hl hr =>
   obtain ⟨y', h1, h2⟩ := part_ok (P := P) (.of hl hr) hy
   obtain ⟨x', h3, h4⟩ := aFollow_ok h2 h
   exact ⟨x', by simp [follow, run_underlying hu, hf, hd, h1, h3], h4⟩
theorem aMethod_ok {t : TypeId} {v rc : AV} {v' : Value} {name : String} {f : FuncId} (hv : VRel E v v') (h : aMethod P t v name = some (f, rc)) (n : Nat) :
  ∃ rc', (method (n + 1) t v' name).run P E.w = .ok (f, rc') E.w ∧ VRel E rc rc' := by
 unfold aMethod at h
 simp only [Option.bind_eq_some_iff] at h
 obtain ⟨i, hi, m, hm, ⟨xt, x⟩, hx, h⟩ := h
 obtain ⟨x', h1, h2⟩ := aFollow_ok hv hx
 dsimp only at h
 split at h
 ·cases h
 rename_i f0 ptr hfn
 have key : ∀ d, P.underlying xt = some d → (∀ w, (receiverAt xt (.val x') ptr w).run P E.w = .ok x' E.w) → f0 = f → x = rc → ∃ rc', (method (n + 1) t v' name).run P E.w = .ok (f, rc') E.w ∧ VRel E rc rc' := by
  rintro d hu hrc rfl rfl
  exact ⟨x', by simp [method, typeInfo, hi, hm, h1, hfn, hrc], h2⟩
 split at h
 ·rename_i e hu
  split at h
  case isFalse => cases h
  rename_i hp
  simp only [Option.some.injEq, Prod.mk.injEq] at h
  subst hp
  exact key _ hu (fun w => by simp [receiverAt, run_underlying hu, Place.get]) h.1 h.2
 ·rename_i d hnp hu
  split at h
  ·cases h
  rename_i hp
  simp only [Option.some.injEq, Prod.mk.injEq] at h
  have hp' : ptr = false := by simpa using hp
  subst hp'
  refine key _ hu (fun w => ?_) h.1 h.2
  cases d <;> first | exact absurd rfl (hnp _) | simp [receiverAt, run_underlying hu, Place.get]
 ·cases h
end
end Go.Abs

