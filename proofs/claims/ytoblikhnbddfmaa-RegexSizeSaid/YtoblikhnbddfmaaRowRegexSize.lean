/-
The law RegexSize, for every input: the call returns true and what came in reads as it did.
No condition.
-/
import Derived.Test.YtoblikhnbddfmaaRunRegexSize
namespace Go.Proofs.Ytoblikhnbddfmaa
open Go Go.Abs Go.ChangeShapes Go.WideShapes Go.ChangeAt Go.RowKit
namespace regexSize
open AbsSeat
set_option maxRecDepth 100000 in
theorem lifted (os : Os) (started : os.Started) (H : Type) (enc : TypeId × Value → H) :
    ReturnsInHanded {} Try.checked os 5 .any (Rows.regexSizeSpec.pre6 enc Try.prog Try.f5 Rows.regexSizeRow.domain false) (Rows.regexSizeSpec.post enc Try.prog Try.f5 false true false false) := by
  refine returnsInHanded_of_change_sized (C := Try.checked) own started (by kernel_rfl) Try.func5
    (ChangeSpec.witness6 (enc := enc) (C := Try.checked) false ⟨#[], #[.string ByteArray.empty], []⟩ 8 (by kernel_rfl) (by kernel_rfl) (by kernel_rfl) (by kernel_rfl)) ?_
  intro W base args ds gs before hval0 hW hcnd hsz0 _
  have hval : ∀ (j : Nat) t v, Try.f5.params.toList[j]? = some t → args.toList[j]? = some v → Value.okWide Try.prog W .any base t v := fun j t v h h' => hval0 j t v (by simpa using h) (by simpa using h')
  have hW' := hW
  obtain ⟨p, q, hA, hV, rfl, hfz, hnd⟩ := hW
  obtain ⟨rfl, rfl⟩ := trodVars_none hV
  obtain ⟨xs, hx, hT, hb⟩ := args_ok (P := Try.prog) (S := [9]) (by kernel_rfl) _ _ _ _ (of_decide_eq_true (by kernel_rfl)) hA hval
  refine (law_calls fits (by simpa using hx) ⟨_, _, Try.func5, rfl⟩ (abs xs hT)).mono fun e W' ⟨he, bel⟩ => ?_
  subst he
  have hlen := trod_len hA
  obtain ⟨d0, rfl⟩ : ∃ d0, ds = [d0] := by
    match ds, hlen with
    | [d0], _ => exact ⟨d0, rfl⟩
  exact ⟨_, rfl, _, _, _, [], _, [], hW', trodAll_mk1 (shut_bool Try.underlying4 _), args_back laidOut bel _ _ _ _ (by kernel_rfl) hA, rfl, bel.frame _, fun h => by cases h⟩
theorem over : Rows.regexSizeRow.holds Try.pinned (OpenSpec.ofChange Rows.regexSizeSpec) :=
  OpenClaim.holds_of_wide 5 Try.f5 rfl rfl rfl rfl rfl rfl rfl ⟨rfl, rfl, rfl, rfl, rfl⟩ rfl rfl rfl rfl rfl (by kernel_rfl) Try.func5 (by kernel_rfl)
    (of_decide_eq_true (by kernel_rfl)) (by unfold Func.isWrapper; first | (rw [if_pos (by decide +kernel)]; kernel_rfl) | (rw [if_neg (by decide +kernel)]; exact ⟨rfl, rfl⟩))
    (fun os started H enc _ => lifted os started H enc)
end regexSize
theorem regexSize_holds : Rows.RegexSizeSaid := regexSize.over
#print axioms regexSize_holds
end Go.Proofs.Ytoblikhnbddfmaa
