/-
The law NfaJoined, for every input: the call returns true and what came in reads as it did.
No condition.
-/
import Derived.Test.YtoblikhnbddfmaaRunNfaJoined
namespace Go.Proofs.Ytoblikhnbddfmaa
open Go Go.Abs Go.ChangeShapes Go.WideShapes Go.ChangeAt Go.RowKit
namespace nfaJoined
open AbsSeat
set_option maxRecDepth 100000 in
theorem lifted (os : Os) (started : os.Started) (H : Type) (enc : TypeId × Value → H) :
    ReturnsInHanded {} Try.checked os 9 .any (Rows.nfaJoinedSpec.pre6 enc Try.prog Try.f9 Rows.nfaJoinedRow.domain false) (Rows.nfaJoinedSpec.post enc Try.prog Try.f9 false true false false) := by
  refine returnsInHanded_of_change_sized (C := Try.checked) own started (by kernel_rfl) Try.func9
    (ChangeSpec.witness6 (enc := enc) (C := Try.checked) false ⟨#[], #[.string ByteArray.empty, .string ByteArray.empty, .string ByteArray.empty, .string ByteArray.empty], []⟩ 8 (by kernel_rfl) (by kernel_rfl) (by kernel_rfl) (by kernel_rfl)) ?_
  intro W base args ds gs before hval0 hW hcnd hsz0 _
  have hval : ∀ (j : Nat) t v, Try.f9.params.toList[j]? = some t → args.toList[j]? = some v → Value.okWide Try.prog W .any base t v := fun j t v h h' => hval0 j t v (by simpa using h) (by simpa using h')
  have hW' := hW
  obtain ⟨p, q, hA, hV, rfl, hfz, hnd⟩ := hW
  obtain ⟨rfl, rfl⟩ := trodVars_none hV
  obtain ⟨xs, hx, hT, hb⟩ := args_ok (P := Try.prog) (S := [9]) (by kernel_rfl) _ _ _ _ (of_decide_eq_true (by kernel_rfl)) hA hval
  refine (law_calls fits (by simpa using hx) ⟨_, _, Try.func9, rfl⟩ (abs xs hT)).mono fun e W' ⟨he, bel⟩ => ?_
  subst he
  have hlen := trod_len hA
  obtain ⟨d0, d1, d2, d3, rfl⟩ : ∃ d0 d1 d2 d3, ds = [d0, d1, d2, d3] := by
    match ds, hlen with
    | [d0, d1, d2, d3], _ => exact ⟨d0, d1, d2, d3, rfl⟩
  exact ⟨_, rfl, _, _, _, [], _, [], hW', trodAll_mk1 (shut_bool Try.underlying4 _), args_back laidOut bel _ _ _ _ (by kernel_rfl) hA, rfl, bel.frame _, fun h => by cases h⟩
theorem over : Rows.nfaJoinedRow.holds Try.pinned (OpenSpec.ofChange Rows.nfaJoinedSpec) :=
  OpenClaim.holds_of_wide 9 Try.f9 rfl rfl rfl rfl rfl rfl rfl ⟨rfl, rfl, rfl, rfl, rfl⟩ rfl rfl rfl rfl rfl (by kernel_rfl) Try.func9 (by kernel_rfl)
    (of_decide_eq_true (by kernel_rfl)) (by unfold Func.isWrapper; first | (rw [if_pos (by decide +kernel)]; kernel_rfl) | (rw [if_neg (by decide +kernel)]; exact ⟨rfl, rfl⟩))
    (fun os started H enc _ => lifted os started H enc)
end nfaJoined
theorem nfaJoined_holds : Rows.NfaJoinedSaid := nfaJoined.over
#print axioms nfaJoined_holds
end Go.Proofs.Ytoblikhnbddfmaa
