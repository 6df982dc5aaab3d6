import Derived.Test.YtoblikhnbddfmaaN7
/-! The law NfaSteps on what came in. -/
namespace Go.Proofs.Ytoblikhnbddfmaa.nfaSteps
open Go Go.Abs AbsSeat
theorem abs (xs : List AV) (h : HasTs Try.prog Try.f10.params.toList xs) : ∃ k H', aCall cfg k 0 10 xs [] = some (.bool true, H') := by
  rw [Try.params10] at h
  obtain ⟨x0, r0, rfl, h0, h⟩ := h.inv
  obtain ⟨x1, r1, rfl, h1, h⟩ := h.inv
  obtain rfl := h.done
  obtain ⟨x, rfl, -⟩ := h0.str Try.underlying9
  obtain ⟨s, rfl, -⟩ := h1.str Try.underlying9
  exact lim_call (nfaSteps_ok x s 0 [] (Nat.le_refl _))
end Go.Proofs.Ytoblikhnbddfmaa.nfaSteps
