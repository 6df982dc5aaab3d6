import Derived.Test.YtoblikhnbddfmaaQ6
/-! The law NfaJoined on what came in. -/
namespace Go.Proofs.Ytoblikhnbddfmaa.nfaJoined
open Go Go.Abs AbsSeat
theorem abs (xs : List AV) (h : HasTs Try.prog Try.f9.params.toList xs) : ∃ k H', aCall cfg k 0 9 xs [] = some (.bool true, H') := by
  rw [Try.params9] at h
  obtain ⟨x0, r0, rfl, h0, h⟩ := h.inv
  obtain ⟨x1, r1, rfl, h1, h⟩ := h.inv
  obtain ⟨x2, r2, rfl, h2, h⟩ := h.inv
  obtain ⟨x3, r3, rfl, h3, h⟩ := h.inv
  obtain rfl := h.done
  obtain ⟨x, rfl, -⟩ := h0.str Try.underlying9
  obtain ⟨y, rfl, -⟩ := h1.str Try.underlying9
  obtain ⟨s, rfl, -⟩ := h2.str Try.underlying9
  obtain ⟨t, rfl, -⟩ := h3.str Try.underlying9
  exact lim_call (nfaJoined_ok x y s t 0 [] (Nat.le_refl _))
end Go.Proofs.Ytoblikhnbddfmaa.nfaJoined
