import Derived.Test.YtoblikhnbddfmaaMk4
/-! The law RegexSize on what came in. -/
namespace Go.Proofs.Ytoblikhnbddfmaa.regexSize
open Go Go.Abs AbsSeat
theorem abs (xs : List AV) (h : HasTs Try.prog Try.f5.params.toList xs) : ∃ k H', aCall cfg k 0 5 xs [] = some (.bool true, H') := by
  rw [Try.params5] at h
  obtain ⟨x0, r0, rfl, h0, h⟩ := h.inv
  obtain rfl := h.done
  obtain ⟨s, rfl, -⟩ := h0.str Try.underlying9
  exact lim_call (regexSize_ok s 0 [] (Nat.le_refl _))
end Go.Proofs.Ytoblikhnbddfmaa.regexSize
