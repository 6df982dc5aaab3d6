import Derived.Test.YtoblikhnbddfmaaRx16
/-! The law RegexParse on what came in. -/
namespace Go.Proofs.Ytoblikhnbddfmaa.regexParse
open Go Go.Abs AbsSeat
theorem abs (xs : List AV) (h : HasTs Try.prog Try.f4.params.toList xs) : ∃ k H', aCall cfg k 0 4 xs [] = some (.bool true, H') := by
  rw [Try.params4] at h
  obtain ⟨x0, r0, rfl, h0, h⟩ := h.inv
  obtain rfl := h.done
  obtain ⟨s, rfl, -⟩ := h0.str Try.underlying9
  exact lim_call (regexParse_ok s 0 [] (Nat.le_refl _))
end Go.Proofs.Ytoblikhnbddfmaa.regexParse
