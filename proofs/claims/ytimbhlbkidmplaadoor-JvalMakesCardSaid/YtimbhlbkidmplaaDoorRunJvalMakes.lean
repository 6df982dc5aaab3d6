import Derived.Test.YtimbhlbkidmplaaDoorJ2
/-! The law JvalMakes on what came in. -/
namespace Go.Proofs.YtimbhlbkidmplaaDoor.jvalMakes
open Go Go.Abs AbsSeat Ty
theorem abs (xs : List AV) (h : HasTs Tryd.prog Tryd.f3.params.toList xs) : ∃ k H', aCall cfg k 1 3 xs H0 = some (.bool true, H') := by
  rw [Tryd.params3] at h
  obtain ⟨x0, r0, rfl, h0, h⟩ := h.inv
  obtain ⟨x1, r1, rfl, h1, h⟩ := h.inv
  obtain ⟨x2, r2, rfl, h2, h⟩ := h.inv
  obtain rfl := h.done
  obtain ⟨s, rfl, -⟩ := h0.str Tryd.underlying9
  obtain ⟨n, rfl, -⟩ := h1.int Tryd.underlying2
  obtain ⟨b, rfl⟩ := h2.bool Tryd.underlying4
  exact lim_call (makesLaw_ok s n b 1 H0 (by decide))
end Go.Proofs.YtimbhlbkidmplaaDoor.jvalMakes
