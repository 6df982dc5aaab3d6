import Derived.Test.YtjhgmoaabflbfaaLabelOrder
/-! The law LabelOrder on what came in. -/
namespace Go.Proofs.Ytjhgmoaabflbfaa.labelOrder
open Go Go.Abs AbsSeat
theorem pair_of (y : AV) (h : HasTV Try.prog 68 y) : ∃ a : Pr, y = encP a ∧ True := by
  obtain ⟨ps, rfl, hf⟩ := h.struct Try.underlying68
  obtain ⟨p0, r0, rfl, h0, hf⟩ := hf.inv
  obtain ⟨p1, r1, rfl, h1, hf⟩ := hf.inv
  obtain rfl := hf.done
  obtain ⟨a, rfl, -⟩ := h0.str1 Try.underlying9
  obtain ⟨b, rfl, -⟩ := h1.str1 Try.underlying9
  exact ⟨⟨a, b⟩, rfl, trivial⟩
theorem abs (xs : List AV) (h : HasTs Try.prog Try.f6.params.toList xs) : ∃ k H', aCall cfg k 0 6 xs [] = some (.bool true, H') := by
  rw [Try.params6] at h
  obtain ⟨x0, r0, rfl, h0, h⟩ := h.inv
  obtain rfl := h.done
  obtain ⟨l, k1, k2, -⟩ := h0.rows Try.underlying22 pair_of
  exact lim_call (orderLaw_ok l x0 k1 k2 0 [] (Nat.le_refl _))
end Go.Proofs.Ytjhgmoaabflbfaa.labelOrder
