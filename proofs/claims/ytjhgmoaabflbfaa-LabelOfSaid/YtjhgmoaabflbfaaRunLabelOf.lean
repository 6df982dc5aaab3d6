import Derived.Test.YtjhgmoaabflbfaaLabelOf
/-! The law LabelOf on what came in. -/
namespace Go.Proofs.Ytjhgmoaabflbfaa.labelOf
open Go Go.Abs AbsSeat
theorem pair_of (y : AV) (h : HasTV Try.prog 68 y) : ∃ a : Pr, y = encP a ∧ True := by
  obtain ⟨ps, rfl, hf⟩ := h.struct Try.underlying68
  obtain ⟨p0, r0, rfl, h0, hf⟩ := hf.inv
  obtain ⟨p1, r1, rfl, h1, hf⟩ := hf.inv
  obtain rfl := hf.done
  obtain ⟨a, rfl, -⟩ := h0.str1 Try.underlying9
  obtain ⟨b, rfl, -⟩ := h1.str1 Try.underlying9
  exact ⟨⟨a, b⟩, rfl, trivial⟩
theorem abs (xs : List AV) (h : HasTs Try.prog Try.f5.params.toList xs) : ∃ k H', aCall cfg k 0 5 xs [] = some (.bool true, H') := by
  rw [Try.params5] at h
  obtain ⟨x0, r0, rfl, h0, h⟩ := h.inv
  obtain ⟨x1, r1, rfl, h1, h⟩ := h.inv
  obtain rfl := h.done
  obtain ⟨l, k1, k2, -⟩ := h0.rows Try.underlying22 pair_of
  obtain ⟨nm, rfl, k4⟩ := h1.str Try.underlying9
  exact lim_call (labelOf_ok l nm x0 k1 k2 k4 0 [] (Nat.le_refl _))
end Go.Proofs.Ytjhgmoaabflbfaa.labelOf
