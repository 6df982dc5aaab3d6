import Derived.Test.YtjhgmoaabflbfaaLabelPick
/-! The law LabelPick on what came in. -/
namespace Go.Proofs.Ytjhgmoaabflbfaa.labelPick
open Go Go.Abs AbsSeat
theorem pair_of (y : AV) (h : HasTV Try.prog 68 y) : ∃ a : Pr, y = encP a ∧ True := by
  obtain ⟨ps, rfl, hf⟩ := h.struct Try.underlying68
  obtain ⟨p0, r0, rfl, h0, hf⟩ := hf.inv
  obtain ⟨p1, r1, rfl, h1, hf⟩ := hf.inv
  obtain rfl := hf.done
  obtain ⟨a, rfl, -⟩ := h0.str1 Try.underlying9
  obtain ⟨b, rfl, -⟩ := h1.str1 Try.underlying9
  exact ⟨⟨a, b⟩, rfl, trivial⟩
theorem str_of (y : AV) (h : HasTV Try.prog 9 y) : ∃ a : List UInt8, y = encS a ∧ True := by
  obtain ⟨a, rfl, -⟩ := h.str Try.underlying9
  exact ⟨a, rfl, trivial⟩
theorem abs (xs : List AV) (h : HasTs Try.prog Try.f8.params.toList xs) : ∃ k H', aCall cfg k 0 8 xs [] = some (.bool true, H') := by
  rw [Try.params8] at h
  obtain ⟨x0, r0, rfl, h0, h⟩ := h.inv
  obtain ⟨x1, r1, rfl, h1, h⟩ := h.inv
  obtain rfl := h.done
  obtain ⟨l, k1, k2, -⟩ := h0.rows Try.underlying22 pair_of
  obtain ⟨ns, k3, k4, -⟩ := h1.rows Try.underlying67 str_of
  exact lim_call (pickLaw_ok l ns x0 x1 k1 k3 k2 k4 0 [] (Nat.le_refl _))
end Go.Proofs.Ytjhgmoaabflbfaa.labelPick
