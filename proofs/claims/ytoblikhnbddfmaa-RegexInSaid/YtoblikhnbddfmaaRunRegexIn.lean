import Derived.Test.YtoblikhnbddfmaaRegexIn
/-! The law RegexIn on what came in. -/
namespace Go.Proofs.Ytoblikhnbddfmaa.regexIn
open Go Go.Abs AbsSeat
theorem abs (xs : List AV) (h : HasTs Try.prog Try.f8.params.toList xs) : ∃ k H', aCall cfg k 0 8 xs [] = some (.bool true, H') := by
  rw [Try.params8] at h
  obtain ⟨x0, r0, rfl, h0, h⟩ := h.inv
  obtain ⟨x1, r1, rfl, h1, h⟩ := h.inv
  obtain ⟨x2, r2, rfl, h2, h⟩ := h.inv
  obtain rfl := h.done
  obtain ⟨r, rfl, -⟩ := h0.int Try.underlying21
  obtain ⟨n, rfl⟩ := h1.bool Try.underlying4
  obtain ⟨l, hl, -, -⟩ := h2.rows Try.underlying44 span_of
  exact lim_call (law_ok l r n x2 hl)
end Go.Proofs.Ytoblikhnbddfmaa.regexIn
