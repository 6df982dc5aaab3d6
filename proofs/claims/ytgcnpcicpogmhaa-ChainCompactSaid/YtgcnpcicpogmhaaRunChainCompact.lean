import Derived.Test.YtgcnpcicpogmhaaChainLaw
/-! The law ChainCompact on what came in. -/
namespace Go.Proofs.Ytgcnpcicpogmhaa.chainCompact
open Go Go.Abs AbsSeat
theorem ver_of (al : List AV) (h : HasT Try.prog 48 al) : ∃ a : Ver, al = [.int .i64 a.rev, .str a.val, .bool a.gone] := by
  obtain ⟨ps, rfl, hf⟩ := h.struct1 Try.underlying48
  obtain ⟨p0, r0, rfl, h0, hf⟩ := hf.inv
  obtain ⟨p1, r1, rfl, h1, hf⟩ := hf.inv
  obtain ⟨p2, r2, rfl, h2, hf⟩ := hf.inv
  obtain rfl := hf.done
  obtain ⟨n, rfl, -⟩ := h0.int1 Try.underlying2
  obtain ⟨s, rfl, -⟩ := h1.str1 Try.underlying9
  obtain ⟨b, rfl⟩ := h2.bool1 Try.underlying4
  exact ⟨⟨n, s, b⟩, rfl⟩
theorem op_of (y : AV) (h : HasTV Try.prog 50 y) : ∃ a : COp, y = encC a ∧ True := by
  obtain ⟨ps, rfl, hf⟩ := h.struct Try.underlying50
  obtain ⟨p0, r0, rfl, h0, hf⟩ := hf.inv
  obtain ⟨p1, r1, rfl, h1, hf⟩ := hf.inv
  obtain ⟨p2, r2, rfl, h2, hf⟩ := hf.inv
  obtain ⟨p3, r3, rfl, h3, hf⟩ := hf.inv
  obtain rfl := hf.done
  obtain ⟨k, rfl, -⟩ := h0.int1 Try.underlying3
  obtain ⟨v, rfl⟩ := ver_of _ h1
  obtain ⟨b, rfl⟩ := h2.bool1 Try.underlying4
  obtain ⟨n, rfl, -⟩ := h3.int1 Try.underlying2
  exact ⟨⟨k, v, b, n⟩, rfl, trivial⟩
theorem abs (xs : List AV) (h : HasTs Try.prog Try.f4.params.toList xs) : ∃ k H', aCall cfg k 0 4 xs [] = some (.bool true, H') := by
  rw [Try.params4] at h
  obtain ⟨x0, r0, rfl, h0, h⟩ := h.inv
  obtain ⟨x1, r1, rfl, h1, h⟩ := h.inv
  obtain ⟨x2, r2, rfl, h2, h⟩ := h.inv
  obtain rfl := h.done
  obtain ⟨ops, hv, hl, -⟩ := h0.rows Try.underlying43 op_of
  obtain ⟨r, rfl, -⟩ := h1.int Try.underlying2
  obtain ⟨s, rfl, -⟩ := h2.int Try.underlying2
  have hl' : ops.length ≤ 9223372036854775807 := hl
  exact lim_call (compactLaw_ok ops r s x0 hv hl')
end Go.Proofs.Ytgcnpcicpogmhaa.chainCompact
