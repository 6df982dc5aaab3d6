import Derived.Test.YtoblikhnbddfmaaP5
/-! The law NfaRuns on what came in. -/
namespace Go.Proofs.Ytoblikhnbddfmaa.nfaRuns
open Go Go.Abs AbsSeat
theorem span_of (y : AV) (h : HasTV Try.prog 131 y) : ∃ a : Sg, y = encG a ∧ True := by
  obtain ⟨ps, rfl, hf⟩ := h.struct Try.underlying131
  obtain ⟨p0, r0, rfl, h0, hf⟩ := hf.inv
  obtain ⟨p1, r1, rfl, h1, hf⟩ := hf.inv
  obtain rfl := hf.done
  obtain ⟨lo, rfl, -⟩ := h0.int1 Try.underlying21
  obtain ⟨hi, rfl, -⟩ := h1.int1 Try.underlying21
  exact ⟨⟨lo, hi⟩, rfl, trivial⟩
theorem row_of (al : List AV) (h : HasT Try.prog 44 al) : ∃ x l, al = [x] ∧ Sl encG x l := by
  have key : ∀ x, al = [x] → ∃ x l, al = [x] ∧ Sl encG x l := fun x hx => by
    have hv : HasTV Try.prog 44 x := ⟨al, h, by simp [mkv, isAggT, Try.underlying44, hx]⟩
    obtain ⟨l, h1, h2, -⟩ := hv.rows Try.underlying44 span_of
    exact ⟨x, l, hx, h1⟩
  rcases h.slice1 Try.underlying44 with h1 | ⟨es, h1, -⟩
  · exact key _ h1
  · exact key _ h1
theorem state_of (y : AV) (h : HasTV Try.prog 145 y) : ∃ a : S0, y = enc0 a ∧ True := by
  obtain ⟨ps, rfl, hf⟩ := h.struct Try.underlying145
  obtain ⟨p0, r0, rfl, h0, hf⟩ := hf.inv
  obtain ⟨p1, r1, rfl, h1, hf⟩ := hf.inv
  obtain ⟨p2, r2, rfl, h2, hf⟩ := hf.inv
  obtain ⟨p3, r3, rfl, h3, hf⟩ := hf.inv
  obtain ⟨p4, r4, rfl, h4, hf⟩ := hf.inv
  obtain rfl := hf.done
  obtain ⟨kind, rfl, -⟩ := h0.int1 Try.underlying3
  obtain ⟨no, rfl⟩ := h1.bool1 Try.underlying4
  obtain ⟨one, rfl, -⟩ := h3.int1 Try.underlying3
  obtain ⟨two, rfl, -⟩ := h4.int1 Try.underlying3
  obtain ⟨x, l, rfl, k1⟩ := row_of _ h2
  exact ⟨⟨kind, no, x, l, k1, one, two⟩, rfl, trivial⟩
theorem abs (xs : List AV) (h : HasTs Try.prog Try.f11.params.toList xs) : ∃ k H', aCall cfg k 0 11 xs [] = some (.bool true, H') := by
  rw [Try.params11] at h
  obtain ⟨x0, r0, rfl, h0, h⟩ := h.inv
  obtain ⟨x1, r1, rfl, h1, h⟩ := h.inv
  obtain ⟨x2, r2, rfl, h2, h⟩ := h.inv
  obtain rfl := h.done
  obtain ⟨l, hl, hll, -⟩ := h0.rows Try.underlying84 state_of
  obtain ⟨a, rfl, -⟩ := h1.int Try.underlying3
  obtain ⟨s, rfl, -⟩ := h2.str Try.underlying9
  exact lim_call (nfaRuns_ok l x0 hl hll a s 0 [] (Nat.le_refl _))
end Go.Proofs.Ytoblikhnbddfmaa.nfaRuns
