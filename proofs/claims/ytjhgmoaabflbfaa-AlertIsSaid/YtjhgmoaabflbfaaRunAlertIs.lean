import Derived.Test.YtjhgmoaabflbfaaAlertIs
/-! The law AlertIs on what came in. -/
namespace Go.Proofs.Ytjhgmoaabflbfaa.alertIs
open Go Go.Abs AbsSeat
theorem pair_of (y : AV) (h : HasTV Try.prog 68 y) : ∃ a : Pr, y = encP a ∧ True := by
  obtain ⟨ps, rfl, hf⟩ := h.struct Try.underlying68
  obtain ⟨p0, r0, rfl, h0, hf⟩ := hf.inv
  obtain ⟨p1, r1, rfl, h1, hf⟩ := hf.inv
  obtain rfl := hf.done
  obtain ⟨a, rfl, -⟩ := h0.str1 Try.underlying9
  obtain ⟨b, rfl, -⟩ := h1.str1 Try.underlying9
  exact ⟨⟨a, b⟩, rfl, trivial⟩
theorem row_of (al : List AV) (h : HasT Try.prog 22 al) : ∃ x l, al = [x] ∧ Sl encP x l ∧ l.length ≤ 9223372036854775807 := by
  have key : ∀ x, al = [x] → ∃ x l, al = [x] ∧ Sl encP x l ∧ l.length ≤ 9223372036854775807 := fun x hx => by
    have hv : HasTV Try.prog 22 x := ⟨al, h, by simp [mkv, isAggT, Try.underlying22, hx]⟩
    obtain ⟨l, h1, h2, -⟩ := hv.rows Try.underlying22 pair_of
    exact ⟨x, l, hx, h1, h2⟩
  rcases h.slice1 Try.underlying22 with h1 | ⟨es, h1, -⟩
  · exact key _ h1
  · exact key _ h1
theorem alert_of (y : AV) (h : HasTV Try.prog 24 y) : ∃ x1 x2 l n s e, y = .agg [x1, x2, .int .i64 s, .int .i64 e] ∧ Sl encP x1 l ∧ Sl encP x2 n ∧ l.length ≤ 9223372036854775807 ∧ n.length ≤ 9223372036854775807 := by
  obtain ⟨ps, rfl, hf⟩ := h.struct Try.underlying24
  obtain ⟨p0, r0, rfl, h0, hf⟩ := hf.inv
  obtain ⟨p1, r1, rfl, h1, hf⟩ := hf.inv
  obtain ⟨p2, r2, rfl, h2, hf⟩ := hf.inv
  obtain ⟨p3, r3, rfl, h3, hf⟩ := hf.inv
  obtain rfl := hf.done
  obtain ⟨x1, l, rfl, k1, k2⟩ := row_of _ h0
  obtain ⟨x2, n, rfl, k3, k4⟩ := row_of _ h1
  obtain ⟨s, rfl, -⟩ := h2.int1 Try.underlying2
  obtain ⟨e, rfl, -⟩ := h3.int1 Try.underlying2
  exact ⟨x1, x2, l, n, s, e, rfl, k1, k3, k2, k4⟩
theorem abs (xs : List AV) (h : HasTs Try.prog Try.f7.params.toList xs) : ∃ k H', aCall cfg k 0 7 xs [] = some (.bool true, H') := by
  rw [Try.params7] at h
  obtain ⟨x0, r0, rfl, h0, h⟩ := h.inv
  obtain ⟨x1, r1, rfl, h1, h⟩ := h.inv
  obtain rfl := h.done
  obtain ⟨z1, z2, l, n, s, e, rfl, k1, k2, k3, k4⟩ := alert_of _ h0
  obtain ⟨now, rfl, -⟩ := h1.int Try.underlying2
  exact lim_call (alertIs_ok l n z1 z2 s e now k1 k2 k3 k4 0 [] (Nat.le_refl _))
end Go.Proofs.Ytjhgmoaabflbfaa.alertIs
