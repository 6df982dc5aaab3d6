import Derived.Test.YtgcnpcicpogmhaaAbsSeat
/-! The law MvNil, run by the kernel. -/
namespace Go.Proofs.Ytgcnpcicpogmhaa.mvNil
open Go Go.Abs AbsSeat
theorem run (n0 : List UInt8) (n1 : Int) : ∃ k H', aCall cfg k 0 10 [.str n0, .int .i64 n1] [] = some (.bool true, H') :=
  ⟨60, none, by kernel_rfl⟩
theorem abs (xs : List AV) (h : HasTs Try.prog Try.f10.params.toList xs) : ∃ k H', aCall cfg k 0 10 xs [] = some (.bool true, H') := by
  have g0 := h
  rw [Try.params10] at g0
  clear h
  obtain ⟨x0, xr0, rfl, h0, g1⟩ := g0.inv
  obtain ⟨x1, xr1, rfl, h1, g2⟩ := g1.inv
  obtain rfl := g2.done
  obtain ⟨n0, rfl, _⟩ := h0.str Try.underlying9
  obtain ⟨n1, rfl, _⟩ := h1.int Try.underlying2
  exact run n0 n1
end Go.Proofs.Ytgcnpcicpogmhaa.mvNil
