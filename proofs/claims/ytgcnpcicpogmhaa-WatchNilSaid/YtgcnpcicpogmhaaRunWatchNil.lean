import Derived.Test.YtgcnpcicpogmhaaAbsSeat
/-! The law WatchNil, run by the kernel. -/
namespace Go.Proofs.Ytgcnpcicpogmhaa.watchNil
open Go Go.Abs AbsSeat
theorem run (n0 : Int) (n1 : Int) : ∃ k H', aCall cfg k 0 3 [.int .i64 n0, .int .i64 n1] [] = some (.bool true, H') :=
  ⟨60, none, by kernel_rfl⟩
theorem abs (xs : List AV) (h : HasTs Try.prog Try.f3.params.toList xs) : ∃ k H', aCall cfg k 0 3 xs [] = some (.bool true, H') := by
  have g0 := h
  rw [Try.params3] at g0
  clear h
  obtain ⟨x0, xr0, rfl, h0, g1⟩ := g0.inv
  obtain ⟨x1, xr1, rfl, h1, g2⟩ := g1.inv
  obtain rfl := g2.done
  obtain ⟨n0, rfl, _⟩ := h0.int Try.underlying3
  obtain ⟨n1, rfl, _⟩ := h1.int Try.underlying2
  exact run n0 n1
end Go.Proofs.Ytgcnpcicpogmhaa.watchNil
