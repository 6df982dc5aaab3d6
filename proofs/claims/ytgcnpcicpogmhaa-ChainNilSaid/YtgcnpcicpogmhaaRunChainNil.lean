import Derived.Test.YtgcnpcicpogmhaaAbsSeat
/-! The law ChainNil, run by the kernel. -/
namespace Go.Proofs.Ytgcnpcicpogmhaa.chainNil
open Go Go.Abs AbsSeat
theorem run (n0 : Int) : ∃ k H', aCall cfg k 0 6 [.int .i64 n0] [] = some (.bool true, H') :=
  ⟨60, none, by kernel_rfl⟩
theorem abs (xs : List AV) (h : HasTs Try.prog Try.f6.params.toList xs) : ∃ k H', aCall cfg k 0 6 xs [] = some (.bool true, H') := by
  have g0 := h
  rw [Try.params6] at g0
  clear h
  obtain ⟨x0, xr0, rfl, h0, g1⟩ := g0.inv
  obtain rfl := g1.done
  obtain ⟨n0, rfl, _⟩ := h0.int Try.underlying2
  exact run n0
end Go.Proofs.Ytgcnpcicpogmhaa.chainNil
