import Derived.Test.YtoblikhnbddfmaaAbsSeat
/-! The law NfaNil, run by the kernel. -/
namespace Go.Proofs.Ytoblikhnbddfmaa.nfaNil
open Go Go.Abs AbsSeat
theorem run (n0 : List UInt8) : ∃ k H', aCall cfg k 0 12 [.str n0] [] = some (.bool true, H') :=
  ⟨1000, none, by kernel_rfl⟩
theorem abs (xs : List AV) (h : HasTs Try.prog Try.f12.params.toList xs) : ∃ k H', aCall cfg k 0 12 xs [] = some (.bool true, H') := by
  have g0 := h
  rw [Try.params12] at g0
  clear h
  obtain ⟨x0, xr0, rfl, h0, g1⟩ := g0.inv
  obtain rfl := g1.done
  obtain ⟨n0, rfl, _⟩ := h0.str Try.underlying9
  exact run n0
end Go.Proofs.Ytoblikhnbddfmaa.nfaNil
