import Derived.Test.YtimbhlbkidmplaaDoorAbsTy
import Derived.Test.YtimbhlbkidmplaaDoorAbsMore
/-! Chapter 6's example. -/
namespace Go.Proofs.YtimbhlbkidmplaaDoor
open Go Go.Abs AbsSeat Ty
theorem awake_run : aCall cfg 1000 0 12 [] [] = some (.bool true, none) := by kernel_rfl
theorem awake_ok (prot : Nat) (H : Heap) : aLim cfg prot 12 [] H = some (.bool true, none) :=
  lim_shut (k := 1000) (by kernel_rfl) (by kernel_rfl) awake_run prot H
end Go.Proofs.YtimbhlbkidmplaaDoor
