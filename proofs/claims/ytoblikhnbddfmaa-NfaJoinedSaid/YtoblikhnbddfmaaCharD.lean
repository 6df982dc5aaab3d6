import Derived.Test.YtoblikhnbddfmaaUtf2
/-! Letters, digits. -/
namespace Go.Proofs.Ytoblikhnbddfmaa
open Go Go.Abs
def digitC (c : Int) : Bool := decide (48 ≤ c) && decide (c ≤ 57)
def greatC (c : Int) : Bool := decide (65 ≤ c) && decide (c ≤ 90)
def letterC (c : Int) : Bool := greatC c || (decide (97 ≤ c) && decide (c ≤ 122))
end Go.Proofs.Ytoblikhnbddfmaa
