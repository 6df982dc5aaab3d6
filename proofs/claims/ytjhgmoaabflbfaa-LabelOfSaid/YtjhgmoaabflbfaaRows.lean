/-
  No cell of these rows narrows 'for every input' (looked for: loops, veiled, ifaces, maps, wideKeys, modest, calm, conditions, laid).
  DERIVED. THE GIVEN ROWS OF THIS SEAT. 6 by the template 'for every input the law returns true; each argument reads behind the call as it read before'; 0 by the template 'total and deterministic' (their statements: YtjhgmoaabflbfaaTotals.lean).
  GIVEN WITH THE SEED: the statements are not yours to turn. If you find one false, say at which input.
  Laid BY PROGRAM, IN A SANDBOX (cutbox-rows.mjs): the forced cells as the released guide's own fill.sh prints them over the translation 2cce989b6041b446… (all of the seat's roots in one cut). By AI agents, Wed Nov 11 2026. No macro, syntax, notation, axiom, sorry.
-/
import Derived.Test.YtjhgmoaabflbfaaChecked
import GoSem.Claim
import GoSem.ClaimJoined
import GoSem.ClaimMapViews
import Derived.JoinedTies
import Derived.KernelRfl
namespace Go.Proofs.Ytjhgmoaabflbfaa
/- THE CELL 'sum', in the pinned program and in every row, IS THE sha256 OF THE DUMP (.gsa) THAT YtjhgmoaabflbfaaProg.lean LOADS. Nothing in Lean hashes anything: it is a label: what it is worth is what the hold of that sum in a sandbox is worth. -/
noncomputable def Try.pinned : Pinned := { name := "ytjhgmoaabflbfaa", sum := "2cce989b6041b44665e6f085f7520742974c72e90b2e862a7048e7c9171b67be", checked := Try.checked }
namespace Rows
def none {H : Type} : Left H := { results := [], args := [] }

/-- 'larumlaw22.AlertAgain': WHATEVER THE INPUT: true; the input reads as it did. -/
def alertAgainSpec : ChangeSpec := { name := "alertAgain", fn := fun _ => fun
  | [d1, d2] => { results := [.lit (.bool true)], args := [d1, d2] }
  | _ => none }
def alertAgainRow : OpenClaim := { program := "ytjhgmoaabflbfaa", sum := "2cce989b6041b44665e6f085f7520742974c72e90b2e862a7048e7c9171b67be", func := "larum/larumlaw22.AlertAgain", spec := "alertAgain", inPlace := ["internal/abi.NoEscape", "internal/bytealg.IndexByteString"], unfollowed := true, recurses := true, apart := false }
def AlertAgainSaid : Prop := alertAgainRow.holds Try.pinned (OpenSpec.ofChange alertAgainSpec)

/-- ITS FALSE NEIGHBOUR: 'it returns false'. Refute it at one input. -/
def alertAgainWrong : ChangeSpec := { name := "alertAgain", fn := fun _ => fun
  | [d1, d2] => { results := [.lit (.bool false)], args := [d1, d2] }
  | _ => none }
def AlertAgainWrongFalsely : Prop := alertAgainRow.holds Try.pinned (OpenSpec.ofChange alertAgainWrong)

/-- 'larumlaw22.AlertMerge': WHATEVER THE INPUT: true; the input reads as it did. -/
def alertMergeSpec : ChangeSpec := { name := "alertMerge", fn := fun _ => fun
  | [d1, d2] => { results := [.lit (.bool true)], args := [d1, d2] }
  | _ => none }
def alertMergeRow : OpenClaim := { program := "ytjhgmoaabflbfaa", sum := "2cce989b6041b44665e6f085f7520742974c72e90b2e862a7048e7c9171b67be", func := "larum/larumlaw22.AlertMerge", spec := "alertMerge", inPlace := ["internal/abi.NoEscape", "internal/bytealg.IndexByteString"], unfollowed := true, recurses := true, apart := false }
def AlertMergeSaid : Prop := alertMergeRow.holds Try.pinned (OpenSpec.ofChange alertMergeSpec)

/-- ITS FALSE NEIGHBOUR: 'it returns false'. Refute it at one input. -/
def alertMergeWrong : ChangeSpec := { name := "alertMerge", fn := fun _ => fun
  | [d1, d2] => { results := [.lit (.bool false)], args := [d1, d2] }
  | _ => none }
def AlertMergeWrongFalsely : Prop := alertMergeRow.holds Try.pinned (OpenSpec.ofChange alertMergeWrong)

/-- 'larumlaw14.LabelOf': WHATEVER THE INPUT: true; the input reads as it did. -/
def labelOfSpec : ChangeSpec := { name := "labelOf", fn := fun _ => fun
  | [d1, d2] => { results := [.lit (.bool true)], args := [d1, d2] }
  | _ => none }
def labelOfRow : OpenClaim := { program := "ytjhgmoaabflbfaa", sum := "2cce989b6041b44665e6f085f7520742974c72e90b2e862a7048e7c9171b67be", func := "larum/larumlaw14.LabelOf", spec := "labelOf", inPlace := ["internal/abi.NoEscape", "internal/bytealg.IndexByteString"], unfollowed := true, recurses := true, apart := false }
def LabelOfSaid : Prop := labelOfRow.holds Try.pinned (OpenSpec.ofChange labelOfSpec)

/-- ITS FALSE NEIGHBOUR: 'it returns false'. Refute it at one input. -/
def labelOfWrong : ChangeSpec := { name := "labelOf", fn := fun _ => fun
  | [d1, d2] => { results := [.lit (.bool false)], args := [d1, d2] }
  | _ => none }
def LabelOfWrongFalsely : Prop := labelOfRow.holds Try.pinned (OpenSpec.ofChange labelOfWrong)

/-- 'larumlaw14.LabelOrder': WHATEVER THE INPUT: true; the input reads as it did. -/
def labelOrderSpec : ChangeSpec := { name := "labelOrder", fn := fun _ => fun
  | [d] => { results := [.lit (.bool true)], args := [d] }
  | _ => none }
def labelOrderRow : OpenClaim := { program := "ytjhgmoaabflbfaa", sum := "2cce989b6041b44665e6f085f7520742974c72e90b2e862a7048e7c9171b67be", func := "larum/larumlaw14.LabelOrder", spec := "labelOrder", inPlace := ["internal/abi.NoEscape", "internal/bytealg.IndexByteString"], unfollowed := true, recurses := true, apart := false }
def LabelOrderSaid : Prop := labelOrderRow.holds Try.pinned (OpenSpec.ofChange labelOrderSpec)

/-- ITS FALSE NEIGHBOUR: 'it returns false'. Refute it at one input. -/
def labelOrderWrong : ChangeSpec := { name := "labelOrder", fn := fun _ => fun
  | [d] => { results := [.lit (.bool false)], args := [d] }
  | _ => none }
def LabelOrderWrongFalsely : Prop := labelOrderRow.holds Try.pinned (OpenSpec.ofChange labelOrderWrong)

/-- 'larumlaw22.AlertIs': WHATEVER THE INPUT: true; the input reads as it did. -/
def alertIsSpec : ChangeSpec := { name := "alertIs", fn := fun _ => fun
  | [d1, d2] => { results := [.lit (.bool true)], args := [d1, d2] }
  | _ => none }
def alertIsRow : OpenClaim := { program := "ytjhgmoaabflbfaa", sum := "2cce989b6041b44665e6f085f7520742974c72e90b2e862a7048e7c9171b67be", func := "larum/larumlaw22.AlertIs", spec := "alertIs", inPlace := ["internal/abi.NoEscape", "internal/bytealg.IndexByteString"], unfollowed := true, recurses := true, apart := false }
def AlertIsSaid : Prop := alertIsRow.holds Try.pinned (OpenSpec.ofChange alertIsSpec)

/-- ITS FALSE NEIGHBOUR: 'it returns false'. Refute it at one input. -/
def alertIsWrong : ChangeSpec := { name := "alertIs", fn := fun _ => fun
  | [d1, d2] => { results := [.lit (.bool false)], args := [d1, d2] }
  | _ => none }
def AlertIsWrongFalsely : Prop := alertIsRow.holds Try.pinned (OpenSpec.ofChange alertIsWrong)

/-- 'larumlaw14.LabelPick': WHATEVER THE INPUT: true; the input reads as it did. -/
def labelPickSpec : ChangeSpec := { name := "labelPick", fn := fun _ => fun
  | [d1, d2] => { results := [.lit (.bool true)], args := [d1, d2] }
  | _ => none }
def labelPickRow : OpenClaim := { program := "ytjhgmoaabflbfaa", sum := "2cce989b6041b44665e6f085f7520742974c72e90b2e862a7048e7c9171b67be", func := "larum/larumlaw14.LabelPick", spec := "labelPick", inPlace := ["internal/abi.NoEscape", "internal/bytealg.IndexByteString"], unfollowed := true, recurses := true, apart := false }
def LabelPickSaid : Prop := labelPickRow.holds Try.pinned (OpenSpec.ofChange labelPickSpec)

/-- ITS FALSE NEIGHBOUR: 'it returns false'. Refute it at one input. -/
def labelPickWrong : ChangeSpec := { name := "labelPick", fn := fun _ => fun
  | [d1, d2] => { results := [.lit (.bool false)], args := [d1, d2] }
  | _ => none }
def LabelPickWrongFalsely : Prop := labelPickRow.holds Try.pinned (OpenSpec.ofChange labelPickWrong)

/- THE SECOND FORM. 'bulk': how many values and letters a reading holds, each counted each time it is reached (what is shared counts as often as it is met; a slice's spare places count too). A statement '..UptoSaid' is the law's where the arguments, and the package variables that the reading takes, are together of bulk at most 1048576: NARROWER than '..Said'. Prove '..Said' where nothing that the law and all that it calls make is longer than what came in: it says more and counts as full. Else prove '..UptoSaid'. A law counts once. -/
mutual
def uptoBulk {H : Type} : DataW H → Nat
  | .lit (.string bytes) => bytes.length + 1
  | .lit _ => 1
  | .nil => 1
  | .ptr d => uptoBulk d + 1
  | .slice elems spare => uptoBulkAll elems + uptoBulkAll spare + 1
  | .agg parts => uptoBulkAll parts + 1
  | .iface _ d => uptoBulk d + 1
  | .map entries => uptoBulkEntries entries + 1
  | .held _ => 1
def uptoBulkAll {H : Type} : List (DataW H) → Nat
  | [] => 0
  | d :: r => uptoBulk d + uptoBulkAll r
def uptoBulkEntries {H : Type} : List (Lit × DataW H) → Nat
  | [] => 0
  | x :: r => uptoBulkEntry x + uptoBulkEntries r
def uptoBulkEntry {H : Type} : Lit × DataW H → Nat
  | (.string bytes, d) => bytes.length + uptoBulk d + 1
  | (_, d) => uptoBulk d + 1
 end
def uptoSmall : (H : Type) → List (DataW H) → Bool := fun _ ds => decide (uptoBulkAll ds ≤ 1048576)
def OpenSpec.upto (s : _root_.Go.ChangeSpec) : _root_.Go.OpenSpec := { _root_.Go.OpenSpec.ofChange s with cond := some uptoSmall }

/-- 'larumlaw22.AlertAgain', WHERE WHAT IT READS IS OF BULK AT MOST 1048576: true; the input reads as it did. -/
def alertAgainUptoRow : OpenClaim := { program := "ytjhgmoaabflbfaa", sum := "2cce989b6041b44665e6f085f7520742974c72e90b2e862a7048e7c9171b67be", func := "larum/larumlaw22.AlertAgain", spec := "alertAgain", inPlace := ["internal/abi.NoEscape", "internal/bytealg.IndexByteString"], unfollowed := true, recurses := true, apart := false, narrowed := true }
def AlertAgainUptoSaid : Prop := alertAgainUptoRow.holds Try.pinned (OpenSpec.upto alertAgainSpec)

/-- 'larumlaw22.AlertMerge', WHERE WHAT IT READS IS OF BULK AT MOST 1048576: true; the input reads as it did. -/
def alertMergeUptoRow : OpenClaim := { program := "ytjhgmoaabflbfaa", sum := "2cce989b6041b44665e6f085f7520742974c72e90b2e862a7048e7c9171b67be", func := "larum/larumlaw22.AlertMerge", spec := "alertMerge", inPlace := ["internal/abi.NoEscape", "internal/bytealg.IndexByteString"], unfollowed := true, recurses := true, apart := false, narrowed := true }
def AlertMergeUptoSaid : Prop := alertMergeUptoRow.holds Try.pinned (OpenSpec.upto alertMergeSpec)

/-- 'larumlaw14.LabelOf', WHERE WHAT IT READS IS OF BULK AT MOST 1048576: true; the input reads as it did. -/
def labelOfUptoRow : OpenClaim := { program := "ytjhgmoaabflbfaa", sum := "2cce989b6041b44665e6f085f7520742974c72e90b2e862a7048e7c9171b67be", func := "larum/larumlaw14.LabelOf", spec := "labelOf", inPlace := ["internal/abi.NoEscape", "internal/bytealg.IndexByteString"], unfollowed := true, recurses := true, apart := false, narrowed := true }
def LabelOfUptoSaid : Prop := labelOfUptoRow.holds Try.pinned (OpenSpec.upto labelOfSpec)

/-- 'larumlaw14.LabelOrder', WHERE WHAT IT READS IS OF BULK AT MOST 1048576: true; the input reads as it did. -/
def labelOrderUptoRow : OpenClaim := { program := "ytjhgmoaabflbfaa", sum := "2cce989b6041b44665e6f085f7520742974c72e90b2e862a7048e7c9171b67be", func := "larum/larumlaw14.LabelOrder", spec := "labelOrder", inPlace := ["internal/abi.NoEscape", "internal/bytealg.IndexByteString"], unfollowed := true, recurses := true, apart := false, narrowed := true }
def LabelOrderUptoSaid : Prop := labelOrderUptoRow.holds Try.pinned (OpenSpec.upto labelOrderSpec)

/-- 'larumlaw22.AlertIs', WHERE WHAT IT READS IS OF BULK AT MOST 1048576: true; the input reads as it did. -/
def alertIsUptoRow : OpenClaim := { program := "ytjhgmoaabflbfaa", sum := "2cce989b6041b44665e6f085f7520742974c72e90b2e862a7048e7c9171b67be", func := "larum/larumlaw22.AlertIs", spec := "alertIs", inPlace := ["internal/abi.NoEscape", "internal/bytealg.IndexByteString"], unfollowed := true, recurses := true, apart := false, narrowed := true }
def AlertIsUptoSaid : Prop := alertIsUptoRow.holds Try.pinned (OpenSpec.upto alertIsSpec)

/-- 'larumlaw14.LabelPick', WHERE WHAT IT READS IS OF BULK AT MOST 1048576: true; the input reads as it did. -/
def labelPickUptoRow : OpenClaim := { program := "ytjhgmoaabflbfaa", sum := "2cce989b6041b44665e6f085f7520742974c72e90b2e862a7048e7c9171b67be", func := "larum/larumlaw14.LabelPick", spec := "labelPick", inPlace := ["internal/abi.NoEscape", "internal/bytealg.IndexByteString"], unfollowed := true, recurses := true, apart := false, narrowed := true }
def LabelPickUptoSaid : Prop := labelPickUptoRow.holds Try.pinned (OpenSpec.upto labelPickSpec)

end Rows
end Go.Proofs.Ytjhgmoaabflbfaa
