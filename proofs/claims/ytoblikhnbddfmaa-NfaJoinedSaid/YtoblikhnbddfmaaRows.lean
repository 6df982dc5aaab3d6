/-
  No cell of these rows narrows 'for every input' (looked for: loops, veiled, ifaces, maps, wideKeys, modest, calm, conditions, laid).
  DERIVED. THE GIVEN ROWS OF THIS SEAT. 10 by the template 'for every input the law returns true; each argument reads behind the call as it read before'; 0 by the template 'total and deterministic' (their statements: YtoblikhnbddfmaaTotals.lean).
  GIVEN WITH THE SEED: the statements are not yours to turn. If you find one false, say at which input.
  Laid BY PROGRAM, IN A SANDBOX (cutbox-rows.mjs): the forced cells as the released guide's own fill.sh prints them over the translation 501beb09e219305f… (all of the seat's roots in one cut). By AI agents, Wed Nov 11 2026. No macro, syntax, notation, axiom, sorry.
-/
import Derived.Test.YtoblikhnbddfmaaChecked
import GoSem.Claim
import GoSem.ClaimJoined
import GoSem.ClaimMapViews
import Derived.JoinedTies
import Derived.KernelRfl
namespace Go.Proofs.Ytoblikhnbddfmaa
/- THE CELL 'sum', in the pinned program and in every row, IS THE sha256 OF THE DUMP (.gsa) THAT YtoblikhnbddfmaaProg.lean LOADS. Nothing in Lean hashes anything: it is a label: what it is worth is what the hold of that sum in a sandbox is worth. -/
noncomputable def Try.pinned : Pinned := { name := "ytoblikhnbddfmaa", sum := "501beb09e219305ffc33611d518673fef7eb2f129cb3794888c11efa8b5b7fb1", checked := Try.checked }
namespace Rows
def none {H : Type} : Left H := { results := [], args := [] }

/-- 'larumlaw25.NoteTurns': WHATEVER THE INPUT: true; the input reads as it did. -/
def noteTurnsSpec : ChangeSpec := { name := "noteTurns", fn := fun _ => fun
  | [d] => { results := [.lit (.bool true)], args := [d] }
  | _ => none }
def noteTurnsRow : OpenClaim := { program := "ytoblikhnbddfmaa", sum := "501beb09e219305ffc33611d518673fef7eb2f129cb3794888c11efa8b5b7fb1", func := "larum/larumlaw25.NoteTurns", spec := "noteTurns", recurses := true, apart := false }
def NoteTurnsSaid : Prop := noteTurnsRow.holds Try.pinned (OpenSpec.ofChange noteTurnsSpec)

/-- ITS FALSE NEIGHBOUR: 'it returns false'. Refute it at one input. -/
def noteTurnsWrong : ChangeSpec := { name := "noteTurns", fn := fun _ => fun
  | [d] => { results := [.lit (.bool false)], args := [d] }
  | _ => none }
def NoteTurnsWrongFalsely : Prop := noteTurnsRow.holds Try.pinned (OpenSpec.ofChange noteTurnsWrong)

/-- 'larumlaw15.RegexParse': WHATEVER THE INPUT: true; the input reads as it did. -/
def regexParseSpec : ChangeSpec := { name := "regexParse", fn := fun _ => fun
  | [d] => { results := [.lit (.bool true)], args := [d] }
  | _ => none }
def regexParseRow : OpenClaim := { program := "ytoblikhnbddfmaa", sum := "501beb09e219305ffc33611d518673fef7eb2f129cb3794888c11efa8b5b7fb1", func := "larum/larumlaw15.RegexParse", spec := "regexParse", inPlace := ["internal/bytealg.IndexByteString"], unfollowed := true, recurses := true, apart := false }
def RegexParseSaid : Prop := regexParseRow.holds Try.pinned (OpenSpec.ofChange regexParseSpec)

/-- ITS FALSE NEIGHBOUR: 'it returns false'. Refute it at one input. -/
def regexParseWrong : ChangeSpec := { name := "regexParse", fn := fun _ => fun
  | [d] => { results := [.lit (.bool false)], args := [d] }
  | _ => none }
def RegexParseWrongFalsely : Prop := regexParseRow.holds Try.pinned (OpenSpec.ofChange regexParseWrong)

/-- 'larumlaw15.RegexSize': WHATEVER THE INPUT: true; the input reads as it did. -/
def regexSizeSpec : ChangeSpec := { name := "regexSize", fn := fun _ => fun
  | [d] => { results := [.lit (.bool true)], args := [d] }
  | _ => none }
def regexSizeRow : OpenClaim := { program := "ytoblikhnbddfmaa", sum := "501beb09e219305ffc33611d518673fef7eb2f129cb3794888c11efa8b5b7fb1", func := "larum/larumlaw15.RegexSize", spec := "regexSize", inPlace := ["internal/bytealg.IndexByteString"], unfollowed := true, recurses := true, apart := false }
def RegexSizeSaid : Prop := regexSizeRow.holds Try.pinned (OpenSpec.ofChange regexSizeSpec)

/-- ITS FALSE NEIGHBOUR: 'it returns false'. Refute it at one input. -/
def regexSizeWrong : ChangeSpec := { name := "regexSize", fn := fun _ => fun
  | [d] => { results := [.lit (.bool false)], args := [d] }
  | _ => none }
def RegexSizeWrongFalsely : Prop := regexSizeRow.holds Try.pinned (OpenSpec.ofChange regexSizeWrong)

/-- 'larumlaw25.NotePlays': WHATEVER THE INPUT: true; the input reads as it did. -/
def notePlaysSpec : ChangeSpec := { name := "notePlays", fn := fun _ => fun
  | [d1, d2, d3] => { results := [.lit (.bool true)], args := [d1, d2, d3] }
  | _ => none }
def notePlaysRow : OpenClaim := { program := "ytoblikhnbddfmaa", sum := "501beb09e219305ffc33611d518673fef7eb2f129cb3794888c11efa8b5b7fb1", func := "larum/larumlaw25.NotePlays", spec := "notePlays", recurses := true, apart := false }
def NotePlaysSaid : Prop := notePlaysRow.holds Try.pinned (OpenSpec.ofChange notePlaysSpec)

/-- ITS FALSE NEIGHBOUR: 'it returns false'. Refute it at one input. -/
def notePlaysWrong : ChangeSpec := { name := "notePlays", fn := fun _ => fun
  | [d1, d2, d3] => { results := [.lit (.bool false)], args := [d1, d2, d3] }
  | _ => none }
def NotePlaysWrongFalsely : Prop := notePlaysRow.holds Try.pinned (OpenSpec.ofChange notePlaysWrong)

/-- 'larumlaw25.NoteNil': WHATEVER THE INPUT: true; the input reads as it did. -/
def noteNilSpec : ChangeSpec := { name := "noteNil", fn := fun _ => fun
  | [d1, d2] => { results := [.lit (.bool true)], args := [d1, d2] }
  | _ => none }
def noteNilRow : OpenClaim := { program := "ytoblikhnbddfmaa", sum := "501beb09e219305ffc33611d518673fef7eb2f129cb3794888c11efa8b5b7fb1", func := "larum/larumlaw25.NoteNil", spec := "noteNil", recurses := true, apart := false }
def NoteNilSaid : Prop := noteNilRow.holds Try.pinned (OpenSpec.ofChange noteNilSpec)

/-- ITS FALSE NEIGHBOUR: 'it returns false'. Refute it at one input. -/
def noteNilWrong : ChangeSpec := { name := "noteNil", fn := fun _ => fun
  | [d1, d2] => { results := [.lit (.bool false)], args := [d1, d2] }
  | _ => none }
def NoteNilWrongFalsely : Prop := noteNilRow.holds Try.pinned (OpenSpec.ofChange noteNilWrong)

/-- 'larumlaw15.RegexIn': WHATEVER THE INPUT: true; the input reads as it did. -/
def regexInSpec : ChangeSpec := { name := "regexIn", fn := fun _ => fun
  | [d1, d2, d3] => { results := [.lit (.bool true)], args := [d1, d2, d3] }
  | _ => none }
def regexInRow : OpenClaim := { program := "ytoblikhnbddfmaa", sum := "501beb09e219305ffc33611d518673fef7eb2f129cb3794888c11efa8b5b7fb1", func := "larum/larumlaw15.RegexIn", spec := "regexIn", inPlace := ["internal/bytealg.IndexByteString"], unfollowed := true, recurses := true, apart := false }
def RegexInSaid : Prop := regexInRow.holds Try.pinned (OpenSpec.ofChange regexInSpec)

/-- ITS FALSE NEIGHBOUR: 'it returns false'. Refute it at one input. -/
def regexInWrong : ChangeSpec := { name := "regexIn", fn := fun _ => fun
  | [d1, d2, d3] => { results := [.lit (.bool false)], args := [d1, d2, d3] }
  | _ => none }
def RegexInWrongFalsely : Prop := regexInRow.holds Try.pinned (OpenSpec.ofChange regexInWrong)

/-- 'larumlaw16.NfaJoined': WHATEVER THE INPUT: true; the input reads as it did. -/
def nfaJoinedSpec : ChangeSpec := { name := "nfaJoined", fn := fun _ => fun
  | [d1, d2, d3, d4] => { results := [.lit (.bool true)], args := [d1, d2, d3, d4] }
  | _ => none }
def nfaJoinedRow : OpenClaim := { program := "ytoblikhnbddfmaa", sum := "501beb09e219305ffc33611d518673fef7eb2f129cb3794888c11efa8b5b7fb1", func := "larum/larumlaw16.NfaJoined", spec := "nfaJoined", inPlace := ["internal/bytealg.IndexByteString"], unfollowed := true, recurses := true, apart := false }
def NfaJoinedSaid : Prop := nfaJoinedRow.holds Try.pinned (OpenSpec.ofChange nfaJoinedSpec)

/-- ITS FALSE NEIGHBOUR: 'it returns false'. Refute it at one input. -/
def nfaJoinedWrong : ChangeSpec := { name := "nfaJoined", fn := fun _ => fun
  | [d1, d2, d3, d4] => { results := [.lit (.bool false)], args := [d1, d2, d3, d4] }
  | _ => none }
def NfaJoinedWrongFalsely : Prop := nfaJoinedRow.holds Try.pinned (OpenSpec.ofChange nfaJoinedWrong)

/-- 'larumlaw16.NfaSteps': WHATEVER THE INPUT: true; the input reads as it did. -/
def nfaStepsSpec : ChangeSpec := { name := "nfaSteps", fn := fun _ => fun
  | [d1, d2] => { results := [.lit (.bool true)], args := [d1, d2] }
  | _ => none }
def nfaStepsRow : OpenClaim := { program := "ytoblikhnbddfmaa", sum := "501beb09e219305ffc33611d518673fef7eb2f129cb3794888c11efa8b5b7fb1", func := "larum/larumlaw16.NfaSteps", spec := "nfaSteps", inPlace := ["internal/bytealg.IndexByteString"], unfollowed := true, recurses := true, apart := false }
def NfaStepsSaid : Prop := nfaStepsRow.holds Try.pinned (OpenSpec.ofChange nfaStepsSpec)

/-- ITS FALSE NEIGHBOUR: 'it returns false'. Refute it at one input. -/
def nfaStepsWrong : ChangeSpec := { name := "nfaSteps", fn := fun _ => fun
  | [d1, d2] => { results := [.lit (.bool false)], args := [d1, d2] }
  | _ => none }
def NfaStepsWrongFalsely : Prop := nfaStepsRow.holds Try.pinned (OpenSpec.ofChange nfaStepsWrong)

/-- 'larumlaw16.NfaRuns': WHATEVER THE INPUT: true; the input reads as it did. -/
def nfaRunsSpec : ChangeSpec := { name := "nfaRuns", fn := fun _ => fun
  | [d1, d2, d3] => { results := [.lit (.bool true)], args := [d1, d2, d3] }
  | _ => none }
def nfaRunsRow : OpenClaim := { program := "ytoblikhnbddfmaa", sum := "501beb09e219305ffc33611d518673fef7eb2f129cb3794888c11efa8b5b7fb1", func := "larum/larumlaw16.NfaRuns", spec := "nfaRuns", inPlace := ["internal/bytealg.IndexByteString"], unfollowed := true, recurses := true, apart := false }
def NfaRunsSaid : Prop := nfaRunsRow.holds Try.pinned (OpenSpec.ofChange nfaRunsSpec)

/-- ITS FALSE NEIGHBOUR: 'it returns false'. Refute it at one input. -/
def nfaRunsWrong : ChangeSpec := { name := "nfaRuns", fn := fun _ => fun
  | [d1, d2, d3] => { results := [.lit (.bool false)], args := [d1, d2, d3] }
  | _ => none }
def NfaRunsWrongFalsely : Prop := nfaRunsRow.holds Try.pinned (OpenSpec.ofChange nfaRunsWrong)

/-- 'larumlaw16.NfaNil': WHATEVER THE INPUT: true; the input reads as it did. -/
def nfaNilSpec : ChangeSpec := { name := "nfaNil", fn := fun _ => fun
  | [d] => { results := [.lit (.bool true)], args := [d] }
  | _ => none }
def nfaNilRow : OpenClaim := { program := "ytoblikhnbddfmaa", sum := "501beb09e219305ffc33611d518673fef7eb2f129cb3794888c11efa8b5b7fb1", func := "larum/larumlaw16.NfaNil", spec := "nfaNil", inPlace := ["internal/bytealg.IndexByteString"], unfollowed := true, recurses := true, apart := false }
def NfaNilSaid : Prop := nfaNilRow.holds Try.pinned (OpenSpec.ofChange nfaNilSpec)

/-- ITS FALSE NEIGHBOUR: 'it returns false'. Refute it at one input. -/
def nfaNilWrong : ChangeSpec := { name := "nfaNil", fn := fun _ => fun
  | [d] => { results := [.lit (.bool false)], args := [d] }
  | _ => none }
def NfaNilWrongFalsely : Prop := nfaNilRow.holds Try.pinned (OpenSpec.ofChange nfaNilWrong)

/- THE SECOND FORM. 'bulk': how many values and letters a reading holds, each counted each time it is reached (what is shared counts as often as it is met; a slice's spare places count too). A statement '..UptoSaid' is the law's where the arguments, and the package variables that the reading takes, are together of bulk at most 1048576: NARROWER than '..Said'. Prove '..Said' where nothing that the law and all that it calls make is longer than what came in: it says more and counts as full. Else prove '..UptoSaid'. A law counts once. -/
mutual
def uptoBulk {H : Type} : DataW H → Nat
  | .lit (.string bytes) => bytes.length + 1
  | .lit _ => 1
  | .nil => 1
  | .ptr d => uptoBulk d + 1
  | .slice elems spare => uptoBulkAll elems + uptoBulkAll spare + 1
  | .agg parts => uptoBulkAll parts + 1
  | .iface _ d => uptoBulk d + 1
  | .map entries => uptoBulkEntries entries + 1
  | .held _ => 1
def uptoBulkAll {H : Type} : List (DataW H) → Nat
  | [] => 0
  | d :: r => uptoBulk d + uptoBulkAll r
def uptoBulkEntries {H : Type} : List (Lit × DataW H) → Nat
  | [] => 0
  | x :: r => uptoBulkEntry x + uptoBulkEntries r
def uptoBulkEntry {H : Type} : Lit × DataW H → Nat
  | (.string bytes, d) => bytes.length + uptoBulk d + 1
  | (_, d) => uptoBulk d + 1
 end
def uptoSmall : (H : Type) → List (DataW H) → Bool := fun _ ds => decide (uptoBulkAll ds ≤ 1048576)
def OpenSpec.upto (s : _root_.Go.ChangeSpec) : _root_.Go.OpenSpec := { _root_.Go.OpenSpec.ofChange s with cond := some uptoSmall }

/-- 'larumlaw25.NoteTurns', WHERE WHAT IT READS IS OF BULK AT MOST 1048576: true; the input reads as it did. -/
def noteTurnsUptoRow : OpenClaim := { program := "ytoblikhnbddfmaa", sum := "501beb09e219305ffc33611d518673fef7eb2f129cb3794888c11efa8b5b7fb1", func := "larum/larumlaw25.NoteTurns", spec := "noteTurns", recurses := true, apart := false, narrowed := true }
def NoteTurnsUptoSaid : Prop := noteTurnsUptoRow.holds Try.pinned (OpenSpec.upto noteTurnsSpec)

/-- 'larumlaw15.RegexParse', WHERE WHAT IT READS IS OF BULK AT MOST 1048576: true; the input reads as it did. -/
def regexParseUptoRow : OpenClaim := { program := "ytoblikhnbddfmaa", sum := "501beb09e219305ffc33611d518673fef7eb2f129cb3794888c11efa8b5b7fb1", func := "larum/larumlaw15.RegexParse", spec := "regexParse", inPlace := ["internal/bytealg.IndexByteString"], unfollowed := true, recurses := true, apart := false, narrowed := true }
def RegexParseUptoSaid : Prop := regexParseUptoRow.holds Try.pinned (OpenSpec.upto regexParseSpec)

/-- 'larumlaw15.RegexSize', WHERE WHAT IT READS IS OF BULK AT MOST 1048576: true; the input reads as it did. -/
def regexSizeUptoRow : OpenClaim := { program := "ytoblikhnbddfmaa", sum := "501beb09e219305ffc33611d518673fef7eb2f129cb3794888c11efa8b5b7fb1", func := "larum/larumlaw15.RegexSize", spec := "regexSize", inPlace := ["internal/bytealg.IndexByteString"], unfollowed := true, recurses := true, apart := false, narrowed := true }
def RegexSizeUptoSaid : Prop := regexSizeUptoRow.holds Try.pinned (OpenSpec.upto regexSizeSpec)

/-- 'larumlaw25.NotePlays', WHERE WHAT IT READS IS OF BULK AT MOST 1048576: true; the input reads as it did. -/
def notePlaysUptoRow : OpenClaim := { program := "ytoblikhnbddfmaa", sum := "501beb09e219305ffc33611d518673fef7eb2f129cb3794888c11efa8b5b7fb1", func := "larum/larumlaw25.NotePlays", spec := "notePlays", recurses := true, apart := false, narrowed := true }
def NotePlaysUptoSaid : Prop := notePlaysUptoRow.holds Try.pinned (OpenSpec.upto notePlaysSpec)

/-- 'larumlaw25.NoteNil', WHERE WHAT IT READS IS OF BULK AT MOST 1048576: true; the input reads as it did. -/
def noteNilUptoRow : OpenClaim := { program := "ytoblikhnbddfmaa", sum := "501beb09e219305ffc33611d518673fef7eb2f129cb3794888c11efa8b5b7fb1", func := "larum/larumlaw25.NoteNil", spec := "noteNil", recurses := true, apart := false, narrowed := true }
def NoteNilUptoSaid : Prop := noteNilUptoRow.holds Try.pinned (OpenSpec.upto noteNilSpec)

/-- 'larumlaw15.RegexIn', WHERE WHAT IT READS IS OF BULK AT MOST 1048576: true; the input reads as it did. -/
def regexInUptoRow : OpenClaim := { program := "ytoblikhnbddfmaa", sum := "501beb09e219305ffc33611d518673fef7eb2f129cb3794888c11efa8b5b7fb1", func := "larum/larumlaw15.RegexIn", spec := "regexIn", inPlace := ["internal/bytealg.IndexByteString"], unfollowed := true, recurses := true, apart := false, narrowed := true }
def RegexInUptoSaid : Prop := regexInUptoRow.holds Try.pinned (OpenSpec.upto regexInSpec)

/-- 'larumlaw16.NfaJoined', WHERE WHAT IT READS IS OF BULK AT MOST 1048576: true; the input reads as it did. -/
def nfaJoinedUptoRow : OpenClaim := { program := "ytoblikhnbddfmaa", sum := "501beb09e219305ffc33611d518673fef7eb2f129cb3794888c11efa8b5b7fb1", func := "larum/larumlaw16.NfaJoined", spec := "nfaJoined", inPlace := ["internal/bytealg.IndexByteString"], unfollowed := true, recurses := true, apart := false, narrowed := true }
def NfaJoinedUptoSaid : Prop := nfaJoinedUptoRow.holds Try.pinned (OpenSpec.upto nfaJoinedSpec)

/-- 'larumlaw16.NfaSteps', WHERE WHAT IT READS IS OF BULK AT MOST 1048576: true; the input reads as it did. -/
def nfaStepsUptoRow : OpenClaim := { program := "ytoblikhnbddfmaa", sum := "501beb09e219305ffc33611d518673fef7eb2f129cb3794888c11efa8b5b7fb1", func := "larum/larumlaw16.NfaSteps", spec := "nfaSteps", inPlace := ["internal/bytealg.IndexByteString"], unfollowed := true, recurses := true, apart := false, narrowed := true }
def NfaStepsUptoSaid : Prop := nfaStepsUptoRow.holds Try.pinned (OpenSpec.upto nfaStepsSpec)

/-- 'larumlaw16.NfaRuns', WHERE WHAT IT READS IS OF BULK AT MOST 1048576: true; the input reads as it did. -/
def nfaRunsUptoRow : OpenClaim := { program := "ytoblikhnbddfmaa", sum := "501beb09e219305ffc33611d518673fef7eb2f129cb3794888c11efa8b5b7fb1", func := "larum/larumlaw16.NfaRuns", spec := "nfaRuns", inPlace := ["internal/bytealg.IndexByteString"], unfollowed := true, recurses := true, apart := false, narrowed := true }
def NfaRunsUptoSaid : Prop := nfaRunsUptoRow.holds Try.pinned (OpenSpec.upto nfaRunsSpec)

/-- 'larumlaw16.NfaNil', WHERE WHAT IT READS IS OF BULK AT MOST 1048576: true; the input reads as it did. -/
def nfaNilUptoRow : OpenClaim := { program := "ytoblikhnbddfmaa", sum := "501beb09e219305ffc33611d518673fef7eb2f129cb3794888c11efa8b5b7fb1", func := "larum/larumlaw16.NfaNil", spec := "nfaNil", inPlace := ["internal/bytealg.IndexByteString"], unfollowed := true, recurses := true, apart := false, narrowed := true }
def NfaNilUptoSaid : Prop := nfaNilUptoRow.holds Try.pinned (OpenSpec.upto nfaNilSpec)

end Rows
end Go.Proofs.Ytoblikhnbddfmaa
