/-
  DERIVED. GIVEN WITH THE SEED: THE CARDS: each row of YtnipaiklandliaaGreatDoorRows.lean that lists a variable, with what it lists TIED to the program's text (the seventh form; the later family's looks); each row that meets fmt, with fmt's text TOLD by the authors' own Lean function (tested against real Go, not proved from fmt's source: count such statements apart). THE CARD IS WHAT COUNTS. Prove the row's statement (the work); the ties are given (YtnipaiklandliaaGreatDoorTie.lean); close each card by the builder's one call (the guide's Derived/Test/ToyasCard.lean, 'card_holds'). Laid BY PROGRAM, IN A SANDBOX (cutbox-door.mjs). By AI agents, Wed Nov 11 2026. No macro, syntax, notation, axiom, sorry.
-/
import Derived.Test.YtnipaiklandliaaGreatDoorRows
import GoSem.ClaimSeven
namespace Go.Proofs.YtnipaiklandliaaGreatDoor
namespace Rows

/-- THE TIED CARD OF 'larumlaw14.LabelText'. -/
def labelTextCard : Claim7 := { stood := { row := labelTextRow, standIns := [], harness := (true, "de68efdfef20deb5d6992bb201019cb389c90191a8cb184da35965c2084ed0cf"), looks := true }, kinds := [], alts := [], laidByText := true, laidKinds := [.handle], laidTests := true, laidLooks := .later }
def LabelTextCardSaid : Prop := Claim7.holds Tryz.pinned (.plain (OpenSpec.ofChange labelTextSpec)) labelTextCard

/-- THE TIED CARD OF 'larumlaw23.SilenceKeys'. -/
def silenceKeysCard : Claim7 := { stood := { row := silenceKeysRow, standIns := [], harness := (true, "de68efdfef20deb5d6992bb201019cb389c90191a8cb184da35965c2084ed0cf"), looks := true }, kinds := [], alts := [], laidByText := true, laidKinds := [.data, .handle, .pinned], laidTests := true, laidLooks := .later }
def SilenceKeysCardSaid : Prop := Claim7.holds Tryz.pinned (.plain (OpenSpec.ofChange silenceKeysSpec)) silenceKeysCard

/-- THE TIED CARD OF 'larumlaw17.MatchBack'. -/
def matchBackCard : Claim7 := { stood := { row := matchBackRow, standIns := [], harness := (true, "de68efdfef20deb5d6992bb201019cb389c90191a8cb184da35965c2084ed0cf"), looks := true }, kinds := [], alts := [], laidByText := true, laidKinds := [.data, .handle, .pinned], laidTests := true, laidLooks := .later }
def MatchBackCardSaid : Prop := Claim7.holds Tryz.pinned (.plain (OpenSpec.ofChange matchBackSpec)) matchBackCard

/-- THE TIED CARD OF 'larumlaw17.MatchEither'. -/
def matchEitherCard : Claim7 := { stood := { row := matchEitherRow, standIns := [], harness := (true, "de68efdfef20deb5d6992bb201019cb389c90191a8cb184da35965c2084ed0cf"), looks := true }, kinds := [], alts := [], laidByText := true, laidKinds := [.data, .handle, .pinned], laidTests := true, laidLooks := .later }
def MatchEitherCardSaid : Prop := Claim7.holds Tryz.pinned (.plain (OpenSpec.ofChange matchEitherSpec)) matchEitherCard

/-- THE SECOND FORM's CARD OF 'larumlaw14.LabelText'. -/
def labelTextUptoCard : Claim7 := { stood := { row := labelTextUptoRow, standIns := [], harness := (true, "de68efdfef20deb5d6992bb201019cb389c90191a8cb184da35965c2084ed0cf"), looks := true }, kinds := [], alts := [], laidByText := true, laidKinds := [.handle], laidTests := true, laidLooks := .later }
def LabelTextUptoCardSaid : Prop := Claim7.holds Tryz.pinned (.plain (OpenSpec.upto labelTextSpec)) labelTextUptoCard

/-- THE SECOND FORM's CARD OF 'larumlaw23.SilenceKeys'. -/
def silenceKeysUptoCard : Claim7 := { stood := { row := silenceKeysUptoRow, standIns := [], harness := (true, "de68efdfef20deb5d6992bb201019cb389c90191a8cb184da35965c2084ed0cf"), looks := true }, kinds := [], alts := [], laidByText := true, laidKinds := [.data, .handle, .pinned], laidTests := true, laidLooks := .later }
def SilenceKeysUptoCardSaid : Prop := Claim7.holds Tryz.pinned (.plain (OpenSpec.upto silenceKeysSpec)) silenceKeysUptoCard

/-- THE SECOND FORM's CARD OF 'larumlaw17.MatchBack'. -/
def matchBackUptoCard : Claim7 := { stood := { row := matchBackUptoRow, standIns := [], harness := (true, "de68efdfef20deb5d6992bb201019cb389c90191a8cb184da35965c2084ed0cf"), looks := true }, kinds := [], alts := [], laidByText := true, laidKinds := [.data, .handle, .pinned], laidTests := true, laidLooks := .later }
def MatchBackUptoCardSaid : Prop := Claim7.holds Tryz.pinned (.plain (OpenSpec.upto matchBackSpec)) matchBackUptoCard

/-- THE SECOND FORM's CARD OF 'larumlaw17.MatchEither'. -/
def matchEitherUptoCard : Claim7 := { stood := { row := matchEitherUptoRow, standIns := [], harness := (true, "de68efdfef20deb5d6992bb201019cb389c90191a8cb184da35965c2084ed0cf"), looks := true }, kinds := [], alts := [], laidByText := true, laidKinds := [.data, .handle, .pinned], laidTests := true, laidLooks := .later }
def MatchEitherUptoCardSaid : Prop := Claim7.holds Tryz.pinned (.plain (OpenSpec.upto matchEitherSpec)) matchEitherUptoCard
end Rows
end Go.Proofs.YtnipaiklandliaaGreatDoor
