/-
  DERIVED. GIVEN WITH THE SEED: THE CARDS: each row of YtjfpcgkgdajcfaaGreatDoorRows.lean that lists a variable, with what it lists TIED to the program's text (the seventh form; the later family's looks); each row that meets fmt, with fmt's text TOLD by the authors' own Lean function (tested against real Go, not proved from fmt's source: count such statements apart). THE CARD IS WHAT COUNTS. Prove the row's statement (the work); the ties are given (YtjfpcgkgdajcfaaGreatDoorTie.lean); close each card by the builder's one call (the guide's Derived/Test/ToyasCard.lean, 'card_holds'). Laid BY PROGRAM, IN A SANDBOX (cutbox-door.mjs). By AI agents, Wed Nov 11 2026. No macro, syntax, notation, axiom, sorry.
-/
import Derived.Test.YtjfpcgkgdajcfaaGreatDoorRows
import GoSem.ClaimSeven
namespace Go.Proofs.YtjfpcgkgdajcfaaGreatDoor
namespace Rows

/-- THE TIED CARD OF 'fleuronlaw12.PathsLines'. -/
def pathsLinesCard : Claim7 := { stood := { row := pathsLinesRow, standIns := [], harness := (true, "db5fb3b699d93857bfda4feb5d90c365435963df15d853a219fdb9a479be9cd0"), looks := true }, kinds := [], alts := [], laidByText := true, laidKinds := [.data, .data, .data, .data, .sentinel, .sentinel, .pinned], laidTests := true, laidLooks := .later }
def PathsLinesCardSaid : Prop := Claim7.holds Tryz.pinned (.plain (OpenSpec.ofChange pathsLinesSpec)) pathsLinesCard

/-- THE TIED CARD OF 'fleuronlaw12.PathsTexts'. -/
def pathsTextsCard : Claim7 := { stood := { row := pathsTextsRow, standIns := [], harness := (true, "db5fb3b699d93857bfda4feb5d90c365435963df15d853a219fdb9a479be9cd0"), looks := true }, kinds := [], alts := [], laidByText := true, laidKinds := [.data, .data, .data, .data, .sentinel, .sentinel, .pinned], laidTests := true, laidLooks := .later }
def PathsTextsCardSaid : Prop := Claim7.holds Tryz.pinned (.plain (OpenSpec.ofChange pathsTextsSpec)) pathsTextsCard

/-- THE TIED CARD OF 'fleuronlaw12.PathsBack'. -/
def pathsBackCard : Claim7 := { stood := { row := pathsBackRow, standIns := [], harness := (true, "db5fb3b699d93857bfda4feb5d90c365435963df15d853a219fdb9a479be9cd0"), looks := true }, kinds := [], alts := [], laidByText := true, laidKinds := [.data, .data, .data, .data, .sentinel, .sentinel, .pinned], laidTests := true, laidLooks := .later }
def PathsBackCardSaid : Prop := Claim7.holds Tryz.pinned (.plain (OpenSpec.ofChange pathsBackSpec)) pathsBackCard

/-- THE TIED CARD OF 'fleuronlaw12.PathsPoints'. -/
def pathsPointsCard : Claim7 := { stood := { row := pathsPointsRow, standIns := [], harness := (true, "db5fb3b699d93857bfda4feb5d90c365435963df15d853a219fdb9a479be9cd0"), looks := true }, kinds := [], alts := [], laidByText := true, laidKinds := [.data, .data, .data, .data, .sentinel, .sentinel, .pinned], laidTests := true, laidLooks := .later }
def PathsPointsCardSaid : Prop := Claim7.holds Tryz.pinned (.plain (OpenSpec.ofChange pathsPointsSpec)) pathsPointsCard

/-- THE TIED CARD OF 'fleuronlaw12.PathsSubs'. -/
def pathsSubsCard : Claim7 := { stood := { row := pathsSubsRow, standIns := [], harness := (true, "db5fb3b699d93857bfda4feb5d90c365435963df15d853a219fdb9a479be9cd0"), looks := true }, kinds := [], alts := [], laidByText := true, laidKinds := [.data, .data, .data, .data, .sentinel, .sentinel, .pinned], laidTests := true, laidLooks := .later }
def PathsSubsCardSaid : Prop := Claim7.holds Tryz.pinned (.plain (OpenSpec.ofChange pathsSubsSpec)) pathsSubsCard

/-- THE TIED CARD OF 'fleuronlaw12.PathsEnds'. -/
def pathsEndsCard : Claim7 := { stood := { row := pathsEndsRow, standIns := [], harness := (true, "db5fb3b699d93857bfda4feb5d90c365435963df15d853a219fdb9a479be9cd0"), looks := true }, kinds := [], alts := [], laidByText := true, laidKinds := [.data, .data, .data, .data, .sentinel, .sentinel, .pinned], laidTests := true, laidLooks := .later }
def PathsEndsCardSaid : Prop := Claim7.holds Tryz.pinned (.plain (OpenSpec.ofChange pathsEndsSpec)) pathsEndsCard

/-- THE TIED CARD OF 'fleuronlaw12.PathsMoved'. -/
def pathsMovedCard : Claim7 := { stood := { row := pathsMovedRow, standIns := [], harness := (true, "db5fb3b699d93857bfda4feb5d90c365435963df15d853a219fdb9a479be9cd0"), looks := true }, kinds := [], alts := [], laidByText := true, laidKinds := [.data, .data, .data, .data, .sentinel, .sentinel, .pinned], laidTests := true, laidLooks := .later }
def PathsMovedCardSaid : Prop := Claim7.holds Tryz.pinned (.plain (OpenSpec.ofChange pathsMovedSpec)) pathsMovedCard

/-- THE TIED CARD OF 'fleuronlaw12.PathsWhole'. -/
def pathsWholeCard : Claim7 := { stood := { row := pathsWholeRow, standIns := [], harness := (true, "db5fb3b699d93857bfda4feb5d90c365435963df15d853a219fdb9a479be9cd0"), looks := true }, kinds := [], alts := [], laidByText := true, laidKinds := [.data, .data, .data, .data, .sentinel, .sentinel, .pinned], laidTests := true, laidLooks := .later }
def PathsWholeCardSaid : Prop := Claim7.holds Tryz.pinned (.plain (OpenSpec.ofChange pathsWholeSpec)) pathsWholeCard

/-- THE TIED CARD OF 'fleuronlaw12.PathsJoins'. -/
def pathsJoinsCard : Claim7 := { stood := { row := pathsJoinsRow, standIns := [], harness := (true, "db5fb3b699d93857bfda4feb5d90c365435963df15d853a219fdb9a479be9cd0"), looks := true }, kinds := [], alts := [], laidByText := true, laidKinds := [.data, .data, .data, .data, .sentinel, .sentinel, .pinned], laidTests := true, laidLooks := .later }
def PathsJoinsCardSaid : Prop := Claim7.holds Tryz.pinned (.plain (OpenSpec.ofChange pathsJoinsSpec)) pathsJoinsCard

/-- THE TIED CARD OF 'fleuronlaw12.PathsOwn'. -/
def pathsOwnCard : Claim7 := { stood := { row := pathsOwnRow, standIns := [], harness := (true, "db5fb3b699d93857bfda4feb5d90c365435963df15d853a219fdb9a479be9cd0"), looks := true }, kinds := [], alts := [], laidByText := true, laidKinds := [.data, .data, .data, .data, .sentinel, .sentinel, .pinned], laidTests := true, laidLooks := .later }
def PathsOwnCardSaid : Prop := Claim7.holds Tryz.pinned (.plain (OpenSpec.ofChange pathsOwnSpec)) pathsOwnCard

/-- THE SECOND FORM's CARD OF 'fleuronlaw12.PathsLines'. -/
def pathsLinesUptoCard : Claim7 := { stood := { row := pathsLinesUptoRow, standIns := [], harness := (true, "db5fb3b699d93857bfda4feb5d90c365435963df15d853a219fdb9a479be9cd0"), looks := true }, kinds := [], alts := [], laidByText := true, laidKinds := [.data, .data, .data, .data, .sentinel, .sentinel, .pinned], laidTests := true, laidLooks := .later }
def PathsLinesUptoCardSaid : Prop := Claim7.holds Tryz.pinned (.plain (OpenSpec.upto pathsLinesSpec)) pathsLinesUptoCard

/-- THE SECOND FORM's CARD OF 'fleuronlaw12.PathsTexts'. -/
def pathsTextsUptoCard : Claim7 := { stood := { row := pathsTextsUptoRow, standIns := [], harness := (true, "db5fb3b699d93857bfda4feb5d90c365435963df15d853a219fdb9a479be9cd0"), looks := true }, kinds := [], alts := [], laidByText := true, laidKinds := [.data, .data, .data, .data, .sentinel, .sentinel, .pinned], laidTests := true, laidLooks := .later }
def PathsTextsUptoCardSaid : Prop := Claim7.holds Tryz.pinned (.plain (OpenSpec.upto pathsTextsSpec)) pathsTextsUptoCard

/-- THE SECOND FORM's CARD OF 'fleuronlaw12.PathsBack'. -/
def pathsBackUptoCard : Claim7 := { stood := { row := pathsBackUptoRow, standIns := [], harness := (true, "db5fb3b699d93857bfda4feb5d90c365435963df15d853a219fdb9a479be9cd0"), looks := true }, kinds := [], alts := [], laidByText := true, laidKinds := [.data, .data, .data, .data, .sentinel, .sentinel, .pinned], laidTests := true, laidLooks := .later }
def PathsBackUptoCardSaid : Prop := Claim7.holds Tryz.pinned (.plain (OpenSpec.upto pathsBackSpec)) pathsBackUptoCard

/-- THE SECOND FORM's CARD OF 'fleuronlaw12.PathsPoints'. -/
def pathsPointsUptoCard : Claim7 := { stood := { row := pathsPointsUptoRow, standIns := [], harness := (true, "db5fb3b699d93857bfda4feb5d90c365435963df15d853a219fdb9a479be9cd0"), looks := true }, kinds := [], alts := [], laidByText := true, laidKinds := [.data, .data, .data, .data, .sentinel, .sentinel, .pinned], laidTests := true, laidLooks := .later }
def PathsPointsUptoCardSaid : Prop := Claim7.holds Tryz.pinned (.plain (OpenSpec.upto pathsPointsSpec)) pathsPointsUptoCard

/-- THE SECOND FORM's CARD OF 'fleuronlaw12.PathsSubs'. -/
def pathsSubsUptoCard : Claim7 := { stood := { row := pathsSubsUptoRow, standIns := [], harness := (true, "db5fb3b699d93857bfda4feb5d90c365435963df15d853a219fdb9a479be9cd0"), looks := true }, kinds := [], alts := [], laidByText := true, laidKinds := [.data, .data, .data, .data, .sentinel, .sentinel, .pinned], laidTests := true, laidLooks := .later }
def PathsSubsUptoCardSaid : Prop := Claim7.holds Tryz.pinned (.plain (OpenSpec.upto pathsSubsSpec)) pathsSubsUptoCard

/-- THE SECOND FORM's CARD OF 'fleuronlaw12.PathsEnds'. -/
def pathsEndsUptoCard : Claim7 := { stood := { row := pathsEndsUptoRow, standIns := [], harness := (true, "db5fb3b699d93857bfda4feb5d90c365435963df15d853a219fdb9a479be9cd0"), looks := true }, kinds := [], alts := [], laidByText := true, laidKinds := [.data, .data, .data, .data, .sentinel, .sentinel, .pinned], laidTests := true, laidLooks := .later }
def PathsEndsUptoCardSaid : Prop := Claim7.holds Tryz.pinned (.plain (OpenSpec.upto pathsEndsSpec)) pathsEndsUptoCard

/-- THE SECOND FORM's CARD OF 'fleuronlaw12.PathsMoved'. -/
def pathsMovedUptoCard : Claim7 := { stood := { row := pathsMovedUptoRow, standIns := [], harness := (true, "db5fb3b699d93857bfda4feb5d90c365435963df15d853a219fdb9a479be9cd0"), looks := true }, kinds := [], alts := [], laidByText := true, laidKinds := [.data, .data, .data, .data, .sentinel, .sentinel, .pinned], laidTests := true, laidLooks := .later }
def PathsMovedUptoCardSaid : Prop := Claim7.holds Tryz.pinned (.plain (OpenSpec.upto pathsMovedSpec)) pathsMovedUptoCard

/-- THE SECOND FORM's CARD OF 'fleuronlaw12.PathsWhole'. -/
def pathsWholeUptoCard : Claim7 := { stood := { row := pathsWholeUptoRow, standIns := [], harness := (true, "db5fb3b699d93857bfda4feb5d90c365435963df15d853a219fdb9a479be9cd0"), looks := true }, kinds := [], alts := [], laidByText := true, laidKinds := [.data, .data, .data, .data, .sentinel, .sentinel, .pinned], laidTests := true, laidLooks := .later }
def PathsWholeUptoCardSaid : Prop := Claim7.holds Tryz.pinned (.plain (OpenSpec.upto pathsWholeSpec)) pathsWholeUptoCard

/-- THE SECOND FORM's CARD OF 'fleuronlaw12.PathsJoins'. -/
def pathsJoinsUptoCard : Claim7 := { stood := { row := pathsJoinsUptoRow, standIns := [], harness := (true, "db5fb3b699d93857bfda4feb5d90c365435963df15d853a219fdb9a479be9cd0"), looks := true }, kinds := [], alts := [], laidByText := true, laidKinds := [.data, .data, .data, .data, .sentinel, .sentinel, .pinned], laidTests := true, laidLooks := .later }
def PathsJoinsUptoCardSaid : Prop := Claim7.holds Tryz.pinned (.plain (OpenSpec.upto pathsJoinsSpec)) pathsJoinsUptoCard

/-- THE SECOND FORM's CARD OF 'fleuronlaw12.PathsOwn'. -/
def pathsOwnUptoCard : Claim7 := { stood := { row := pathsOwnUptoRow, standIns := [], harness := (true, "db5fb3b699d93857bfda4feb5d90c365435963df15d853a219fdb9a479be9cd0"), looks := true }, kinds := [], alts := [], laidByText := true, laidKinds := [.data, .data, .data, .data, .sentinel, .sentinel, .pinned], laidTests := true, laidLooks := .later }
def PathsOwnUptoCardSaid : Prop := Claim7.holds Tryz.pinned (.plain (OpenSpec.upto pathsOwnSpec)) pathsOwnUptoCard
end Rows
end Go.Proofs.YtjfpcgkgdajcfaaGreatDoor
