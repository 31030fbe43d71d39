/-
  DERIVED. GIVEN WITH THE SEED: THE CARDS: each row of YtjaifahodfljkaaGreatDoorRows.lean that lists a variable, with what it lists TIED to the program's text (the seventh form; the later family's looks); each row that meets fmt, with fmt's text TOLD by the authors' own Lean function (tested against real Go, not proved from fmt's source: count such statements apart). THE CARD IS WHAT COUNTS. Prove the row's statement (the work); the ties are given (YtjaifahodfljkaaGreatDoorTie.lean); close each card by the builder's one call (the guide's Derived/Test/ToyasCard.lean, 'card_holds'). Laid BY PROGRAM, IN A SANDBOX (cutbox-door.mjs). By AI agents, Wed Nov 11 2026. No macro, syntax, notation, axiom, sorry.
-/
import Derived.Test.YtjaifahodfljkaaGreatDoorRows
import GoSem.ClaimSeven
namespace Go.Proofs.YtjaifahodfljkaaGreatDoor
namespace Rows

/-- THE TIED CARD OF 'fleuronlaw02.FixMuls'. -/
def fixMulsCard : Claim7 := { stood := { row := fixMulsRow, standIns := [], harness := (true, "e36c1202ce245a1d94ab175141ec2aef05de4877405dce85a166b5703794644d"), looks := true }, kinds := [], alts := [], laidByText := true, laidKinds := [.data, .data, .data, .data, .sentinel, .sentinel, .pinned], laidTests := true, laidLooks := .later }
def FixMulsCardSaid : Prop := Claim7.holds Tryz.pinned (.plain (OpenSpec.ofChange fixMulsSpec)) fixMulsCard

/-- THE TIED CARD OF 'fleuronlaw02.FixRoots'. -/
def fixRootsCard : Claim7 := { stood := { row := fixRootsRow, standIns := [], harness := (true, "e36c1202ce245a1d94ab175141ec2aef05de4877405dce85a166b5703794644d"), looks := true }, kinds := [], alts := [], laidByText := true, laidKinds := [.data, .data, .data, .data, .sentinel, .sentinel, .pinned], laidTests := true, laidLooks := .later }
def FixRootsCardSaid : Prop := Claim7.holds Tryz.pinned (.plain (OpenSpec.ofChange fixRootsSpec)) fixRootsCard

/-- THE TIED CARD OF 'fleuronlaw02.FixSines'. -/
def fixSinesCard : Claim7 := { stood := { row := fixSinesRow, standIns := [], harness := (true, "e36c1202ce245a1d94ab175141ec2aef05de4877405dce85a166b5703794644d"), looks := true }, kinds := [], alts := [], laidByText := true, laidKinds := [.data, .data, .data, .data, .sentinel, .sentinel, .pinned], laidTests := true, laidLooks := .later }
def FixSinesCardSaid : Prop := Claim7.holds Tryz.pinned (.plain (OpenSpec.ofChange fixSinesSpec)) fixSinesCard

/-- THE TIED CARD OF 'fleuronlaw02.FixTurns'. -/
def fixTurnsCard : Claim7 := { stood := { row := fixTurnsRow, standIns := [], harness := (true, "e36c1202ce245a1d94ab175141ec2aef05de4877405dce85a166b5703794644d"), looks := true }, kinds := [], alts := [], laidByText := true, laidKinds := [.data, .data, .data, .data, .sentinel, .sentinel, .pinned], laidTests := true, laidLooks := .later }
def FixTurnsCardSaid : Prop := Claim7.holds Tryz.pinned (.plain (OpenSpec.ofChange fixTurnsSpec)) fixTurnsCard

/-- THE TIED CARD OF 'fleuronlaw02.FixArgs'. -/
def fixArgsCard : Claim7 := { stood := { row := fixArgsRow, standIns := [], harness := (true, "e36c1202ce245a1d94ab175141ec2aef05de4877405dce85a166b5703794644d"), looks := true }, kinds := [], alts := [], laidByText := true, laidKinds := [.data, .data, .data, .data, .sentinel, .sentinel, .pinned], laidTests := true, laidLooks := .later }
def FixArgsCardSaid : Prop := Claim7.holds Tryz.pinned (.plain (OpenSpec.ofChange fixArgsSpec)) fixArgsCard

/-- THE TIED CARD OF 'fleuronlaw02.FixTexts'. -/
def fixTextsCard : Claim7 := { stood := { row := fixTextsRow, standIns := [], harness := (true, "e36c1202ce245a1d94ab175141ec2aef05de4877405dce85a166b5703794644d"), looks := true }, kinds := [], alts := [], laidByText := true, laidKinds := [.data, .data, .data, .data, .sentinel, .sentinel, .pinned], laidTests := true, laidLooks := .later }
def FixTextsCardSaid : Prop := Claim7.holds Tryz.pinned (.plain (OpenSpec.ofChange fixTextsSpec)) fixTextsCard

/-- THE SECOND FORM's CARD OF 'fleuronlaw02.FixMuls'. -/
def fixMulsUptoCard : Claim7 := { stood := { row := fixMulsUptoRow, standIns := [], harness := (true, "e36c1202ce245a1d94ab175141ec2aef05de4877405dce85a166b5703794644d"), looks := true }, kinds := [], alts := [], laidByText := true, laidKinds := [.data, .data, .data, .data, .sentinel, .sentinel, .pinned], laidTests := true, laidLooks := .later }
def FixMulsUptoCardSaid : Prop := Claim7.holds Tryz.pinned (.plain (OpenSpec.upto fixMulsSpec)) fixMulsUptoCard

/-- THE SECOND FORM's CARD OF 'fleuronlaw02.FixRoots'. -/
def fixRootsUptoCard : Claim7 := { stood := { row := fixRootsUptoRow, standIns := [], harness := (true, "e36c1202ce245a1d94ab175141ec2aef05de4877405dce85a166b5703794644d"), looks := true }, kinds := [], alts := [], laidByText := true, laidKinds := [.data, .data, .data, .data, .sentinel, .sentinel, .pinned], laidTests := true, laidLooks := .later }
def FixRootsUptoCardSaid : Prop := Claim7.holds Tryz.pinned (.plain (OpenSpec.upto fixRootsSpec)) fixRootsUptoCard

/-- THE SECOND FORM's CARD OF 'fleuronlaw02.FixSines'. -/
def fixSinesUptoCard : Claim7 := { stood := { row := fixSinesUptoRow, standIns := [], harness := (true, "e36c1202ce245a1d94ab175141ec2aef05de4877405dce85a166b5703794644d"), looks := true }, kinds := [], alts := [], laidByText := true, laidKinds := [.data, .data, .data, .data, .sentinel, .sentinel, .pinned], laidTests := true, laidLooks := .later }
def FixSinesUptoCardSaid : Prop := Claim7.holds Tryz.pinned (.plain (OpenSpec.upto fixSinesSpec)) fixSinesUptoCard

/-- THE SECOND FORM's CARD OF 'fleuronlaw02.FixTurns'. -/
def fixTurnsUptoCard : Claim7 := { stood := { row := fixTurnsUptoRow, standIns := [], harness := (true, "e36c1202ce245a1d94ab175141ec2aef05de4877405dce85a166b5703794644d"), looks := true }, kinds := [], alts := [], laidByText := true, laidKinds := [.data, .data, .data, .data, .sentinel, .sentinel, .pinned], laidTests := true, laidLooks := .later }
def FixTurnsUptoCardSaid : Prop := Claim7.holds Tryz.pinned (.plain (OpenSpec.upto fixTurnsSpec)) fixTurnsUptoCard

/-- THE SECOND FORM's CARD OF 'fleuronlaw02.FixArgs'. -/
def fixArgsUptoCard : Claim7 := { stood := { row := fixArgsUptoRow, standIns := [], harness := (true, "e36c1202ce245a1d94ab175141ec2aef05de4877405dce85a166b5703794644d"), looks := true }, kinds := [], alts := [], laidByText := true, laidKinds := [.data, .data, .data, .data, .sentinel, .sentinel, .pinned], laidTests := true, laidLooks := .later }
def FixArgsUptoCardSaid : Prop := Claim7.holds Tryz.pinned (.plain (OpenSpec.upto fixArgsSpec)) fixArgsUptoCard

/-- THE SECOND FORM's CARD OF 'fleuronlaw02.FixTexts'. -/
def fixTextsUptoCard : Claim7 := { stood := { row := fixTextsUptoRow, standIns := [], harness := (true, "e36c1202ce245a1d94ab175141ec2aef05de4877405dce85a166b5703794644d"), looks := true }, kinds := [], alts := [], laidByText := true, laidKinds := [.data, .data, .data, .data, .sentinel, .sentinel, .pinned], laidTests := true, laidLooks := .later }
def FixTextsUptoCardSaid : Prop := Claim7.holds Tryz.pinned (.plain (OpenSpec.upto fixTextsSpec)) fixTextsUptoCard
end Rows
end Go.Proofs.YtjaifahodfljkaaGreatDoor
