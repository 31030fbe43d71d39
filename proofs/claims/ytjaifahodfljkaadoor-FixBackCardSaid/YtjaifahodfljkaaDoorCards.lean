/-
  DERIVED. GIVEN WITH THE SEED: THE CARDS: each row of YtjaifahodfljkaaDoorRows.lean that lists a variable, with what it lists TIED to the program's text (the seventh form; the later family's looks); each row that meets fmt, with fmt's text TOLD by the authors' own Lean function (tested against real Go, not proved from fmt's source: count such statements apart). THE CARD IS WHAT COUNTS. Prove the row's statement (the work); the ties are given (YtjaifahodfljkaaDoorTie.lean); close each card by the builder's one call (the guide's Derived/Test/ToyasCard.lean, 'card_holds'). Laid BY PROGRAM, IN A SANDBOX (cutbox-door.mjs). By AI agents, Wed Nov 11 2026. No macro, syntax, notation, axiom, sorry.
-/
import Derived.Test.YtjaifahodfljkaaDoorRows
import GoSem.ClaimSeven
namespace Go.Proofs.YtjaifahodfljkaaDoor
namespace Rows

/-- THE TIED CARD OF 'fleuronlaw02.FixQuarters'. -/
def fixQuartersCard : Claim7 := { stood := { row := fixQuartersRow, standIns := [], harness := (true, "9864d2cc239f21353917c125a7137b12672231396cc3fa4e89df0876268dabba"), looks := true }, kinds := [], alts := [], laidByText := true, laidKinds := [.data, .data, .data, .data, .sentinel, .sentinel, .pinned], laidTests := true, laidLooks := .later }
def FixQuartersCardSaid : Prop := Claim7.holds Tryd.pinned (.plain (OpenSpec.ofChange fixQuartersSpec)) fixQuartersCard

/-- THE TIED CARD OF 'fleuronlaw02.FixHypots'. -/
def fixHypotsCard : Claim7 := { stood := { row := fixHypotsRow, standIns := [], harness := (true, "9864d2cc239f21353917c125a7137b12672231396cc3fa4e89df0876268dabba"), looks := true }, kinds := [], alts := [], laidByText := true, laidKinds := [.data, .data, .data, .data, .sentinel, .sentinel, .pinned], laidTests := true, laidLooks := .later }
def FixHypotsCardSaid : Prop := Claim7.holds Tryd.pinned (.plain (OpenSpec.ofChange fixHypotsSpec)) fixHypotsCard

/-- THE TIED CARD OF 'fleuronlaw02.FixBack'. -/
def fixBackCard : Claim7 := { stood := { row := fixBackRow, standIns := [], harness := (true, "9864d2cc239f21353917c125a7137b12672231396cc3fa4e89df0876268dabba"), looks := true }, kinds := [], alts := [], laidByText := true, laidKinds := [.data, .data, .data, .data, .sentinel, .sentinel, .pinned], laidTests := true, laidLooks := .later }
def FixBackCardSaid : Prop := Claim7.holds Tryd.pinned (.plain (OpenSpec.ofChange fixBackSpec)) fixBackCard

/-- THE TIED CARD OF 'fleuronlaw02.FixTurned'. -/
def fixTurnedCard : Claim7 := { stood := { row := fixTurnedRow, standIns := [], harness := (true, "9864d2cc239f21353917c125a7137b12672231396cc3fa4e89df0876268dabba"), looks := true }, kinds := [], alts := [], laidByText := true, laidKinds := [.data, .data, .data, .data, .sentinel, .sentinel, .pinned], laidTests := true, laidLooks := .later }
def FixTurnedCardSaid : Prop := Claim7.holds Tryd.pinned (.plain (OpenSpec.ofChange fixTurnedSpec)) fixTurnedCard

/-- THE SECOND FORM's CARD OF 'fleuronlaw02.FixQuarters'. -/
def fixQuartersUptoCard : Claim7 := { stood := { row := fixQuartersUptoRow, standIns := [], harness := (true, "9864d2cc239f21353917c125a7137b12672231396cc3fa4e89df0876268dabba"), looks := true }, kinds := [], alts := [], laidByText := true, laidKinds := [.data, .data, .data, .data, .sentinel, .sentinel, .pinned], laidTests := true, laidLooks := .later }
def FixQuartersUptoCardSaid : Prop := Claim7.holds Tryd.pinned (.plain (OpenSpec.upto fixQuartersSpec)) fixQuartersUptoCard

/-- THE SECOND FORM's CARD OF 'fleuronlaw02.FixHypots'. -/
def fixHypotsUptoCard : Claim7 := { stood := { row := fixHypotsUptoRow, standIns := [], harness := (true, "9864d2cc239f21353917c125a7137b12672231396cc3fa4e89df0876268dabba"), looks := true }, kinds := [], alts := [], laidByText := true, laidKinds := [.data, .data, .data, .data, .sentinel, .sentinel, .pinned], laidTests := true, laidLooks := .later }
def FixHypotsUptoCardSaid : Prop := Claim7.holds Tryd.pinned (.plain (OpenSpec.upto fixHypotsSpec)) fixHypotsUptoCard

/-- THE SECOND FORM's CARD OF 'fleuronlaw02.FixBack'. -/
def fixBackUptoCard : Claim7 := { stood := { row := fixBackUptoRow, standIns := [], harness := (true, "9864d2cc239f21353917c125a7137b12672231396cc3fa4e89df0876268dabba"), looks := true }, kinds := [], alts := [], laidByText := true, laidKinds := [.data, .data, .data, .data, .sentinel, .sentinel, .pinned], laidTests := true, laidLooks := .later }
def FixBackUptoCardSaid : Prop := Claim7.holds Tryd.pinned (.plain (OpenSpec.upto fixBackSpec)) fixBackUptoCard

/-- THE SECOND FORM's CARD OF 'fleuronlaw02.FixTurned'. -/
def fixTurnedUptoCard : Claim7 := { stood := { row := fixTurnedUptoRow, standIns := [], harness := (true, "9864d2cc239f21353917c125a7137b12672231396cc3fa4e89df0876268dabba"), looks := true }, kinds := [], alts := [], laidByText := true, laidKinds := [.data, .data, .data, .data, .sentinel, .sentinel, .pinned], laidTests := true, laidLooks := .later }
def FixTurnedUptoCardSaid : Prop := Claim7.holds Tryd.pinned (.plain (OpenSpec.upto fixTurnedSpec)) fixTurnedUptoCard
end Rows
end Go.Proofs.YtjaifahodfljkaaDoor
