/-
  DERIVED. GIVEN WITH THE SEED: THE CARDS: each row of YtlgnhkloikmhcaaGreatDoorRows.lean that lists a variable, with what it lists TIED to the program's text (the seventh form; the later family's looks); each row that meets fmt, with fmt's text TOLD by the authors' own Lean function (tested against real Go, not proved from fmt's source: count such statements apart). THE CARD IS WHAT COUNTS. Prove the row's statement (the work); the ties are given (YtlgnhkloikmhcaaGreatDoorTie.lean); close each card by the builder's one call (the guide's Derived/Test/ToyasCard.lean, 'card_holds'). Laid BY PROGRAM, IN A SANDBOX (cutbox-door.mjs). By AI agents, Wed Nov 11 2026. No macro, syntax, notation, axiom, sorry.
-/
import Derived.Test.YtlgnhkloikmhcaaGreatDoorRows
import GoSem.ClaimSeven
namespace Go.Proofs.YtlgnhkloikmhcaaGreatDoor
namespace Rows

/-- THE TIED CARD OF 'alibilaw21.PredsOdd'. -/
def predsOddCard : Claim7 := { stood := { row := predsOddRow, standIns := [], harness := (true, "e88d3e727a54795f615846543e330cd6b08c6fd0ab64199a2896d915a0288a81"), looks := true }, kinds := [], alts := [], laidByText := true, laidKinds := [.data, .data, .data, .data, .sentinel, .sentinel, .pinned], laidTests := true, laidLooks := .later }
def PredsOddCardSaid : Prop := Claim7.holds Tryz.pinned (.plain (OpenSpec.ofChange predsOddSpec)) predsOddCard

/-- THE TIED CARD OF 'alibilaw21.PredsTells'. -/
def predsTellsCard : Claim7 := { stood := { row := predsTellsRow, standIns := [], harness := (true, "e88d3e727a54795f615846543e330cd6b08c6fd0ab64199a2896d915a0288a81"), looks := true }, kinds := [], alts := [], laidByText := true, laidKinds := [.data, .data, .data, .data, .sentinel, .sentinel, .pinned], laidTests := true, laidLooks := .later }
def PredsTellsCardSaid : Prop := Claim7.holds Tryz.pinned (.plain (OpenSpec.ofChange predsTellsSpec)) predsTellsCard

/-- THE TIED CARD OF 'alibilaw21.PredsNothing'. -/
def predsNothingCard : Claim7 := { stood := { row := predsNothingRow, standIns := [], harness := (true, "e88d3e727a54795f615846543e330cd6b08c6fd0ab64199a2896d915a0288a81"), looks := true }, kinds := [], alts := [], laidByText := true, laidKinds := [.data, .data, .data, .data, .sentinel, .sentinel, .pinned], laidTests := true, laidLooks := .later }
def PredsNothingCardSaid : Prop := Claim7.holds Tryz.pinned (.plain (OpenSpec.ofChange predsNothingSpec)) predsNothingCard

/-- THE TIED CARD OF 'alibilaw21.PredsKnown'. -/
def predsKnownCard : Claim7 := { stood := { row := predsKnownRow, standIns := [], harness := (true, "e88d3e727a54795f615846543e330cd6b08c6fd0ab64199a2896d915a0288a81"), looks := true }, kinds := [], alts := [], laidByText := true, laidKinds := [.data, .data, .data, .data, .sentinel, .sentinel, .pinned], laidTests := true, laidLooks := .later }
def PredsKnownCardSaid : Prop := Claim7.holds Tryz.pinned (.plain (OpenSpec.ofChange predsKnownSpec)) predsKnownCard

/-- THE SECOND FORM's CARD OF 'alibilaw21.PredsOdd'. -/
def predsOddUptoCard : Claim7 := { stood := { row := predsOddUptoRow, standIns := [], harness := (true, "e88d3e727a54795f615846543e330cd6b08c6fd0ab64199a2896d915a0288a81"), looks := true }, kinds := [], alts := [], laidByText := true, laidKinds := [.data, .data, .data, .data, .sentinel, .sentinel, .pinned], laidTests := true, laidLooks := .later }
def PredsOddUptoCardSaid : Prop := Claim7.holds Tryz.pinned (.plain (OpenSpec.upto predsOddSpec)) predsOddUptoCard

/-- THE SECOND FORM's CARD OF 'alibilaw21.PredsTells'. -/
def predsTellsUptoCard : Claim7 := { stood := { row := predsTellsUptoRow, standIns := [], harness := (true, "e88d3e727a54795f615846543e330cd6b08c6fd0ab64199a2896d915a0288a81"), looks := true }, kinds := [], alts := [], laidByText := true, laidKinds := [.data, .data, .data, .data, .sentinel, .sentinel, .pinned], laidTests := true, laidLooks := .later }
def PredsTellsUptoCardSaid : Prop := Claim7.holds Tryz.pinned (.plain (OpenSpec.upto predsTellsSpec)) predsTellsUptoCard

/-- THE SECOND FORM's CARD OF 'alibilaw21.PredsNothing'. -/
def predsNothingUptoCard : Claim7 := { stood := { row := predsNothingUptoRow, standIns := [], harness := (true, "e88d3e727a54795f615846543e330cd6b08c6fd0ab64199a2896d915a0288a81"), looks := true }, kinds := [], alts := [], laidByText := true, laidKinds := [.data, .data, .data, .data, .sentinel, .sentinel, .pinned], laidTests := true, laidLooks := .later }
def PredsNothingUptoCardSaid : Prop := Claim7.holds Tryz.pinned (.plain (OpenSpec.upto predsNothingSpec)) predsNothingUptoCard

/-- THE SECOND FORM's CARD OF 'alibilaw21.PredsKnown'. -/
def predsKnownUptoCard : Claim7 := { stood := { row := predsKnownUptoRow, standIns := [], harness := (true, "e88d3e727a54795f615846543e330cd6b08c6fd0ab64199a2896d915a0288a81"), looks := true }, kinds := [], alts := [], laidByText := true, laidKinds := [.data, .data, .data, .data, .sentinel, .sentinel, .pinned], laidTests := true, laidLooks := .later }
def PredsKnownUptoCardSaid : Prop := Claim7.holds Tryz.pinned (.plain (OpenSpec.upto predsKnownSpec)) predsKnownUptoCard
end Rows
end Go.Proofs.YtlgnhkloikmhcaaGreatDoor
