/-
  DERIVED. GIVEN WITH THE SEED: THE CARDS: each row of YtcibleglaghhfaaGreatDoorRows.lean that lists a variable, with what it lists TIED to the program's text (the seventh form; the later family's looks); each row that meets fmt, with fmt's text TOLD by the authors' own Lean function (tested against real Go, not proved from fmt's source: count such statements apart). THE CARD IS WHAT COUNTS. Prove the row's statement (the work); the ties are given (YtcibleglaghhfaaGreatDoorTie.lean); close each card by the builder's one call (the guide's Derived/Test/ToyasCard.lean, 'card_holds'). Laid BY PROGRAM, IN A SANDBOX (cutbox-door.mjs). By AI agents, Wed Nov 11 2026. No macro, syntax, notation, axiom, sorry.
-/
import Derived.Test.YtcibleglaghhfaaGreatDoorRows
import GoSem.ClaimSeven
namespace Go.Proofs.YtcibleglaghhfaaGreatDoor
namespace Rows

/-- THE TIED CARD OF 'alibilaw11.OrderTells'. -/
def orderTellsCard : Claim7 := { stood := { row := orderTellsRow, standIns := [], harness := (true, "d52b546f9351c1d627b78e90062208bb2728ec6f09be31cb9b77d7d86756c434"), looks := true }, kinds := [], alts := [], laidByText := true, laidKinds := [.data, .data, .data, .data, .sentinel, .sentinel, .pinned], laidTests := true, laidLooks := .later }
def OrderTellsCardSaid : Prop := Claim7.holds Tryz.pinned (.plain (OpenSpec.ofChange orderTellsSpec)) orderTellsCard

/-- THE TIED CARD OF 'alibilaw11.OrderNone'. -/
def orderNoneCard : Claim7 := { stood := { row := orderNoneRow, standIns := [], harness := (true, "d52b546f9351c1d627b78e90062208bb2728ec6f09be31cb9b77d7d86756c434"), looks := true }, kinds := [], alts := [], laidByText := true, laidKinds := [.data, .data, .data, .data, .sentinel, .sentinel, .pinned], laidTests := true, laidLooks := .later }
def OrderNoneCardSaid : Prop := Claim7.holds Tryz.pinned (.plain (OpenSpec.ofChange orderNoneSpec)) orderNoneCard

/-- THE TIED CARD OF 'alibilaw11.OrderEnds'. -/
def orderEndsCard : Claim7 := { stood := { row := orderEndsRow, standIns := [], harness := (true, "d52b546f9351c1d627b78e90062208bb2728ec6f09be31cb9b77d7d86756c434"), looks := true }, kinds := [], alts := [], laidByText := true, laidKinds := [.data, .data, .data, .data, .sentinel, .sentinel, .pinned], laidTests := true, laidLooks := .later }
def OrderEndsCardSaid : Prop := Claim7.holds Tryz.pinned (.plain (OpenSpec.ofChange orderEndsSpec)) orderEndsCard

/-- THE TIED CARD OF 'alibilaw11.OrderKnown'. -/
def orderKnownCard : Claim7 := { stood := { row := orderKnownRow, standIns := [], harness := (true, "d52b546f9351c1d627b78e90062208bb2728ec6f09be31cb9b77d7d86756c434"), looks := true }, kinds := [], alts := [], laidByText := true, laidKinds := [.data, .data, .data, .data, .sentinel, .sentinel, .pinned], laidTests := true, laidLooks := .later }
def OrderKnownCardSaid : Prop := Claim7.holds Tryz.pinned (.plain (OpenSpec.ofChange orderKnownSpec)) orderKnownCard

/-- THE SECOND FORM's CARD OF 'alibilaw11.OrderTells'. -/
def orderTellsUptoCard : Claim7 := { stood := { row := orderTellsUptoRow, standIns := [], harness := (true, "d52b546f9351c1d627b78e90062208bb2728ec6f09be31cb9b77d7d86756c434"), looks := true }, kinds := [], alts := [], laidByText := true, laidKinds := [.data, .data, .data, .data, .sentinel, .sentinel, .pinned], laidTests := true, laidLooks := .later }
def OrderTellsUptoCardSaid : Prop := Claim7.holds Tryz.pinned (.plain (OpenSpec.upto orderTellsSpec)) orderTellsUptoCard

/-- THE SECOND FORM's CARD OF 'alibilaw11.OrderNone'. -/
def orderNoneUptoCard : Claim7 := { stood := { row := orderNoneUptoRow, standIns := [], harness := (true, "d52b546f9351c1d627b78e90062208bb2728ec6f09be31cb9b77d7d86756c434"), looks := true }, kinds := [], alts := [], laidByText := true, laidKinds := [.data, .data, .data, .data, .sentinel, .sentinel, .pinned], laidTests := true, laidLooks := .later }
def OrderNoneUptoCardSaid : Prop := Claim7.holds Tryz.pinned (.plain (OpenSpec.upto orderNoneSpec)) orderNoneUptoCard

/-- THE SECOND FORM's CARD OF 'alibilaw11.OrderEnds'. -/
def orderEndsUptoCard : Claim7 := { stood := { row := orderEndsUptoRow, standIns := [], harness := (true, "d52b546f9351c1d627b78e90062208bb2728ec6f09be31cb9b77d7d86756c434"), looks := true }, kinds := [], alts := [], laidByText := true, laidKinds := [.data, .data, .data, .data, .sentinel, .sentinel, .pinned], laidTests := true, laidLooks := .later }
def OrderEndsUptoCardSaid : Prop := Claim7.holds Tryz.pinned (.plain (OpenSpec.upto orderEndsSpec)) orderEndsUptoCard

/-- THE SECOND FORM's CARD OF 'alibilaw11.OrderKnown'. -/
def orderKnownUptoCard : Claim7 := { stood := { row := orderKnownUptoRow, standIns := [], harness := (true, "d52b546f9351c1d627b78e90062208bb2728ec6f09be31cb9b77d7d86756c434"), looks := true }, kinds := [], alts := [], laidByText := true, laidKinds := [.data, .data, .data, .data, .sentinel, .sentinel, .pinned], laidTests := true, laidLooks := .later }
def OrderKnownUptoCardSaid : Prop := Claim7.holds Tryz.pinned (.plain (OpenSpec.upto orderKnownSpec)) orderKnownUptoCard
end Rows
end Go.Proofs.YtcibleglaghhfaaGreatDoor
