/-
  DERIVED. GIVEN WITH THE SEED: THE CARDS: each row of YtfbpeddokcjjnaaGreatDoorRows.lean that lists a variable, with what it lists TIED to the program's text (the seventh form; the later family's looks); each row that meets fmt, with fmt's text TOLD by the authors' own Lean function (tested against real Go, not proved from fmt's source: count such statements apart). THE CARD IS WHAT COUNTS. Prove the row's statement (the work); the ties are given (YtfbpeddokcjjnaaGreatDoorTie.lean); close each card by the builder's one call (the guide's Derived/Test/ToyasCard.lean, 'card_holds'). Laid BY PROGRAM, IN A SANDBOX (cutbox-door.mjs). By AI agents, Wed Nov 11 2026. No macro, syntax, notation, axiom, sorry.
-/
import Derived.Test.YtfbpeddokcjjnaaGreatDoorRows
import GoSem.ClaimSeven
namespace Go.Proofs.YtfbpeddokcjjnaaGreatDoor
namespace Rows

/-- THE TIED CARD OF 'alibilaw25.SnapTexts'. -/
def snapTextsCard : Claim7 := { stood := { row := snapTextsRow, standIns := [], harness := (true, "6f71b5c69312e04678c7b74809611faaf2481b2269414504309c90efb3394d3f"), looks := true }, kinds := [], alts := [], laidByText := true, laidKinds := [.data, .data, .data, .data, .sentinel, .sentinel, .pinned], laidTests := true, laidLooks := .later }
def SnapTextsCardSaid : Prop := Claim7.holds Tryz.pinned (.plain (OpenSpec.ofChange snapTextsSpec)) snapTextsCard

/-- THE TIED CARD OF 'alibilaw25.SnapNone'. -/
def snapNoneCard : Claim7 := { stood := { row := snapNoneRow, standIns := [], harness := (true, "6f71b5c69312e04678c7b74809611faaf2481b2269414504309c90efb3394d3f"), looks := true }, kinds := [], alts := [], laidByText := true, laidKinds := [.data, .data, .data, .data, .sentinel, .sentinel, .pinned], laidTests := true, laidLooks := .later }
def SnapNoneCardSaid : Prop := Claim7.holds Tryz.pinned (.plain (OpenSpec.ofChange snapNoneSpec)) snapNoneCard

/-- THE SECOND FORM's CARD OF 'alibilaw25.SnapTexts'. -/
def snapTextsUptoCard : Claim7 := { stood := { row := snapTextsUptoRow, standIns := [], harness := (true, "6f71b5c69312e04678c7b74809611faaf2481b2269414504309c90efb3394d3f"), looks := true }, kinds := [], alts := [], laidByText := true, laidKinds := [.data, .data, .data, .data, .sentinel, .sentinel, .pinned], laidTests := true, laidLooks := .later }
def SnapTextsUptoCardSaid : Prop := Claim7.holds Tryz.pinned (.plain (OpenSpec.upto snapTextsSpec)) snapTextsUptoCard

/-- THE SECOND FORM's CARD OF 'alibilaw25.SnapNone'. -/
def snapNoneUptoCard : Claim7 := { stood := { row := snapNoneUptoRow, standIns := [], harness := (true, "6f71b5c69312e04678c7b74809611faaf2481b2269414504309c90efb3394d3f"), looks := true }, kinds := [], alts := [], laidByText := true, laidKinds := [.data, .data, .data, .data, .sentinel, .sentinel, .pinned], laidTests := true, laidLooks := .later }
def SnapNoneUptoCardSaid : Prop := Claim7.holds Tryz.pinned (.plain (OpenSpec.upto snapNoneSpec)) snapNoneUptoCard
end Rows
end Go.Proofs.YtfbpeddokcjjnaaGreatDoor
