/-
  DERIVED. GIVEN WITH THE SEED: THE CARDS: each row of YtmgeknghgngliaaGreatDoorRows.lean that lists a variable, with what it lists TIED to the program's text (the seventh form; the later family's looks); each row that meets fmt, with fmt's text TOLD by the authors' own Lean function (tested against real Go, not proved from fmt's source: count such statements apart). THE CARD IS WHAT COUNTS. Prove the row's statement (the work); the ties are given (YtmgeknghgngliaaGreatDoorTie.lean); close each card by the builder's one call (the guide's Derived/Test/ToyasCard.lean, 'card_holds'). Laid BY PROGRAM, IN A SANDBOX (cutbox-door.mjs). By AI agents, Wed Nov 11 2026. No macro, syntax, notation, axiom, sorry.
-/
import Derived.Test.YtmgeknghgngliaaGreatDoorRows
import GoSem.ClaimSeven
namespace Go.Proofs.YtmgeknghgngliaaGreatDoor
namespace Rows

/-- THE TIED CARD OF 'waymarklaw10.FilterTexts'. -/
def filterTextsCard : Claim7 := { stood := { row := filterTextsRow, standIns := [], harness := (true, "c0cdcd1352e5618bc1c3629f8a9e776cac90ea2ae21a24960de7d0b60d49c614"), looks := true }, kinds := [], alts := [], laidByText := true, laidKinds := [.data, .data, .data, .data, .sentinel, .sentinel, .pinned], laidTests := true, laidLooks := .later }
def FilterTextsCardSaid : Prop := Claim7.holds Tryz.pinned (.plain (OpenSpec.ofChange filterTextsSpec)) filterTextsCard

/-- THE TIED CARD OF 'waymarklaw08.RoutesTexts'. -/
def routesTextsCard : Claim7 := { stood := { row := routesTextsRow, standIns := [], harness := (true, "c0cdcd1352e5618bc1c3629f8a9e776cac90ea2ae21a24960de7d0b60d49c614"), looks := true }, kinds := [], alts := [], laidByText := true, laidKinds := [.data, .data, .data, .data, .sentinel, .sentinel, .pinned], laidTests := true, laidLooks := .later }
def RoutesTextsCardSaid : Prop := Claim7.holds Tryz.pinned (.plain (OpenSpec.ofChange routesTextsSpec)) routesTextsCard

/-- THE TIED CARD OF 'waymarklaw02.SpansTexts'. -/
def spansTextsCard : Claim7 := { stood := { row := spansTextsRow, standIns := [], harness := (true, "c0cdcd1352e5618bc1c3629f8a9e776cac90ea2ae21a24960de7d0b60d49c614"), looks := true }, kinds := [], alts := [], laidByText := true, laidKinds := [.data, .data, .data, .data, .sentinel, .sentinel, .pinned], laidTests := true, laidLooks := .later }
def SpansTextsCardSaid : Prop := Claim7.holds Tryz.pinned (.plain (OpenSpec.ofChange spansTextsSpec)) spansTextsCard

/-- THE SECOND FORM's CARD OF 'waymarklaw10.FilterTexts'. -/
def filterTextsUptoCard : Claim7 := { stood := { row := filterTextsUptoRow, standIns := [], harness := (true, "c0cdcd1352e5618bc1c3629f8a9e776cac90ea2ae21a24960de7d0b60d49c614"), looks := true }, kinds := [], alts := [], laidByText := true, laidKinds := [.data, .data, .data, .data, .sentinel, .sentinel, .pinned], laidTests := true, laidLooks := .later }
def FilterTextsUptoCardSaid : Prop := Claim7.holds Tryz.pinned (.plain (OpenSpec.upto filterTextsSpec)) filterTextsUptoCard

/-- THE SECOND FORM's CARD OF 'waymarklaw08.RoutesTexts'. -/
def routesTextsUptoCard : Claim7 := { stood := { row := routesTextsUptoRow, standIns := [], harness := (true, "c0cdcd1352e5618bc1c3629f8a9e776cac90ea2ae21a24960de7d0b60d49c614"), looks := true }, kinds := [], alts := [], laidByText := true, laidKinds := [.data, .data, .data, .data, .sentinel, .sentinel, .pinned], laidTests := true, laidLooks := .later }
def RoutesTextsUptoCardSaid : Prop := Claim7.holds Tryz.pinned (.plain (OpenSpec.upto routesTextsSpec)) routesTextsUptoCard

/-- THE SECOND FORM's CARD OF 'waymarklaw02.SpansTexts'. -/
def spansTextsUptoCard : Claim7 := { stood := { row := spansTextsUptoRow, standIns := [], harness := (true, "c0cdcd1352e5618bc1c3629f8a9e776cac90ea2ae21a24960de7d0b60d49c614"), looks := true }, kinds := [], alts := [], laidByText := true, laidKinds := [.data, .data, .data, .data, .sentinel, .sentinel, .pinned], laidTests := true, laidLooks := .later }
def SpansTextsUptoCardSaid : Prop := Claim7.holds Tryz.pinned (.plain (OpenSpec.upto spansTextsSpec)) spansTextsUptoCard
end Rows
end Go.Proofs.YtmgeknghgngliaaGreatDoor
