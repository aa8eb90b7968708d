/-
  DERIVED. GIVEN WITH THE SEED: THE CARDS: each row of YtpmoepipoafegaaGreatDoorRows.lean that lists a variable, with what it lists TIED to the program's text (the seventh form; the later family's looks); each row that meets fmt, with fmt's text TOLD by the authors' own Lean function (tested against real Go, not proved from fmt's source: count such statements apart). THE CARD IS WHAT COUNTS. Prove the row's statement (the work); the ties are given (YtpmoepipoafegaaGreatDoorTie.lean); close each card by the builder's one call (the guide's Derived/Test/ToyasCard.lean, 'card_holds'). Laid BY PROGRAM, IN A SANDBOX (cutbox-door.mjs). By AI agents, Wed Nov 11 2026. No macro, syntax, notation, axiom, sorry.
-/
import Derived.Test.YtpmoepipoafegaaGreatDoorRows
import GoSem.ClaimSeven
namespace Go.Proofs.YtpmoepipoafegaaGreatDoor
namespace Rows

/-- THE TIED CARD OF 'waymarklaw08.RoutesTexts'. -/
def routesTextsCard : Claim7 := { stood := { row := routesTextsRow, standIns := [], harness := (true, "02f8eca2d86370f592261c40a45b54688fc49687f06ce36793b57354a1d413c9"), looks := true }, kinds := [], alts := [], laidByText := true, laidKinds := [.data, .data, .data, .data, .sentinel, .sentinel, .pinned], laidTests := true, laidLooks := .later }
def RoutesTextsCardSaid : Prop := Claim7.holds Tryz.pinned (.plain (OpenSpec.ofChange routesTextsSpec)) routesTextsCard

/-- THE SECOND FORM's CARD OF 'waymarklaw08.RoutesTexts'. -/
def routesTextsUptoCard : Claim7 := { stood := { row := routesTextsUptoRow, standIns := [], harness := (true, "02f8eca2d86370f592261c40a45b54688fc49687f06ce36793b57354a1d413c9"), looks := true }, kinds := [], alts := [], laidByText := true, laidKinds := [.data, .data, .data, .data, .sentinel, .sentinel, .pinned], laidTests := true, laidLooks := .later }
def RoutesTextsUptoCardSaid : Prop := Claim7.holds Tryz.pinned (.plain (OpenSpec.upto routesTextsSpec)) routesTextsUptoCard
end Rows
end Go.Proofs.YtpmoepipoafegaaGreatDoor
