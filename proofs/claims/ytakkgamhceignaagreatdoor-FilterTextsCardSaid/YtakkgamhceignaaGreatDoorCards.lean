/-
  DERIVED. GIVEN WITH THE SEED: THE CARDS: each row of YtakkgamhceignaaGreatDoorRows.lean that lists a variable, with what it lists TIED to the program's text (the seventh form; the later family's looks); each row that meets fmt, with fmt's text TOLD by the authors' own Lean function (tested against real Go, not proved from fmt's source: count such statements apart). THE CARD IS WHAT COUNTS. Prove the row's statement (the work); the ties are given (YtakkgamhceignaaGreatDoorTie.lean); close each card by the builder's one call (the guide's Derived/Test/ToyasCard.lean, 'card_holds'). Laid BY PROGRAM, IN A SANDBOX (cutbox-door.mjs). By AI agents, Wed Nov 11 2026. No macro, syntax, notation, axiom, sorry.
-/
import Derived.Test.YtakkgamhceignaaGreatDoorRows
import GoSem.ClaimSeven
namespace Go.Proofs.YtakkgamhceignaaGreatDoor
namespace Rows

/-- THE TIED CARD OF 'waymarklaw10.FilterTexts'. -/
def filterTextsCard : Claim7 := { stood := { row := filterTextsRow, standIns := [], harness := (true, "009bfde393985481309caa6803914c9d94eb371c77fd1dabdb0c398c0b44891a"), looks := true }, kinds := [], alts := [], laidByText := true, laidKinds := [.data, .data, .data, .data, .sentinel, .sentinel, .pinned], laidTests := true, laidLooks := .later }
def FilterTextsCardSaid : Prop := Claim7.holds Tryz.pinned (.plain (OpenSpec.ofChange filterTextsSpec)) filterTextsCard

/-- THE TIED CARD OF 'waymarklaw08.RoutesTexts'. -/
def routesTextsCard : Claim7 := { stood := { row := routesTextsRow, standIns := [], harness := (true, "009bfde393985481309caa6803914c9d94eb371c77fd1dabdb0c398c0b44891a"), looks := true }, kinds := [], alts := [], laidByText := true, laidKinds := [.data, .data, .data, .data, .sentinel, .sentinel, .pinned], laidTests := true, laidLooks := .later }
def RoutesTextsCardSaid : Prop := Claim7.holds Tryz.pinned (.plain (OpenSpec.ofChange routesTextsSpec)) routesTextsCard

/-- THE TIED CARD OF 'waymarklaw08.RoutesOrder'. -/
def routesOrderCard : Claim7 := { stood := { row := routesOrderRow, standIns := [], harness := (true, "009bfde393985481309caa6803914c9d94eb371c77fd1dabdb0c398c0b44891a"), looks := true }, kinds := [], alts := [], laidByText := true, laidKinds := [.data, .data, .data, .data, .sentinel, .sentinel, .pinned], laidTests := true, laidLooks := .later }
def RoutesOrderCardSaid : Prop := Claim7.holds Tryz.pinned (.plain (OpenSpec.ofChange routesOrderSpec)) routesOrderCard

/-- THE SECOND FORM's CARD OF 'waymarklaw10.FilterTexts'. -/
def filterTextsUptoCard : Claim7 := { stood := { row := filterTextsUptoRow, standIns := [], harness := (true, "009bfde393985481309caa6803914c9d94eb371c77fd1dabdb0c398c0b44891a"), looks := true }, kinds := [], alts := [], laidByText := true, laidKinds := [.data, .data, .data, .data, .sentinel, .sentinel, .pinned], laidTests := true, laidLooks := .later }
def FilterTextsUptoCardSaid : Prop := Claim7.holds Tryz.pinned (.plain (OpenSpec.upto filterTextsSpec)) filterTextsUptoCard

/-- THE SECOND FORM's CARD OF 'waymarklaw08.RoutesTexts'. -/
def routesTextsUptoCard : Claim7 := { stood := { row := routesTextsUptoRow, standIns := [], harness := (true, "009bfde393985481309caa6803914c9d94eb371c77fd1dabdb0c398c0b44891a"), looks := true }, kinds := [], alts := [], laidByText := true, laidKinds := [.data, .data, .data, .data, .sentinel, .sentinel, .pinned], laidTests := true, laidLooks := .later }
def RoutesTextsUptoCardSaid : Prop := Claim7.holds Tryz.pinned (.plain (OpenSpec.upto routesTextsSpec)) routesTextsUptoCard

/-- THE SECOND FORM's CARD OF 'waymarklaw08.RoutesOrder'. -/
def routesOrderUptoCard : Claim7 := { stood := { row := routesOrderUptoRow, standIns := [], harness := (true, "009bfde393985481309caa6803914c9d94eb371c77fd1dabdb0c398c0b44891a"), looks := true }, kinds := [], alts := [], laidByText := true, laidKinds := [.data, .data, .data, .data, .sentinel, .sentinel, .pinned], laidTests := true, laidLooks := .later }
def RoutesOrderUptoCardSaid : Prop := Claim7.holds Tryz.pinned (.plain (OpenSpec.upto routesOrderSpec)) routesOrderUptoCard
end Rows
end Go.Proofs.YtakkgamhceignaaGreatDoor
