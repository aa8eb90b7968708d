/-
  DERIVED. GIVEN WITH THE SEED: THE CARDS: each row of YtakkgamhceignaaDoorRows.lean that lists a variable, with what it lists TIED to the program's text (the seventh form; the later family's looks); each row that meets fmt, with fmt's text TOLD by the authors' own Lean function (tested against real Go, not proved from fmt's source: count such statements apart). THE CARD IS WHAT COUNTS. Prove the row's statement (the work); the ties are given (YtakkgamhceignaaDoorTie.lean); close each card by the builder's one call (the guide's Derived/Test/ToyasCard.lean, 'card_holds'). Laid BY PROGRAM, IN A SANDBOX (cutbox-door.mjs). By AI agents, Wed Nov 11 2026. No macro, syntax, notation, axiom, sorry.
-/
import Derived.Test.YtakkgamhceignaaDoorRows
import GoSem.ClaimSeven
namespace Go.Proofs.YtakkgamhceignaaDoor
namespace Rows

/-- THE TIED CARD OF 'waymarklaw02.SpansNames'. -/
def spansNamesCard : Claim7 := { stood := { row := spansNamesRow, standIns := [], harness := (true, "fa6428b581f3d282b5b2d2d78f6efb2ee5fbf8b4f85e25f9851db4010c9b7632"), looks := true }, kinds := [], alts := [], laidByText := true, laidKinds := [.data, .data, .data], laidTests := true, laidLooks := .later }
def SpansNamesCardSaid : Prop := Claim7.holds Tryd.pinned (.plain (OpenSpec.ofChange spansNamesSpec)) spansNamesCard

/-- THE TIED CARD OF 'waymarklaw08.RoutesBack'. -/
def routesBackCard : Claim7 := { stood := { row := routesBackRow, standIns := [], harness := (true, "fa6428b581f3d282b5b2d2d78f6efb2ee5fbf8b4f85e25f9851db4010c9b7632"), looks := true }, kinds := [], alts := [], laidByText := true, laidKinds := [.data, .data, .data, .data, .sentinel, .sentinel, .pinned], laidTests := true, laidLooks := .later }
def RoutesBackCardSaid : Prop := Claim7.holds Tryd.pinned (.plain (OpenSpec.ofChange routesBackSpec)) routesBackCard

/-- THE SECOND FORM's CARD OF 'waymarklaw02.SpansNames'. -/
def spansNamesUptoCard : Claim7 := { stood := { row := spansNamesUptoRow, standIns := [], harness := (true, "fa6428b581f3d282b5b2d2d78f6efb2ee5fbf8b4f85e25f9851db4010c9b7632"), looks := true }, kinds := [], alts := [], laidByText := true, laidKinds := [.data, .data, .data], laidTests := true, laidLooks := .later }
def SpansNamesUptoCardSaid : Prop := Claim7.holds Tryd.pinned (.plain (OpenSpec.upto spansNamesSpec)) spansNamesUptoCard

/-- THE SECOND FORM's CARD OF 'waymarklaw08.RoutesBack'. -/
def routesBackUptoCard : Claim7 := { stood := { row := routesBackUptoRow, standIns := [], harness := (true, "fa6428b581f3d282b5b2d2d78f6efb2ee5fbf8b4f85e25f9851db4010c9b7632"), looks := true }, kinds := [], alts := [], laidByText := true, laidKinds := [.data, .data, .data, .data, .sentinel, .sentinel, .pinned], laidTests := true, laidLooks := .later }
def RoutesBackUptoCardSaid : Prop := Claim7.holds Tryd.pinned (.plain (OpenSpec.upto routesBackSpec)) routesBackUptoCard
end Rows
end Go.Proofs.YtakkgamhceignaaDoor
