/-
  DERIVED. GIVEN WITH THE SEED: THE CARDS: each row of YtlhafehhkjjchaaGreatDoorRows.lean that lists a variable, with what it lists TIED to the program's text (the seventh form; the later family's looks); each row that meets fmt, with fmt's text TOLD by the authors' own Lean function (tested against real Go, not proved from fmt's source: count such statements apart). THE CARD IS WHAT COUNTS. Prove the row's statement (the work); the ties are given (YtlhafehhkjjchaaGreatDoorTie.lean); close each card by the builder's one call (the guide's Derived/Test/ToyasCard.lean, 'card_holds'). Laid BY PROGRAM, IN A SANDBOX (cutbox-door.mjs). By AI agents, Wed Nov 11 2026. No macro, syntax, notation, axiom, sorry.
-/
import Derived.Test.YtlhafehhkjjchaaGreatDoorRows
import GoSem.ClaimSeven
namespace Go.Proofs.YtlhafehhkjjchaaGreatDoor
namespace Rows

/-- THE TIED CARD OF 'waymarklaw08.RoutesOrder'. -/
def routesOrderCard : Claim7 := { stood := { row := routesOrderRow, standIns := [], harness := (true, "c8293747804e97a451ca510992fe226a6b2de7076a53deae3b822d208243ce91"), looks := true }, kinds := [], alts := [], laidByText := true, laidKinds := [.data, .data, .data, .data, .sentinel, .sentinel, .pinned], laidTests := true, laidLooks := .later }
def RoutesOrderCardSaid : Prop := Claim7.holds Tryz.pinned (.plain (OpenSpec.ofChange routesOrderSpec)) routesOrderCard

/-- THE SECOND FORM's CARD OF 'waymarklaw08.RoutesOrder'. -/
def routesOrderUptoCard : Claim7 := { stood := { row := routesOrderUptoRow, standIns := [], harness := (true, "c8293747804e97a451ca510992fe226a6b2de7076a53deae3b822d208243ce91"), looks := true }, kinds := [], alts := [], laidByText := true, laidKinds := [.data, .data, .data, .data, .sentinel, .sentinel, .pinned], laidTests := true, laidLooks := .later }
def RoutesOrderUptoCardSaid : Prop := Claim7.holds Tryz.pinned (.plain (OpenSpec.upto routesOrderSpec)) routesOrderUptoCard
end Rows
end Go.Proofs.YtlhafehhkjjchaaGreatDoor
