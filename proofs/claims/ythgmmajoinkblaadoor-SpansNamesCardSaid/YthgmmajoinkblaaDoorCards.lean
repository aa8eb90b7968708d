/-
  DERIVED. GIVEN WITH THE SEED: THE CARDS: each row of YthgmmajoinkblaaDoorRows.lean that lists a variable, with what it lists TIED to the program's text (the seventh form; the later family's looks); each row that meets fmt, with fmt's text TOLD by the authors' own Lean function (tested against real Go, not proved from fmt's source: count such statements apart). THE CARD IS WHAT COUNTS. Prove the row's statement (the work); the ties are given (YthgmmajoinkblaaDoorTie.lean); close each card by the builder's one call (the guide's Derived/Test/ToyasCard.lean, 'card_holds'). Laid BY PROGRAM, IN A SANDBOX (cutbox-door.mjs). By AI agents, Wed Nov 11 2026. No macro, syntax, notation, axiom, sorry.
-/
import Derived.Test.YthgmmajoinkblaaDoorRows
import GoSem.ClaimSeven
namespace Go.Proofs.YthgmmajoinkblaaDoor
namespace Rows

/-- THE TIED CARD OF 'waymarklaw02.SpansNames'. -/
def spansNamesCard : Claim7 := { stood := { row := spansNamesRow, standIns := [], harness := (true, "4629b9f986508ac4743ff4e2e8927ec524655fdd9cbd66d203cbd20d3aabe16f"), looks := false }, kinds := [], alts := [], laidByText := true, laidKinds := [.data, .data, .data], laidTests := true, laidLooks := .later }
def SpansNamesCardSaid : Prop := Claim7.holds Tryd.pinned (.plain (OpenSpec.ofChange spansNamesSpec)) spansNamesCard

/-- THE SECOND FORM's CARD OF 'waymarklaw02.SpansNames'. -/
def spansNamesUptoCard : Claim7 := { stood := { row := spansNamesUptoRow, standIns := [], harness := (true, "4629b9f986508ac4743ff4e2e8927ec524655fdd9cbd66d203cbd20d3aabe16f"), looks := false }, kinds := [], alts := [], laidByText := true, laidKinds := [.data, .data, .data], laidTests := true, laidLooks := .later }
def SpansNamesUptoCardSaid : Prop := Claim7.holds Tryd.pinned (.plain (OpenSpec.upto spansNamesSpec)) spansNamesUptoCard
end Rows
end Go.Proofs.YthgmmajoinkblaaDoor
