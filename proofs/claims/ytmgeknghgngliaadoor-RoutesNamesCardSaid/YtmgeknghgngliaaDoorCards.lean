/-
  DERIVED. GIVEN WITH THE SEED: THE CARDS: each row of YtmgeknghgngliaaDoorRows.lean that lists a variable, with what it lists TIED to the program's text (the seventh form; the later family's looks); each row that meets fmt, with fmt's text TOLD by the authors' own Lean function (tested against real Go, not proved from fmt's source: count such statements apart). THE CARD IS WHAT COUNTS. Prove the row's statement (the work); the ties are given (YtmgeknghgngliaaDoorTie.lean); close each card by the builder's one call (the guide's Derived/Test/ToyasCard.lean, 'card_holds'). Laid BY PROGRAM, IN A SANDBOX (cutbox-door.mjs). By AI agents, Wed Nov 11 2026. No macro, syntax, notation, axiom, sorry.
-/
import Derived.Test.YtmgeknghgngliaaDoorRows
import GoSem.ClaimSeven
namespace Go.Proofs.YtmgeknghgngliaaDoor
namespace Rows

/-- THE TIED CARD OF 'waymarklaw08.RoutesNames'. -/
def routesNamesCard : Claim7 := { stood := { row := routesNamesRow, standIns := [], harness := (true, "a3008b96a7dfde9f005f96ef25bad2e59c9f31face4cb0d9d4acddc12300f63c"), looks := true }, kinds := [], alts := [], laidByText := true, laidKinds := [.data, .data, .data], laidTests := true, laidLooks := .later }
def RoutesNamesCardSaid : Prop := Claim7.holds Tryd.pinned (.plain (OpenSpec.ofChange routesNamesSpec)) routesNamesCard

/-- THE TIED CARD OF 'waymarklaw02.SpansNames'. -/
def spansNamesCard : Claim7 := { stood := { row := spansNamesRow, standIns := [], harness := (true, "a3008b96a7dfde9f005f96ef25bad2e59c9f31face4cb0d9d4acddc12300f63c"), looks := true }, kinds := [], alts := [], laidByText := true, laidKinds := [.data, .data, .data], laidTests := true, laidLooks := .later }
def SpansNamesCardSaid : Prop := Claim7.holds Tryd.pinned (.plain (OpenSpec.ofChange spansNamesSpec)) spansNamesCard

/-- THE TIED CARD OF 'waymarklaw10.FilterBack'. -/
def filterBackCard : Claim7 := { stood := { row := filterBackRow, standIns := [], harness := (true, "a3008b96a7dfde9f005f96ef25bad2e59c9f31face4cb0d9d4acddc12300f63c"), looks := true }, kinds := [], alts := [], laidByText := true, laidKinds := [.data, .data, .data, .data, .sentinel, .sentinel, .pinned], laidTests := true, laidLooks := .later }
def FilterBackCardSaid : Prop := Claim7.holds Tryd.pinned (.plain (OpenSpec.ofChange filterBackSpec)) filterBackCard

/-- THE TIED CARD OF 'waymarklaw08.RoutesBack'. -/
def routesBackCard : Claim7 := { stood := { row := routesBackRow, standIns := [], harness := (true, "a3008b96a7dfde9f005f96ef25bad2e59c9f31face4cb0d9d4acddc12300f63c"), looks := true }, kinds := [], alts := [], laidByText := true, laidKinds := [.data, .data, .data, .data, .sentinel, .sentinel, .pinned], laidTests := true, laidLooks := .later }
def RoutesBackCardSaid : Prop := Claim7.holds Tryd.pinned (.plain (OpenSpec.ofChange routesBackSpec)) routesBackCard

/-- THE TIED CARD OF 'waymarklaw02.SpansBack'. -/
def spansBackCard : Claim7 := { stood := { row := spansBackRow, standIns := [], harness := (true, "a3008b96a7dfde9f005f96ef25bad2e59c9f31face4cb0d9d4acddc12300f63c"), looks := true }, kinds := [], alts := [], laidByText := true, laidKinds := [.data, .data, .data, .data, .sentinel, .sentinel, .pinned], laidTests := true, laidLooks := .later }
def SpansBackCardSaid : Prop := Claim7.holds Tryd.pinned (.plain (OpenSpec.ofChange spansBackSpec)) spansBackCard

/-- THE SECOND FORM's CARD OF 'waymarklaw08.RoutesNames'. -/
def routesNamesUptoCard : Claim7 := { stood := { row := routesNamesUptoRow, standIns := [], harness := (true, "a3008b96a7dfde9f005f96ef25bad2e59c9f31face4cb0d9d4acddc12300f63c"), looks := true }, kinds := [], alts := [], laidByText := true, laidKinds := [.data, .data, .data], laidTests := true, laidLooks := .later }
def RoutesNamesUptoCardSaid : Prop := Claim7.holds Tryd.pinned (.plain (OpenSpec.upto routesNamesSpec)) routesNamesUptoCard

/-- THE SECOND FORM's CARD OF 'waymarklaw02.SpansNames'. -/
def spansNamesUptoCard : Claim7 := { stood := { row := spansNamesUptoRow, standIns := [], harness := (true, "a3008b96a7dfde9f005f96ef25bad2e59c9f31face4cb0d9d4acddc12300f63c"), looks := true }, kinds := [], alts := [], laidByText := true, laidKinds := [.data, .data, .data], laidTests := true, laidLooks := .later }
def SpansNamesUptoCardSaid : Prop := Claim7.holds Tryd.pinned (.plain (OpenSpec.upto spansNamesSpec)) spansNamesUptoCard

/-- THE SECOND FORM's CARD OF 'waymarklaw10.FilterBack'. -/
def filterBackUptoCard : Claim7 := { stood := { row := filterBackUptoRow, standIns := [], harness := (true, "a3008b96a7dfde9f005f96ef25bad2e59c9f31face4cb0d9d4acddc12300f63c"), looks := true }, kinds := [], alts := [], laidByText := true, laidKinds := [.data, .data, .data, .data, .sentinel, .sentinel, .pinned], laidTests := true, laidLooks := .later }
def FilterBackUptoCardSaid : Prop := Claim7.holds Tryd.pinned (.plain (OpenSpec.upto filterBackSpec)) filterBackUptoCard

/-- THE SECOND FORM's CARD OF 'waymarklaw08.RoutesBack'. -/
def routesBackUptoCard : Claim7 := { stood := { row := routesBackUptoRow, standIns := [], harness := (true, "a3008b96a7dfde9f005f96ef25bad2e59c9f31face4cb0d9d4acddc12300f63c"), looks := true }, kinds := [], alts := [], laidByText := true, laidKinds := [.data, .data, .data, .data, .sentinel, .sentinel, .pinned], laidTests := true, laidLooks := .later }
def RoutesBackUptoCardSaid : Prop := Claim7.holds Tryd.pinned (.plain (OpenSpec.upto routesBackSpec)) routesBackUptoCard

/-- THE SECOND FORM's CARD OF 'waymarklaw02.SpansBack'. -/
def spansBackUptoCard : Claim7 := { stood := { row := spansBackUptoRow, standIns := [], harness := (true, "a3008b96a7dfde9f005f96ef25bad2e59c9f31face4cb0d9d4acddc12300f63c"), looks := true }, kinds := [], alts := [], laidByText := true, laidKinds := [.data, .data, .data, .data, .sentinel, .sentinel, .pinned], laidTests := true, laidLooks := .later }
def SpansBackUptoCardSaid : Prop := Claim7.holds Tryd.pinned (.plain (OpenSpec.upto spansBackSpec)) spansBackUptoCard
end Rows
end Go.Proofs.YtmgeknghgngliaaDoor
