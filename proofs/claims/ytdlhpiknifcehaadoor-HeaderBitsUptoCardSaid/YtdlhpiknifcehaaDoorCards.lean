/-
  DERIVED. GIVEN WITH THE SEED: THE CARDS: each row of YtdlhpiknifcehaaDoorRows.lean that lists a variable, with what it lists TIED to the program's text (the seventh form; the later family's looks); each row that meets fmt, with fmt's text TOLD by the authors' own Lean function (tested against real Go, not proved from fmt's source: count such statements apart). THE CARD IS WHAT COUNTS. Prove the row's statement (the work); the ties are given (YtdlhpiknifcehaaDoorTie.lean); close each card by the builder's one call (the guide's Derived/Test/ToyasCard.lean, 'card_holds'). Laid BY PROGRAM, IN A SANDBOX (cutbox-door.mjs). By AI agents, Wed Nov 11 2026. No macro, syntax, notation, axiom, sorry.
-/
import Derived.Test.YtdlhpiknifcehaaDoorRows
import GoSem.ClaimSeven
namespace Go.Proofs.YtdlhpiknifcehaaDoor
namespace Rows

/-- THE TIED CARD OF 'waymarklaw01.AddrTexts'. -/
def addrTextsCard : Claim7 := { stood := { row := addrTextsRow, standIns := [], harness := (true, "15e59319c77848324f585b9dce2dde4523cfe962b14d250603c20b39628f54a5"), looks := true }, kinds := [], alts := [], laidByText := true, laidKinds := [.data, .data, .data, .data, .sentinel, .sentinel, .pinned], laidTests := true, laidLooks := .later }
def AddrTextsCardSaid : Prop := Claim7.holds Tryd.pinned (.plain (OpenSpec.ofChange addrTextsSpec)) addrTextsCard

/-- THE TIED CARD OF 'waymarklaw01.AddrNames'. -/
def addrNamesCard : Claim7 := { stood := { row := addrNamesRow, standIns := [], harness := (true, "15e59319c77848324f585b9dce2dde4523cfe962b14d250603c20b39628f54a5"), looks := true }, kinds := [], alts := [], laidByText := true, laidKinds := [.data, .data, .data, .data, .sentinel, .sentinel, .pinned], laidTests := true, laidLooks := .later }
def AddrNamesCardSaid : Prop := Claim7.holds Tryd.pinned (.plain (OpenSpec.ofChange addrNamesSpec)) addrNamesCard

/-- THE TIED CARD OF 'waymarklaw03.HeaderBack'. -/
def headerBackCard : Claim7 := { stood := { row := headerBackRow, standIns := [], harness := (true, "15e59319c77848324f585b9dce2dde4523cfe962b14d250603c20b39628f54a5"), looks := true }, kinds := [], alts := [], laidByText := true, laidKinds := [.data, .data, .data, .data, .sentinel, .sentinel, .pinned], laidTests := true, laidLooks := .later }
def HeaderBackCardSaid : Prop := Claim7.holds Tryd.pinned (.plain (OpenSpec.ofChange headerBackSpec)) headerBackCard

/-- THE TIED CARD OF 'waymarklaw01.AddrBack'. -/
def addrBackCard : Claim7 := { stood := { row := addrBackRow, standIns := [], harness := (true, "15e59319c77848324f585b9dce2dde4523cfe962b14d250603c20b39628f54a5"), looks := true }, kinds := [], alts := [], laidByText := true, laidKinds := [.data, .data, .data, .data, .sentinel, .sentinel, .pinned], laidTests := true, laidLooks := .later }
def AddrBackCardSaid : Prop := Claim7.holds Tryd.pinned (.plain (OpenSpec.ofChange addrBackSpec)) addrBackCard

/-- THE TIED CARD OF 'waymarklaw03.HeaderNames'. -/
def headerNamesCard : Claim7 := { stood := { row := headerNamesRow, standIns := [], harness := (true, "15e59319c77848324f585b9dce2dde4523cfe962b14d250603c20b39628f54a5"), looks := true }, kinds := [], alts := [], laidByText := true, laidKinds := [.data, .data, .data, .data, .sentinel, .sentinel, .pinned], laidTests := true, laidLooks := .later }
def HeaderNamesCardSaid : Prop := Claim7.holds Tryd.pinned (.plain (OpenSpec.ofChange headerNamesSpec)) headerNamesCard

/-- THE TIED CARD OF 'waymarklaw03.HeaderBits'. -/
def headerBitsCard : Claim7 := { stood := { row := headerBitsRow, standIns := [], harness := (true, "15e59319c77848324f585b9dce2dde4523cfe962b14d250603c20b39628f54a5"), looks := true }, kinds := [], alts := [], laidByText := true, laidKinds := [.data, .data, .data, .data, .sentinel, .sentinel, .pinned], laidTests := true, laidLooks := .later }
def HeaderBitsCardSaid : Prop := Claim7.holds Tryd.pinned (.plain (OpenSpec.ofChange headerBitsSpec)) headerBitsCard

/-- THE TIED CARD OF 'waymarklaw03.HeaderOrder'. -/
def headerOrderCard : Claim7 := { stood := { row := headerOrderRow, standIns := [], harness := (true, "15e59319c77848324f585b9dce2dde4523cfe962b14d250603c20b39628f54a5"), looks := true }, kinds := [], alts := [], laidByText := true, laidKinds := [.data, .data, .data, .data, .sentinel, .sentinel, .pinned], laidTests := true, laidLooks := .later }
def HeaderOrderCardSaid : Prop := Claim7.holds Tryd.pinned (.plain (OpenSpec.ofChange headerOrderSpec)) headerOrderCard

/-- THE TIED CARD OF 'waymarklaw01.AddrCovers'. -/
def addrCoversCard : Claim7 := { stood := { row := addrCoversRow, standIns := [], harness := (true, "15e59319c77848324f585b9dce2dde4523cfe962b14d250603c20b39628f54a5"), looks := true }, kinds := [], alts := [], laidByText := true, laidKinds := [.data, .data, .data, .data, .sentinel, .sentinel, .pinned], laidTests := true, laidLooks := .later }
def AddrCoversCardSaid : Prop := Claim7.holds Tryd.pinned (.plain (OpenSpec.ofChange addrCoversSpec)) addrCoversCard

/-- THE TIED CARD OF 'waymarklaw01.AddrInside'. -/
def addrInsideCard : Claim7 := { stood := { row := addrInsideRow, standIns := [], harness := (true, "15e59319c77848324f585b9dce2dde4523cfe962b14d250603c20b39628f54a5"), looks := true }, kinds := [], alts := [], laidByText := true, laidKinds := [.data, .data, .data, .data, .sentinel, .sentinel, .pinned], laidTests := true, laidLooks := .later }
def AddrInsideCardSaid : Prop := Claim7.holds Tryd.pinned (.plain (OpenSpec.ofChange addrInsideSpec)) addrInsideCard

/-- THE SECOND FORM's CARD OF 'waymarklaw01.AddrTexts'. -/
def addrTextsUptoCard : Claim7 := { stood := { row := addrTextsUptoRow, standIns := [], harness := (true, "15e59319c77848324f585b9dce2dde4523cfe962b14d250603c20b39628f54a5"), looks := true }, kinds := [], alts := [], laidByText := true, laidKinds := [.data, .data, .data, .data, .sentinel, .sentinel, .pinned], laidTests := true, laidLooks := .later }
def AddrTextsUptoCardSaid : Prop := Claim7.holds Tryd.pinned (.plain (OpenSpec.upto addrTextsSpec)) addrTextsUptoCard

/-- THE SECOND FORM's CARD OF 'waymarklaw01.AddrNames'. -/
def addrNamesUptoCard : Claim7 := { stood := { row := addrNamesUptoRow, standIns := [], harness := (true, "15e59319c77848324f585b9dce2dde4523cfe962b14d250603c20b39628f54a5"), looks := true }, kinds := [], alts := [], laidByText := true, laidKinds := [.data, .data, .data, .data, .sentinel, .sentinel, .pinned], laidTests := true, laidLooks := .later }
def AddrNamesUptoCardSaid : Prop := Claim7.holds Tryd.pinned (.plain (OpenSpec.upto addrNamesSpec)) addrNamesUptoCard

/-- THE SECOND FORM's CARD OF 'waymarklaw03.HeaderBack'. -/
def headerBackUptoCard : Claim7 := { stood := { row := headerBackUptoRow, standIns := [], harness := (true, "15e59319c77848324f585b9dce2dde4523cfe962b14d250603c20b39628f54a5"), looks := true }, kinds := [], alts := [], laidByText := true, laidKinds := [.data, .data, .data, .data, .sentinel, .sentinel, .pinned], laidTests := true, laidLooks := .later }
def HeaderBackUptoCardSaid : Prop := Claim7.holds Tryd.pinned (.plain (OpenSpec.upto headerBackSpec)) headerBackUptoCard

/-- THE SECOND FORM's CARD OF 'waymarklaw01.AddrBack'. -/
def addrBackUptoCard : Claim7 := { stood := { row := addrBackUptoRow, standIns := [], harness := (true, "15e59319c77848324f585b9dce2dde4523cfe962b14d250603c20b39628f54a5"), looks := true }, kinds := [], alts := [], laidByText := true, laidKinds := [.data, .data, .data, .data, .sentinel, .sentinel, .pinned], laidTests := true, laidLooks := .later }
def AddrBackUptoCardSaid : Prop := Claim7.holds Tryd.pinned (.plain (OpenSpec.upto addrBackSpec)) addrBackUptoCard

/-- THE SECOND FORM's CARD OF 'waymarklaw03.HeaderNames'. -/
def headerNamesUptoCard : Claim7 := { stood := { row := headerNamesUptoRow, standIns := [], harness := (true, "15e59319c77848324f585b9dce2dde4523cfe962b14d250603c20b39628f54a5"), looks := true }, kinds := [], alts := [], laidByText := true, laidKinds := [.data, .data, .data, .data, .sentinel, .sentinel, .pinned], laidTests := true, laidLooks := .later }
def HeaderNamesUptoCardSaid : Prop := Claim7.holds Tryd.pinned (.plain (OpenSpec.upto headerNamesSpec)) headerNamesUptoCard

/-- THE SECOND FORM's CARD OF 'waymarklaw03.HeaderBits'. -/
def headerBitsUptoCard : Claim7 := { stood := { row := headerBitsUptoRow, standIns := [], harness := (true, "15e59319c77848324f585b9dce2dde4523cfe962b14d250603c20b39628f54a5"), looks := true }, kinds := [], alts := [], laidByText := true, laidKinds := [.data, .data, .data, .data, .sentinel, .sentinel, .pinned], laidTests := true, laidLooks := .later }
def HeaderBitsUptoCardSaid : Prop := Claim7.holds Tryd.pinned (.plain (OpenSpec.upto headerBitsSpec)) headerBitsUptoCard

/-- THE SECOND FORM's CARD OF 'waymarklaw03.HeaderOrder'. -/
def headerOrderUptoCard : Claim7 := { stood := { row := headerOrderUptoRow, standIns := [], harness := (true, "15e59319c77848324f585b9dce2dde4523cfe962b14d250603c20b39628f54a5"), looks := true }, kinds := [], alts := [], laidByText := true, laidKinds := [.data, .data, .data, .data, .sentinel, .sentinel, .pinned], laidTests := true, laidLooks := .later }
def HeaderOrderUptoCardSaid : Prop := Claim7.holds Tryd.pinned (.plain (OpenSpec.upto headerOrderSpec)) headerOrderUptoCard

/-- THE SECOND FORM's CARD OF 'waymarklaw01.AddrCovers'. -/
def addrCoversUptoCard : Claim7 := { stood := { row := addrCoversUptoRow, standIns := [], harness := (true, "15e59319c77848324f585b9dce2dde4523cfe962b14d250603c20b39628f54a5"), looks := true }, kinds := [], alts := [], laidByText := true, laidKinds := [.data, .data, .data, .data, .sentinel, .sentinel, .pinned], laidTests := true, laidLooks := .later }
def AddrCoversUptoCardSaid : Prop := Claim7.holds Tryd.pinned (.plain (OpenSpec.upto addrCoversSpec)) addrCoversUptoCard

/-- THE SECOND FORM's CARD OF 'waymarklaw01.AddrInside'. -/
def addrInsideUptoCard : Claim7 := { stood := { row := addrInsideUptoRow, standIns := [], harness := (true, "15e59319c77848324f585b9dce2dde4523cfe962b14d250603c20b39628f54a5"), looks := true }, kinds := [], alts := [], laidByText := true, laidKinds := [.data, .data, .data, .data, .sentinel, .sentinel, .pinned], laidTests := true, laidLooks := .later }
def AddrInsideUptoCardSaid : Prop := Claim7.holds Tryd.pinned (.plain (OpenSpec.upto addrInsideSpec)) addrInsideUptoCard
end Rows
end Go.Proofs.YtdlhpiknifcehaaDoor
