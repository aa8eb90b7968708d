/-
  No cell of these rows narrows 'for every input' (looked for: loops, veiled, ifaces, maps, wideKeys, modest, calm, conditions, laid).
  DERIVED. THE GIVEN ROWS OF THIS SEAT. 12 by the template 'for every input the law returns true; each argument reads behind the call as it read before'; 0 by the template 'total and deterministic' (their statements: YtpljnogmfeenkaaTotals.lean).
  GIVEN WITH THE SEED: the statements are not yours to turn. If you find one false, say at which input.
  Laid BY PROGRAM, IN A SANDBOX (cutbox-rows.mjs): the forced cells as the released guide's own fill.sh prints them over the translation 3ad72bc9d5e66b6b… (all of the seat's roots in one cut). By AI agents, Wed Nov 11 2026. No macro, syntax, notation, axiom, sorry.
-/
import Derived.Test.YtpljnogmfeenkaaChecked
import GoSem.Claim
import GoSem.ClaimJoined
import GoSem.ClaimMapViews
import Derived.JoinedTies
import Derived.KernelRfl
namespace Go.Proofs.Ytpljnogmfeenkaa
/- THE CELL 'sum', in the pinned program and in every row, IS THE sha256 OF THE DUMP (.gsa) THAT YtpljnogmfeenkaaProg.lean LOADS. Nothing in Lean hashes anything: it is a label: what it is worth is what the hold of that sum in a sandbox is worth. -/
noncomputable def Try.pinned : Pinned := { name := "ytpljnogmfeenkaa", sum := "3ad72bc9d5e66b6bb2458a465c9f77381c53f64f120041149ff8635c2b226575", checked := Try.checked }
namespace Rows
def none {H : Type} : Left H := { results := [], args := [] }

/-- 'waymarklaw01.AddrCuts': WHATEVER THE INPUT: true; the input reads as it did. -/
def addrCutsSpec : ChangeSpec := { name := "addrCuts", fn := fun _ => fun
  | [d1, d2] => { results := [.lit (.bool true)], args := [d1, d2] }
  | _ => none }
def addrCutsRow : OpenClaim := { program := "ytpljnogmfeenkaa", sum := "3ad72bc9d5e66b6bb2458a465c9f77381c53f64f120041149ff8635c2b226575", func := "waymark/waymarklaw01.AddrCuts", spec := "addrCuts", unfollowed := true, recurses := true, apart := false }
def AddrCutsSaid : Prop := addrCutsRow.holds Try.pinned (OpenSpec.ofChange addrCutsSpec)

/-- ITS FALSE NEIGHBOUR: 'it returns false'. Refute it at one input. -/
def addrCutsWrong : ChangeSpec := { name := "addrCuts", fn := fun _ => fun
  | [d1, d2] => { results := [.lit (.bool false)], args := [d1, d2] }
  | _ => none }
def AddrCutsWrongFalsely : Prop := addrCutsRow.holds Try.pinned (OpenSpec.ofChange addrCutsWrong)

/-- 'waymarklaw10.FilterDecides': WHATEVER THE INPUT: true; the input reads as it did. -/
def filterDecidesSpec : ChangeSpec := { name := "filterDecides", fn := fun _ => fun
  | [d1, d2, d3] => { results := [.lit (.bool true)], args := [d1, d2, d3] }
  | _ => none }
def filterDecidesRow : OpenClaim := { program := "ytpljnogmfeenkaa", sum := "3ad72bc9d5e66b6bb2458a465c9f77381c53f64f120041149ff8635c2b226575", func := "waymark/waymarklaw10.FilterDecides", spec := "filterDecides", unfollowed := true, recurses := true, apart := false }
def FilterDecidesSaid : Prop := filterDecidesRow.holds Try.pinned (OpenSpec.ofChange filterDecidesSpec)

/-- ITS FALSE NEIGHBOUR: 'it returns false'. Refute it at one input. -/
def filterDecidesWrong : ChangeSpec := { name := "filterDecides", fn := fun _ => fun
  | [d1, d2, d3] => { results := [.lit (.bool false)], args := [d1, d2, d3] }
  | _ => none }
def FilterDecidesWrongFalsely : Prop := filterDecidesRow.holds Try.pinned (OpenSpec.ofChange filterDecidesWrong)

/-- 'waymarklaw01.AddrPrefixes': WHATEVER THE INPUT: true; the input reads as it did. -/
def addrPrefixesSpec : ChangeSpec := { name := "addrPrefixes", fn := fun _ => fun
  | [d1, d2, d3, d4] => { results := [.lit (.bool true)], args := [d1, d2, d3, d4] }
  | _ => none }
def addrPrefixesRow : OpenClaim := { program := "ytpljnogmfeenkaa", sum := "3ad72bc9d5e66b6bb2458a465c9f77381c53f64f120041149ff8635c2b226575", func := "waymark/waymarklaw01.AddrPrefixes", spec := "addrPrefixes", apart := false }
def AddrPrefixesSaid : Prop := addrPrefixesRow.holds Try.pinned (OpenSpec.ofChange addrPrefixesSpec)

/-- ITS FALSE NEIGHBOUR: 'it returns false'. Refute it at one input. -/
def addrPrefixesWrong : ChangeSpec := { name := "addrPrefixes", fn := fun _ => fun
  | [d1, d2, d3, d4] => { results := [.lit (.bool false)], args := [d1, d2, d3, d4] }
  | _ => none }
def AddrPrefixesWrongFalsely : Prop := addrPrefixesRow.holds Try.pinned (OpenSpec.ofChange addrPrefixesWrong)

/-- 'waymarklaw11.RewriteApplies': WHATEVER THE INPUT: true; the input reads as it did. -/
def rewriteAppliesSpec : ChangeSpec := { name := "rewriteApplies", fn := fun _ => fun
  | [d1, d2, d3, d4, d5] => { results := [.lit (.bool true)], args := [d1, d2, d3, d4, d5] }
  | _ => none }
def rewriteAppliesRow : OpenClaim := { program := "ytpljnogmfeenkaa", sum := "3ad72bc9d5e66b6bb2458a465c9f77381c53f64f120041149ff8635c2b226575", func := "waymark/waymarklaw11.RewriteApplies", spec := "rewriteApplies", unfollowed := true, recurses := true, apart := false }
def RewriteAppliesSaid : Prop := rewriteAppliesRow.holds Try.pinned (OpenSpec.ofChange rewriteAppliesSpec)

/-- ITS FALSE NEIGHBOUR: 'it returns false'. Refute it at one input. -/
def rewriteAppliesWrong : ChangeSpec := { name := "rewriteApplies", fn := fun _ => fun
  | [d1, d2, d3, d4, d5] => { results := [.lit (.bool false)], args := [d1, d2, d3, d4, d5] }
  | _ => none }
def RewriteAppliesWrongFalsely : Prop := rewriteAppliesRow.holds Try.pinned (OpenSpec.ofChange rewriteAppliesWrong)

/-- 'waymarklaw02.SpansEach': WHATEVER THE INPUT: true; the input reads as it did. -/
def spansEachSpec : ChangeSpec := { name := "spansEach", fn := fun _ => fun
  | [d1, d2] => { results := [.lit (.bool true)], args := [d1, d2] }
  | _ => none }
def spansEachRow : OpenClaim := { program := "ytpljnogmfeenkaa", sum := "3ad72bc9d5e66b6bb2458a465c9f77381c53f64f120041149ff8635c2b226575", func := "waymark/waymarklaw02.SpansEach", spec := "spansEach", unfollowed := true, recurses := true, apart := false }
def SpansEachSaid : Prop := spansEachRow.holds Try.pinned (OpenSpec.ofChange spansEachSpec)

/-- ITS FALSE NEIGHBOUR: 'it returns false'. Refute it at one input. -/
def spansEachWrong : ChangeSpec := { name := "spansEach", fn := fun _ => fun
  | [d1, d2] => { results := [.lit (.bool false)], args := [d1, d2] }
  | _ => none }
def SpansEachWrongFalsely : Prop := spansEachRow.holds Try.pinned (OpenSpec.ofChange spansEachWrong)

/-- 'waymarklaw02.SpansAsks': WHATEVER THE INPUT: true; the input reads as it did. -/
def spansAsksSpec : ChangeSpec := { name := "spansAsks", fn := fun _ => fun
  | [d1, d2] => { results := [.lit (.bool true)], args := [d1, d2] }
  | _ => none }
def spansAsksRow : OpenClaim := { program := "ytpljnogmfeenkaa", sum := "3ad72bc9d5e66b6bb2458a465c9f77381c53f64f120041149ff8635c2b226575", func := "waymark/waymarklaw02.SpansAsks", spec := "spansAsks", unfollowed := true, recurses := true, apart := false }
def SpansAsksSaid : Prop := spansAsksRow.holds Try.pinned (OpenSpec.ofChange spansAsksSpec)

/-- ITS FALSE NEIGHBOUR: 'it returns false'. Refute it at one input. -/
def spansAsksWrong : ChangeSpec := { name := "spansAsks", fn := fun _ => fun
  | [d1, d2] => { results := [.lit (.bool false)], args := [d1, d2] }
  | _ => none }
def SpansAsksWrongFalsely : Prop := spansAsksRow.holds Try.pinned (OpenSpec.ofChange spansAsksWrong)

/-- 'waymarklaw08.RoutesSort': WHATEVER THE INPUT: true; the input reads as it did. -/
def routesSortSpec : ChangeSpec := { name := "routesSort", fn := fun _ => fun
  | [d1, d2] => { results := [.lit (.bool true)], args := [d1, d2] }
  | _ => none }
def routesSortRow : OpenClaim := { program := "ytpljnogmfeenkaa", sum := "3ad72bc9d5e66b6bb2458a465c9f77381c53f64f120041149ff8635c2b226575", func := "waymark/waymarklaw08.RoutesSort", spec := "routesSort", unfollowed := true, recurses := true, apart := false }
def RoutesSortSaid : Prop := routesSortRow.holds Try.pinned (OpenSpec.ofChange routesSortSpec)

/-- ITS FALSE NEIGHBOUR: 'it returns false'. Refute it at one input. -/
def routesSortWrong : ChangeSpec := { name := "routesSort", fn := fun _ => fun
  | [d1, d2] => { results := [.lit (.bool false)], args := [d1, d2] }
  | _ => none }
def RoutesSortWrongFalsely : Prop := routesSortRow.holds Try.pinned (OpenSpec.ofChange routesSortWrong)

/-- 'waymarklaw08.RoutesAdverts': WHATEVER THE INPUT: true; the input reads as it did. -/
def routesAdvertsSpec : ChangeSpec := { name := "routesAdverts", fn := fun _ => fun
  | [d1, d2] => { results := [.lit (.bool true)], args := [d1, d2] }
  | _ => none }
def routesAdvertsRow : OpenClaim := { program := "ytpljnogmfeenkaa", sum := "3ad72bc9d5e66b6bb2458a465c9f77381c53f64f120041149ff8635c2b226575", func := "waymark/waymarklaw08.RoutesAdverts", spec := "routesAdverts", unfollowed := true, recurses := true, apart := false }
def RoutesAdvertsSaid : Prop := routesAdvertsRow.holds Try.pinned (OpenSpec.ofChange routesAdvertsSpec)

/-- ITS FALSE NEIGHBOUR: 'it returns false'. Refute it at one input. -/
def routesAdvertsWrong : ChangeSpec := { name := "routesAdverts", fn := fun _ => fun
  | [d1, d2] => { results := [.lit (.bool false)], args := [d1, d2] }
  | _ => none }
def RoutesAdvertsWrongFalsely : Prop := routesAdvertsRow.holds Try.pinned (OpenSpec.ofChange routesAdvertsWrong)

/-- 'waymarklaw02.SpansSets': WHATEVER THE INPUT: true; the input reads as it did. -/
def spansSetsSpec : ChangeSpec := { name := "spansSets", fn := fun _ => fun
  | [d1, d2, d3, d4] => { results := [.lit (.bool true)], args := [d1, d2, d3, d4] }
  | _ => none }
def spansSetsRow : OpenClaim := { program := "ytpljnogmfeenkaa", sum := "3ad72bc9d5e66b6bb2458a465c9f77381c53f64f120041149ff8635c2b226575", func := "waymark/waymarklaw02.SpansSets", spec := "spansSets", unfollowed := true, recurses := true, apart := false }
def SpansSetsSaid : Prop := spansSetsRow.holds Try.pinned (OpenSpec.ofChange spansSetsSpec)

/-- ITS FALSE NEIGHBOUR: 'it returns false'. Refute it at one input. -/
def spansSetsWrong : ChangeSpec := { name := "spansSets", fn := fun _ => fun
  | [d1, d2, d3, d4] => { results := [.lit (.bool false)], args := [d1, d2, d3, d4] }
  | _ => none }
def SpansSetsWrongFalsely : Prop := spansSetsRow.holds Try.pinned (OpenSpec.ofChange spansSetsWrong)

/-- 'waymarklaw02.SpansTruths': WHATEVER THE INPUT: true; the input reads as it did. -/
def spansTruthsSpec : ChangeSpec := { name := "spansTruths", fn := fun _ => fun
  | [d1, d2, d3, d4] => { results := [.lit (.bool true)], args := [d1, d2, d3, d4] }
  | _ => none }
def spansTruthsRow : OpenClaim := { program := "ytpljnogmfeenkaa", sum := "3ad72bc9d5e66b6bb2458a465c9f77381c53f64f120041149ff8635c2b226575", func := "waymark/waymarklaw02.SpansTruths", spec := "spansTruths", unfollowed := true, recurses := true, apart := false }
def SpansTruthsSaid : Prop := spansTruthsRow.holds Try.pinned (OpenSpec.ofChange spansTruthsSpec)

/-- ITS FALSE NEIGHBOUR: 'it returns false'. Refute it at one input. -/
def spansTruthsWrong : ChangeSpec := { name := "spansTruths", fn := fun _ => fun
  | [d1, d2, d3, d4] => { results := [.lit (.bool false)], args := [d1, d2, d3, d4] }
  | _ => none }
def SpansTruthsWrongFalsely : Prop := spansTruthsRow.holds Try.pinned (OpenSpec.ofChange spansTruthsWrong)

/-- 'waymarklaw02.SpansPieces': WHATEVER THE INPUT: true; the input reads as it did. -/
def spansPiecesSpec : ChangeSpec := { name := "spansPieces", fn := fun _ => fun
  | [d1, d2] => { results := [.lit (.bool true)], args := [d1, d2] }
  | _ => none }
def spansPiecesRow : OpenClaim := { program := "ytpljnogmfeenkaa", sum := "3ad72bc9d5e66b6bb2458a465c9f77381c53f64f120041149ff8635c2b226575", func := "waymark/waymarklaw02.SpansPieces", spec := "spansPieces", unfollowed := true, recurses := true, apart := false }
def SpansPiecesSaid : Prop := spansPiecesRow.holds Try.pinned (OpenSpec.ofChange spansPiecesSpec)

/-- ITS FALSE NEIGHBOUR: 'it returns false'. Refute it at one input. -/
def spansPiecesWrong : ChangeSpec := { name := "spansPieces", fn := fun _ => fun
  | [d1, d2] => { results := [.lit (.bool false)], args := [d1, d2] }
  | _ => none }
def SpansPiecesWrongFalsely : Prop := spansPiecesRow.holds Try.pinned (OpenSpec.ofChange spansPiecesWrong)

/-- 'waymarklaw02.SpansCut': WHATEVER THE INPUT: true; the input reads as it did. -/
def spansCutSpec : ChangeSpec := { name := "spansCut", fn := fun _ => fun
  | [d1, d2, d3] => { results := [.lit (.bool true)], args := [d1, d2, d3] }
  | _ => none }
def spansCutRow : OpenClaim := { program := "ytpljnogmfeenkaa", sum := "3ad72bc9d5e66b6bb2458a465c9f77381c53f64f120041149ff8635c2b226575", func := "waymark/waymarklaw02.SpansCut", spec := "spansCut", unfollowed := true, recurses := true, apart := false }
def SpansCutSaid : Prop := spansCutRow.holds Try.pinned (OpenSpec.ofChange spansCutSpec)

/-- ITS FALSE NEIGHBOUR: 'it returns false'. Refute it at one input. -/
def spansCutWrong : ChangeSpec := { name := "spansCut", fn := fun _ => fun
  | [d1, d2, d3] => { results := [.lit (.bool false)], args := [d1, d2, d3] }
  | _ => none }
def SpansCutWrongFalsely : Prop := spansCutRow.holds Try.pinned (OpenSpec.ofChange spansCutWrong)

/- THE SECOND FORM. 'bulk': how many values and letters a reading holds, each counted each time it is reached (what is shared counts as often as it is met; a slice's spare places count too). A statement '..UptoSaid' is the law's where the arguments, and the package variables that the reading takes, are together of bulk at most 1048576: NARROWER than '..Said'. Prove '..Said' where nothing that the law and all that it calls make is longer than what came in: it says more and counts as full. Else prove '..UptoSaid'. A law counts once. -/
mutual
def uptoBulk {H : Type} : DataW H → Nat
  | .lit (.string bytes) => bytes.length + 1
  | .lit _ => 1
  | .nil => 1
  | .ptr d => uptoBulk d + 1
  | .slice elems spare => uptoBulkAll elems + uptoBulkAll spare + 1
  | .agg parts => uptoBulkAll parts + 1
  | .iface _ d => uptoBulk d + 1
  | .map entries => uptoBulkEntries entries + 1
  | .held _ => 1
def uptoBulkAll {H : Type} : List (DataW H) → Nat
  | [] => 0
  | d :: r => uptoBulk d + uptoBulkAll r
def uptoBulkEntries {H : Type} : List (Lit × DataW H) → Nat
  | [] => 0
  | x :: r => uptoBulkEntry x + uptoBulkEntries r
def uptoBulkEntry {H : Type} : Lit × DataW H → Nat
  | (.string bytes, d) => bytes.length + uptoBulk d + 1
  | (_, d) => uptoBulk d + 1
 end
def uptoSmall : (H : Type) → List (DataW H) → Bool := fun _ ds => decide (uptoBulkAll ds ≤ 1048576)
def OpenSpec.upto (s : _root_.Go.ChangeSpec) : _root_.Go.OpenSpec := { _root_.Go.OpenSpec.ofChange s with cond := some uptoSmall }

/-- 'waymarklaw01.AddrCuts', WHERE WHAT IT READS IS OF BULK AT MOST 1048576: true; the input reads as it did. -/
def addrCutsUptoRow : OpenClaim := { program := "ytpljnogmfeenkaa", sum := "3ad72bc9d5e66b6bb2458a465c9f77381c53f64f120041149ff8635c2b226575", func := "waymark/waymarklaw01.AddrCuts", spec := "addrCuts", unfollowed := true, recurses := true, apart := false, narrowed := true }
def AddrCutsUptoSaid : Prop := addrCutsUptoRow.holds Try.pinned (OpenSpec.upto addrCutsSpec)

/-- 'waymarklaw10.FilterDecides', WHERE WHAT IT READS IS OF BULK AT MOST 1048576: true; the input reads as it did. -/
def filterDecidesUptoRow : OpenClaim := { program := "ytpljnogmfeenkaa", sum := "3ad72bc9d5e66b6bb2458a465c9f77381c53f64f120041149ff8635c2b226575", func := "waymark/waymarklaw10.FilterDecides", spec := "filterDecides", unfollowed := true, recurses := true, apart := false, narrowed := true }
def FilterDecidesUptoSaid : Prop := filterDecidesUptoRow.holds Try.pinned (OpenSpec.upto filterDecidesSpec)

/-- 'waymarklaw01.AddrPrefixes', WHERE WHAT IT READS IS OF BULK AT MOST 1048576: true; the input reads as it did. -/
def addrPrefixesUptoRow : OpenClaim := { program := "ytpljnogmfeenkaa", sum := "3ad72bc9d5e66b6bb2458a465c9f77381c53f64f120041149ff8635c2b226575", func := "waymark/waymarklaw01.AddrPrefixes", spec := "addrPrefixes", apart := false, narrowed := true }
def AddrPrefixesUptoSaid : Prop := addrPrefixesUptoRow.holds Try.pinned (OpenSpec.upto addrPrefixesSpec)

/-- 'waymarklaw11.RewriteApplies', WHERE WHAT IT READS IS OF BULK AT MOST 1048576: true; the input reads as it did. -/
def rewriteAppliesUptoRow : OpenClaim := { program := "ytpljnogmfeenkaa", sum := "3ad72bc9d5e66b6bb2458a465c9f77381c53f64f120041149ff8635c2b226575", func := "waymark/waymarklaw11.RewriteApplies", spec := "rewriteApplies", unfollowed := true, recurses := true, apart := false, narrowed := true }
def RewriteAppliesUptoSaid : Prop := rewriteAppliesUptoRow.holds Try.pinned (OpenSpec.upto rewriteAppliesSpec)

/-- 'waymarklaw02.SpansEach', WHERE WHAT IT READS IS OF BULK AT MOST 1048576: true; the input reads as it did. -/
def spansEachUptoRow : OpenClaim := { program := "ytpljnogmfeenkaa", sum := "3ad72bc9d5e66b6bb2458a465c9f77381c53f64f120041149ff8635c2b226575", func := "waymark/waymarklaw02.SpansEach", spec := "spansEach", unfollowed := true, recurses := true, apart := false, narrowed := true }
def SpansEachUptoSaid : Prop := spansEachUptoRow.holds Try.pinned (OpenSpec.upto spansEachSpec)

/-- 'waymarklaw02.SpansAsks', WHERE WHAT IT READS IS OF BULK AT MOST 1048576: true; the input reads as it did. -/
def spansAsksUptoRow : OpenClaim := { program := "ytpljnogmfeenkaa", sum := "3ad72bc9d5e66b6bb2458a465c9f77381c53f64f120041149ff8635c2b226575", func := "waymark/waymarklaw02.SpansAsks", spec := "spansAsks", unfollowed := true, recurses := true, apart := false, narrowed := true }
def SpansAsksUptoSaid : Prop := spansAsksUptoRow.holds Try.pinned (OpenSpec.upto spansAsksSpec)

/-- 'waymarklaw08.RoutesSort', WHERE WHAT IT READS IS OF BULK AT MOST 1048576: true; the input reads as it did. -/
def routesSortUptoRow : OpenClaim := { program := "ytpljnogmfeenkaa", sum := "3ad72bc9d5e66b6bb2458a465c9f77381c53f64f120041149ff8635c2b226575", func := "waymark/waymarklaw08.RoutesSort", spec := "routesSort", unfollowed := true, recurses := true, apart := false, narrowed := true }
def RoutesSortUptoSaid : Prop := routesSortUptoRow.holds Try.pinned (OpenSpec.upto routesSortSpec)

/-- 'waymarklaw08.RoutesAdverts', WHERE WHAT IT READS IS OF BULK AT MOST 1048576: true; the input reads as it did. -/
def routesAdvertsUptoRow : OpenClaim := { program := "ytpljnogmfeenkaa", sum := "3ad72bc9d5e66b6bb2458a465c9f77381c53f64f120041149ff8635c2b226575", func := "waymark/waymarklaw08.RoutesAdverts", spec := "routesAdverts", unfollowed := true, recurses := true, apart := false, narrowed := true }
def RoutesAdvertsUptoSaid : Prop := routesAdvertsUptoRow.holds Try.pinned (OpenSpec.upto routesAdvertsSpec)

/-- 'waymarklaw02.SpansSets', WHERE WHAT IT READS IS OF BULK AT MOST 1048576: true; the input reads as it did. -/
def spansSetsUptoRow : OpenClaim := { program := "ytpljnogmfeenkaa", sum := "3ad72bc9d5e66b6bb2458a465c9f77381c53f64f120041149ff8635c2b226575", func := "waymark/waymarklaw02.SpansSets", spec := "spansSets", unfollowed := true, recurses := true, apart := false, narrowed := true }
def SpansSetsUptoSaid : Prop := spansSetsUptoRow.holds Try.pinned (OpenSpec.upto spansSetsSpec)

/-- 'waymarklaw02.SpansTruths', WHERE WHAT IT READS IS OF BULK AT MOST 1048576: true; the input reads as it did. -/
def spansTruthsUptoRow : OpenClaim := { program := "ytpljnogmfeenkaa", sum := "3ad72bc9d5e66b6bb2458a465c9f77381c53f64f120041149ff8635c2b226575", func := "waymark/waymarklaw02.SpansTruths", spec := "spansTruths", unfollowed := true, recurses := true, apart := false, narrowed := true }
def SpansTruthsUptoSaid : Prop := spansTruthsUptoRow.holds Try.pinned (OpenSpec.upto spansTruthsSpec)

/-- 'waymarklaw02.SpansPieces', WHERE WHAT IT READS IS OF BULK AT MOST 1048576: true; the input reads as it did. -/
def spansPiecesUptoRow : OpenClaim := { program := "ytpljnogmfeenkaa", sum := "3ad72bc9d5e66b6bb2458a465c9f77381c53f64f120041149ff8635c2b226575", func := "waymark/waymarklaw02.SpansPieces", spec := "spansPieces", unfollowed := true, recurses := true, apart := false, narrowed := true }
def SpansPiecesUptoSaid : Prop := spansPiecesUptoRow.holds Try.pinned (OpenSpec.upto spansPiecesSpec)

/-- 'waymarklaw02.SpansCut', WHERE WHAT IT READS IS OF BULK AT MOST 1048576: true; the input reads as it did. -/
def spansCutUptoRow : OpenClaim := { program := "ytpljnogmfeenkaa", sum := "3ad72bc9d5e66b6bb2458a465c9f77381c53f64f120041149ff8635c2b226575", func := "waymark/waymarklaw02.SpansCut", spec := "spansCut", unfollowed := true, recurses := true, apart := false, narrowed := true }
def SpansCutUptoSaid : Prop := spansCutUptoRow.holds Try.pinned (OpenSpec.upto spansCutSpec)

end Rows
end Go.Proofs.Ytpljnogmfeenkaa
