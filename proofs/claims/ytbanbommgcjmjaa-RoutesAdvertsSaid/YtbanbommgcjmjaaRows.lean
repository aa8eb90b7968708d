/-
  No cell of these rows narrows 'for every input' (looked for: loops, veiled, ifaces, maps, wideKeys, modest, calm, conditions, laid).
  DERIVED. THE GIVEN ROWS OF THIS SEAT. 2 by the template 'for every input the law returns true; each argument reads behind the call as it read before'; 0 by the template 'total and deterministic' (their statements: YtbanbommgcjmjaaTotals.lean).
  GIVEN WITH THE SEED: the statements are not yours to turn. If you find one false, say at which input.
  Laid BY PROGRAM, IN A SANDBOX (cutbox-rows.mjs): the forced cells as the released guide's own fill.sh prints them over the translation 2181b702df8e3516… (all of the seat's roots in one cut). By AI agents, Wed Nov 11 2026. No macro, syntax, notation, axiom, sorry.
-/
import Derived.Test.YtbanbommgcjmjaaChecked
import GoSem.Claim
import GoSem.ClaimJoined
import GoSem.ClaimMapViews
import Derived.JoinedTies
import Derived.KernelRfl
namespace Go.Proofs.Ytbanbommgcjmjaa
/- THE CELL 'sum', in the pinned program and in every row, IS THE sha256 OF THE DUMP (.gsa) THAT YtbanbommgcjmjaaProg.lean LOADS. Nothing in Lean hashes anything: it is a label: what it is worth is what the hold of that sum in a sandbox is worth. -/
noncomputable def Try.pinned : Pinned := { name := "ytbanbommgcjmjaa", sum := "2181b702df8e351638663c69aade7af4ce355765a26306bc82dfb64a6728ff02", checked := Try.checked }
namespace Rows
def none {H : Type} : Left H := { results := [], args := [] }

/-- 'waymarklaw08.RoutesSort': WHATEVER THE INPUT: true; the input reads as it did. -/
def routesSortSpec : ChangeSpec := { name := "routesSort", fn := fun _ => fun
  | [d1, d2] => { results := [.lit (.bool true)], args := [d1, d2] }
  | _ => none }
def routesSortRow : OpenClaim := { program := "ytbanbommgcjmjaa", sum := "2181b702df8e351638663c69aade7af4ce355765a26306bc82dfb64a6728ff02", func := "waymark/waymarklaw08.RoutesSort", spec := "routesSort", unfollowed := true, recurses := true, apart := false }
def RoutesSortSaid : Prop := routesSortRow.holds Try.pinned (OpenSpec.ofChange routesSortSpec)

/-- ITS FALSE NEIGHBOUR: 'it returns false'. Refute it at one input. -/
def routesSortWrong : ChangeSpec := { name := "routesSort", fn := fun _ => fun
  | [d1, d2] => { results := [.lit (.bool false)], args := [d1, d2] }
  | _ => none }
def RoutesSortWrongFalsely : Prop := routesSortRow.holds Try.pinned (OpenSpec.ofChange routesSortWrong)

/-- 'waymarklaw08.RoutesAdverts': WHATEVER THE INPUT: true; the input reads as it did. -/
def routesAdvertsSpec : ChangeSpec := { name := "routesAdverts", fn := fun _ => fun
  | [d1, d2] => { results := [.lit (.bool true)], args := [d1, d2] }
  | _ => none }
def routesAdvertsRow : OpenClaim := { program := "ytbanbommgcjmjaa", sum := "2181b702df8e351638663c69aade7af4ce355765a26306bc82dfb64a6728ff02", func := "waymark/waymarklaw08.RoutesAdverts", spec := "routesAdverts", unfollowed := true, recurses := true, apart := false }
def RoutesAdvertsSaid : Prop := routesAdvertsRow.holds Try.pinned (OpenSpec.ofChange routesAdvertsSpec)

/-- ITS FALSE NEIGHBOUR: 'it returns false'. Refute it at one input. -/
def routesAdvertsWrong : ChangeSpec := { name := "routesAdverts", fn := fun _ => fun
  | [d1, d2] => { results := [.lit (.bool false)], args := [d1, d2] }
  | _ => none }
def RoutesAdvertsWrongFalsely : Prop := routesAdvertsRow.holds Try.pinned (OpenSpec.ofChange routesAdvertsWrong)

/- THE SECOND FORM. 'bulk': how many values and letters a reading holds, each counted each time it is reached (what is shared counts as often as it is met; a slice's spare places count too). A statement '..UptoSaid' is the law's where the arguments, and the package variables that the reading takes, are together of bulk at most 1048576: NARROWER than '..Said'. Prove '..Said' where nothing that the law and all that it calls make is longer than what came in: it says more and counts as full. Else prove '..UptoSaid'. A law counts once. -/
mutual
def uptoBulk {H : Type} : DataW H → Nat
  | .lit (.string bytes) => bytes.length + 1
  | .lit _ => 1
  | .nil => 1
  | .ptr d => uptoBulk d + 1
  | .slice elems spare => uptoBulkAll elems + uptoBulkAll spare + 1
  | .agg parts => uptoBulkAll parts + 1
  | .iface _ d => uptoBulk d + 1
  | .map entries => uptoBulkEntries entries + 1
  | .held _ => 1
def uptoBulkAll {H : Type} : List (DataW H) → Nat
  | [] => 0
  | d :: r => uptoBulk d + uptoBulkAll r
def uptoBulkEntries {H : Type} : List (Lit × DataW H) → Nat
  | [] => 0
  | x :: r => uptoBulkEntry x + uptoBulkEntries r
def uptoBulkEntry {H : Type} : Lit × DataW H → Nat
  | (.string bytes, d) => bytes.length + uptoBulk d + 1
  | (_, d) => uptoBulk d + 1
 end
def uptoSmall : (H : Type) → List (DataW H) → Bool := fun _ ds => decide (uptoBulkAll ds ≤ 1048576)
def OpenSpec.upto (s : _root_.Go.ChangeSpec) : _root_.Go.OpenSpec := { _root_.Go.OpenSpec.ofChange s with cond := some uptoSmall }

/-- 'waymarklaw08.RoutesSort', WHERE WHAT IT READS IS OF BULK AT MOST 1048576: true; the input reads as it did. -/
def routesSortUptoRow : OpenClaim := { program := "ytbanbommgcjmjaa", sum := "2181b702df8e351638663c69aade7af4ce355765a26306bc82dfb64a6728ff02", func := "waymark/waymarklaw08.RoutesSort", spec := "routesSort", unfollowed := true, recurses := true, apart := false, narrowed := true }
def RoutesSortUptoSaid : Prop := routesSortUptoRow.holds Try.pinned (OpenSpec.upto routesSortSpec)

/-- 'waymarklaw08.RoutesAdverts', WHERE WHAT IT READS IS OF BULK AT MOST 1048576: true; the input reads as it did. -/
def routesAdvertsUptoRow : OpenClaim := { program := "ytbanbommgcjmjaa", sum := "2181b702df8e351638663c69aade7af4ce355765a26306bc82dfb64a6728ff02", func := "waymark/waymarklaw08.RoutesAdverts", spec := "routesAdverts", unfollowed := true, recurses := true, apart := false, narrowed := true }
def RoutesAdvertsUptoSaid : Prop := routesAdvertsUptoRow.holds Try.pinned (OpenSpec.upto routesAdvertsSpec)

end Rows
end Go.Proofs.Ytbanbommgcjmjaa
