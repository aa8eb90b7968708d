/-
  No cell of these rows narrows 'for every input' (looked for: loops, veiled, ifaces, maps, wideKeys, modest, calm, conditions, laid).
  DERIVED. THE GIVEN ROWS OF THIS SEAT. 3 by the template 'for every input the law returns true; each argument reads behind the call as it read before'; 0 by the template 'total and deterministic' (their statements: YtdjikiakcfbklaaGreatTotals.lean).
  GIVEN WITH THE SEED: the statements are not yours to turn. If you find one false, say at which input.
  Laid BY PROGRAM, IN A SANDBOX (cutbox-rows.mjs): the forced cells as the released guide's own fill.sh prints them over the translation 1211f3de5d96596d… (all of the seat's roots in one cut). By AI agents, Wed Nov 11 2026. No macro, syntax, notation, axiom, sorry.
-/
import Derived.Test.YtdjikiakcfbklaaGreatChecked
import GoSem.Claim
import GoSem.ClaimJoined
import GoSem.ClaimMapViews
import Derived.JoinedTies
import Derived.KernelRfl
namespace Go.Proofs.YtdjikiakcfbklaaGreat
/- THE CELL 'sum', in the pinned program and in every row, IS THE sha256 OF THE DUMP (.gsa) THAT YtdjikiakcfbklaaGreatProg.lean LOADS. Nothing in Lean hashes anything: it is a label: what it is worth is what the hold of that sum in a sandbox is worth. -/
noncomputable def Tryz.pinned : Pinned := { name := "ytdjikiakcfbklaagreat", sum := "1211f3de5d96596dd335b4d083469d96ef1e173d7a4e2142e030f17cdb4e3ddb", checked := Tryz.checked }
namespace Rows
def none {H : Type} : Left H := { results := [], args := [] }

/-- 'waymarklaw11.RewriteKinds': WHATEVER THE INPUT: true; the input reads as it did. -/
def rewriteKindsSpec : ChangeSpec := { name := "rewriteKinds", fn := fun _ => fun
  | [d1, d2, d3, d4] => { results := [.lit (.bool true)], args := [d1, d2, d3, d4] }
  | _ => none }
def rewriteKindsRow : OpenClaim := { program := "ytdjikiakcfbklaagreat", sum := "1211f3de5d96596dd335b4d083469d96ef1e173d7a4e2142e030f17cdb4e3ddb", func := "waymark/waymarklaw11.RewriteKinds", spec := "rewriteKinds", unfollowed := true, recurses := true, plainKeys := false, apart := false }
def RewriteKindsSaid : Prop := rewriteKindsRow.holds Tryz.pinned (OpenSpec.ofChange rewriteKindsSpec)

/-- ITS FALSE NEIGHBOUR: 'it returns false'. Refute it at one input. -/
def rewriteKindsWrong : ChangeSpec := { name := "rewriteKinds", fn := fun _ => fun
  | [d1, d2, d3, d4] => { results := [.lit (.bool false)], args := [d1, d2, d3, d4] }
  | _ => none }
def RewriteKindsWrongFalsely : Prop := rewriteKindsRow.holds Tryz.pinned (OpenSpec.ofChange rewriteKindsWrong)

/-- 'waymarklaw06.RelRefuses': WHATEVER THE INPUT: true; the input reads as it did. -/
def relRefusesSpec : ChangeSpec := { name := "relRefuses", fn := fun _ => fun
  | [d1, d2, d3, d4, d5, d6] => { results := [.lit (.bool true)], args := [d1, d2, d3, d4, d5, d6] }
  | _ => none }
def relRefusesRow : OpenClaim := { program := "ytdjikiakcfbklaagreat", sum := "1211f3de5d96596dd335b4d083469d96ef1e173d7a4e2142e030f17cdb4e3ddb", func := "waymark/waymarklaw06.RelRefuses", spec := "relRefuses", inPlace := ["math/bits.Add64"], unfollowed := true, recurses := true, plainKeys := false, apart := false }
def RelRefusesSaid : Prop := relRefusesRow.holds Tryz.pinned (OpenSpec.ofChange relRefusesSpec)

/-- ITS FALSE NEIGHBOUR: 'it returns false'. Refute it at one input. -/
def relRefusesWrong : ChangeSpec := { name := "relRefuses", fn := fun _ => fun
  | [d1, d2, d3, d4, d5, d6] => { results := [.lit (.bool false)], args := [d1, d2, d3, d4, d5, d6] }
  | _ => none }
def RelRefusesWrongFalsely : Prop := relRefusesRow.holds Tryz.pinned (OpenSpec.ofChange relRefusesWrong)

/-- 'waymarklaw11.RewriteNames': WHATEVER THE INPUT: true; the input reads as it did. -/
def rewriteNamesSpec : ChangeSpec := { name := "rewriteNames", fn := fun _ => fun
  | [] => { results := [.lit (.bool true)], args := [] }
  | _ => none }
def rewriteNamesRow : OpenClaim := { program := "ytdjikiakcfbklaagreat", sum := "1211f3de5d96596dd335b4d083469d96ef1e173d7a4e2142e030f17cdb4e3ddb", func := "waymark/waymarklaw11.RewriteNames", spec := "rewriteNames", unfollowed := true, recurses := true, plainKeys := false, apart := false }
def RewriteNamesSaid : Prop := rewriteNamesRow.holds Tryz.pinned (OpenSpec.ofChange rewriteNamesSpec)

/-- ITS FALSE NEIGHBOUR: 'it returns false'. Refute it at one input. -/
def rewriteNamesWrong : ChangeSpec := { name := "rewriteNames", fn := fun _ => fun
  | [] => { results := [.lit (.bool false)], args := [] }
  | _ => none }
def RewriteNamesWrongFalsely : Prop := rewriteNamesRow.holds Tryz.pinned (OpenSpec.ofChange rewriteNamesWrong)

/- THE SECOND FORM. 'bulk': how many values and letters a reading holds, each counted each time it is reached (what is shared counts as often as it is met; a slice's spare places count too). A statement '..UptoSaid' is the law's where the arguments, and the package variables that the reading takes, are together of bulk at most 1048576: NARROWER than '..Said'. Prove '..Said' where nothing that the law and all that it calls make is longer than what came in: it says more and counts as full. Else prove '..UptoSaid'. A law counts once. -/
mutual
def uptoBulk {H : Type} : DataW H → Nat
  | .lit (.string bytes) => bytes.length + 1
  | .lit _ => 1
  | .nil => 1
  | .ptr d => uptoBulk d + 1
  | .slice elems spare => uptoBulkAll elems + uptoBulkAll spare + 1
  | .agg parts => uptoBulkAll parts + 1
  | .iface _ d => uptoBulk d + 1
  | .map entries => uptoBulkEntries entries + 1
  | .held _ => 1
def uptoBulkAll {H : Type} : List (DataW H) → Nat
  | [] => 0
  | d :: r => uptoBulk d + uptoBulkAll r
def uptoBulkEntries {H : Type} : List (Lit × DataW H) → Nat
  | [] => 0
  | x :: r => uptoBulkEntry x + uptoBulkEntries r
def uptoBulkEntry {H : Type} : Lit × DataW H → Nat
  | (.string bytes, d) => bytes.length + uptoBulk d + 1
  | (_, d) => uptoBulk d + 1
 end
def uptoSmall : (H : Type) → List (DataW H) → Bool := fun _ ds => decide (uptoBulkAll ds ≤ 1048576)
def OpenSpec.upto (s : _root_.Go.ChangeSpec) : _root_.Go.OpenSpec := { _root_.Go.OpenSpec.ofChange s with cond := some uptoSmall }

/-- 'waymarklaw11.RewriteKinds', WHERE WHAT IT READS IS OF BULK AT MOST 1048576: true; the input reads as it did. -/
def rewriteKindsUptoRow : OpenClaim := { program := "ytdjikiakcfbklaagreat", sum := "1211f3de5d96596dd335b4d083469d96ef1e173d7a4e2142e030f17cdb4e3ddb", func := "waymark/waymarklaw11.RewriteKinds", spec := "rewriteKinds", unfollowed := true, recurses := true, plainKeys := false, apart := false, narrowed := true }
def RewriteKindsUptoSaid : Prop := rewriteKindsUptoRow.holds Tryz.pinned (OpenSpec.upto rewriteKindsSpec)

/-- 'waymarklaw06.RelRefuses', WHERE WHAT IT READS IS OF BULK AT MOST 1048576: true; the input reads as it did. -/
def relRefusesUptoRow : OpenClaim := { program := "ytdjikiakcfbklaagreat", sum := "1211f3de5d96596dd335b4d083469d96ef1e173d7a4e2142e030f17cdb4e3ddb", func := "waymark/waymarklaw06.RelRefuses", spec := "relRefuses", inPlace := ["math/bits.Add64"], unfollowed := true, recurses := true, plainKeys := false, apart := false, narrowed := true }
def RelRefusesUptoSaid : Prop := relRefusesUptoRow.holds Tryz.pinned (OpenSpec.upto relRefusesSpec)

/-- 'waymarklaw11.RewriteNames', WHERE WHAT IT READS IS OF BULK AT MOST 1048576: true; the input reads as it did. -/
def rewriteNamesUptoRow : OpenClaim := { program := "ytdjikiakcfbklaagreat", sum := "1211f3de5d96596dd335b4d083469d96ef1e173d7a4e2142e030f17cdb4e3ddb", func := "waymark/waymarklaw11.RewriteNames", spec := "rewriteNames", unfollowed := true, recurses := true, plainKeys := false, apart := false, narrowed := true }
def RewriteNamesUptoSaid : Prop := rewriteNamesUptoRow.holds Tryz.pinned (OpenSpec.upto rewriteNamesSpec)

end Rows
end Go.Proofs.YtdjikiakcfbklaaGreat
