/-
  No cell of these rows narrows 'for every input' (looked for: loops, veiled, ifaces, maps, wideKeys, modest, calm, conditions, laid).
  DERIVED. THE GIVEN ROWS OF THIS SEAT. 4 by the template 'for every input the law returns true; each argument reads behind the call as it read before'; 0 by the template 'total and deterministic' (their statements: YtbahehmfhjkgeaaGreatTotals.lean).
  GIVEN WITH THE SEED: the statements are not yours to turn. If you find one false, say at which input.
  Laid BY PROGRAM, IN A SANDBOX (cutbox-rows.mjs): the forced cells as the released guide's own fill.sh prints them over the translation f082d420a257cb30… (all of the seat's roots in one cut). By AI agents, Wed Nov 11 2026. No macro, syntax, notation, axiom, sorry.
-/
import Derived.Test.YtbahehmfhjkgeaaGreatChecked
import GoSem.Claim
import GoSem.ClaimJoined
import GoSem.ClaimMapViews
import Derived.JoinedTies
import Derived.KernelRfl
namespace Go.Proofs.YtbahehmfhjkgeaaGreat
/- THE CELL 'sum', in the pinned program and in every row, IS THE sha256 OF THE DUMP (.gsa) THAT YtbahehmfhjkgeaaGreatProg.lean LOADS. Nothing in Lean hashes anything: it is a label: what it is worth is what the hold of that sum in a sandbox is worth. -/
noncomputable def Tryz.pinned : Pinned := { name := "ytbahehmfhjkgeaagreat", sum := "f082d420a257cb301a9159300d9923a9da3d230e09855a340fc54ddf30dce35c", checked := Tryz.checked }
namespace Rows
def none {H : Type} : Left H := { results := [], args := [] }

/-- 'waymarklaw10.FilterOrder': WHATEVER THE INPUT: true; the input reads as it did. -/
def filterOrderSpec : ChangeSpec := { name := "filterOrder", fn := fun _ => fun
  | [d1, d2] => { results := [.lit (.bool true)], args := [d1, d2] }
  | _ => none }
def filterOrderRow : OpenClaim := { program := "ytbahehmfhjkgeaagreat", sum := "f082d420a257cb301a9159300d9923a9da3d230e09855a340fc54ddf30dce35c", func := "waymark/waymarklaw10.FilterOrder", spec := "filterOrder", unfollowed := true, recurses := true, plainKeys := false, apart := false }
def FilterOrderSaid : Prop := filterOrderRow.holds Tryz.pinned (OpenSpec.ofChange filterOrderSpec)

/-- ITS FALSE NEIGHBOUR: 'it returns false'. Refute it at one input. -/
def filterOrderWrong : ChangeSpec := { name := "filterOrder", fn := fun _ => fun
  | [d1, d2] => { results := [.lit (.bool false)], args := [d1, d2] }
  | _ => none }
def FilterOrderWrongFalsely : Prop := filterOrderRow.holds Tryz.pinned (OpenSpec.ofChange filterOrderWrong)

/-- 'waymarklaw30.LintRules': WHATEVER THE INPUT: true; the input reads as it did. -/
def lintRulesSpec : ChangeSpec := { name := "lintRules", fn := fun _ => fun
  | [d] => { results := [.lit (.bool true)], args := [d] }
  | _ => none }
def lintRulesRow : OpenClaim := { program := "ytbahehmfhjkgeaagreat", sum := "f082d420a257cb301a9159300d9923a9da3d230e09855a340fc54ddf30dce35c", func := "waymark/waymarklaw30.LintRules", spec := "lintRules", unfollowed := true, recurses := true, plainKeys := false, apart := false }
def LintRulesSaid : Prop := lintRulesRow.holds Tryz.pinned (OpenSpec.ofChange lintRulesSpec)

/-- ITS FALSE NEIGHBOUR: 'it returns false'. Refute it at one input. -/
def lintRulesWrong : ChangeSpec := { name := "lintRules", fn := fun _ => fun
  | [d] => { results := [.lit (.bool false)], args := [d] }
  | _ => none }
def LintRulesWrongFalsely : Prop := lintRulesRow.holds Tryz.pinned (OpenSpec.ofChange lintRulesWrong)

/-- 'waymarklaw10.FilterSets': WHATEVER THE INPUT: true; the input reads as it did. -/
def filterSetsSpec : ChangeSpec := { name := "filterSets", fn := fun _ => fun
  | [d1, d2] => { results := [.lit (.bool true)], args := [d1, d2] }
  | _ => none }
def filterSetsRow : OpenClaim := { program := "ytbahehmfhjkgeaagreat", sum := "f082d420a257cb301a9159300d9923a9da3d230e09855a340fc54ddf30dce35c", func := "waymark/waymarklaw10.FilterSets", spec := "filterSets", inPlace := ["math/bits.Add64"], unfollowed := true, recurses := true, plainKeys := false, apart := false }
def FilterSetsSaid : Prop := filterSetsRow.holds Tryz.pinned (OpenSpec.ofChange filterSetsSpec)

/-- ITS FALSE NEIGHBOUR: 'it returns false'. Refute it at one input. -/
def filterSetsWrong : ChangeSpec := { name := "filterSets", fn := fun _ => fun
  | [d1, d2] => { results := [.lit (.bool false)], args := [d1, d2] }
  | _ => none }
def FilterSetsWrongFalsely : Prop := filterSetsRow.holds Tryz.pinned (OpenSpec.ofChange filterSetsWrong)

/-- 'waymarklaw06.RelRefuses': WHATEVER THE INPUT: true; the input reads as it did. -/
def relRefusesSpec : ChangeSpec := { name := "relRefuses", fn := fun _ => fun
  | [d1, d2, d3, d4, d5, d6] => { results := [.lit (.bool true)], args := [d1, d2, d3, d4, d5, d6] }
  | _ => none }
def relRefusesRow : OpenClaim := { program := "ytbahehmfhjkgeaagreat", sum := "f082d420a257cb301a9159300d9923a9da3d230e09855a340fc54ddf30dce35c", func := "waymark/waymarklaw06.RelRefuses", spec := "relRefuses", inPlace := ["math/bits.Add64"], unfollowed := true, recurses := true, plainKeys := false, apart := false }
def RelRefusesSaid : Prop := relRefusesRow.holds Tryz.pinned (OpenSpec.ofChange relRefusesSpec)

/-- ITS FALSE NEIGHBOUR: 'it returns false'. Refute it at one input. -/
def relRefusesWrong : ChangeSpec := { name := "relRefuses", fn := fun _ => fun
  | [d1, d2, d3, d4, d5, d6] => { results := [.lit (.bool false)], args := [d1, d2, d3, d4, d5, d6] }
  | _ => none }
def RelRefusesWrongFalsely : Prop := relRefusesRow.holds Tryz.pinned (OpenSpec.ofChange relRefusesWrong)

/- THE SECOND FORM. 'bulk': how many values and letters a reading holds, each counted each time it is reached (what is shared counts as often as it is met; a slice's spare places count too). A statement '..UptoSaid' is the law's where the arguments, and the package variables that the reading takes, are together of bulk at most 1048576: NARROWER than '..Said'. Prove '..Said' where nothing that the law and all that it calls make is longer than what came in: it says more and counts as full. Else prove '..UptoSaid'. A law counts once. -/
mutual
def uptoBulk {H : Type} : DataW H → Nat
  | .lit (.string bytes) => bytes.length + 1
  | .lit _ => 1
  | .nil => 1
  | .ptr d => uptoBulk d + 1
  | .slice elems spare => uptoBulkAll elems + uptoBulkAll spare + 1
  | .agg parts => uptoBulkAll parts + 1
  | .iface _ d => uptoBulk d + 1
  | .map entries => uptoBulkEntries entries + 1
  | .held _ => 1
def uptoBulkAll {H : Type} : List (DataW H) → Nat
  | [] => 0
  | d :: r => uptoBulk d + uptoBulkAll r
def uptoBulkEntries {H : Type} : List (Lit × DataW H) → Nat
  | [] => 0
  | x :: r => uptoBulkEntry x + uptoBulkEntries r
def uptoBulkEntry {H : Type} : Lit × DataW H → Nat
  | (.string bytes, d) => bytes.length + uptoBulk d + 1
  | (_, d) => uptoBulk d + 1
 end
def uptoSmall : (H : Type) → List (DataW H) → Bool := fun _ ds => decide (uptoBulkAll ds ≤ 1048576)
def OpenSpec.upto (s : _root_.Go.ChangeSpec) : _root_.Go.OpenSpec := { _root_.Go.OpenSpec.ofChange s with cond := some uptoSmall }

/-- 'waymarklaw10.FilterOrder', WHERE WHAT IT READS IS OF BULK AT MOST 1048576: true; the input reads as it did. -/
def filterOrderUptoRow : OpenClaim := { program := "ytbahehmfhjkgeaagreat", sum := "f082d420a257cb301a9159300d9923a9da3d230e09855a340fc54ddf30dce35c", func := "waymark/waymarklaw10.FilterOrder", spec := "filterOrder", unfollowed := true, recurses := true, plainKeys := false, apart := false, narrowed := true }
def FilterOrderUptoSaid : Prop := filterOrderUptoRow.holds Tryz.pinned (OpenSpec.upto filterOrderSpec)

/-- 'waymarklaw30.LintRules', WHERE WHAT IT READS IS OF BULK AT MOST 1048576: true; the input reads as it did. -/
def lintRulesUptoRow : OpenClaim := { program := "ytbahehmfhjkgeaagreat", sum := "f082d420a257cb301a9159300d9923a9da3d230e09855a340fc54ddf30dce35c", func := "waymark/waymarklaw30.LintRules", spec := "lintRules", unfollowed := true, recurses := true, plainKeys := false, apart := false, narrowed := true }
def LintRulesUptoSaid : Prop := lintRulesUptoRow.holds Tryz.pinned (OpenSpec.upto lintRulesSpec)

/-- 'waymarklaw10.FilterSets', WHERE WHAT IT READS IS OF BULK AT MOST 1048576: true; the input reads as it did. -/
def filterSetsUptoRow : OpenClaim := { program := "ytbahehmfhjkgeaagreat", sum := "f082d420a257cb301a9159300d9923a9da3d230e09855a340fc54ddf30dce35c", func := "waymark/waymarklaw10.FilterSets", spec := "filterSets", inPlace := ["math/bits.Add64"], unfollowed := true, recurses := true, plainKeys := false, apart := false, narrowed := true }
def FilterSetsUptoSaid : Prop := filterSetsUptoRow.holds Tryz.pinned (OpenSpec.upto filterSetsSpec)

/-- 'waymarklaw06.RelRefuses', WHERE WHAT IT READS IS OF BULK AT MOST 1048576: true; the input reads as it did. -/
def relRefusesUptoRow : OpenClaim := { program := "ytbahehmfhjkgeaagreat", sum := "f082d420a257cb301a9159300d9923a9da3d230e09855a340fc54ddf30dce35c", func := "waymark/waymarklaw06.RelRefuses", spec := "relRefuses", inPlace := ["math/bits.Add64"], unfollowed := true, recurses := true, plainKeys := false, apart := false, narrowed := true }
def RelRefusesUptoSaid : Prop := relRefusesUptoRow.holds Tryz.pinned (OpenSpec.upto relRefusesSpec)

end Rows
end Go.Proofs.YtbahehmfhjkgeaaGreat
