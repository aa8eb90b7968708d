/-
  Joined texts: Filt3, Filt4, Filt5.
-/
import Derived.Test.YtbahehmfhjkgeaaGreatMRelRefuses5
import Derived.Test.YtbahehmfhjkgeaaGreatMRelRefuses6
import Derived.Test.YtbahehmfhjkgeaaGreatMRelRefuses1
import Derived.Test.YtbahehmfhjkgeaaGreatShelf2
/-
  Walks over the filter's layer: which headers fit a rule; the program's and the reference's (written by wip/gen/genfilter.py).
-/
namespace Go.Proofs.YtbahehmfhjkgeaaGreat
open Go Go.RowKit

end Go.Proofs.YtbahehmfhjkgeaaGreat

/-
  Walks over the filter's layer: whole filters: Check.
-/
namespace Go.Proofs.YtbahehmfhjkgeaaGreat
open Go Go.RowKit

instance : Inhabited RuleV := ⟨⟨false, 0, 0, 0, 0, 0, 0, 0, 0, 0, by omega, by omega, by omega, by omega, by omega, by omega, by omega⟩⟩
/-- A rule's ten cells. -/
def RuleV.enc (r : RuleV) : List Value := [.bool r.permit, .int .i64 r.proto, .int .u32 r.sa, .int .i64 r.sn, .int .u32 r.da, .int .i64 r.dn, .int .u32 r.sl, .int .u32 r.sh, .int .u32 r.dl, .int .u32 r.dh]
def rcells (L : List RuleV) : List Value := L.flatMap RuleV.enc

/-- The refusal of a filter. -/
def filtE (L : List RuleV) : Int := if 256 < L.length then 121 else if L.any (fun r => !mayB r) then 121 else 0
end Go.Proofs.YtbahehmfhjkgeaaGreat

/-
  Walks over the filter's layer: whole filters: the reference's Check, Decides.
-/
namespace Go.Proofs.YtbahehmfhjkgeaaGreat
open Go Go.RowKit Go.Sort

end Go.Proofs.YtbahehmfhjkgeaaGreat
