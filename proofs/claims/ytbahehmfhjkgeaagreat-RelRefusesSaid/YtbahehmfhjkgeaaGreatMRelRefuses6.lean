/-
  Joined texts: Filt2.
-/
import Derived.Test.YtbahehmfhjkgeaaGreatMRelRefuses5
/-
  Walks over the filter's layer: which headers fit a rule; the program's and the reference's (written by wip/gen/genfilter.py).
-/
namespace Go.Proofs.YtbahehmfhjkgeaaGreat
open Go Go.RowKit

end Go.Proofs.YtbahehmfhjkgeaaGreat
