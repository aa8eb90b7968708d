/-
  Joined texts: Filt2.
-/
import Derived.Test.YthhcaoljejifeaaGreatMLintRewrites6
/-
  Walks over the filter's layer: which headers fit a rule; the program's and the reference's (written by wip/gen/genfilter.py).
-/
namespace Go.Proofs.YthhcaoljejifeaaGreat
open Go Go.RowKit

end Go.Proofs.YthhcaoljejifeaaGreat
