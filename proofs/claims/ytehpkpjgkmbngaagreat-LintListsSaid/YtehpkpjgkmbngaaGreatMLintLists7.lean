/-
  Joined texts: Filt2.
-/
import Derived.Test.YtehpkpjgkmbngaaGreatMLintLists6
/-
  Walks over the filter's layer: which headers fit a rule; the program's and the reference's (written by wip/gen/genfilter.py).
-/
namespace Go.Proofs.YtehpkpjgkmbngaaGreat
open Go Go.RowKit

end Go.Proofs.YtehpkpjgkmbngaaGreat
