/-
  The walk of the document's made, and of its five callers.
-/
import Derived.Test.YthgmmajoinkblaaSp8
namespace Go.Proofs.Ythgmmajoinkblaa
open Go Go.RowKit Go.Lib Go.Sort

end Go.Proofs.Ythgmmajoinkblaa
