/-
  No contract of the library's is wanted here: the text stands for its imports alone.
-/
import Derived.Shelf.SlGeneric
import Derived.Shelf.SlicesQ.IndexFunc
import Derived.Ground.SlgfProg
import Derived.Test.YthgmmajoinkblaaDoorProg
namespace Go.Proofs
end Go.Proofs
