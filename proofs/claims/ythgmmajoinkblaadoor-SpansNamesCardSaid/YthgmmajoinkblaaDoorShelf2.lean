import Derived.Shelf.Lay
import Derived.Shelf.LaySoft
import Derived.Shelf.SlGeneric
import Derived.Shelf.SlicesQ.IndexFunc
import Derived.Ground.SlgfProg
import Derived.Test.YthgmmajoinkblaaDoorProg
namespace Go.Proofs
open Go.Shelf
shelf_tried
end Go.Proofs
