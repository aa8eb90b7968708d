import Derived.Shelf.Lay
import Derived.Shelf.LaySoft
import Derived.Shelf.Spec.SlicesGrow
import Derived.Test.YtcemiokdpmgonaaProg
namespace Go.Proofs
open Go.Shelf
end Go.Proofs
