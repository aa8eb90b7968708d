/-
  Joined texts: Ft1.
-/
import Derived.Test.YtlhafehhkjjchaaGreatDoorMRoutesOrder16
/-
  The walk of filter.Text (written by wip/gen/genft1.py).
-/
namespace Go.Proofs.YtlhafehhkjjchaaGreatDoor
open Go Go.RowKit Go.Sort

end Go.Proofs.YtlhafehhkjjchaaGreatDoor
