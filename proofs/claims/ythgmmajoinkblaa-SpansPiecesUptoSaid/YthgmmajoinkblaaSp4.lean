/-
  The walk of spans.And.
-/
import Derived.Test.YthgmmajoinkblaaSp3
import Derived.Test.YthgmmajoinkblaaKit4
namespace Go.Proofs.Ythgmmajoinkblaa
open Go Go.RowKit Go.Lib Go.Sort

theorem meet1_yes {s t : SpanV} (h : max s.lo t.lo ≤ min s.hi t.hi) : ∃ x : SpanV, meet1 s t = [x] ∧ x.lo = max s.lo t.lo ∧ x.hi = min s.hi t.hi := by
  unfold meet1
  rw [if_pos h]
  exact ⟨_, rfl, rfl, rfl⟩
theorem meet1_no {s t : SpanV} (h : ¬ max s.lo t.lo ≤ min s.hi t.hi) : meet1 s t = [] := by
  unfold meet1
  rw [if_neg h]

end Go.Proofs.Ythgmmajoinkblaa
