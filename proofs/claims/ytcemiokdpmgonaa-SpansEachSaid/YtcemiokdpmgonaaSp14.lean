/-
  The walks of slices.Concat at spans and of spans.Or.
-/
import Derived.Test.YtcemiokdpmgonaaSp13
import Derived.Test.YtcemiokdpmgonaaShelf5
import Derived.Laws.AppendOwnNone
namespace Go.Proofs.Ytcemiokdpmgonaa
open Go Go.RowKit Go.Lib Go.Sort

/-- A slice without an address is nil. -/
def NilOk (v : Value) : Prop := ∀ n c, v = .slice none n c → n = 0 ∧ c = 0
theorem NilOk.of_own {w : World} {base : Nat} {e : TypeId} {size n : Nat} {v : Value} {xs : List Value} (h : w.ownsRow base e size v n xs) : NilOk v := by
  intro n' c' hv
  rcases h.2 with ⟨rfl, h0⟩ | ⟨g, cap, cur, rfl, _⟩
  · injection hv with _ h1 h2
    omega
  · cases hv
theorem allS_le (S : List SetV) (j : Nat) : (allS (S.take j)).length ≤ (allS S).length := by
  have e : allS S = allS (S.take j) ++ allS (S.drop j) := by unfold allS; rw [← List.flatMap_append, List.take_append_drop]
  rw [e, List.length_append]; omega

theorem theSet_or (L M : List SpanV) : theSet (fun x => hasB L x || hasB M x) = formOf (L ++ M) := theSet_form (fun x => hasB_append L M x)
end Go.Proofs.Ytcemiokdpmgonaa
