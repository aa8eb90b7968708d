/-
  The walks of spans.Not and spans.Less.
-/
import Derived.Test.YthgmmajoinkblaaSp4
namespace Go.Proofs.Ythgmmajoinkblaa
open Go Go.RowKit Go.Lib Go.Sort

theorem lessP (L M : List SpanV) : theSet (fun x => hasB L x && hasB (theSet (notP 4294967295 M)) x) = theSet (fun x => hasB L x && !hasB M x) := by
  congr 1
  funext x
  have h := (notAll_ok (formOf_ok M).1 (most := 4294967295) (by omega)).2 x
  rw [theSet_not (by omega), h, notP_form]
  unfold notP
  cases hx : hasB L x with
  | false => rfl
  | true =>
    obtain ⟨s, _, h1, h2⟩ := hasB_iff.1 hx
    have := s.hlo
    have := s.hhi
    have e1 : 0 ≤ x := by omega
    have e2 : x ≤ 4294967295 := by omega
    simp [e1, e2]
theorem not_len {most : Int} (hm : 0 ≤ most ∧ most < 4294967296) (L : List SpanV) : (theSet (notP most L)).length ≤ L.length + 1 := by
  rw [theSet_not hm]
  unfold notAll
  have h1 := notTo_len most (formOf L) (formOf L).length
  have h2 := formOf_len L
  have h3 : (lastOf (natAt (formOf L)) most).length ≤ 1 := by unfold lastOf; split <;> simp
  rw [List.length_append]; omega

end Go.Proofs.Ythgmmajoinkblaa
