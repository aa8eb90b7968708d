/-
  The walks of the document's Form, Or, And, Less and Not, and of Concat and Or of the program.
-/
import Derived.Test.YtcemiokdpmgonaaSp9
import Derived.Test.YtcemiokdpmgonaaSp5
namespace Go.Proofs.Ytcemiokdpmgonaa
open Go Go.RowKit Go.Lib Go.Sort

theorem hasB_range {L : List SpanV} {x : Int} (h : hasB L x = true) : 0 ≤ x ∧ x ≤ 4294967295 := by
  obtain ⟨s, _, h1, h2⟩ := hasB_iff.1 h
  have := s.hlo
  have := s.hhi
  omega
theorem soP_or (L M : List SpanV) : soP 1 4294967295 L M = fun x => hasB L x || hasB M x := by
  funext x
  have e : soP 1 4294967295 L M x = (decide (0 ≤ x) && decide (x ≤ 4294967295) && (hasB L x || hasB M x)) := rfl
  rw [e]
  cases h : (hasB L x || hasB M x) with
  | false => simp
  | true =>
    rcases Bool.or_eq_true_iff.1 h with h | h
    · have := hasB_range h; simp [this]
    · have := hasB_range h; simp [this]
theorem soP_and (L M : List SpanV) : soP 2 4294967295 L M = fun x => hasB L x && hasB M x := by
  funext x
  have e : soP 2 4294967295 L M x = (decide (0 ≤ x) && decide (x ≤ 4294967295) && (hasB L x && hasB M x)) := rfl
  rw [e]
  cases h : hasB L x with
  | false => simp
  | true => have := hasB_range h; simp [this]
theorem soP_less (L M : List SpanV) : soP 3 4294967295 L M = fun x => hasB L x && !hasB M x := by
  funext x
  have e : soP 3 4294967295 L M x = (decide (0 ≤ x) && decide (x ≤ 4294967295) && (hasB L x && !hasB M x)) := rfl
  rw [e]
  cases h : hasB L x with
  | false => simp
  | true => have := hasB_range h; simp [this]
theorem soP_not (most : Int) (L : List SpanV) : soP 4 most L [] = notP most L := rfl
theorem soP_form (L : List SpanV) : theSet (soP 1 4294967295 L []) = formOf L := by
  rw [soP_or]
  unfold formOf
  congr 1
  funext x
  rw [hasB_nil, Bool.or_false]
theorem rd_nil (w : World) (B k : Nat) : Rd w B k (.slice none 0 0) 0 [] := ⟨none, 0, rfl, by omega, by simp, fun h => absurd h (by omega)⟩

set_option maxRecDepth 100000 in
set_option maxHeartbeats 1000000 in
theorem refForm_any (L : List SpanV) (vl : Value) (w : World) (hl : Rd w w.heap.size 2 vl L.length (scells L)) (hlen : L.length ≤ 268435456) :
    Calls Try.prog 7 #[vl] w (SetRes (formOf L) w) := by
  have hc := made_any 4294967295 1 L [] vl (.slice none 0 0) w hl (rd_nil w _ 2) (by omega) hlen (by simp)
  have HC := Lib.hid hc
  clear hc
  go_enter Try.func7, Try.ntmps7
  go_wp2_with fail
  refine HC.out.mono ?_
  rintro e w1 ⟨v1, rfl, hown1, hb1⟩
  go_wp2
  go_ret
  exact ⟨_, rfl, by rw [soP_form] at hown1; exact hown1, hb1⟩

end Go.Proofs.Ytcemiokdpmgonaa
