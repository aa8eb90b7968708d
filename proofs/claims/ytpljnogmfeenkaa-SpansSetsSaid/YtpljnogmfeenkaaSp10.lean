/-
  The walks of the document's Form, Or, And, Less and Not, and of Concat and Or of the program.
-/
import Derived.Test.YtpljnogmfeenkaaSp9
import Derived.Test.YtpljnogmfeenkaaSp5
namespace Go.Proofs.Ytpljnogmfeenkaa
open Go Go.RowKit Go.Lib Go.Sort

theorem hasB_range {L : List SpanV} {x : Int} (h : hasB L x = true) : 0 ≤ x ∧ x ≤ 4294967295 := by
  obtain ⟨s, _, h1, h2⟩ := hasB_iff.1 h
  have := s.hlo
  have := s.hhi
  omega
theorem soP_or (L M : List SpanV) : soP 1 4294967295 L M = fun x => hasB L x || hasB M x := by
  funext x
  have e : soP 1 4294967295 L M x = (decide (0 ≤ x) && decide (x ≤ 4294967295) && (hasB L x || hasB M x)) := rfl
  rw [e]
  cases h : (hasB L x || hasB M x) with
  | false => simp
  | true =>
    rcases Bool.or_eq_true_iff.1 h with h | h
    · have := hasB_range h; simp [this]
    · have := hasB_range h; simp [this]
theorem soP_and (L M : List SpanV) : soP 2 4294967295 L M = fun x => hasB L x && hasB M x := by
  funext x
  have e : soP 2 4294967295 L M x = (decide (0 ≤ x) && decide (x ≤ 4294967295) && (hasB L x && hasB M x)) := rfl
  rw [e]
  cases h : hasB L x with
  | false => simp
  | true => have := hasB_range h; simp [this]
theorem soP_less (L M : List SpanV) : soP 3 4294967295 L M = fun x => hasB L x && !hasB M x := by
  funext x
  have e : soP 3 4294967295 L M x = (decide (0 ≤ x) && decide (x ≤ 4294967295) && (hasB L x && !hasB M x)) := rfl
  rw [e]
  cases h : hasB L x with
  | false => simp
  | true => have := hasB_range h; simp [this]
theorem soP_not (most : Int) (L : List SpanV) : soP 4 most L [] = notP most L := rfl
theorem soP_form (L : List SpanV) : theSet (soP 1 4294967295 L []) = formOf L := by
  rw [soP_or]
  unfold formOf
  congr 1
  funext x
  rw [hasB_nil, Bool.or_false]
theorem rd_nil (w : World) (B k : Nat) : Rd w B k (.slice none 0 0) 0 [] := ⟨none, 0, rfl, by omega, by simp, fun h => absurd h (by omega)⟩

set_option maxRecDepth 100000 in
set_option maxHeartbeats 1000000 in
theorem refForm_any (L : List SpanV) (vl : Value) (w : World) (hl : Rd w w.heap.size 2 vl L.length (scells L)) (hlen : L.length ≤ 268435456) :
    Calls Try.prog 59 #[vl] w (SetRes (formOf L) w) := by
  have hc := made_any 4294967295 1 L [] vl (.slice none 0 0) w hl (rd_nil w _ 2) (by omega) hlen (by simp)
  have HC := Lib.hid hc
  clear hc
  go_enter Try.func59, Try.ntmps59
  go_wp2_with fail
  refine HC.out.mono ?_
  rintro e w1 ⟨v1, rfl, hown1, hb1⟩
  go_wp2
  go_ret
  exact ⟨_, rfl, by rw [soP_form] at hown1; exact hown1, hb1⟩

set_option maxRecDepth 100000 in
set_option maxHeartbeats 1000000 in
theorem refOr_any (L M : List SpanV) (vl vm : Value) (w : World) (hl : Rd w w.heap.size 2 vl L.length (scells L)) (hm : Rd w w.heap.size 2 vm M.length (scells M)) (hlen : L.length ≤ 268435456) (hlen2 : M.length ≤ 268435456) :
    Calls Try.prog 78 #[vl, vm] w (SetRes (theSet (fun x => hasB L x || hasB M x)) w) := by
  have hc := made_any 4294967295 1 L M vl vm w hl hm (by omega) hlen hlen2
  have HC := Lib.hid hc
  clear hc
  go_enter Try.func78, Try.ntmps78
  go_wp2_with fail
  refine HC.out.mono ?_
  rintro e w1 ⟨v1, rfl, hown1, hb1⟩
  go_wp2
  go_ret
  exact ⟨_, rfl, by rw [soP_or] at hown1; exact hown1, hb1⟩

set_option maxRecDepth 100000 in
set_option maxHeartbeats 1000000 in
theorem refAnd_any (L M : List SpanV) (vl vm : Value) (w : World) (hl : Rd w w.heap.size 2 vl L.length (scells L)) (hm : Rd w w.heap.size 2 vm M.length (scells M)) (hlen : L.length ≤ 268435456) (hlen2 : M.length ≤ 268435456) :
    Calls Try.prog 79 #[vl, vm] w (SetRes (theSet (fun x => hasB L x && hasB M x)) w) := by
  have hc := made_any 4294967295 2 L M vl vm w hl hm (by omega) hlen hlen2
  have HC := Lib.hid hc
  clear hc
  go_enter Try.func79, Try.ntmps79
  go_wp2_with fail
  refine HC.out.mono ?_
  rintro e w1 ⟨v1, rfl, hown1, hb1⟩
  go_wp2
  go_ret
  exact ⟨_, rfl, by rw [soP_and] at hown1; exact hown1, hb1⟩

set_option maxRecDepth 100000 in
set_option maxHeartbeats 1000000 in
theorem refLess_any (L M : List SpanV) (vl vm : Value) (w : World) (hl : Rd w w.heap.size 2 vl L.length (scells L)) (hm : Rd w w.heap.size 2 vm M.length (scells M)) (hlen : L.length ≤ 268435456) (hlen2 : M.length ≤ 268435456) :
    Calls Try.prog 80 #[vl, vm] w (SetRes (theSet (fun x => hasB L x && !hasB M x)) w) := by
  have hc := made_any 4294967295 3 L M vl vm w hl hm (by omega) hlen hlen2
  have HC := Lib.hid hc
  clear hc
  go_enter Try.func80, Try.ntmps80
  go_wp2_with fail
  refine HC.out.mono ?_
  rintro e w1 ⟨v1, rfl, hown1, hb1⟩
  go_wp2
  go_ret
  exact ⟨_, rfl, by rw [soP_less] at hown1; exact hown1, hb1⟩

set_option maxRecDepth 100000 in
set_option maxHeartbeats 1000000 in
theorem refNot_any (L : List SpanV) (vl : Value) (most : Int) (w : World) (hl : Rd w w.heap.size 2 vl L.length (scells L)) (hm : 0 ≤ most ∧ most < 4294967296) (hlen : L.length ≤ 268435456) :
    Calls Try.prog 81 #[vl, .int .u32 most] w (SetRes (theSet (notP most L)) w) := by
  have hc := made_any most 4 L [] vl (.slice none 0 0) w hl (rd_nil w _ 2) hm hlen (by simp)
  have HC := Lib.hid hc
  clear hc
  go_enter Try.func81, Try.ntmps81
  go_wp2_with fail
  refine HC.out.mono ?_
  rintro e w1 ⟨v1, rfl, hown1, hb1⟩
  go_wp2
  go_ret
  exact ⟨_, rfl, by rw [soP_not] at hown1; exact hown1, hb1⟩

end Go.Proofs.Ytpljnogmfeenkaa
