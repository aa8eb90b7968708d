/-
  The walks of slices.Equal at spans, of the document's Spans, and of spans.Same.
-/
import Derived.Test.YtcemiokdpmgonaaSp3
namespace Go.Proofs.Ytcemiokdpmgonaa
open Go Go.RowKit Go.Lib Go.Sort

theorem spanEq_iff {s t : SpanV} : (s.lo = t.lo ∧ s.hi = t.hi) ↔ s = t := ⟨fun h => SpanV.eq h.1 h.2, fun h => by rw [h]; exact ⟨rfl, rfl⟩⟩
theorem list_eq_of {A B : List SpanV} (h : A.length = B.length) (h2 : ∀ (i : Nat) (s t : SpanV), A[i]? = some s → B[i]? = some t → s = t) : A = B := by
  apply List.ext_getElem? 
  intro i
  by_cases hi : i < A.length
  · have ha := List.getElem?_eq_getElem hi
    have hb := List.getElem?_eq_getElem (l := B) (i := i) (by omega)
    rw [ha, hb, h2 i _ _ ha hb]
  · rw [List.getElem?_eq_none (by omega), List.getElem?_eq_none (by omega)]
open Classical in
/-- Are two lists of spans the same? -/
noncomputable def eqB (A B : List SpanV) : Bool := decide (A = B)
open Classical in
theorem eqB_self (A : List SpanV) : eqB A A = true := by simp [eqB]
open Classical in
theorem eqB_ne {A B : List SpanV} (h : A ≠ B) : eqB A B = false := by simp [eqB, h]
/-- '!=' of two spans. -/
theorem neqSpan (a b c d : Int) (w : World) : (binOp .neq 30 (.agg #[.int .u32 a, .int .u32 b]) (.agg #[.int .u32 c, .int .u32 d])).run Try.prog w = .ok (.bool !((a == c) && (b == d))) w := by
  have hS : Try.prog.underlying 30 = some (.struct (Try.prog.fieldsOf 30)) := by kernel_rfl
  have hp : Try.prog.stoodInHeld 30 = false := by kernel_rfl
  have b1 := Try.underlying28
  have b2 := Try.isAgg28
  have b3 := Try.sizeOf28
  rw [run_neq_struct, show (10000 : Nat) = 9998 + 1 + 1 from rfl, run_equalIn_agg w (9998 + 1) 30 _ _ hS hp]
  generalize 9998 = dd
  simp only [Program.fieldsOf, Try.underlying30]
  go_simp
  by_cases h1 : a = c <;> by_cases h2 : b = d <;> simp [h1, h2]

end Go.Proofs.Ytcemiokdpmgonaa
