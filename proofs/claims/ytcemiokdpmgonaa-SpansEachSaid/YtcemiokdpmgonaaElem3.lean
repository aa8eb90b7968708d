/-
  The cells of spans and of slices of spans (written by wip/gen/genelem3.py).
-/
import Derived.Test.YtcemiokdpmgonaaOpenS2
import Derived.Test.YtcemiokdpmgonaaSp14
import Derived.Deep.Fields
namespace Go.Proofs.Ytcemiokdpmgonaa
open Go Go.RowKit Go.ChangeShapes Go.WideShapes Go.Deep

set_option maxHeartbeats 1000000 in
theorem elem_span {H : Type} {enc : TypeId × Value → H} {w : World} {base : Nat} {spare : Nat → Bool} {held : Bool} (n : Nat) (cs : List Value) (x : DataW H × List MemPlace) (h : DataW.trod enc Try.prog w base spare held n 30 cs = some x) : ∃ r : SpanV, cs = r.enc := by
  obtain ⟨l0, m0, s0⟩ := sub_at Try.underlying30 h
  rw [show Try.prog.cellsOf 30 = 2 from by kernel_rfl] at l0
  obtain ⟨c0, c1, rfl⟩ : ∃ c0 c1, cs = [c0, c1] := by
    match cs, l0 with
    | [c0, c1], _ => exact ⟨c0, c1, rfl⟩
  obtain ⟨_, g1⟩ := s0 0 _ 0 28 1 rfl rfl rfl (by kernel_rfl)
  replace g1 : DataW.trod enc Try.prog w base spare held m0 28 [c0] = some _ := g1
  obtain ⟨v0, e0, _, w0⟩ := DataW.trod_int Try.underlying28 g1
  have b0 := bounds_u32 w0
  obtain rfl := (List.cons.inj e0).1
  obtain ⟨_, g2⟩ := s0 1 _ 1 28 1 rfl rfl rfl (by kernel_rfl)
  replace g2 : DataW.trod enc Try.prog w base spare held m0 28 [c1] = some _ := g2
  obtain ⟨v1, e1, _, w1⟩ := DataW.trod_int Try.underlying28 g2
  have b1 := bounds_u32 w1
  obtain rfl := (List.cons.inj e1).1
  exact ⟨⟨v0, v1, ⟨by omega, by omega⟩, ⟨by omega, by omega⟩⟩, rfl⟩
theorem span_nil {H : Type} {enc : TypeId × Value → H} {w : World} {base : Nat} {spare : Nat → Bool} {held : Bool} {n : Nat} {v : Value} {x : DataW H × List MemPlace} (h : DataW.trod enc Try.prog w base spare held n 22 [v] = some x) : NilOk v := by
  rcases open_slice Try.underlying22 h with ⟨h0, _⟩ | ⟨a, len, cap, m, n', D, Pl, hcs, _⟩
  · obtain rfl := (List.cons.inj h0).1
    intro n c hv
    injection hv with _ h1 h2
    omega
  · obtain rfl := (List.cons.inj hcs).1
    intro n c hv
    cases hv
theorem elem_set {H : Type} {enc : TypeId × Value → H} {w : World} {base : Nat} {spare : Nat → Bool} {held : Bool} (n : Nat) (cs : List Value) (x : DataW H × List MemPlace) (h : DataW.trod enc Try.prog w base spare held n 22 cs = some x) (_ : InReach Try.prog 22 x.1) :
    ∃ s : SetV, cs = [s.v] ∧ (Rd w w.heap.size 2 s.v s.L.length (scells s.L) ∧ NilOk s.v) := by
  obtain ⟨v, L, hv, hr, _⟩ := open_rd span_len (by decide) Try.underlying22 (by kernel_rfl) elem_span h
  subst hv
  exact ⟨⟨v, L⟩, rfl, hr, span_nil h⟩

end Go.Proofs.Ytcemiokdpmgonaa
