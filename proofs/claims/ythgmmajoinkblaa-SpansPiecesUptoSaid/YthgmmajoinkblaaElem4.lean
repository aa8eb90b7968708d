/-
  The cells of spans and of slices of slices of spans.
-/
import Derived.Test.YthgmmajoinkblaaOpenS2
import Derived.Test.YthgmmajoinkblaaSp8
import Derived.Deep.Fields
namespace Go.Proofs.Ythgmmajoinkblaa
open Go Go.RowKit Go.ChangeShapes Go.WideShapes Go.Deep

set_option maxHeartbeats 1000000 in
theorem elem_spanS {H : Type} {enc : TypeId × Value → H} {w : World} {base : Nat} {spare : Nat → Bool} {held : Bool} (n : Nat) (cs : List Value) (x : DataW H × List MemPlace) (h : DataW.trod enc Try.prog w base spare held n 44 cs = some x) : ∃ r : SpanV, cs = r.enc := by
  obtain ⟨l0, m0, s0⟩ := sub_at Try.underlying44 h
  rw [show Try.prog.cellsOf 44 = 2 from by kernel_rfl] at l0
  obtain ⟨c0, c1, rfl⟩ : ∃ c0 c1, cs = [c0, c1] := by
    match cs, l0 with
    | [c0, c1], _ => exact ⟨c0, c1, rfl⟩
  obtain ⟨_, g1⟩ := s0 0 _ 0 23 1 rfl rfl rfl (by kernel_rfl)
  replace g1 : DataW.trod enc Try.prog w base spare held m0 23 [c0] = some _ := g1
  obtain ⟨v0, e0, _, w0⟩ := DataW.trod_int Try.underlying23 g1
  have b0 := bounds_u32 w0
  obtain rfl := (List.cons.inj e0).1
  obtain ⟨_, g2⟩ := s0 1 _ 1 23 1 rfl rfl rfl (by kernel_rfl)
  replace g2 : DataW.trod enc Try.prog w base spare held m0 23 [c1] = some _ := g2
  obtain ⟨v1, e1, _, w1⟩ := DataW.trod_int Try.underlying23 g2
  have b1 := bounds_u32 w1
  obtain rfl := (List.cons.inj e1).1
  exact ⟨⟨v0, v1, ⟨by omega, by omega⟩, ⟨by omega, by omega⟩⟩, rfl⟩
def SetV.cell (s : SetV) : List Value := [s.v]
theorem set_len (s : SetV) : s.cell.length = 1 := rfl
theorem svals_flat : ∀ S : List SetV, S.flatMap SetV.cell = svals S
  | [] => rfl
  | s :: r => by
    show s.cell ++ r.flatMap SetV.cell = s.v :: svals r
    rw [svals_flat r]; rfl
theorem elem_set {H : Type} {enc : TypeId × Value → H} {w : World} {base : Nat} {spare : Nat → Bool} {held : Bool} (n : Nat) (cs : List Value) (x : DataW H × List MemPlace) (h : DataW.trod enc Try.prog w base spare held n 36 cs = some x) (_ : InReach Try.prog 36 x.1) :
    ∃ s : SetV, cs = s.cell ∧ Rd w w.heap.size 2 s.v s.L.length (scells s.L) := by
  obtain ⟨v, L, hv, hr, _⟩ := open_rd span_len (by decide) Try.underlying36 (by kernel_rfl) elem_spanS h
  subst hv
  exact ⟨⟨v, L⟩, rfl, hr⟩

end Go.Proofs.Ythgmmajoinkblaa
