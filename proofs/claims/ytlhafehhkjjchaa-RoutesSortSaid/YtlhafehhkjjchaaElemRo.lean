/-
  The cells of lists of routes that came in (written by wip/gen/genelemro.py).
-/
import Derived.Test.YtlhafehhkjjchaaOpenS
import Derived.Test.YtlhafehhkjjchaaOpenS2
import Derived.Test.YtlhafehhkjjchaaLawRtSort
import Derived.Deep.Fields
namespace Go.Proofs.Ytlhafehhkjjchaa
open Go Go.RowKit Go.ChangeShapes Go.WideShapes Go.Deep

set_option maxHeartbeats 1000000 in
theorem elem_routeV {H : Type} {enc : TypeId × Value → H} {w : World} {base : Nat} {spare : Nat → Bool} {held : Bool} (n : Nat) (cs : List Value) (x : DataW H × List MemPlace) (h : DataW.trod enc Try.prog w base spare held n 28 cs = some x) : ∃ r : RouteV, cs = r.enc := by
  obtain ⟨l0, m0, s0⟩ := sub_at Try.underlying28 h
  rw [show Try.prog.cellsOf 28 = 9 from by kernel_rfl] at l0
  obtain ⟨c0, c1, c2, c3, c4, c5, c6, c7, c8, rfl⟩ : ∃ c0 c1 c2 c3 c4 c5 c6 c7 c8, cs = [c0, c1, c2, c3, c4, c5, c6, c7, c8] := by
    match cs, l0 with
    | [c0, c1, c2, c3, c4, c5, c6, c7, c8], _ => exact ⟨c0, c1, c2, c3, c4, c5, c6, c7, c8, rfl⟩
  obtain ⟨_, g1⟩ := s0 0 _ 0 26 2 rfl rfl rfl (by kernel_rfl)
  replace g1 : DataW.trod enc Try.prog w base spare held m0 26 [c0, c1] = some _ := g1
  obtain ⟨l2, m2, s2⟩ := sub_at Try.underlying26 g1
  obtain ⟨_, g3⟩ := s2 0 _ 0 24 1 rfl rfl rfl (by kernel_rfl)
  replace g3 : DataW.trod enc Try.prog w base spare held m2 24 [c0] = some _ := g3
  obtain ⟨v0, e0, _, w0⟩ := DataW.trod_int Try.underlying24 g3
  have b0 := bounds_u32 w0
  obtain rfl := (List.cons.inj e0).1
  obtain ⟨_, g4⟩ := s2 1 _ 1 3 1 rfl rfl rfl (by kernel_rfl)
  replace g4 : DataW.trod enc Try.prog w base spare held m2 3 [c1] = some _ := g4
  obtain ⟨v1, e1, _, w1⟩ := DataW.trod_int Try.underlying3 g4
  have b1 := bounds_i64 w1
  obtain rfl := (List.cons.inj e1).1
  obtain ⟨_, g5⟩ := s0 1 _ 2 5 1 rfl rfl rfl (by kernel_rfl)
  replace g5 : DataW.trod enc Try.prog w base spare held m0 5 [c2] = some _ := g5
  obtain ⟨v2, e2, _, w2⟩ := DataW.trod_int Try.underlying5 g5
  have b2 := bounds_u8 w2
  obtain rfl := (List.cons.inj e2).1
  obtain ⟨_, g6⟩ := s0 2 _ 3 3 1 rfl rfl rfl (by kernel_rfl)
  replace g6 : DataW.trod enc Try.prog w base spare held m0 3 [c3] = some _ := g6
  obtain ⟨v3, e3, _, w3⟩ := DataW.trod_int Try.underlying3 g6
  have b3 := bounds_i64 w3
  obtain rfl := (List.cons.inj e3).1
  obtain ⟨_, g7⟩ := s0 3 _ 4 3 1 rfl rfl rfl (by kernel_rfl)
  replace g7 : DataW.trod enc Try.prog w base spare held m0 3 [c4] = some _ := g7
  obtain ⟨v4, e4, _, w4⟩ := DataW.trod_int Try.underlying3 g7
  have b4 := bounds_i64 w4
  obtain rfl := (List.cons.inj e4).1
  obtain ⟨_, g8⟩ := s0 4 _ 5 3 1 rfl rfl rfl (by kernel_rfl)
  replace g8 : DataW.trod enc Try.prog w base spare held m0 3 [c5] = some _ := g8
  obtain ⟨v5, e5, _, w5⟩ := DataW.trod_int Try.underlying3 g8
  have b5 := bounds_i64 w5
  obtain rfl := (List.cons.inj e5).1
  obtain ⟨_, g9⟩ := s0 5 _ 6 9 1 rfl rfl rfl (by kernel_rfl)
  replace g9 : DataW.trod enc Try.prog w base spare held m0 9 [c6] = some _ := g9
  obtain ⟨v6, e6, _⟩ := DataW.trod_string Try.underlying9 g9
  obtain rfl := (List.cons.inj e6).1
  obtain ⟨_, g10⟩ := s0 6 _ 7 24 1 rfl rfl rfl (by kernel_rfl)
  replace g10 : DataW.trod enc Try.prog w base spare held m0 24 [c7] = some _ := g10
  obtain ⟨v7, e7, _, w7⟩ := DataW.trod_int Try.underlying24 g10
  have b7 := bounds_u32 w7
  obtain rfl := (List.cons.inj e7).1
  obtain ⟨_, g11⟩ := s0 7 _ 8 4 1 rfl rfl rfl (by kernel_rfl)
  replace g11 : DataW.trod enc Try.prog w base spare held m0 4 [c8] = some _ := g11
  obtain ⟨v8, e8, _⟩ := DataW.trod_bool Try.underlying4 g11
  obtain rfl := (List.cons.inj e8).1
  exact ⟨⟨v0, v1, v2, v3, v4, v5, v6, v7, v8⟩, rfl⟩
theorem route_nil {H : Type} {enc : TypeId × Value → H} {w : World} {base : Nat} {spare : Nat → Bool} {held : Bool} {n : Nat} {v : Value} {x : DataW H × List MemPlace} (h : DataW.trod enc Try.prog w base spare held n 22 [v] = some x) : NilR v := by
  rcases open_slice Try.underlying22 h with ⟨h0, _⟩ | ⟨a, len, cap, m, n', D, Pl, hcs, _⟩
  · obtain rfl := (List.cons.inj h0).1
    intro n c hv
    injection hv with _ h1 h2
    omega
  · obtain rfl := (List.cons.inj hcs).1
    intro n c hv
    cases hv
end Go.Proofs.Ytlhafehhkjjchaa
