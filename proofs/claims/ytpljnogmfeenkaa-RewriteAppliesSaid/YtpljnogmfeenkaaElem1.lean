/-
  The cells of rules and of headers (written by wip/gen/genelem.py).
-/
import Derived.Test.YtpljnogmfeenkaaOpenS
import Derived.Test.YtpljnogmfeenkaaLawFD
import Derived.Deep.Fields
namespace Go.Proofs.Ytpljnogmfeenkaa
open Go Go.RowKit Go.ChangeShapes Go.WideShapes Go.Deep

set_option maxHeartbeats 1000000 in
theorem elem_rule {H : Type} {enc : TypeId × Value → H} {w : World} {base : Nat} {spare : Nat → Bool} {held : Bool} (n : Nat) (cs : List Value) (x : DataW H × List MemPlace) (h : DataW.trod enc Try.prog w base spare held n 39 cs = some x) : ∃ r : RuleV, cs = r.enc := by
  obtain ⟨l0, m0, s0⟩ := sub_at Try.underlying39 h
  rw [show Try.prog.cellsOf 39 = 10 from by kernel_rfl] at l0
  obtain ⟨c0, c1, c2, c3, c4, c5, c6, c7, c8, c9, rfl⟩ : ∃ c0 c1 c2 c3 c4 c5 c6 c7 c8 c9, cs = [c0, c1, c2, c3, c4, c5, c6, c7, c8, c9] := by
    match cs, l0 with
    | [c0, c1, c2, c3, c4, c5, c6, c7, c8, c9], _ => exact ⟨c0, c1, c2, c3, c4, c5, c6, c7, c8, c9, rfl⟩
  obtain ⟨_, g1⟩ := s0 0 _ 0 4 1 rfl rfl rfl (by kernel_rfl)
  replace g1 : DataW.trod enc Try.prog w base spare held m0 4 [c0] = some _ := g1
  obtain ⟨v0, e0, _⟩ := DataW.trod_bool Try.underlying4 g1
  obtain rfl := (List.cons.inj e0).1
  obtain ⟨_, g2⟩ := s0 1 _ 1 3 1 rfl rfl rfl (by kernel_rfl)
  replace g2 : DataW.trod enc Try.prog w base spare held m0 3 [c1] = some _ := g2
  obtain ⟨v1, e1, _, w1⟩ := DataW.trod_int Try.underlying3 g2
  have b1 := bounds_i64 w1
  obtain rfl := (List.cons.inj e1).1
  obtain ⟨_, g3⟩ := s0 2 _ 2 30 2 rfl rfl rfl (by kernel_rfl)
  replace g3 : DataW.trod enc Try.prog w base spare held m0 30 [c2, c3] = some _ := g3
  obtain ⟨l4, m4, s4⟩ := sub_at Try.underlying30 g3
  obtain ⟨_, g5⟩ := s4 0 _ 0 23 1 rfl rfl rfl (by kernel_rfl)
  replace g5 : DataW.trod enc Try.prog w base spare held m4 23 [c2] = some _ := g5
  obtain ⟨v2, e2, _, w2⟩ := DataW.trod_int Try.underlying23 g5
  have b2 := bounds_u32 w2
  obtain rfl := (List.cons.inj e2).1
  obtain ⟨_, g6⟩ := s4 1 _ 1 3 1 rfl rfl rfl (by kernel_rfl)
  replace g6 : DataW.trod enc Try.prog w base spare held m4 3 [c3] = some _ := g6
  obtain ⟨v3, e3, _, w3⟩ := DataW.trod_int Try.underlying3 g6
  have b3 := bounds_i64 w3
  obtain rfl := (List.cons.inj e3).1
  obtain ⟨_, g7⟩ := s0 3 _ 4 30 2 rfl rfl rfl (by kernel_rfl)
  replace g7 : DataW.trod enc Try.prog w base spare held m0 30 [c4, c5] = some _ := g7
  obtain ⟨l8, m8, s8⟩ := sub_at Try.underlying30 g7
  obtain ⟨_, g9⟩ := s8 0 _ 0 23 1 rfl rfl rfl (by kernel_rfl)
  replace g9 : DataW.trod enc Try.prog w base spare held m8 23 [c4] = some _ := g9
  obtain ⟨v4, e4, _, w4⟩ := DataW.trod_int Try.underlying23 g9
  have b4 := bounds_u32 w4
  obtain rfl := (List.cons.inj e4).1
  obtain ⟨_, g10⟩ := s8 1 _ 1 3 1 rfl rfl rfl (by kernel_rfl)
  replace g10 : DataW.trod enc Try.prog w base spare held m8 3 [c5] = some _ := g10
  obtain ⟨v5, e5, _, w5⟩ := DataW.trod_int Try.underlying3 g10
  have b5 := bounds_i64 w5
  obtain rfl := (List.cons.inj e5).1
  obtain ⟨_, g11⟩ := s0 4 _ 6 37 2 rfl rfl rfl (by kernel_rfl)
  replace g11 : DataW.trod enc Try.prog w base spare held m0 37 [c6, c7] = some _ := g11
  obtain ⟨l12, m12, s12⟩ := sub_at Try.underlying37 g11
  obtain ⟨_, g13⟩ := s12 0 _ 0 22 1 rfl rfl rfl (by kernel_rfl)
  replace g13 : DataW.trod enc Try.prog w base spare held m12 22 [c6] = some _ := g13
  obtain ⟨v6, e6, _, w6⟩ := DataW.trod_int Try.underlying22 g13
  have b6 := bounds_u32 w6
  obtain rfl := (List.cons.inj e6).1
  obtain ⟨_, g14⟩ := s12 1 _ 1 22 1 rfl rfl rfl (by kernel_rfl)
  replace g14 : DataW.trod enc Try.prog w base spare held m12 22 [c7] = some _ := g14
  obtain ⟨v7, e7, _, w7⟩ := DataW.trod_int Try.underlying22 g14
  have b7 := bounds_u32 w7
  obtain rfl := (List.cons.inj e7).1
  obtain ⟨_, g15⟩ := s0 5 _ 8 37 2 rfl rfl rfl (by kernel_rfl)
  replace g15 : DataW.trod enc Try.prog w base spare held m0 37 [c8, c9] = some _ := g15
  obtain ⟨l16, m16, s16⟩ := sub_at Try.underlying37 g15
  obtain ⟨_, g17⟩ := s16 0 _ 0 22 1 rfl rfl rfl (by kernel_rfl)
  replace g17 : DataW.trod enc Try.prog w base spare held m16 22 [c8] = some _ := g17
  obtain ⟨v8, e8, _, w8⟩ := DataW.trod_int Try.underlying22 g17
  have b8 := bounds_u32 w8
  obtain rfl := (List.cons.inj e8).1
  obtain ⟨_, g18⟩ := s16 1 _ 1 22 1 rfl rfl rfl (by kernel_rfl)
  replace g18 : DataW.trod enc Try.prog w base spare held m16 22 [c9] = some _ := g18
  obtain ⟨v9, e9, _, w9⟩ := DataW.trod_int Try.underlying22 g18
  have b9 := bounds_u32 w9
  obtain rfl := (List.cons.inj e9).1
  exact ⟨⟨v0, v1, v2, v3, v4, v5, v6, v7, v8, v9, by omega, ⟨by omega, by omega⟩, ⟨by omega, by omega⟩, ⟨by omega, by omega⟩, ⟨by omega, by omega⟩, ⟨by omega, by omega⟩, ⟨by omega, by omega⟩⟩, rfl⟩

set_option maxHeartbeats 1000000 in
theorem elem_header {H : Type} {enc : TypeId × Value → H} {w : World} {base : Nat} {spare : Nat → Bool} {held : Bool} (n : Nat) (cs : List Value) (x : DataW H × List MemPlace) (h : DataW.trod enc Try.prog w base spare held n 45 cs = some x) : ∃ r : HeaderV, cs = r.enc := by
  obtain ⟨l0, m0, s0⟩ := sub_at Try.underlying45 h
  rw [show Try.prog.cellsOf 45 = 5 from by kernel_rfl] at l0
  obtain ⟨c0, c1, c2, c3, c4, rfl⟩ : ∃ c0 c1 c2 c3 c4, cs = [c0, c1, c2, c3, c4] := by
    match cs, l0 with
    | [c0, c1, c2, c3, c4], _ => exact ⟨c0, c1, c2, c3, c4, rfl⟩
  obtain ⟨_, g1⟩ := s0 0 _ 0 23 1 rfl rfl rfl (by kernel_rfl)
  replace g1 : DataW.trod enc Try.prog w base spare held m0 23 [c0] = some _ := g1
  obtain ⟨v0, e0, _, w0⟩ := DataW.trod_int Try.underlying23 g1
  have b0 := bounds_u32 w0
  obtain rfl := (List.cons.inj e0).1
  obtain ⟨_, g2⟩ := s0 1 _ 1 23 1 rfl rfl rfl (by kernel_rfl)
  replace g2 : DataW.trod enc Try.prog w base spare held m0 23 [c1] = some _ := g2
  obtain ⟨v1, e1, _, w1⟩ := DataW.trod_int Try.underlying23 g2
  have b1 := bounds_u32 w1
  obtain rfl := (List.cons.inj e1).1
  obtain ⟨_, g3⟩ := s0 2 _ 2 5 1 rfl rfl rfl (by kernel_rfl)
  replace g3 : DataW.trod enc Try.prog w base spare held m0 5 [c2] = some _ := g3
  obtain ⟨v2, e2, _, w2⟩ := DataW.trod_int Try.underlying5 g3
  have b2 := bounds_u8 w2
  obtain rfl := (List.cons.inj e2).1
  obtain ⟨_, g4⟩ := s0 3 _ 3 43 1 rfl rfl rfl (by kernel_rfl)
  replace g4 : DataW.trod enc Try.prog w base spare held m0 43 [c3] = some _ := g4
  obtain ⟨v3, e3, _, w3⟩ := DataW.trod_int Try.underlying43 g4
  have b3 := bounds_u16 w3
  obtain rfl := (List.cons.inj e3).1
  obtain ⟨_, g5⟩ := s0 4 _ 4 43 1 rfl rfl rfl (by kernel_rfl)
  replace g5 : DataW.trod enc Try.prog w base spare held m0 43 [c4] = some _ := g5
  obtain ⟨v4, e4, _, w4⟩ := DataW.trod_int Try.underlying43 g5
  have b4 := bounds_u16 w4
  obtain rfl := (List.cons.inj e4).1
  exact ⟨⟨v0, v1, v2, v3, v4, ⟨by omega, by omega⟩, ⟨by omega, by omega⟩, by omega, by omega, by omega⟩, rfl⟩

theorem elem_filter {H : Type} {enc : TypeId × Value → H} {w : World} {base : Nat} {spare : Nat → Bool} {held : Bool} (n : Nat) (cs : List Value) (x : DataW H × List MemPlace) (h : DataW.trod enc Try.prog w base spare held n 34 cs = some x) :
    ∃ (nm : ByteArray) (v : Value) (L : List RuleV), cs = [.string nm, v] ∧ Rd w w.heap.size 10 v L.length (rcells L) ∧ L.length ≤ maxLen := by
  obtain ⟨l0, m0, s0⟩ := sub_at Try.underlying34 h
  rw [show Try.prog.cellsOf 34 = 2 from by kernel_rfl] at l0
  obtain ⟨c0, c1, rfl⟩ : ∃ c0 c1, cs = [c0, c1] := by
    match cs, l0 with
    | [c0, c1], _ => exact ⟨c0, c1, rfl⟩
  obtain ⟨_, g1⟩ := s0 0 _ 0 9 1 rfl rfl rfl (by kernel_rfl)
  replace g1 : DataW.trod enc Try.prog w base spare held m0 9 [c0] = some _ := g1
  obtain ⟨nm, e0, _⟩ := DataW.trod_string Try.underlying9 g1
  obtain rfl := (List.cons.inj e0).1
  obtain ⟨_, g2⟩ := s0 1 _ 1 32 1 rfl rfl rfl (by kernel_rfl)
  replace g2 : DataW.trod enc Try.prog w base spare held m0 32 [c1] = some _ := g2
  obtain ⟨v, L, hv, hr, hl⟩ := open_rd rule_len (by decide) Try.underlying32 (by kernel_rfl) elem_rule g2
  obtain rfl := (List.cons.inj hv).1
  exact ⟨nm, c1, L, rfl, hr, hl⟩

end Go.Proofs.Ytpljnogmfeenkaa
