/-
  Joined texts: Elem1, ElemFs, Elem2.
-/
import Derived.Test.YtdjikiakcfbklaaGreatMRewriteKinds9
import Derived.Test.YtdjikiakcfbklaaGreatMRewriteKinds4
import Derived.Deep.Fields
import Derived.Test.YtdjikiakcfbklaaGreatMRewriteKinds5
import Derived.Test.YtdjikiakcfbklaaGreatMRewriteKinds13
/-
  The cells of rules and of headers (written by wip/gen/genelem.py).
-/
namespace Go.Proofs.YtdjikiakcfbklaaGreat
open Go Go.RowKit Go.ChangeShapes Go.WideShapes Go.Deep

set_option maxHeartbeats 1000000 in
theorem elem_rule {H : Type} {enc : TypeId × Value → H} {w : World} {base : Nat} {spare : Nat → Bool} {held : Bool} (n : Nat) (cs : List Value) (x : DataW H × List MemPlace) (h : DataW.trod enc Tryz.prog w base spare held n 74 cs = some x) : ∃ r : RuleV, cs = r.enc := by
  obtain ⟨l0, m0, s0⟩ := sub_at Tryz.underlying74 h
  rw [show Tryz.prog.cellsOf 74 = 10 from by kernel_rfl] at l0
  obtain ⟨c0, c1, c2, c3, c4, c5, c6, c7, c8, c9, rfl⟩ : ∃ c0 c1 c2 c3 c4 c5 c6 c7 c8 c9, cs = [c0, c1, c2, c3, c4, c5, c6, c7, c8, c9] := by
    match cs, l0 with
    | [c0, c1, c2, c3, c4, c5, c6, c7, c8, c9], _ => exact ⟨c0, c1, c2, c3, c4, c5, c6, c7, c8, c9, rfl⟩
  obtain ⟨_, g1⟩ := s0 0 _ 0 4 1 rfl rfl rfl (by kernel_rfl)
  replace g1 : DataW.trod enc Tryz.prog w base spare held m0 4 [c0] = some _ := g1
  obtain ⟨v0, e0, _⟩ := DataW.trod_bool Tryz.underlying4 g1
  obtain rfl := (List.cons.inj e0).1
  obtain ⟨_, g2⟩ := s0 1 _ 1 3 1 rfl rfl rfl (by kernel_rfl)
  replace g2 : DataW.trod enc Tryz.prog w base spare held m0 3 [c1] = some _ := g2
  obtain ⟨v1, e1, _, w1⟩ := DataW.trod_int Tryz.underlying3 g2
  have b1 := bounds_i64 w1
  obtain rfl := (List.cons.inj e1).1
  obtain ⟨_, g3⟩ := s0 2 _ 2 40 2 rfl rfl rfl (by kernel_rfl)
  replace g3 : DataW.trod enc Tryz.prog w base spare held m0 40 [c2, c3] = some _ := g3
  obtain ⟨l4, m4, s4⟩ := sub_at Tryz.underlying40 g3
  obtain ⟨_, g5⟩ := s4 0 _ 0 25 1 rfl rfl rfl (by kernel_rfl)
  replace g5 : DataW.trod enc Tryz.prog w base spare held m4 25 [c2] = some _ := g5
  obtain ⟨v2, e2, _, w2⟩ := DataW.trod_int Tryz.underlying25 g5
  have b2 := bounds_u32 w2
  obtain rfl := (List.cons.inj e2).1
  obtain ⟨_, g6⟩ := s4 1 _ 1 3 1 rfl rfl rfl (by kernel_rfl)
  replace g6 : DataW.trod enc Tryz.prog w base spare held m4 3 [c3] = some _ := g6
  obtain ⟨v3, e3, _, w3⟩ := DataW.trod_int Tryz.underlying3 g6
  have b3 := bounds_i64 w3
  obtain rfl := (List.cons.inj e3).1
  obtain ⟨_, g7⟩ := s0 3 _ 4 40 2 rfl rfl rfl (by kernel_rfl)
  replace g7 : DataW.trod enc Tryz.prog w base spare held m0 40 [c4, c5] = some _ := g7
  obtain ⟨l8, m8, s8⟩ := sub_at Tryz.underlying40 g7
  obtain ⟨_, g9⟩ := s8 0 _ 0 25 1 rfl rfl rfl (by kernel_rfl)
  replace g9 : DataW.trod enc Tryz.prog w base spare held m8 25 [c4] = some _ := g9
  obtain ⟨v4, e4, _, w4⟩ := DataW.trod_int Tryz.underlying25 g9
  have b4 := bounds_u32 w4
  obtain rfl := (List.cons.inj e4).1
  obtain ⟨_, g10⟩ := s8 1 _ 1 3 1 rfl rfl rfl (by kernel_rfl)
  replace g10 : DataW.trod enc Tryz.prog w base spare held m8 3 [c5] = some _ := g10
  obtain ⟨v5, e5, _, w5⟩ := DataW.trod_int Tryz.underlying3 g10
  have b5 := bounds_i64 w5
  obtain rfl := (List.cons.inj e5).1
  obtain ⟨_, g11⟩ := s0 4 _ 6 72 2 rfl rfl rfl (by kernel_rfl)
  replace g11 : DataW.trod enc Tryz.prog w base spare held m0 72 [c6, c7] = some _ := g11
  obtain ⟨l12, m12, s12⟩ := sub_at Tryz.underlying72 g11
  obtain ⟨_, g13⟩ := s12 0 _ 0 24 1 rfl rfl rfl (by kernel_rfl)
  replace g13 : DataW.trod enc Tryz.prog w base spare held m12 24 [c6] = some _ := g13
  obtain ⟨v6, e6, _, w6⟩ := DataW.trod_int Tryz.underlying24 g13
  have b6 := bounds_u32 w6
  obtain rfl := (List.cons.inj e6).1
  obtain ⟨_, g14⟩ := s12 1 _ 1 24 1 rfl rfl rfl (by kernel_rfl)
  replace g14 : DataW.trod enc Tryz.prog w base spare held m12 24 [c7] = some _ := g14
  obtain ⟨v7, e7, _, w7⟩ := DataW.trod_int Tryz.underlying24 g14
  have b7 := bounds_u32 w7
  obtain rfl := (List.cons.inj e7).1
  obtain ⟨_, g15⟩ := s0 5 _ 8 72 2 rfl rfl rfl (by kernel_rfl)
  replace g15 : DataW.trod enc Tryz.prog w base spare held m0 72 [c8, c9] = some _ := g15
  obtain ⟨l16, m16, s16⟩ := sub_at Tryz.underlying72 g15
  obtain ⟨_, g17⟩ := s16 0 _ 0 24 1 rfl rfl rfl (by kernel_rfl)
  replace g17 : DataW.trod enc Tryz.prog w base spare held m16 24 [c8] = some _ := g17
  obtain ⟨v8, e8, _, w8⟩ := DataW.trod_int Tryz.underlying24 g17
  have b8 := bounds_u32 w8
  obtain rfl := (List.cons.inj e8).1
  obtain ⟨_, g18⟩ := s16 1 _ 1 24 1 rfl rfl rfl (by kernel_rfl)
  replace g18 : DataW.trod enc Tryz.prog w base spare held m16 24 [c9] = some _ := g18
  obtain ⟨v9, e9, _, w9⟩ := DataW.trod_int Tryz.underlying24 g18
  have b9 := bounds_u32 w9
  obtain rfl := (List.cons.inj e9).1
  exact ⟨⟨v0, v1, v2, v3, v4, v5, v6, v7, v8, v9, by omega, ⟨by omega, by omega⟩, ⟨by omega, by omega⟩, ⟨by omega, by omega⟩, ⟨by omega, by omega⟩, ⟨by omega, by omega⟩, ⟨by omega, by omega⟩⟩, rfl⟩

set_option maxHeartbeats 1000000 in
theorem elem_header {H : Type} {enc : TypeId × Value → H} {w : World} {base : Nat} {spare : Nat → Bool} {held : Bool} (n : Nat) (cs : List Value) (x : DataW H × List MemPlace) (h : DataW.trod enc Tryz.prog w base spare held n 28 cs = some x) : ∃ r : HeaderV, cs = r.enc := by
  obtain ⟨l0, m0, s0⟩ := sub_at Tryz.underlying28 h
  rw [show Tryz.prog.cellsOf 28 = 5 from by kernel_rfl] at l0
  obtain ⟨c0, c1, c2, c3, c4, rfl⟩ : ∃ c0 c1 c2 c3 c4, cs = [c0, c1, c2, c3, c4] := by
    match cs, l0 with
    | [c0, c1, c2, c3, c4], _ => exact ⟨c0, c1, c2, c3, c4, rfl⟩
  obtain ⟨_, g1⟩ := s0 0 _ 0 25 1 rfl rfl rfl (by kernel_rfl)
  replace g1 : DataW.trod enc Tryz.prog w base spare held m0 25 [c0] = some _ := g1
  obtain ⟨v0, e0, _, w0⟩ := DataW.trod_int Tryz.underlying25 g1
  have b0 := bounds_u32 w0
  obtain rfl := (List.cons.inj e0).1
  obtain ⟨_, g2⟩ := s0 1 _ 1 25 1 rfl rfl rfl (by kernel_rfl)
  replace g2 : DataW.trod enc Tryz.prog w base spare held m0 25 [c1] = some _ := g2
  obtain ⟨v1, e1, _, w1⟩ := DataW.trod_int Tryz.underlying25 g2
  have b1 := bounds_u32 w1
  obtain rfl := (List.cons.inj e1).1
  obtain ⟨_, g3⟩ := s0 2 _ 2 5 1 rfl rfl rfl (by kernel_rfl)
  replace g3 : DataW.trod enc Tryz.prog w base spare held m0 5 [c2] = some _ := g3
  obtain ⟨v2, e2, _, w2⟩ := DataW.trod_int Tryz.underlying5 g3
  have b2 := bounds_u8 w2
  obtain rfl := (List.cons.inj e2).1
  obtain ⟨_, g4⟩ := s0 3 _ 3 26 1 rfl rfl rfl (by kernel_rfl)
  replace g4 : DataW.trod enc Tryz.prog w base spare held m0 26 [c3] = some _ := g4
  obtain ⟨v3, e3, _, w3⟩ := DataW.trod_int Tryz.underlying26 g4
  have b3 := bounds_u16 w3
  obtain rfl := (List.cons.inj e3).1
  obtain ⟨_, g5⟩ := s0 4 _ 4 26 1 rfl rfl rfl (by kernel_rfl)
  replace g5 : DataW.trod enc Tryz.prog w base spare held m0 26 [c4] = some _ := g5
  obtain ⟨v4, e4, _, w4⟩ := DataW.trod_int Tryz.underlying26 g5
  have b4 := bounds_u16 w4
  obtain rfl := (List.cons.inj e4).1
  exact ⟨⟨v0, v1, v2, v3, v4, ⟨by omega, by omega⟩, ⟨by omega, by omega⟩, by omega, by omega, by omega⟩, rfl⟩

theorem elem_filter {H : Type} {enc : TypeId × Value → H} {w : World} {base : Nat} {spare : Nat → Bool} {held : Bool} (n : Nat) (cs : List Value) (x : DataW H × List MemPlace) (h : DataW.trod enc Tryz.prog w base spare held n 77 cs = some x) :
    ∃ (nm : ByteArray) (v : Value) (L : List RuleV), cs = [.string nm, v] ∧ Rd w w.heap.size 10 v L.length (rcells L) ∧ L.length ≤ maxLen := by
  obtain ⟨l0, m0, s0⟩ := sub_at Tryz.underlying77 h
  rw [show Tryz.prog.cellsOf 77 = 2 from by kernel_rfl] at l0
  obtain ⟨c0, c1, rfl⟩ : ∃ c0 c1, cs = [c0, c1] := by
    match cs, l0 with
    | [c0, c1], _ => exact ⟨c0, c1, rfl⟩
  obtain ⟨_, g1⟩ := s0 0 _ 0 9 1 rfl rfl rfl (by kernel_rfl)
  replace g1 : DataW.trod enc Tryz.prog w base spare held m0 9 [c0] = some _ := g1
  obtain ⟨nm, e0, _⟩ := DataW.trod_string Tryz.underlying9 g1
  obtain rfl := (List.cons.inj e0).1
  obtain ⟨_, g2⟩ := s0 1 _ 1 75 1 rfl rfl rfl (by kernel_rfl)
  replace g2 : DataW.trod enc Tryz.prog w base spare held m0 75 [c1] = some _ := g2
  obtain ⟨v, L, hv, hr, hl⟩ := open_rd rule_len (by decide) Tryz.underlying75 (by kernel_rfl) elem_rule g2
  obtain rfl := (List.cons.inj hv).1
  exact ⟨nm, c1, L, rfl, hr, hl⟩

end Go.Proofs.YtdjikiakcfbklaaGreat

/-
  A filter that lies in a slice that came in: its name, its rules.
-/
namespace Go.Proofs.YtdjikiakcfbklaaGreat
open Go Go.RowKit Go.ChangeShapes Go.WideShapes Go.Deep

set_option maxHeartbeats 1000000 in
theorem elem_filtS {H : Type} {enc : TypeId × Value → H} {w : World} {base : Nat} {spare : Nat → Bool} {held : Bool} (n : Nat) (cs : List Value) (x : DataW H × List MemPlace) (h : DataW.trod enc Tryz.prog w base spare held n 77 cs = some x) (hw : InReach Tryz.prog 77 x.1) :
    ∃ f : FiltV, cs = f.enc ∧ (Rd w w.heap.size 10 f.v f.L.length (rcells f.L) ∧ f.L.length * 64 + 64 ≤ 140737488355328) := by
  obtain ⟨l0, m0, s0⟩ := sub_at2 Tryz.underlying77 h hw
  rw [show Tryz.prog.cellsOf 77 = 2 from by kernel_rfl] at l0
  obtain ⟨c0, c1, rfl⟩ : ∃ c0 c1, cs = [c0, c1] := by
    match cs, l0 with
    | [c0, c1], _ => exact ⟨c0, c1, rfl⟩
  obtain ⟨_, g1, _⟩ := s0 0 _ 0 9 1 rfl rfl rfl (by kernel_rfl)
  replace g1 : DataW.trod enc Tryz.prog w base spare held m0 9 [c0] = some _ := g1
  obtain ⟨nm, e0, _⟩ := DataW.trod_string Tryz.underlying9 g1
  obtain rfl := (List.cons.inj e0).1
  obtain ⟨_, g2, hw2⟩ := s0 1 _ 1 75 1 rfl rfl rfl (by kernel_rfl)
  replace g2 : DataW.trod enc Tryz.prog w base spare held m0 75 [c1] = some _ := g2
  obtain ⟨v, L, hv, hr, hl, _, hb⟩ := open_rd2 (Q := fun _ => True) rule_len (by decide) Tryz.underlying75 (by kernel_rfl) (fun n cs y h _ => by
    obtain ⟨r, hr⟩ := elem_rule n cs y h
    exact ⟨r, hr, trivial⟩) g2 hw2
  obtain rfl := (List.cons.inj hv).1
  rw [show Tryz.prog.bytesOf 74 = 64 from by kernel_rfl] at hb
  exact ⟨⟨nm, c1, L⟩, rfl, hr, by show L.length * 64 + 64 ≤ 140737488355328; have : reachBytes = 140737488351232 := rfl; rw [this] at hb; omega⟩

theorem elem_filt {H : Type} {enc : TypeId × Value → H} {w : World} {base : Nat} {spare : Nat → Bool} {held : Bool} (n : Nat) (cs : List Value) (x : DataW H × List MemPlace) (h : DataW.trod enc Tryz.prog w base spare held n 77 cs = some x) (hw : InReach Tryz.prog 77 x.1) :
    ∃ f : FiltV, cs = f.enc ∧ (Rd w w.heap.size 10 f.v f.L.length (rcells f.L) ∧ f.L.length * 64 ≤ 140737488355328) := by
  obtain ⟨f, h1, h2, h3⟩ := elem_filtS n cs x h hw
  exact ⟨f, h1, h2, by omega⟩

end Go.Proofs.YtdjikiakcfbklaaGreat

/-
  The cells of rewrites and of lists of filters (written by wip/gen/genelem2.py).
-/
namespace Go.Proofs.YtdjikiakcfbklaaGreat
open Go Go.RowKit Go.ChangeShapes Go.WideShapes Go.Deep

set_option maxHeartbeats 1000000 in
theorem elem_rew {H : Type} {enc : TypeId × Value → H} {w : World} {base : Nat} {spare : Nat → Bool} {held : Bool} (n : Nat) (cs : List Value) (x : DataW H × List MemPlace) (h : DataW.trod enc Tryz.prog w base spare held n 33 cs = some x) : ∃ r : RewV, cs = r.enc := by
  obtain ⟨l0, m0, s0⟩ := sub_at Tryz.underlying33 h
  rw [show Tryz.prog.cellsOf 33 = 3 from by kernel_rfl] at l0
  obtain ⟨c0, c1, c2, rfl⟩ : ∃ c0 c1 c2, cs = [c0, c1, c2] := by
    match cs, l0 with
    | [c0, c1, c2], _ => exact ⟨c0, c1, c2, rfl⟩
  obtain ⟨_, g1⟩ := s0 0 _ 0 4 1 rfl rfl rfl (by kernel_rfl)
  replace g1 : DataW.trod enc Tryz.prog w base spare held m0 4 [c0] = some _ := g1
  obtain ⟨v0, e0, _⟩ := DataW.trod_bool Tryz.underlying4 g1
  obtain rfl := (List.cons.inj e0).1
  obtain ⟨_, g2⟩ := s0 1 _ 1 9 1 rfl rfl rfl (by kernel_rfl)
  replace g2 : DataW.trod enc Tryz.prog w base spare held m0 9 [c1] = some _ := g2
  obtain ⟨v1, e1, _⟩ := DataW.trod_string Tryz.underlying9 g2
  obtain rfl := (List.cons.inj e1).1
  obtain ⟨_, g3⟩ := s0 2 _ 2 25 1 rfl rfl rfl (by kernel_rfl)
  replace g3 : DataW.trod enc Tryz.prog w base spare held m0 25 [c2] = some _ := g3
  obtain ⟨v2, e2, _, w2⟩ := DataW.trod_int Tryz.underlying25 g3
  have b2 := bounds_u32 w2
  obtain rfl := (List.cons.inj e2).1
  exact ⟨⟨v0, v1, v2, ⟨by omega, by omega⟩⟩, rfl⟩
end Go.Proofs.YtdjikiakcfbklaaGreat
