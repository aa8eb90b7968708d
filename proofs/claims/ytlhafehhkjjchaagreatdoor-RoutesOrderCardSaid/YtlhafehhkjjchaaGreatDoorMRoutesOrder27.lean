/-
  Joined texts: ElemRt, ElemRo.
-/
import Derived.Test.YtlhafehhkjjchaaGreatDoorMRoutesOrder3
import Derived.Test.YtlhafehhkjjchaaGreatDoorMRoutesOrder26
import Derived.Test.YtlhafehhkjjchaaGreatDoorMRoutesOrder18
import Derived.Test.YtlhafehhkjjchaaGreatDoorMRoutesOrder19
import Derived.Deep.Fields
import Derived.Test.YtlhafehhkjjchaaGreatDoorMRoutesOrder7
/-
  The cells of routes and of adverts (written by wip/gen/genelemrt.py).
-/
namespace Go.Proofs.YtlhafehhkjjchaaGreatDoor
open Go Go.RowKit Go.ChangeShapes Go.WideShapes Go.Deep

set_option maxHeartbeats 1000000 in
theorem elem_route {H : Type} {enc : TypeId × Value → H} {w : World} {base : Nat} {spare : Nat → Bool} {held : Bool} (n : Nat) (cs : List Value) (x : DataW H × List MemPlace) (h : DataW.trod enc Tryz.prog w base spare held n 27 cs = some x) : ∃ r : RtV, cs = [.int .u32 r.a, .int .i64 r.m, .int .u8 r.fr, .int .i64 r.di, .int .i64 r.me, .int .i64 r.ta, .string ⟨r.nm.toArray⟩, .int .u32 r.ho, .bool r.dc] := by
  obtain ⟨l0, m0, s0⟩ := sub_at Tryz.underlying27 h
  rw [show Tryz.prog.cellsOf 27 = 9 from by kernel_rfl] at l0
  obtain ⟨c0, c1, c2, c3, c4, c5, c6, c7, c8, rfl⟩ : ∃ c0 c1 c2 c3 c4 c5 c6 c7 c8, cs = [c0, c1, c2, c3, c4, c5, c6, c7, c8] := by
    match cs, l0 with
    | [c0, c1, c2, c3, c4, c5, c6, c7, c8], _ => exact ⟨c0, c1, c2, c3, c4, c5, c6, c7, c8, rfl⟩
  obtain ⟨_, g1⟩ := s0 0 _ 0 25 2 rfl rfl rfl (by kernel_rfl)
  replace g1 : DataW.trod enc Tryz.prog w base spare held m0 25 [c0, c1] = some _ := g1
  obtain ⟨l2, m2, s2⟩ := sub_at Tryz.underlying25 g1
  obtain ⟨_, g3⟩ := s2 0 _ 0 23 1 rfl rfl rfl (by kernel_rfl)
  replace g3 : DataW.trod enc Tryz.prog w base spare held m2 23 [c0] = some _ := g3
  obtain ⟨v0, e0, _, w0⟩ := DataW.trod_int Tryz.underlying23 g3
  have b0 := bounds_u32 w0
  obtain rfl := (List.cons.inj e0).1
  obtain ⟨_, g4⟩ := s2 1 _ 1 3 1 rfl rfl rfl (by kernel_rfl)
  replace g4 : DataW.trod enc Tryz.prog w base spare held m2 3 [c1] = some _ := g4
  obtain ⟨v1, e1, _, w1⟩ := DataW.trod_int Tryz.underlying3 g4
  have b1 := bounds_i64 w1
  obtain rfl := (List.cons.inj e1).1
  obtain ⟨_, g5⟩ := s0 1 _ 2 5 1 rfl rfl rfl (by kernel_rfl)
  replace g5 : DataW.trod enc Tryz.prog w base spare held m0 5 [c2] = some _ := g5
  obtain ⟨v2, e2, _, w2⟩ := DataW.trod_int Tryz.underlying5 g5
  have b2 := bounds_u8 w2
  obtain rfl := (List.cons.inj e2).1
  obtain ⟨_, g6⟩ := s0 2 _ 3 3 1 rfl rfl rfl (by kernel_rfl)
  replace g6 : DataW.trod enc Tryz.prog w base spare held m0 3 [c3] = some _ := g6
  obtain ⟨v3, e3, _, w3⟩ := DataW.trod_int Tryz.underlying3 g6
  have b3 := bounds_i64 w3
  obtain rfl := (List.cons.inj e3).1
  obtain ⟨_, g7⟩ := s0 3 _ 4 3 1 rfl rfl rfl (by kernel_rfl)
  replace g7 : DataW.trod enc Tryz.prog w base spare held m0 3 [c4] = some _ := g7
  obtain ⟨v4, e4, _, w4⟩ := DataW.trod_int Tryz.underlying3 g7
  have b4 := bounds_i64 w4
  obtain rfl := (List.cons.inj e4).1
  obtain ⟨_, g8⟩ := s0 4 _ 5 3 1 rfl rfl rfl (by kernel_rfl)
  replace g8 : DataW.trod enc Tryz.prog w base spare held m0 3 [c5] = some _ := g8
  obtain ⟨v5, e5, _, w5⟩ := DataW.trod_int Tryz.underlying3 g8
  have b5 := bounds_i64 w5
  obtain rfl := (List.cons.inj e5).1
  obtain ⟨_, g9⟩ := s0 5 _ 6 9 1 rfl rfl rfl (by kernel_rfl)
  replace g9 : DataW.trod enc Tryz.prog w base spare held m0 9 [c6] = some _ := g9
  obtain ⟨v6, e6, _⟩ := DataW.trod_string Tryz.underlying9 g9
  obtain rfl := (List.cons.inj e6).1
  obtain ⟨_, g10⟩ := s0 6 _ 7 23 1 rfl rfl rfl (by kernel_rfl)
  replace g10 : DataW.trod enc Tryz.prog w base spare held m0 23 [c7] = some _ := g10
  obtain ⟨v7, e7, _, w7⟩ := DataW.trod_int Tryz.underlying23 g10
  have b7 := bounds_u32 w7
  obtain rfl := (List.cons.inj e7).1
  obtain ⟨_, g11⟩ := s0 7 _ 8 4 1 rfl rfl rfl (by kernel_rfl)
  replace g11 : DataW.trod enc Tryz.prog w base spare held m0 4 [c8] = some _ := g11
  obtain ⟨v8, e8, _⟩ := DataW.trod_bool Tryz.underlying4 g11
  obtain rfl := (List.cons.inj e8).1
  obtain ⟨nm6, rfl⟩ : ∃ l : List UInt8, v6 = ⟨l.toArray⟩ := ⟨v6.data.toList, (str_mk v6).symm⟩
  exact ⟨⟨v0, v1, v2, v3, v4, v5, nm6, v7, v8, ⟨by omega, by omega⟩, ⟨by omega, by omega⟩, ⟨by omega, by omega⟩, ⟨by omega, by omega⟩, ⟨by omega, by omega⟩, ⟨by omega, by omega⟩, ⟨by omega, by omega⟩⟩, rfl⟩

/-- A slice that leads nowhere has no room. -/
def NilV (v : Value) : Prop := ∀ n c, v = .slice none n c → c = 0
theorem trod_nil {H : Type} {enc : TypeId × Value → H} {P : Program} {w : World} {base : Nat} {spare : Nat → Bool} {held : Bool} {t e : TypeId} {n : Nat} {v : Value} {x : DataW H × List MemPlace} (ht : P.underlying t = some (.slice e)) (h : DataW.trod enc P w base spare held n t [v] = some x) : NilV v := by
  rcases open_slice ht h with ⟨h0, _⟩ | ⟨a, len, cap, m, n', D, Pl, hcs, _⟩
  · obtain rfl := (List.cons.inj h0).1
    intro n c hv
    injection hv with _ h1 h2
    omega
  · obtain rfl := (List.cons.inj hcs).1
    intro n c hv
    cases hv
theorem one_len (x : Int) : [Value.int .u32 x].length = 1 := rfl
theorem one_flat (L : List Int) : (L.flatMap fun x => [Value.int .u32 x]) = L.map (Value.int .u32) := by
  induction L with
  | nil => rfl
  | cons a r ih => simp [List.flatMap_cons, ih]
theorem elem_u32s {H : Type} {enc : TypeId × Value → H} {w : World} {base : Nat} {spare : Nat → Bool} {held : Bool} (n : Nat) (cs : List Value) (y : DataW H × List MemPlace) (h : DataW.trod enc Tryz.prog w base spare held n 29 cs = some y) (hw : InReach Tryz.prog 29 y.1) :
    ∃ (v : Value) (L : List Int), cs = [v] ∧ Rd w w.heap.size 1 v L.length (L.map (Value.int .u32)) ∧ L.length ≤ 100000000000000 ∧ u32s L ∧ NilV v := by
  obtain ⟨v, L, hv, hr, _, hq, hb⟩ := open_rd2 (Q := fun x : Int => 0 ≤ x ∧ x < 4294967296) one_len (by decide) Tryz.underlying29 (by kernel_rfl) (fun n cs y h _ => by
    obtain ⟨a, e, _, w0⟩ := DataW.trod_int Tryz.underlying22 h
    have b := bounds_u32 w0
    exact ⟨a, e, by omega, by omega⟩) h hw
  rw [one_flat] at hr
  rw [show Tryz.prog.bytesOf 22 = 4 from by kernel_rfl] at hb
  subst hv
  exact ⟨v, L, rfl, hr, by have : reachBytes = 140737488351232 := rfl; rw [this] at hb; omega, hq, trod_nil Tryz.underlying29 h⟩
theorem elem_adrs {H : Type} {enc : TypeId × Value → H} {w : World} {base : Nat} {spare : Nat → Bool} {held : Bool} (n : Nat) (cs : List Value) (y : DataW H × List MemPlace) (h : DataW.trod enc Tryz.prog w base spare held n 30 cs = some y) (hw : InReach Tryz.prog 30 y.1) :
    ∃ (v : Value) (L : List Int), cs = [v] ∧ Rd w w.heap.size 1 v L.length (L.map (Value.int .u32)) ∧ L.length ≤ 100000000000000 ∧ u32s L ∧ NilV v := by
  obtain ⟨v, L, hv, hr, _, hq, hb⟩ := open_rd2 (Q := fun x : Int => 0 ≤ x ∧ x < 4294967296) one_len (by decide) Tryz.underlying30 (by kernel_rfl) (fun n cs y h _ => by
    obtain ⟨a, e, _, w0⟩ := DataW.trod_int Tryz.underlying23 h
    have b := bounds_u32 w0
    exact ⟨a, e, by omega, by omega⟩) h hw
  rw [one_flat] at hr
  rw [show Tryz.prog.bytesOf 23 = 4 from by kernel_rfl] at hb
  subst hv
  exact ⟨v, L, rfl, hr, by have : reachBytes = 140737488351232 := rfl; rw [this] at hb; omega, hq, trod_nil Tryz.underlying30 h⟩
set_option maxHeartbeats 1000000 in
theorem elem_advert2 {H : Type} {enc : TypeId × Value → H} {w : World} {base : Nat} {spare : Nat → Bool} {held : Bool} (n : Nat) (cs : List Value) (x : DataW H × List MemPlace) (h : DataW.trod enc Tryz.prog w base spare held n 32 cs = some x) (hw : InReach Tryz.prog 32 x.1) :
    ∃ (r : AvV) (vp vo vl : Value), cs = [.int .u32 r.a, .int .i64 r.m, .int .u32 r.ho, .int .i64 r.pf, .int .i64 r.me, vp, vo, .int .u32 r.pe, .int .u32 r.id, .bool r.ex, .int .u32 r.og, vl, .int .i64 r.ss] ∧ Rd w w.heap.size 1 vp r.pa.length (r.pa.map (Value.int .u32)) ∧ Rd w w.heap.size 1 vo r.co.length (r.co.map (Value.int .u32)) ∧ Rd w w.heap.size 1 vl r.cl.length (r.cl.map (Value.int .u32)) ∧ r.pa.length + r.co.length + r.cl.length ≤ 1000000000000000000 ∧ NilV vp ∧ NilV vo ∧ NilV vl := by
  obtain ⟨l0, m0, s0⟩ := sub_at2 Tryz.underlying32 h hw
  rw [show Tryz.prog.cellsOf 32 = 13 from by kernel_rfl] at l0
  obtain ⟨c0, c1, c2, c3, c4, c5, c6, c7, c8, c9, c10, c11, c12, rfl⟩ : ∃ c0 c1 c2 c3 c4 c5 c6 c7 c8 c9 c10 c11 c12, cs = [c0, c1, c2, c3, c4, c5, c6, c7, c8, c9, c10, c11, c12] := by
    match cs, l0 with
    | [c0, c1, c2, c3, c4, c5, c6, c7, c8, c9, c10, c11, c12], _ => exact ⟨c0, c1, c2, c3, c4, c5, c6, c7, c8, c9, c10, c11, c12, rfl⟩
  obtain ⟨_, g0, z0⟩ := s0 0 _ 0 25 2 rfl rfl rfl (by kernel_rfl)
  replace g0 : DataW.trod enc Tryz.prog w base spare held m0 25 [c0, c1] = some _ := g0
  obtain ⟨l4, m4, s4⟩ := sub_at Tryz.underlying25 g0
  obtain ⟨_, ga⟩ := s4 0 _ 0 23 1 rfl rfl rfl (by kernel_rfl)
  replace ga : DataW.trod enc Tryz.prog w base spare held m4 23 [c0] = some _ := ga
  obtain ⟨v0, e0, _, w0⟩ := DataW.trod_int Tryz.underlying23 ga
  have b0 := bounds_u32 w0
  obtain rfl := (List.cons.inj e0).1
  obtain ⟨_, gb⟩ := s4 1 _ 1 3 1 rfl rfl rfl (by kernel_rfl)
  replace gb : DataW.trod enc Tryz.prog w base spare held m4 3 [c1] = some _ := gb
  obtain ⟨v1, e1, _, w1⟩ := DataW.trod_int Tryz.underlying3 gb
  have b1 := bounds_i64 w1
  obtain rfl := (List.cons.inj e1).1
  obtain ⟨_, g1, z1⟩ := s0 1 _ 2 23 1 rfl rfl rfl (by kernel_rfl)
  replace g1 : DataW.trod enc Tryz.prog w base spare held m0 23 [c2] = some _ := g1
  obtain ⟨v2, e2, _, w2⟩ := DataW.trod_int Tryz.underlying23 g1
  have b2 := bounds_u32 w2
  obtain rfl := (List.cons.inj e2).1
  obtain ⟨_, g2, z2⟩ := s0 2 _ 3 3 1 rfl rfl rfl (by kernel_rfl)
  replace g2 : DataW.trod enc Tryz.prog w base spare held m0 3 [c3] = some _ := g2
  obtain ⟨v3, e3, _, w3⟩ := DataW.trod_int Tryz.underlying3 g2
  have b3 := bounds_i64 w3
  obtain rfl := (List.cons.inj e3).1
  obtain ⟨_, g3, z3⟩ := s0 3 _ 4 3 1 rfl rfl rfl (by kernel_rfl)
  replace g3 : DataW.trod enc Tryz.prog w base spare held m0 3 [c4] = some _ := g3
  obtain ⟨v4, e4, _, w4⟩ := DataW.trod_int Tryz.underlying3 g3
  have b4 := bounds_i64 w4
  obtain rfl := (List.cons.inj e4).1
  obtain ⟨_, g4, z4⟩ := s0 4 _ 5 29 1 rfl rfl rfl (by kernel_rfl)
  replace g4 : DataW.trod enc Tryz.prog w base spare held m0 29 [c5] = some _ := g4
  obtain ⟨_, L5, e5, R5, n5, q5, k5⟩ := elem_u32s _ _ _ g4 z4
  obtain rfl := (List.cons.inj e5).1
  obtain ⟨_, g5, z5⟩ := s0 5 _ 6 29 1 rfl rfl rfl (by kernel_rfl)
  replace g5 : DataW.trod enc Tryz.prog w base spare held m0 29 [c6] = some _ := g5
  obtain ⟨_, L6, e6, R6, n6, q6, k6⟩ := elem_u32s _ _ _ g5 z5
  obtain rfl := (List.cons.inj e6).1
  obtain ⟨_, g6, z6⟩ := s0 6 _ 7 23 1 rfl rfl rfl (by kernel_rfl)
  replace g6 : DataW.trod enc Tryz.prog w base spare held m0 23 [c7] = some _ := g6
  obtain ⟨v7, e7, _, w7⟩ := DataW.trod_int Tryz.underlying23 g6
  have b7 := bounds_u32 w7
  obtain rfl := (List.cons.inj e7).1
  obtain ⟨_, g7, z7⟩ := s0 7 _ 8 23 1 rfl rfl rfl (by kernel_rfl)
  replace g7 : DataW.trod enc Tryz.prog w base spare held m0 23 [c8] = some _ := g7
  obtain ⟨v8, e8, _, w8⟩ := DataW.trod_int Tryz.underlying23 g7
  have b8 := bounds_u32 w8
  obtain rfl := (List.cons.inj e8).1
  obtain ⟨_, g8, z8⟩ := s0 8 _ 9 4 1 rfl rfl rfl (by kernel_rfl)
  replace g8 : DataW.trod enc Tryz.prog w base spare held m0 4 [c9] = some _ := g8
  obtain ⟨v9, e9, _⟩ := DataW.trod_bool Tryz.underlying4 g8
  obtain rfl := (List.cons.inj e9).1
  obtain ⟨_, g9, z9⟩ := s0 9 _ 10 23 1 rfl rfl rfl (by kernel_rfl)
  replace g9 : DataW.trod enc Tryz.prog w base spare held m0 23 [c10] = some _ := g9
  obtain ⟨v10, e10, _, w10⟩ := DataW.trod_int Tryz.underlying23 g9
  have b10 := bounds_u32 w10
  obtain rfl := (List.cons.inj e10).1
  obtain ⟨_, g10, z10⟩ := s0 10 _ 11 30 1 rfl rfl rfl (by kernel_rfl)
  replace g10 : DataW.trod enc Tryz.prog w base spare held m0 30 [c11] = some _ := g10
  obtain ⟨_, L11, e11, R11, n11, q11, k11⟩ := elem_adrs _ _ _ g10 z10
  obtain rfl := (List.cons.inj e11).1
  obtain ⟨_, g11, z11⟩ := s0 11 _ 12 3 1 rfl rfl rfl (by kernel_rfl)
  replace g11 : DataW.trod enc Tryz.prog w base spare held m0 3 [c12] = some _ := g11
  obtain ⟨v12, e12, _, w12⟩ := DataW.trod_int Tryz.underlying3 g11
  have b12 := bounds_i64 w12
  obtain rfl := (List.cons.inj e12).1
  exact ⟨⟨v0, v1, v12, v3, v4, v2, v7, v8, v9, v10, L5, L6, L11, ⟨by omega, by omega⟩, ⟨by omega, by omega⟩, ⟨by omega, by omega⟩, ⟨by omega, by omega⟩, ⟨by omega, by omega⟩, ⟨by omega, by omega⟩, ⟨by omega, by omega⟩, ⟨by omega, by omega⟩, ⟨by omega, by omega⟩, q5, q6, q11⟩, c5, c6, c11, rfl, R5, R6, R11, by show L5.length + L6.length + L11.length ≤ _; omega, k5, k6, k11⟩
theorem elem_advert {H : Type} {enc : TypeId × Value → H} {w : World} {base : Nat} {spare : Nat → Bool} {held : Bool} (n : Nat) (cs : List Value) (x : DataW H × List MemPlace) (h : DataW.trod enc Tryz.prog w base spare held n 32 cs = some x) (hw : InReach Tryz.prog 32 x.1) :
    ∃ (r : AvV) (vp vo vl : Value), cs = [.int .u32 r.a, .int .i64 r.m, .int .u32 r.ho, .int .i64 r.pf, .int .i64 r.me, vp, vo, .int .u32 r.pe, .int .u32 r.id, .bool r.ex, .int .u32 r.og, vl, .int .i64 r.ss] ∧ Rd w w.heap.size 1 vp r.pa.length (r.pa.map (Value.int .u32)) ∧ Rd w w.heap.size 1 vo r.co.length (r.co.map (Value.int .u32)) ∧ Rd w w.heap.size 1 vl r.cl.length (r.cl.map (Value.int .u32)) ∧ r.pa.length + r.co.length + r.cl.length ≤ 1000000000000000000 := by
  obtain ⟨r, vp, vo, vl, h1, h2, h3, h4, h5, _⟩ := elem_advert2 n cs x h hw
  exact ⟨r, vp, vo, vl, h1, h2, h3, h4, h5⟩

end Go.Proofs.YtlhafehhkjjchaaGreatDoor

/-
  The cells of lists of routes that came in (written by wip/gen/genelemro.py).
-/
namespace Go.Proofs.YtlhafehhkjjchaaGreatDoor
open Go Go.RowKit Go.ChangeShapes Go.WideShapes Go.Deep

set_option maxHeartbeats 1000000 in
theorem elem_routeV {H : Type} {enc : TypeId × Value → H} {w : World} {base : Nat} {spare : Nat → Bool} {held : Bool} (n : Nat) (cs : List Value) (x : DataW H × List MemPlace) (h : DataW.trod enc Tryz.prog w base spare held n 27 cs = some x) : ∃ r : RouteV, cs = r.enc := by
  obtain ⟨l0, m0, s0⟩ := sub_at Tryz.underlying27 h
  rw [show Tryz.prog.cellsOf 27 = 9 from by kernel_rfl] at l0
  obtain ⟨c0, c1, c2, c3, c4, c5, c6, c7, c8, rfl⟩ : ∃ c0 c1 c2 c3 c4 c5 c6 c7 c8, cs = [c0, c1, c2, c3, c4, c5, c6, c7, c8] := by
    match cs, l0 with
    | [c0, c1, c2, c3, c4, c5, c6, c7, c8], _ => exact ⟨c0, c1, c2, c3, c4, c5, c6, c7, c8, rfl⟩
  obtain ⟨_, g1⟩ := s0 0 _ 0 25 2 rfl rfl rfl (by kernel_rfl)
  replace g1 : DataW.trod enc Tryz.prog w base spare held m0 25 [c0, c1] = some _ := g1
  obtain ⟨l2, m2, s2⟩ := sub_at Tryz.underlying25 g1
  obtain ⟨_, g3⟩ := s2 0 _ 0 23 1 rfl rfl rfl (by kernel_rfl)
  replace g3 : DataW.trod enc Tryz.prog w base spare held m2 23 [c0] = some _ := g3
  obtain ⟨v0, e0, _, w0⟩ := DataW.trod_int Tryz.underlying23 g3
  have b0 := bounds_u32 w0
  obtain rfl := (List.cons.inj e0).1
  obtain ⟨_, g4⟩ := s2 1 _ 1 3 1 rfl rfl rfl (by kernel_rfl)
  replace g4 : DataW.trod enc Tryz.prog w base spare held m2 3 [c1] = some _ := g4
  obtain ⟨v1, e1, _, w1⟩ := DataW.trod_int Tryz.underlying3 g4
  have b1 := bounds_i64 w1
  obtain rfl := (List.cons.inj e1).1
  obtain ⟨_, g5⟩ := s0 1 _ 2 5 1 rfl rfl rfl (by kernel_rfl)
  replace g5 : DataW.trod enc Tryz.prog w base spare held m0 5 [c2] = some _ := g5
  obtain ⟨v2, e2, _, w2⟩ := DataW.trod_int Tryz.underlying5 g5
  have b2 := bounds_u8 w2
  obtain rfl := (List.cons.inj e2).1
  obtain ⟨_, g6⟩ := s0 2 _ 3 3 1 rfl rfl rfl (by kernel_rfl)
  replace g6 : DataW.trod enc Tryz.prog w base spare held m0 3 [c3] = some _ := g6
  obtain ⟨v3, e3, _, w3⟩ := DataW.trod_int Tryz.underlying3 g6
  have b3 := bounds_i64 w3
  obtain rfl := (List.cons.inj e3).1
  obtain ⟨_, g7⟩ := s0 3 _ 4 3 1 rfl rfl rfl (by kernel_rfl)
  replace g7 : DataW.trod enc Tryz.prog w base spare held m0 3 [c4] = some _ := g7
  obtain ⟨v4, e4, _, w4⟩ := DataW.trod_int Tryz.underlying3 g7
  have b4 := bounds_i64 w4
  obtain rfl := (List.cons.inj e4).1
  obtain ⟨_, g8⟩ := s0 4 _ 5 3 1 rfl rfl rfl (by kernel_rfl)
  replace g8 : DataW.trod enc Tryz.prog w base spare held m0 3 [c5] = some _ := g8
  obtain ⟨v5, e5, _, w5⟩ := DataW.trod_int Tryz.underlying3 g8
  have b5 := bounds_i64 w5
  obtain rfl := (List.cons.inj e5).1
  obtain ⟨_, g9⟩ := s0 5 _ 6 9 1 rfl rfl rfl (by kernel_rfl)
  replace g9 : DataW.trod enc Tryz.prog w base spare held m0 9 [c6] = some _ := g9
  obtain ⟨v6, e6, _⟩ := DataW.trod_string Tryz.underlying9 g9
  obtain rfl := (List.cons.inj e6).1
  obtain ⟨_, g10⟩ := s0 6 _ 7 23 1 rfl rfl rfl (by kernel_rfl)
  replace g10 : DataW.trod enc Tryz.prog w base spare held m0 23 [c7] = some _ := g10
  obtain ⟨v7, e7, _, w7⟩ := DataW.trod_int Tryz.underlying23 g10
  have b7 := bounds_u32 w7
  obtain rfl := (List.cons.inj e7).1
  obtain ⟨_, g11⟩ := s0 7 _ 8 4 1 rfl rfl rfl (by kernel_rfl)
  replace g11 : DataW.trod enc Tryz.prog w base spare held m0 4 [c8] = some _ := g11
  obtain ⟨v8, e8, _⟩ := DataW.trod_bool Tryz.underlying4 g11
  obtain rfl := (List.cons.inj e8).1
  exact ⟨⟨v0, v1, v2, v3, v4, v5, v6, v7, v8⟩, rfl⟩
theorem route_nil {H : Type} {enc : TypeId × Value → H} {w : World} {base : Nat} {spare : Nat → Bool} {held : Bool} {n : Nat} {v : Value} {x : DataW H × List MemPlace} (h : DataW.trod enc Tryz.prog w base spare held n 28 [v] = some x) : NilR v := by
  rcases open_slice Tryz.underlying28 h with ⟨h0, _⟩ | ⟨a, len, cap, m, n', D, Pl, hcs, _⟩
  · obtain rfl := (List.cons.inj h0).1
    intro n c hv
    injection hv with _ h1 h2
    omega
  · obtain rfl := (List.cons.inj hcs).1
    intro n c hv
    cases hv
end Go.Proofs.YtlhafehhkjjchaaGreatDoor
