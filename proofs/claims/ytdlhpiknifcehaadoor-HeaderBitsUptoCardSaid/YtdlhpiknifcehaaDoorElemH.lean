/-
  The cells of headers and of their bytes, as parameters (written by wip/gen/genelemh.py).
-/
import Derived.Test.YtdlhpiknifcehaaDoorOpenS
import Derived.Test.YtdlhpiknifcehaaDoorHdMath
import Derived.Deep.Fields
namespace Go.Proofs.YtdlhpiknifcehaaDoor
open Go Go.RowKit Go.ChangeShapes Go.WideShapes Go.Deep

set_option maxHeartbeats 1000000 in
theorem elem_hd {H : Type} {enc : TypeId × Value → H} {w : World} {base : Nat} {spare : Nat → Bool} {held : Bool} (n : Nat) (cs : List Value) (x : DataW H × List MemPlace) (h : DataW.trod enc Tryd.prog w base spare held n 48 cs = some x) : ∃ r : Hd, r.ok ∧ cs = r.enc := by
  obtain ⟨l0, m0, s0⟩ := sub_at Tryd.underlying48 h
  rw [show Tryd.prog.cellsOf 48 = 5 from by kernel_rfl] at l0
  obtain ⟨c0, c1, c2, c3, c4, rfl⟩ : ∃ c0 c1 c2 c3 c4, cs = [c0, c1, c2, c3, c4] := by
    match cs, l0 with
    | [c0, c1, c2, c3, c4], _ => exact ⟨c0, c1, c2, c3, c4, rfl⟩
  obtain ⟨_, g1⟩ := s0 0 _ 0 23 1 rfl rfl rfl (by kernel_rfl)
  replace g1 : DataW.trod enc Tryd.prog w base spare held m0 23 [c0] = some _ := g1
  obtain ⟨v0, e0, _, w0⟩ := DataW.trod_int Tryd.underlying23 g1
  have b0 := bounds_u32 w0
  obtain rfl := (List.cons.inj e0).1
  obtain ⟨_, g2⟩ := s0 1 _ 1 23 1 rfl rfl rfl (by kernel_rfl)
  replace g2 : DataW.trod enc Tryd.prog w base spare held m0 23 [c1] = some _ := g2
  obtain ⟨v1, e1, _, w1⟩ := DataW.trod_int Tryd.underlying23 g2
  have b1 := bounds_u32 w1
  obtain rfl := (List.cons.inj e1).1
  obtain ⟨_, g3⟩ := s0 2 _ 2 5 1 rfl rfl rfl (by kernel_rfl)
  replace g3 : DataW.trod enc Tryd.prog w base spare held m0 5 [c2] = some _ := g3
  obtain ⟨v2, e2, _, w2⟩ := DataW.trod_int Tryd.underlying5 g3
  have b2 := bounds_u8 w2
  obtain rfl := (List.cons.inj e2).1
  obtain ⟨_, g4⟩ := s0 3 _ 3 46 1 rfl rfl rfl (by kernel_rfl)
  replace g4 : DataW.trod enc Tryd.prog w base spare held m0 46 [c3] = some _ := g4
  obtain ⟨v3, e3, _, w3⟩ := DataW.trod_int Tryd.underlying46 g4
  have b3 := bounds_u16 w3
  obtain rfl := (List.cons.inj e3).1
  obtain ⟨_, g5⟩ := s0 4 _ 4 46 1 rfl rfl rfl (by kernel_rfl)
  replace g5 : DataW.trod enc Tryd.prog w base spare held m0 46 [c4] = some _ := g5
  obtain ⟨v4, e4, _, w4⟩ := DataW.trod_int Tryd.underlying46 g5
  have b4 := bounds_u16 w4
  obtain rfl := (List.cons.inj e4).1
  exact ⟨⟨v0, v1, v2, v3, v4⟩, ⟨b0.1, by dsimp only; omega, b1.1, by dsimp only; omega, b2.1, by dsimp only; omega, b3.1, by dsimp only; omega, b4.1, by dsimp only; omega⟩, rfl⟩
section
variable {H : Type} {enc : TypeId × Value → H} {P : Program} {w : World} {base : Nat} {spare : Nat → Bool} {held : Bool}
/-- An array as a parameter. -/
theorem open_array {r : Reach} {b0 : Nat} {t e : TypeId} {k : Nat} {v : Value} {d : DataW H} {p : List MemPlace} (hs : P.underlying t = some (.array k e)) (hv : Value.okWide P w r b0 t v) (h : DataW.Trod enc P w base spare held t v d p) :
    ∃ (cs : List Value) (n : Nat), v = .agg cs.toArray ∧ DataW.trod enc P w base spare held n t cs = some (d, p) := by
  simp only [Value.okWide, hs] at hv
  obtain ⟨cs, rfl, _⟩ := hv
  obtain ⟨n, hf⟩ := h
  exact ⟨cs.toList, n, by simp, hf⟩
end
theorem elem_raw {H : Type} {enc : TypeId × Value → H} {w : World} {base : Nat} {spare : Nat → Bool} {held : Bool} (n : Nat) (cs : List Value) (x : DataW H × List MemPlace) (h : DataW.trod enc Tryd.prog w base spare held n 49 cs = some x) : ∃ r0 r1 r2 r3 r4 r5 r6 r7 r8 r9 r10 r11 r12 : Int, cs = [.int .u8 r0, .int .u8 r1, .int .u8 r2, .int .u8 r3, .int .u8 r4, .int .u8 r5, .int .u8 r6, .int .u8 r7, .int .u8 r8, .int .u8 r9, .int .u8 r10, .int .u8 r11, .int .u8 r12] ∧ ∀ y ∈ [r0, r1, r2, r3, r4, r5, r6, r7, r8, r9, r10, r11, r12], 0 ≤ y ∧ y < 256 := by
  obtain ⟨xs, m, _, _, hl, hxl, hel⟩ := DataW.trod_array Tryd.underlying49 h
  rw [show Tryd.prog.cellsOf 49 = 13 from by kernel_rfl] at hl
  rw [show Tryd.prog.cellsOf 5 = 1 from by kernel_rfl] at hel
  obtain ⟨c0, c1, c2, c3, c4, c5, c6, c7, c8, c9, c10, c11, c12, rfl⟩ : ∃ c0 c1 c2 c3 c4 c5 c6 c7 c8 c9 c10 c11 c12, cs = [c0, c1, c2, c3, c4, c5, c6, c7, c8, c9, c10, c11, c12] := by
    match cs, hl with
    | [c0, c1, c2, c3, c4, c5, c6, c7, c8, c9, c10, c11, c12], _ => exact ⟨c0, c1, c2, c3, c4, c5, c6, c7, c8, c9, c10, c11, c12, rfl⟩
  have get : ∀ i, i < 13 → ∃ y, xs[i]? = some y := fun i hi => ⟨_, List.getElem?_eq_getElem (by omega)⟩
  obtain ⟨y0, hy0⟩ := get 0 (by omega)
  have g0 : DataW.trod enc Tryd.prog w base spare held m 5 [c0] = some _ := (hel 0 (by omega)).trans hy0
  obtain ⟨r0, e0, _, w0⟩ := DataW.trod_int Tryd.underlying5 g0
  have b0 := bounds_u8 w0
  obtain rfl := (List.cons.inj e0).1
  obtain ⟨y1, hy1⟩ := get 1 (by omega)
  have g1 : DataW.trod enc Tryd.prog w base spare held m 5 [c1] = some _ := (hel 1 (by omega)).trans hy1
  obtain ⟨r1, e1, _, w1⟩ := DataW.trod_int Tryd.underlying5 g1
  have b1 := bounds_u8 w1
  obtain rfl := (List.cons.inj e1).1
  obtain ⟨y2, hy2⟩ := get 2 (by omega)
  have g2 : DataW.trod enc Tryd.prog w base spare held m 5 [c2] = some _ := (hel 2 (by omega)).trans hy2
  obtain ⟨r2, e2, _, w2⟩ := DataW.trod_int Tryd.underlying5 g2
  have b2 := bounds_u8 w2
  obtain rfl := (List.cons.inj e2).1
  obtain ⟨y3, hy3⟩ := get 3 (by omega)
  have g3 : DataW.trod enc Tryd.prog w base spare held m 5 [c3] = some _ := (hel 3 (by omega)).trans hy3
  obtain ⟨r3, e3, _, w3⟩ := DataW.trod_int Tryd.underlying5 g3
  have b3 := bounds_u8 w3
  obtain rfl := (List.cons.inj e3).1
  obtain ⟨y4, hy4⟩ := get 4 (by omega)
  have g4 : DataW.trod enc Tryd.prog w base spare held m 5 [c4] = some _ := (hel 4 (by omega)).trans hy4
  obtain ⟨r4, e4, _, w4⟩ := DataW.trod_int Tryd.underlying5 g4
  have b4 := bounds_u8 w4
  obtain rfl := (List.cons.inj e4).1
  obtain ⟨y5, hy5⟩ := get 5 (by omega)
  have g5 : DataW.trod enc Tryd.prog w base spare held m 5 [c5] = some _ := (hel 5 (by omega)).trans hy5
  obtain ⟨r5, e5, _, w5⟩ := DataW.trod_int Tryd.underlying5 g5
  have b5 := bounds_u8 w5
  obtain rfl := (List.cons.inj e5).1
  obtain ⟨y6, hy6⟩ := get 6 (by omega)
  have g6 : DataW.trod enc Tryd.prog w base spare held m 5 [c6] = some _ := (hel 6 (by omega)).trans hy6
  obtain ⟨r6, e6, _, w6⟩ := DataW.trod_int Tryd.underlying5 g6
  have b6 := bounds_u8 w6
  obtain rfl := (List.cons.inj e6).1
  obtain ⟨y7, hy7⟩ := get 7 (by omega)
  have g7 : DataW.trod enc Tryd.prog w base spare held m 5 [c7] = some _ := (hel 7 (by omega)).trans hy7
  obtain ⟨r7, e7, _, w7⟩ := DataW.trod_int Tryd.underlying5 g7
  have b7 := bounds_u8 w7
  obtain rfl := (List.cons.inj e7).1
  obtain ⟨y8, hy8⟩ := get 8 (by omega)
  have g8 : DataW.trod enc Tryd.prog w base spare held m 5 [c8] = some _ := (hel 8 (by omega)).trans hy8
  obtain ⟨r8, e8, _, w8⟩ := DataW.trod_int Tryd.underlying5 g8
  have b8 := bounds_u8 w8
  obtain rfl := (List.cons.inj e8).1
  obtain ⟨y9, hy9⟩ := get 9 (by omega)
  have g9 : DataW.trod enc Tryd.prog w base spare held m 5 [c9] = some _ := (hel 9 (by omega)).trans hy9
  obtain ⟨r9, e9, _, w9⟩ := DataW.trod_int Tryd.underlying5 g9
  have b9 := bounds_u8 w9
  obtain rfl := (List.cons.inj e9).1
  obtain ⟨y10, hy10⟩ := get 10 (by omega)
  have g10 : DataW.trod enc Tryd.prog w base spare held m 5 [c10] = some _ := (hel 10 (by omega)).trans hy10
  obtain ⟨r10, e10, _, w10⟩ := DataW.trod_int Tryd.underlying5 g10
  have b10 := bounds_u8 w10
  obtain rfl := (List.cons.inj e10).1
  obtain ⟨y11, hy11⟩ := get 11 (by omega)
  have g11 : DataW.trod enc Tryd.prog w base spare held m 5 [c11] = some _ := (hel 11 (by omega)).trans hy11
  obtain ⟨r11, e11, _, w11⟩ := DataW.trod_int Tryd.underlying5 g11
  have b11 := bounds_u8 w11
  obtain rfl := (List.cons.inj e11).1
  obtain ⟨y12, hy12⟩ := get 12 (by omega)
  have g12 : DataW.trod enc Tryd.prog w base spare held m 5 [c12] = some _ := (hel 12 (by omega)).trans hy12
  obtain ⟨r12, e12, _, w12⟩ := DataW.trod_int Tryd.underlying5 g12
  have b12 := bounds_u8 w12
  obtain rfl := (List.cons.inj e12).1
  refine ⟨r0, r1, r2, r3, r4, r5, r6, r7, r8, r9, r10, r11, r12, rfl, ?_⟩
  intro y hy
  simp only [List.mem_cons, List.mem_nil_iff, or_false] at hy
  rcases hy with rfl | rfl | rfl | rfl | rfl | rfl | rfl | rfl | rfl | rfl | rfl | rfl | rfl <;> omega
end Go.Proofs.YtdlhpiknifcehaaDoor
