/-
  Walks over headers: Bytes.
-/
import Derived.Test.YtdlhpiknifcehaaDoorAd6
import Derived.Deep.DeepCutAuto
import Derived.Deep.RegionHeld3
import Derived.StillTailTactics
namespace Go.Proofs.YtdlhpiknifcehaaDoor
open Go Go.RowKit Go.Sort

/-- A header. -/
structure Hd where
  src : Int
  dst : Int
  proto : Int
  sp : Int
  dp : Int
  deriving DecidableEq
def Hd.enc (h : Hd) : List Value := [.int .u32 h.src, .int .u32 h.dst, .int .u8 h.proto, .int .u16 h.sp, .int .u16 h.dp]
structure Hd.ok (h : Hd) : Prop where
  s0 : 0 ≤ h.src
  s1 : h.src < 4294967296
  d0 : 0 ≤ h.dst
  d1 : h.dst < 4294967296
  p0 : 0 ≤ h.proto
  p1 : h.proto < 256
  a0 : 0 ≤ h.sp
  a1 : h.sp < 65536
  b0 : 0 ≤ h.dp
  b1 : h.dp < 65536
/-- Its bytes. -/
def Hd.bytes (h : Hd) : List Int := [h.src / 16777216, h.src / 65536 % 256, h.src / 256 % 256, h.src % 256, h.dst / 16777216, h.dst / 65536 % 256, h.dst / 256 % 256, h.dst % 256, h.proto, h.sp / 256, h.sp % 256, h.dp / 256, h.dp % 256]
/-- The array while the addresses are written. -/
def Hd.part (h : Hd) (k j : Nat) (p : Bool) : List Int := (List.range 13).map fun i => if (i < 4 ∧ i < k) ∨ (4 ≤ i ∧ i < 8 ∧ i - 4 < k) ∨ (i = 8 ∧ p = true) ∨ (9 ≤ i ∧ i < 11 ∧ i - 9 < j) ∨ (11 ≤ i ∧ i - 11 < j) then h.bytes.getD i 0 else 0
theorem part_start (h : Hd) : h.part 0 0 false = List.replicate 13 0 := rfl
theorem part_full (h : Hd) : h.part 4 2 true = h.bytes := rfl

def Hd.cells (h : Hd) : Obj := .cells #[.int .u32 h.src, .int .u32 h.dst, .int .u8 h.proto, .int .u16 h.sp, .int .u16 h.dp] 48
def arr (l : List Int) : Obj := .cells (l.map (Value.int .u8)).toArray 49
structure BySt (h : Hd) (l : List Int) (g : Nat) (w W : World) : Prop where
  a : W.heap[g]? = some h.cells
  r : W.heap[g + 1]? = some (arr (List.replicate 13 0))
  b : W.heap[g + 2]? = some (arr l)
  n : Below w.heap.size w W
theorem arr_cell {w : World} {g : Nat} {l : List Int} (h : w.heap[g]? = some (arr l)) {k : Nat} {x : Int} (hk : l[k]? = some x) : w.cell? ⟨g, k, none⟩ = some (.int .u8 x) := by
  rw [cell_of_row w g k _ _ _ h]
  simp [hk]
theorem arr_set {w : World} {g : Nat} {l : List Int} (h : w.heap[g]? = some (arr l)) (k : Nat) (x : Int) : (w.setCell ⟨g, k, none⟩ (.int .u8 x)).heap[g]? = some (arr (l.set k x)) := by
  rw [heap_setCell_same _ _ _ _ _ _ h]
  unfold arr
  congr 2
  rw [List.map_set]
  simp
theorem byst_next {h : Hd} {l : List Int} {g : Nat} {w W : World} (H : BySt h l g w W) (hg : w.heap.size ≤ g) (i j : Nat) (x y : Int) : BySt h ((l.set i x).set j y) g w ((W.setCell ⟨g + 1 + 1, i, none⟩ (.int .u8 x)).setCell ⟨g + 1 + 1, j, none⟩ (.int .u8 y)).drew := by
  refine ⟨?_, ?_, ?_, ?_⟩
  · show (((W.setCell _ _).setCell _ _)).heap[g]? = _
    rw [heap_setCell_other _ _ _ _ (by show g ≠ g + 1 + 1; omega), heap_setCell_other _ _ _ _ (by show g ≠ g + 1 + 1; omega)]; exact H.a
  · show (((W.setCell _ _).setCell _ _)).heap[g + 1]? = _
    rw [heap_setCell_other _ _ _ _ (by simp), heap_setCell_other _ _ _ _ (by simp)]; exact H.r
  · exact arr_set (arr_set H.b i x) j y
  · exact ((H.n.setCell (p := ⟨g + 1 + 1, i, none⟩) (by show w.heap.size ≤ g + 1 + 1; omega) _).setCell (p := ⟨g + 1 + 1, j, none⟩) (by show w.heap.size ≤ g + 1 + 1; omega) _).drew
theorem byst_one {h : Hd} {l : List Int} {g : Nat} {w W : World} (H : BySt h l g w W) (hg : w.heap.size ≤ g) (i : Nat) (x : Int) : BySt h (l.set i x) g w (W.setCell ⟨g + 1 + 1, i, none⟩ (.int .u8 x)) := by
  refine ⟨?_, ?_, ?_, ?_⟩
  · rw [heap_setCell_other _ _ _ _ (by show g ≠ g + 1 + 1; omega)]; exact H.a
  · rw [heap_setCell_other _ _ _ _ (by show g + 1 ≠ g + 1 + 1; omega)]; exact H.r
  · exact arr_set H.b i x
  · exact H.n.setCell (p := ⟨g + 1 + 1, i, none⟩) (by show w.heap.size ≤ g + 1 + 1; omega) _
theorem results_arr {fn : Func} {tmps : Array Value} {w : World} {g : Nat} {x0 x1 x2 x3 x4 x5 x6 x7 x8 x9 x10 x11 x12 : Int} {t1 : Nat} (hf : fn.results = #[.cell t1 49]) (h1 : tmps.getD t1 undef = .pointer (some ⟨g, 0, none⟩)) (k1 : w.heap[g]? = some (arr [x0, x1, x2, x3, x4, x5, x6, x7, x8, x9, x10, x11, x12])) :
    (results fn tmps).run Tryd.prog w = .ok (.agg #[.int .u8 x0, .int .u8 x1, .int .u8 x2, .int .u8 x3, .int .u8 x4, .int .u8 x5, .int .u8 x6, .int .u8 x7, .int .u8 x8, .int .u8 x9, .int .u8 x10, .int .u8 x11, .int .u8 x12]) w := by
  have c0 := arr_cell k1 (k := 0) (x := x0) rfl
  have c1 := arr_cell k1 (k := 1) (x := x1) rfl
  have c2 := arr_cell k1 (k := 2) (x := x2) rfl
  have c3 := arr_cell k1 (k := 3) (x := x3) rfl
  have c4 := arr_cell k1 (k := 4) (x := x4) rfl
  have c5 := arr_cell k1 (k := 5) (x := x5) rfl
  have c6 := arr_cell k1 (k := 6) (x := x6) rfl
  have c7 := arr_cell k1 (k := 7) (x := x7) rfl
  have c8 := arr_cell k1 (k := 8) (x := x8) rfl
  have c9 := arr_cell k1 (k := 9) (x := x9) rfl
  have c10 := arr_cell k1 (k := 10) (x := x10) rfl
  have c11 := arr_cell k1 (k := 11) (x := x11) rfl
  have c12 := arr_cell k1 (k := 12) (x := x12) rfl
  have h1' : tmps[t1]?.getD undef = .pointer (some ⟨g, 0, none⟩) := by simpa using h1
  simp [results, hf, h1', go_sem, c0, c1, c2, c3, c4, c5, c6, c7, c8, c9, c10, c11, c12]
theorem u8_wrap (x : Int) : IntKind.u8.wrap x = x % 256 := by simp [IntKind.wrap, IntKind.bits, IntKind.signed]
set_option maxRecDepth 100000 in
set_option maxHeartbeats 4000000 in
theorem bytes_any (h : Hd) (ho : h.ok) (w : World) :
    Calls Tryd.prog 33 #[.agg #[.int .u32 h.src, .int .u32 h.dst, .int .u8 h.proto, .int .u16 h.sp, .int .u16 h.dp]] w fun e w' => e = .returned (.agg (h.bytes.map (Value.int .u8)).toArray) ∧ Below w.heap.size w w' := by
  obtain ⟨s0, s1, d0, d1, p0, p1, a0, a1, b0, b1⟩ := ho
  have hS : Hid (BySt h (h.part 0 0 false) w.heap.size w (((w.alloc h.cells).alloc (arr (List.replicate 13 0))).alloc (arr (List.replicate 13 0)))) := by
    obtain ⟨k0, k1, k2⟩ := blk3 w h.cells (arr (List.replicate 13 0)) (arr (List.replicate 13 0))
    exact Lib.hid ⟨k0, k1, k2, below3 w _ _ _⟩
  go_enter Tryd.func33, Tryd.ntmps33
  go_wp2
  change Hid (BySt h (h.part 0 0 false) w.heap.size w (((w.alloc (.cells #[.int .u32 h.src, .int .u32 h.dst, .int .u8 h.proto, .int .u16 h.sp, .int .u16 h.dp] 48)).alloc (.cells #[.int .u8 0, .int .u8 0, .int .u8 0, .int .u8 0, .int .u8 0, .int .u8 0, .int .u8 0, .int .u8 0, .int .u8 0, .int .u8 0, .int .u8 0, .int .u8 0, .int .u8 0] 49)).alloc (.cells #[.int .u8 0, .int .u8 0, .int .u8 0, .int .u8 0, .int .u8 0, .int .u8 0, .int .u8 0, .int .u8 0, .int .u8 0, .int .u8 0, .int .u8 0, .int .u8 0, .int .u8 0] 49))) at hS
  generalize ((w.alloc (.cells #[.int .u32 h.src, .int .u32 h.dst, .int .u8 h.proto, .int .u16 h.sp, .int .u16 h.dp] 48)).alloc (.cells #[.int .u8 0, .int .u8 0, .int .u8 0, .int .u8 0, .int .u8 0, .int .u8 0, .int .u8 0, .int .u8 0, .int .u8 0, .int .u8 0, .int .u8 0, .int .u8 0, .int .u8 0] 49)).alloc (.cells #[.int .u8 0, .int .u8 0, .int .u8 0, .int .u8 0, .int .u8 0, .int .u8 0, .int .u8 0, .int .u8 0, .int .u8 0, .int .u8 0, .int .u8 0, .int .u8 0, .int .u8 0] 49) = W at *
  go_loopw [6] (fun i wr => ∃ k : Nat, i = .int .i64 k ∧ k ≤ 4 ∧ Hid (BySt h (h.part k 0 false) w.heap.size w wr)) (fun i _ => 4 - (intOf i).toNat)
  case atStart => exact ⟨0, rfl, by omega, hS⟩
  case round =>
    obtain ⟨k, rfl, hk, hSr⟩ := hrel
    clear hS
    by_cases hlt : k < 4
    · have hI : (k : Int) < 4 := by omega
      have c0 : wr.cell? ⟨w.heap.size, 0, none⟩ = some (.int .u32 h.src) := by rw [cell_of_row wr _ 0 _ _ _ hSr.out.a]; rfl
      have c1 : wr.cell? ⟨w.heap.size, 1, none⟩ = some (.int .u32 h.dst) := by rw [cell_of_row wr _ 1 _ _ _ hSr.out.a]; rfl
      rcases (show k = 0 ∨ k = 1 ∨ k = 2 ∨ k = 3 by omega) with rfl | rfl | rfl | rfl
      · go_upto_region 5 with fail
        have q0 := arr_cell hSr.out.b (k := 0) (x := 0) rfl
        have q4 := arr_cell hSr.out.b (k := 4) (x := 0) rfl
        have z0 := frozen_row hSr.out.b 0
        have z4 := frozen_row hSr.out.b 4
        have n1 : w.heap.size ≠ w.heap.size + 1 + 1 := by omega
        have n2 : w.heap.size + 1 + 1 ≠ w.heap.size := by omega
        have y0 : IntKind.i64.wrap 0 = 0 := by decide
        have y4 : IntKind.i64.wrap 4 = 4 := by decide
        have y24 : IntKind.i64.wrap 24 = 24 := by decide
        go_region_held3 (fun w' => w'.cell? ⟨w.heap.size, 0, none⟩ = some (.int .u32 h.src) ∧ w'.cell? ⟨w.heap.size, 1, none⟩ = some (.int .u32 h.dst)) (go_keep) (fail)
        have hN := byst_next hSr.out (Nat.le_refl _) 0 4 (IntKind.u8.wrap (h.src / 16777216)) (IntKind.u8.wrap (h.dst / 16777216))
        have hL : ((h.part 0 0 false).set 0 (IntKind.u8.wrap (h.src / 16777216))).set 4 (IntKind.u8.wrap (h.dst / 16777216)) = h.part 1 0 false := by
          rw [show IntKind.u8.wrap (h.src / 16777216) = h.src / 16777216 by simp only [u8_wrap] <;> omega, show IntKind.u8.wrap (h.dst / 16777216) = h.dst / 16777216 by simp only [u8_wrap] <;> omega]
          rfl
        rw [hL] at hN
        have hN2 := Lib.hid hN
        rw [show IntKind.u8.wrap (h.src / 16777216) = h.src / 16777216 by simp only [u8_wrap] <;> omega, show IntKind.u8.wrap (h.dst / 16777216) = h.dst / 16777216 by simp only [u8_wrap] <;> omega] at hN
        have hN3 := Lib.hid hN
        clear hN hL q0 q4 z0 z4 c0 c1 hSr
        go_wp2
        first | exact ⟨⟨1, rfl, by omega, hN3⟩, by simp only [intOf]; omega⟩ | exact ⟨⟨1, rfl, by omega, hN2⟩, by simp only [intOf]; omega⟩
      · go_upto_region 5 with fail
        have q0 := arr_cell hSr.out.b (k := 1) (x := 0) rfl
        have q4 := arr_cell hSr.out.b (k := 5) (x := 0) rfl
        have z0 := frozen_row hSr.out.b 1
        have z4 := frozen_row hSr.out.b 5
        have n1 : w.heap.size ≠ w.heap.size + 1 + 1 := by omega
        have n2 : w.heap.size + 1 + 1 ≠ w.heap.size := by omega
        have y5 : IntKind.i64.wrap 5 = 5 := by decide
        have y8 : IntKind.i64.wrap 8 = 8 := by decide
        have y16 : IntKind.i64.wrap 16 = 16 := by decide
        go_region_held3 (fun w' => w'.cell? ⟨w.heap.size, 0, none⟩ = some (.int .u32 h.src) ∧ w'.cell? ⟨w.heap.size, 1, none⟩ = some (.int .u32 h.dst)) (go_keep) (fail)
        have hN := byst_next hSr.out (Nat.le_refl _) 1 5 (IntKind.u8.wrap (h.src / 65536)) (IntKind.u8.wrap (h.dst / 65536))
        have hL : ((h.part 1 0 false).set 1 (IntKind.u8.wrap (h.src / 65536))).set 5 (IntKind.u8.wrap (h.dst / 65536)) = h.part 2 0 false := by
          rw [show IntKind.u8.wrap (h.src / 65536) = h.src / 65536 % 256 by simp only [u8_wrap] <;> omega, show IntKind.u8.wrap (h.dst / 65536) = h.dst / 65536 % 256 by simp only [u8_wrap] <;> omega]
          rfl
        rw [hL] at hN
        have hN2 := Lib.hid hN
        rw [show IntKind.u8.wrap (h.src / 65536) = h.src / 65536 % 256 by simp only [u8_wrap] <;> omega, show IntKind.u8.wrap (h.dst / 65536) = h.dst / 65536 % 256 by simp only [u8_wrap] <;> omega] at hN
        have hN3 := Lib.hid hN
        clear hN hL q0 q4 z0 z4 c0 c1 hSr
        go_wp2
        first | exact ⟨⟨2, rfl, by omega, hN3⟩, by simp only [intOf]; omega⟩ | exact ⟨⟨2, rfl, by omega, hN2⟩, by simp only [intOf]; omega⟩
      · go_upto_region 5 with fail
        have q0 := arr_cell hSr.out.b (k := 2) (x := 0) rfl
        have q4 := arr_cell hSr.out.b (k := 6) (x := 0) rfl
        have z0 := frozen_row hSr.out.b 2
        have z4 := frozen_row hSr.out.b 6
        have n1 : w.heap.size ≠ w.heap.size + 1 + 1 := by omega
        have n2 : w.heap.size + 1 + 1 ≠ w.heap.size := by omega
        have y6 : IntKind.i64.wrap 6 = 6 := by decide
        have y8 : IntKind.i64.wrap 8 = 8 := by decide
        have y16 : IntKind.i64.wrap 16 = 16 := by decide
        go_region_held3 (fun w' => w'.cell? ⟨w.heap.size, 0, none⟩ = some (.int .u32 h.src) ∧ w'.cell? ⟨w.heap.size, 1, none⟩ = some (.int .u32 h.dst)) (go_keep) (fail)
        have hN := byst_next hSr.out (Nat.le_refl _) 2 6 (IntKind.u8.wrap (h.src / 256)) (IntKind.u8.wrap (h.dst / 256))
        have hL : ((h.part 2 0 false).set 2 (IntKind.u8.wrap (h.src / 256))).set 6 (IntKind.u8.wrap (h.dst / 256)) = h.part 3 0 false := by
          rw [show IntKind.u8.wrap (h.src / 256) = h.src / 256 % 256 by simp only [u8_wrap] <;> omega, show IntKind.u8.wrap (h.dst / 256) = h.dst / 256 % 256 by simp only [u8_wrap] <;> omega]
          rfl
        rw [hL] at hN
        have hN2 := Lib.hid hN
        rw [show IntKind.u8.wrap (h.src / 256) = h.src / 256 % 256 by simp only [u8_wrap] <;> omega, show IntKind.u8.wrap (h.dst / 256) = h.dst / 256 % 256 by simp only [u8_wrap] <;> omega] at hN
        have hN3 := Lib.hid hN
        clear hN hL q0 q4 z0 z4 c0 c1 hSr
        go_wp2
        first | exact ⟨⟨3, rfl, by omega, hN3⟩, by simp only [intOf]; omega⟩ | exact ⟨⟨3, rfl, by omega, hN2⟩, by simp only [intOf]; omega⟩
      · go_upto_region 5 with fail
        have q0 := arr_cell hSr.out.b (k := 3) (x := 0) rfl
        have q4 := arr_cell hSr.out.b (k := 7) (x := 0) rfl
        have z0 := frozen_row hSr.out.b 3
        have z4 := frozen_row hSr.out.b 7
        have n1 : w.heap.size ≠ w.heap.size + 1 + 1 := by omega
        have n2 : w.heap.size + 1 + 1 ≠ w.heap.size := by omega
        have y0 : IntKind.i64.wrap 0 = 0 := by decide
        have y7 : IntKind.i64.wrap 7 = 7 := by decide
        have y24 : IntKind.i64.wrap 24 = 24 := by decide
        go_region_held3 (fun w' => w'.cell? ⟨w.heap.size, 0, none⟩ = some (.int .u32 h.src) ∧ w'.cell? ⟨w.heap.size, 1, none⟩ = some (.int .u32 h.dst)) (go_keep) (fail)
        have hN := byst_next hSr.out (Nat.le_refl _) 3 7 (IntKind.u8.wrap (h.src)) (IntKind.u8.wrap (h.dst))
        have hL : ((h.part 3 0 false).set 3 (IntKind.u8.wrap (h.src))).set 7 (IntKind.u8.wrap (h.dst)) = h.part 4 0 false := by
          rw [show IntKind.u8.wrap (h.src) = h.src % 256 by simp only [u8_wrap] <;> omega, show IntKind.u8.wrap (h.dst) = h.dst % 256 by simp only [u8_wrap] <;> omega]
          rfl
        rw [hL] at hN
        have hN2 := Lib.hid hN
        rw [show IntKind.u8.wrap (h.src) = h.src % 256 by simp only [u8_wrap] <;> omega, show IntKind.u8.wrap (h.dst) = h.dst % 256 by simp only [u8_wrap] <;> omega] at hN
        have hN3 := Lib.hid hN
        clear hN hL q0 q4 z0 z4 c0 c1 hSr
        go_wp2
        first | exact ⟨⟨4, rfl, by omega, hN3⟩, by simp only [intOf]; omega⟩ | exact ⟨⟨4, rfl, by omega, hN2⟩, by simp only [intOf]; omega⟩
    · obtain rfl : k = 4 := by omega
      have c2 : wr.cell? ⟨w.heap.size, 2, none⟩ = some (.int .u8 h.proto) := by rw [cell_of_row wr _ 2 _ _ _ hSr.out.a]; rfl
      have q8 := arr_cell hSr.out.b (k := 8) (x := 0) rfl
      have z8 := frozen_row hSr.out.b 8
      have hN := Lib.hid (byst_one hSr.out (Nat.le_refl _) 8 h.proto)
      have hN2 : Hid (BySt h (h.part 4 0 true) w.heap.size w (wr.setCell ⟨w.heap.size + 1 + 1, 8, none⟩ (.int .u8 h.proto))) := hN
      clear hN hSr
      go_wp2
      generalize wr.setCell ⟨w.heap.size + 1 + 1, 8, none⟩ (.int .u8 h.proto) = W2 at *
      clear c2 q8 z8
      go_loopw [32] (fun i wr => ∃ k : Nat, i = .int .i64 k ∧ k ≤ 2 ∧ Hid (BySt h (h.part 4 k true) w.heap.size w wr)) (fun i _ => 2 - (intOf i).toNat)
      case atStart => exact ⟨0, rfl, by omega, hN2⟩
      case round =>
        clear hN2
        obtain ⟨k, rfl, hk2, hSr⟩ := hrel
        by_cases hlt2 : k < 2
        · have hI : (k : Int) < 2 := by omega
          have c3 : wr.cell? ⟨w.heap.size, 3, none⟩ = some (.int .u16 h.sp) := by rw [cell_of_row wr _ 3 _ _ _ hSr.out.a]; rfl
          have c4 : wr.cell? ⟨w.heap.size, 4, none⟩ = some (.int .u16 h.dp) := by rw [cell_of_row wr _ 4 _ _ _ hSr.out.a]; rfl
          rcases (show k = 0 ∨ k = 1 by omega) with rfl | rfl
          · go_upto_region 11 with fail
            have q0 := arr_cell hSr.out.b (k := 9) (x := 0) rfl
            have q4 := arr_cell hSr.out.b (k := 11) (x := 0) rfl
            have z0 := frozen_row hSr.out.b 9
            have z4 := frozen_row hSr.out.b 11
            have n1 : w.heap.size ≠ w.heap.size + 1 + 1 := by omega
            have n2 : w.heap.size + 1 + 1 ≠ w.heap.size := by omega
            have y0 : IntKind.i64.wrap 0 = 0 := by decide
            have y8 : IntKind.i64.wrap 8 = 8 := by decide
            have y9 : IntKind.i64.wrap 9 = 9 := by decide
            have y11 : IntKind.i64.wrap 11 = 11 := by decide
            go_region_held3 (fun w' => w'.cell? ⟨w.heap.size, 3, none⟩ = some (.int .u16 h.sp) ∧ w'.cell? ⟨w.heap.size, 4, none⟩ = some (.int .u16 h.dp)) (go_keep) (fail)
            have hN := byst_next hSr.out (Nat.le_refl _) 9 11 (IntKind.u8.wrap (h.sp / 256)) (IntKind.u8.wrap (h.dp / 256))
            have hL : ((h.part 4 0 true).set 9 (IntKind.u8.wrap (h.sp / 256))).set 11 (IntKind.u8.wrap (h.dp / 256)) = h.part 4 1 true := by
              rw [show IntKind.u8.wrap (h.sp / 256) = h.sp / 256 by simp only [u8_wrap] <;> omega, show IntKind.u8.wrap (h.dp / 256) = h.dp / 256 by simp only [u8_wrap] <;> omega]
              rfl
            rw [hL] at hN
            have hN2 := Lib.hid hN
            rw [show IntKind.u8.wrap (h.sp / 256) = h.sp / 256 by simp only [u8_wrap] <;> omega, show IntKind.u8.wrap (h.dp / 256) = h.dp / 256 by simp only [u8_wrap] <;> omega] at hN
            have hN3 := Lib.hid hN
            clear hN hL q0 q4 z0 z4 c3 c4 hSr
            go_wp2
            go_roundw
            case rel => first | exact ⟨1, rfl, by omega, hN3⟩ | exact ⟨1, rfl, by omega, hN2⟩ | ((repeat apply Exists.intro); first | exact ⟨⟨1, rfl, by omega, hN3⟩, rfl⟩ | exact ⟨⟨1, rfl, by omega, hN2⟩, rfl⟩)
            case measure =>
              change 2 - (intOf (Value.int .i64 1)).toNat < 2 - (intOf (Value.int .i64 ((0 : Nat) : Int))).toNat
              simp only [intOf]
              omega
          · go_upto_region 11 with fail
            have q0 := arr_cell hSr.out.b (k := 10) (x := 0) rfl
            have q4 := arr_cell hSr.out.b (k := 12) (x := 0) rfl
            have z0 := frozen_row hSr.out.b 10
            have z4 := frozen_row hSr.out.b 12
            have n1 : w.heap.size ≠ w.heap.size + 1 + 1 := by omega
            have n2 : w.heap.size + 1 + 1 ≠ w.heap.size := by omega
            have y0 : IntKind.i64.wrap 0 = 0 := by decide
            have y8 : IntKind.i64.wrap 8 = 8 := by decide
            have y10 : IntKind.i64.wrap 10 = 10 := by decide
            have y12 : IntKind.i64.wrap 12 = 12 := by decide
            go_region_held3 (fun w' => w'.cell? ⟨w.heap.size, 3, none⟩ = some (.int .u16 h.sp) ∧ w'.cell? ⟨w.heap.size, 4, none⟩ = some (.int .u16 h.dp)) (go_keep) (fail)
            have hN := byst_next hSr.out (Nat.le_refl _) 10 12 (IntKind.u8.wrap (h.sp)) (IntKind.u8.wrap (h.dp))
            have hL : ((h.part 4 1 true).set 10 (IntKind.u8.wrap (h.sp))).set 12 (IntKind.u8.wrap (h.dp)) = h.part 4 2 true := by
              rw [show IntKind.u8.wrap (h.sp) = h.sp % 256 by simp only [u8_wrap] <;> omega, show IntKind.u8.wrap (h.dp) = h.dp % 256 by simp only [u8_wrap] <;> omega]
              rfl
            rw [hL] at hN
            have hN2 := Lib.hid hN
            rw [show IntKind.u8.wrap (h.sp) = h.sp % 256 by simp only [u8_wrap] <;> omega, show IntKind.u8.wrap (h.dp) = h.dp % 256 by simp only [u8_wrap] <;> omega] at hN
            have hN3 := Lib.hid hN
            clear hN hL q0 q4 z0 z4 c3 c4 hSr
            go_wp2
            go_roundw
            case rel => first | exact ⟨2, rfl, by omega, hN3⟩ | exact ⟨2, rfl, by omega, hN2⟩ | ((repeat apply Exists.intro); first | exact ⟨⟨2, rfl, by omega, hN3⟩, rfl⟩ | exact ⟨⟨2, rfl, by omega, hN2⟩, rfl⟩)
            case measure =>
              change 2 - (intOf (Value.int .i64 2)).toNat < 2 - (intOf (Value.int .i64 ((1 : Nat) : Int))).toNat
              simp only [intOf]
              omega
        · obtain rfl : k = 2 := by omega
          have hb : wr.heap[w.heap.size + 1 + 1]? = some (arr h.bytes) := hSr.out.b
          have hr := hSr.out.r
          have hn := hSr.out.n
          have q0 := arr_cell hb (k := 0) (x := h.src / 16777216) rfl
          have r0 := arr_cell hr (k := 0) (x := 0) rfl
          have z0 := frozen_row hr 0
          have q1 := arr_cell hb (k := 1) (x := h.src / 65536 % 256) rfl
          have r1 := arr_cell hr (k := 1) (x := 0) rfl
          have z1 := frozen_row hr 1
          have q2 := arr_cell hb (k := 2) (x := h.src / 256 % 256) rfl
          have r2 := arr_cell hr (k := 2) (x := 0) rfl
          have z2 := frozen_row hr 2
          have q3 := arr_cell hb (k := 3) (x := h.src % 256) rfl
          have r3 := arr_cell hr (k := 3) (x := 0) rfl
          have z3 := frozen_row hr 3
          have q4 := arr_cell hb (k := 4) (x := h.dst / 16777216) rfl
          have r4 := arr_cell hr (k := 4) (x := 0) rfl
          have z4 := frozen_row hr 4
          have q5 := arr_cell hb (k := 5) (x := h.dst / 65536 % 256) rfl
          have r5 := arr_cell hr (k := 5) (x := 0) rfl
          have z5 := frozen_row hr 5
          have q6 := arr_cell hb (k := 6) (x := h.dst / 256 % 256) rfl
          have r6 := arr_cell hr (k := 6) (x := 0) rfl
          have z6 := frozen_row hr 6
          have q7 := arr_cell hb (k := 7) (x := h.dst % 256) rfl
          have r7 := arr_cell hr (k := 7) (x := 0) rfl
          have z7 := frozen_row hr 7
          have q8 := arr_cell hb (k := 8) (x := h.proto) rfl
          have r8 := arr_cell hr (k := 8) (x := 0) rfl
          have z8 := frozen_row hr 8
          have q9 := arr_cell hb (k := 9) (x := h.sp / 256) rfl
          have r9 := arr_cell hr (k := 9) (x := 0) rfl
          have z9 := frozen_row hr 9
          have q10 := arr_cell hb (k := 10) (x := h.sp % 256) rfl
          have r10 := arr_cell hr (k := 10) (x := 0) rfl
          have z10 := frozen_row hr 10
          have q11 := arr_cell hb (k := 11) (x := h.dp / 256) rfl
          have r11 := arr_cell hr (k := 11) (x := 0) rfl
          have z11 := frozen_row hr 11
          have q12 := arr_cell hb (k := 12) (x := h.dp % 256) rfl
          have r12 := arr_cell hr (k := 12) (x := 0) rfl
          have z12 := frozen_row hr 12
          have HR := Lib.hid hr
          have HN := Lib.hid hn
          clear hb hr hn hSr
          go_wp2
          have hr := HR.out
          have hn := HN.out
          exact bodyPost_ret (results_arr (t1 := 2) (g := w.heap.size + 1) Tryd.results33 rfl (arr_set (arr_set (arr_set (arr_set (arr_set (arr_set (arr_set (arr_set (arr_set (arr_set (arr_set (arr_set (arr_set hr 0 (h.src / 16777216)) 1 (h.src / 65536 % 256)) 2 (h.src / 256 % 256)) 3 (h.src % 256)) 4 (h.dst / 16777216)) 5 (h.dst / 65536 % 256)) 6 (h.dst / 256 % 256)) 7 (h.dst % 256)) 8 (h.proto)) 9 (h.sp / 256)) 10 (h.sp % 256)) 11 (h.dp / 256)) 12 (h.dp % 256))) rfl ⟨rfl, (((((((((((((hn.setCell (p := ⟨w.heap.size + 1, 0, none⟩) (Nat.le_succ _) _).setCell (p := ⟨w.heap.size + 1, 1, none⟩) (Nat.le_succ _) _).setCell (p := ⟨w.heap.size + 1, 2, none⟩) (Nat.le_succ _) _).setCell (p := ⟨w.heap.size + 1, 3, none⟩) (Nat.le_succ _) _).setCell (p := ⟨w.heap.size + 1, 4, none⟩) (Nat.le_succ _) _).setCell (p := ⟨w.heap.size + 1, 5, none⟩) (Nat.le_succ _) _).setCell (p := ⟨w.heap.size + 1, 6, none⟩) (Nat.le_succ _) _).setCell (p := ⟨w.heap.size + 1, 7, none⟩) (Nat.le_succ _) _).setCell (p := ⟨w.heap.size + 1, 8, none⟩) (Nat.le_succ _) _).setCell (p := ⟨w.heap.size + 1, 9, none⟩) (Nat.le_succ _) _).setCell (p := ⟨w.heap.size + 1, 10, none⟩) (Nat.le_succ _) _).setCell (p := ⟨w.heap.size + 1, 11, none⟩) (Nat.le_succ _) _).setCell (p := ⟨w.heap.size + 1, 12, none⟩) (Nat.le_succ _) _)⟩
end Go.Proofs.YtdlhpiknifcehaaDoor
