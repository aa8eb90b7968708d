/-
  Walks over headers: Of.
-/
import Derived.Test.YtdlhpiknifcehaaDoorHdMath
import Derived.Deep.RegionHeldLaw
namespace Go.Proofs.YtdlhpiknifcehaaDoor
open Go Go.RowKit Go.Sort

structure OfSt (l : List Int) (h : Hd) (g : Nat) (w W : World) : Prop where
  a : W.heap[g]? = some (arr l)
  r : W.heap[g + 1]? = some (Hd.cells ⟨0, 0, 0, 0, 0⟩)
  b : W.heap[g + 2]? = some h.cells
  n : Below w.heap.size w W
theorem hd_cell {w : World} {g : Nat} {h : Hd} (H : w.heap[g]? = some h.cells) : w.cell? ⟨g, 0, none⟩ = some (.int .u32 h.src) ∧ w.cell? ⟨g, 1, none⟩ = some (.int .u32 h.dst) ∧ w.cell? ⟨g, 2, none⟩ = some (.int .u8 h.proto) ∧ w.cell? ⟨g, 3, none⟩ = some (.int .u16 h.sp) ∧ w.cell? ⟨g, 4, none⟩ = some (.int .u16 h.dp) := by
  refine ⟨?_, ?_, ?_, ?_, ?_⟩ <;> (rw [cell_of_row w g _ _ _ _ H]; rfl)
theorem hd_frozen {w : World} {g : Nat} {h : Hd} (H : w.heap[g]? = some h.cells) (k : Nat) : w.frozen? ⟨g, k, none⟩ = false := frozen_row H k
theorem hd_set0 {w : World} {g : Nat} {h : Hd} (H : w.heap[g]? = some h.cells) (x : Int) : (w.setCell ⟨g, 0, none⟩ (.int .u32 x)).heap[g]? = some (Hd.cells { h with src := x }) := by rw [heap_setCell_same _ _ _ _ _ _ H]; rfl
theorem hd_set1 {w : World} {g : Nat} {h : Hd} (H : w.heap[g]? = some h.cells) (x : Int) : (w.setCell ⟨g, 1, none⟩ (.int .u32 x)).heap[g]? = some (Hd.cells { h with dst := x }) := by rw [heap_setCell_same _ _ _ _ _ _ H]; rfl
theorem hd_set2 {w : World} {g : Nat} {h : Hd} (H : w.heap[g]? = some h.cells) (x : Int) : (w.setCell ⟨g, 2, none⟩ (.int .u8 x)).heap[g]? = some (Hd.cells { h with proto := x }) := by rw [heap_setCell_same _ _ _ _ _ _ H]; rfl
theorem hd_set3 {w : World} {g : Nat} {h : Hd} (H : w.heap[g]? = some h.cells) (x : Int) : (w.setCell ⟨g, 3, none⟩ (.int .u16 x)).heap[g]? = some (Hd.cells { h with sp := x }) := by rw [heap_setCell_same _ _ _ _ _ _ H]; rfl
theorem hd_set4 {w : World} {g : Nat} {h : Hd} (H : w.heap[g]? = some h.cells) (x : Int) : (w.setCell ⟨g, 4, none⟩ (.int .u16 x)).heap[g]? = some (Hd.cells { h with dp := x }) := by rw [heap_setCell_same _ _ _ _ _ _ H]; rfl
theorem ofst_move {l : List Int} {h h' : Hd} {g : Nat} {w W W' : World} (H : OfSt l h g w W) (hb : W'.heap[g + 2]? = some h'.cells) (h0 : ∀ i, i ≠ g + 2 → W'.heap[i]? = W.heap[i]?) (hn : Below w.heap.size w W') : OfSt l h' g w W' :=
  ⟨(h0 g (by omega)).trans H.a, (h0 (g + 1) (by omega)).trans H.r, hb, hn⟩
theorem set_heap (w : World) (b k : Nat) (v : Value) (i : Nat) (h : i ≠ b) : (w.setCell ⟨b, k, none⟩ v).heap[i]? = w.heap[i]? := heap_setCell_other _ _ _ _ h
theorem ofst_both {l : List Int} {h : Hd} {g : Nat} {w W : World} (H : OfSt l h g w W) (hg : w.heap.size ≤ g) (x y : Int) : OfSt l { h with src := x, dst := y } g w ((W.setCell ⟨g + 1 + 1, 0, none⟩ (.int .u32 x)).setCell ⟨g + 1 + 1, 1, none⟩ (.int .u32 y)).drew ∧ OfSt l { h with src := x, dst := y } g w ((W.setCell ⟨g + 1 + 1, 1, none⟩ (.int .u32 y)).setCell ⟨g + 1 + 1, 0, none⟩ (.int .u32 x)).drew :=
  ⟨ofst_move H (hd_set1 (hd_set0 H.b x) y) (fun i hi => (set_heap _ _ _ _ _ hi).trans (set_heap _ _ _ _ _ hi)) (((H.n.setCell (p := ⟨g + 1 + 1, 0, none⟩) (by show w.heap.size ≤ g + 1 + 1; omega) _).setCell (p := ⟨g + 1 + 1, 1, none⟩) (by show w.heap.size ≤ g + 1 + 1; omega) _).drew),
   ofst_move H (hd_set0 (hd_set1 H.b y) x) (fun i hi => (set_heap _ _ _ _ _ hi).trans (set_heap _ _ _ _ _ hi)) (((H.n.setCell (p := ⟨g + 1 + 1, 1, none⟩) (by show w.heap.size ≤ g + 1 + 1; omega) _).setCell (p := ⟨g + 1 + 1, 0, none⟩) (by show w.heap.size ≤ g + 1 + 1; omega) _).drew)⟩
theorem ofst_ports {l : List Int} {h : Hd} {g : Nat} {w W : World} (H : OfSt l h g w W) (hg : w.heap.size ≤ g) (x y : Int) : OfSt l { h with sp := x, dp := y } g w ((W.setCell ⟨g + 1 + 1, 3, none⟩ (.int .u16 x)).setCell ⟨g + 1 + 1, 4, none⟩ (.int .u16 y)).drew ∧ OfSt l { h with sp := x, dp := y } g w ((W.setCell ⟨g + 1 + 1, 4, none⟩ (.int .u16 y)).setCell ⟨g + 1 + 1, 3, none⟩ (.int .u16 x)).drew :=
  ⟨ofst_move H (hd_set4 (hd_set3 H.b x) y) (fun i hi => (set_heap _ _ _ _ _ hi).trans (set_heap _ _ _ _ _ hi)) (((H.n.setCell (p := ⟨g + 1 + 1, 3, none⟩) (by show w.heap.size ≤ g + 1 + 1; omega) _).setCell (p := ⟨g + 1 + 1, 4, none⟩) (by show w.heap.size ≤ g + 1 + 1; omega) _).drew),
   ofst_move H (hd_set3 (hd_set4 H.b y) x) (fun i hi => (set_heap _ _ _ _ _ hi).trans (set_heap _ _ _ _ _ hi)) (((H.n.setCell (p := ⟨g + 1 + 1, 4, none⟩) (by show w.heap.size ≤ g + 1 + 1; omega) _).setCell (p := ⟨g + 1 + 1, 3, none⟩) (by show w.heap.size ≤ g + 1 + 1; omega) _).drew)⟩
theorem results_hd {fn : Func} {tmps : Array Value} {w : World} {g : Nat} {h : Hd} {t1 : Nat} (hf : fn.results = #[.cell t1 48]) (h1 : tmps.getD t1 undef = .pointer (some ⟨g, 0, none⟩)) (k1 : w.heap[g]? = some h.cells) :
    (results fn tmps).run Tryd.prog w = .ok (.agg #[.int .u32 h.src, .int .u32 h.dst, .int .u8 h.proto, .int .u16 h.sp, .int .u16 h.dp]) w := by
  obtain ⟨c0, c1, c2, c3, c4⟩ := hd_cell k1
  have h1' : tmps[t1]?.getD undef = .pointer (some ⟨g, 0, none⟩) := by simpa using h1
  simp [results, hf, h1', go_sem, c0, c1, c2, c3, c4]
theorem wrap32_0 : IntKind.u32.wrap 0 = 0 := by decide
theorem wrap16_0 : IntKind.u16.wrap 0 = 0 := by decide
theorem wrap32_s (x : Int) (h0 : 0 ≤ x) (h1 : x < 4294967296) : IntKind.u32.wrap x = x := by simp [IntKind.wrap, IntKind.bits, IntKind.signed]; omega
theorem wrap16_s (x : Int) (h0 : 0 ≤ x) (h1 : x < 65536) : IntKind.u16.wrap x = x := by simp [IntKind.wrap, IntKind.bits, IntKind.signed]; omega
theorem or32 (x b : Int) (h0 : 0 ≤ x) (h1 : x < 16777216) (h2 : 0 ≤ b) (h3 : b < 256) : bits .or .u32 (IntKind.u32.wrap (x * 256)) (IntKind.u32.wrap b) = x * 256 + b := by
  obtain ⟨x, rfl⟩ := Int.eq_ofNat_of_zero_le h0
  obtain ⟨b, rfl⟩ := Int.eq_ofNat_of_zero_le h2
  have h := or_byte x b (by omega) (by omega)
  have e1 : IntKind.u32.wrap ((x : Int) * 256) = (x : Int) * 256 % 4294967296 := by simp [IntKind.wrap, IntKind.bits, IntKind.signed]
  have e2 : IntKind.u32.wrap (b : Int) = (b : Int) % 4294967296 := by simp [IntKind.wrap, IntKind.bits, IntKind.signed]
  rw [e1, e2, h]
  omega
theorem or32z (b : Int) (h2 : 0 ≤ b) (h3 : b < 256) : bits .or .u32 (IntKind.u32.wrap 0) (IntKind.u32.wrap b) = b := by
  have h := or32 0 b (by omega) (by omega) h2 h3
  simpa using h
theorem or16 (x b : Int) (h0 : 0 ≤ x) (h1 : x < 256) (h2 : 0 ≤ b) (h3 : b < 256) : bits .or .u16 (IntKind.u16.wrap (x * 256)) (IntKind.u16.wrap b) = x * 256 + b := by
  obtain ⟨x, rfl⟩ := Int.eq_ofNat_of_zero_le h0
  obtain ⟨b, rfl⟩ := Int.eq_ofNat_of_zero_le h2
  have e1 : IntKind.u16.wrap ((x : Int) * 256) = ((x * 256 : Nat) : Int) := by simp [IntKind.wrap, IntKind.bits, IntKind.signed]; omega
  have e2 : IntKind.u16.wrap (b : Int) = (b : Int) := by simp [IntKind.wrap, IntKind.bits, IntKind.signed]; omega
  have h := Nat.shiftLeft_add_eq_or_of_lt (b := b) (i := 8) (by omega) x
  rw [Nat.shiftLeft_eq, show (2 : Nat) ^ 8 = 256 from rfl] at h
  rw [e1, e2, u16_or _ _ (by omega) (by omega) (by omega) (by omega), Int.toNat_natCast, Int.toNat_natCast, ← h]
  simp
theorem or16z (b : Int) (h2 : 0 ≤ b) (h3 : b < 256) : bits .or .u16 (IntKind.u16.wrap 0) (IntKind.u16.wrap b) = b := by
  have h := or16 0 b (by omega) (by omega) h2 h3
  simpa using h
set_option maxRecDepth 100000 in
set_option maxHeartbeats 4000000 in
theorem of_any (b0 b1 b2 b3 b4 b5 b6 b7 b8 b9 b10 b11 b12 : Int) (hr : ∀ x ∈ [b0, b1, b2, b3, b4, b5, b6, b7, b8, b9, b10, b11, b12], 0 ≤ x ∧ x < 256) (w : World) :
    Calls Tryd.prog 32 #[.agg #[.int .u8 b0, .int .u8 b1, .int .u8 b2, .int .u8 b3, .int .u8 b4, .int .u8 b5, .int .u8 b6, .int .u8 b7, .int .u8 b8, .int .u8 b9, .int .u8 b10, .int .u8 b11, .int .u8 b12]] w fun e w' => e = .returned (.agg (ofB [b0, b1, b2, b3, b4, b5, b6, b7, b8, b9, b10, b11, b12]).enc.toArray) ∧ Below w.heap.size w w' := by
  go_enter Tryd.func32, Tryd.ntmps32
  go_wp2
  have hS : Hid (OfSt [b0, b1, b2, b3, b4, b5, b6, b7, b8, b9, b10, b11, b12] ⟨0, 0, b8, 0, 0⟩ w.heap.size w (((w.alloc (.cells #[.int .u8 b0, .int .u8 b1, .int .u8 b2, .int .u8 b3, .int .u8 b4, .int .u8 b5, .int .u8 b6, .int .u8 b7, .int .u8 b8, .int .u8 b9, .int .u8 b10, .int .u8 b11, .int .u8 b12] 49)).alloc (.cells #[.int .u32 0, .int .u32 0, .int .u8 0, .int .u16 0, .int .u16 0] 48)).alloc (.cells #[.int .u32 0, .int .u32 0, .int .u8 b8, .int .u16 0, .int .u16 0] 48))) := by
    obtain ⟨k0, k1, k2⟩ := blk3 w (.cells #[.int .u8 b0, .int .u8 b1, .int .u8 b2, .int .u8 b3, .int .u8 b4, .int .u8 b5, .int .u8 b6, .int .u8 b7, .int .u8 b8, .int .u8 b9, .int .u8 b10, .int .u8 b11, .int .u8 b12] 49) (.cells #[.int .u32 0, .int .u32 0, .int .u8 0, .int .u16 0, .int .u16 0] 48) (.cells #[.int .u32 0, .int .u32 0, .int .u8 b8, .int .u16 0, .int .u16 0] 48)
    exact Lib.hid ⟨k0, k1, k2, below3 w _ _ _⟩
  generalize (((w.alloc (.cells #[.int .u8 b0, .int .u8 b1, .int .u8 b2, .int .u8 b3, .int .u8 b4, .int .u8 b5, .int .u8 b6, .int .u8 b7, .int .u8 b8, .int .u8 b9, .int .u8 b10, .int .u8 b11, .int .u8 b12] 49)).alloc (.cells #[.int .u32 0, .int .u32 0, .int .u8 0, .int .u16 0, .int .u16 0] 48)).alloc (.cells #[.int .u32 0, .int .u32 0, .int .u8 b8, .int .u16 0, .int .u16 0] 48)) = W at *
  simp only [List.mem_cons, List.mem_nil_iff, or_false, forall_eq_or_imp, forall_eq] at hr
  obtain ⟨⟨e0, l0⟩, ⟨e1, l1⟩, ⟨e2, l2⟩, ⟨e3, l3⟩, ⟨e4, l4⟩, ⟨e5, l5⟩, ⟨e6, l6⟩, ⟨e7, l7⟩, ⟨e8, l8⟩, ⟨e9, l9⟩, ⟨e10, l10⟩, ⟨e11, l11⟩, ⟨e12, l12⟩⟩ := hr
  go_loopw [9] (fun i wr => ∃ k : Nat, i = .int .i64 k ∧ k ≤ 4 ∧ Hid (OfSt [b0, b1, b2, b3, b4, b5, b6, b7, b8, b9, b10, b11, b12] (match k with | 0 => ⟨0, 0, b8, 0, 0⟩ | 1 => ⟨b0, b4, b8, 0, 0⟩ | 2 => ⟨(b0 * 256 + b1), (b4 * 256 + b5), b8, 0, 0⟩ | 3 => ⟨((b0 * 256 + b1) * 256 + b2), ((b4 * 256 + b5) * 256 + b6), b8, 0, 0⟩ | _ => ⟨(((b0 * 256 + b1) * 256 + b2) * 256 + b3), (((b4 * 256 + b5) * 256 + b6) * 256 + b7), b8, 0, 0⟩) w.heap.size w wr)) (fun i _ => 4 - (intOf i).toNat)
  case atStart => exact ⟨0, rfl, by omega, hS⟩
  case round =>
    obtain ⟨k, rfl, hk, hSr⟩ := hrel
    clear hS
    by_cases hlt : k < 4
    · have hI : (k : Int) < 4 := by omega
      rcases (show k = 0 ∨ k = 1 ∨ k = 2 ∨ k = 3 by omega) with rfl | rfl | rfl | rfl
      · have hSk : OfSt [b0, b1, b2, b3, b4, b5, b6, b7, b8, b9, b10, b11, b12] ⟨0, 0, b8, 0, 0⟩ w.heap.size w wr := hSr.out
        obtain ⟨c0, c1, c2, c3, c4⟩ := hd_cell hSk.b
        have z0 := hd_frozen hSk.b 0
        have z1 := hd_frozen hSk.b 1
        have q0 := arr_cell hSk.a (k := 0) (x := b0) rfl
        have q4 := arr_cell hSk.a (k := 4) (x := b4) rfl
        have n1 : w.heap.size ≠ w.heap.size + 1 + 1 := by omega
        have n2 : w.heap.size + 1 + 1 ≠ w.heap.size := by omega
        have y0 : IntKind.i64.wrap 0 = 0 := by decide
        have y4 : IntKind.i64.wrap 4 = 4 := by decide
        have e1 : (bits .or .u32 (IntKind.u32.wrap (0)) (IntKind.u32.wrap b0)) = b0 := or32z b0 (by omega) (by omega)
        have e2 : (bits .or .u32 (IntKind.u32.wrap (0)) (IntKind.u32.wrap b4)) = b4 := or32z b4 (by omega) (by omega)
        have hA : OfSt [b0, b1, b2, b3, b4, b5, b6, b7, b8, b9, b10, b11, b12] ⟨b0, b4, b8, 0, 0⟩ w.heap.size w ((wr.setCell ⟨w.heap.size + 1 + 1, 0, none⟩ (.int .u32 (bits .or .u32 (IntKind.u32.wrap (0)) (IntKind.u32.wrap b0)))).setCell ⟨w.heap.size + 1 + 1, 1, none⟩ (.int .u32 (bits .or .u32 (IntKind.u32.wrap (0)) (IntKind.u32.wrap b4)))).drew := by
          have hN := (ofst_both hSk (Nat.le_refl _) (bits .or .u32 (IntKind.u32.wrap (0)) (IntKind.u32.wrap b0)) (bits .or .u32 (IntKind.u32.wrap (0)) (IntKind.u32.wrap b4))).1
          rw [e1, e2] at hN ⊢
          exact hN
        have hB : OfSt [b0, b1, b2, b3, b4, b5, b6, b7, b8, b9, b10, b11, b12] ⟨b0, b4, b8, 0, 0⟩ w.heap.size w ((wr.setCell ⟨w.heap.size + 1 + 1, 0, none⟩ (.int .u32 (bits .or .u32 (0) b0))).setCell ⟨w.heap.size + 1 + 1, 1, none⟩ (.int .u32 (bits .or .u32 (0) b4))).drew := by
          have hN := hA
          rw [wrap32_s b0 (by omega) (by omega), wrap32_s b4 (by omega) (by omega), wrap32_s (0) (by omega) (by omega)] at hN
          exact hN
        have hN2 := Lib.hid hA
        have hN3 := Lib.hid hB
        clear hA hB hSk hSr e1 e2
        go_upto_region 5 with fail
        go_region
        all_goals (clear q0 q4 z0 z1 c0 c1 c2 c3 c4; go_wp2; first | exact ⟨⟨1, rfl, by omega, hN3⟩, by simp only [intOf]; omega⟩ | exact ⟨⟨1, rfl, by omega, hN2⟩, by simp only [intOf]; omega⟩)
      · have hSk : OfSt [b0, b1, b2, b3, b4, b5, b6, b7, b8, b9, b10, b11, b12] ⟨b0, b4, b8, 0, 0⟩ w.heap.size w wr := hSr.out
        obtain ⟨c0, c1, c2, c3, c4⟩ := hd_cell hSk.b
        have z0 := hd_frozen hSk.b 0
        have z1 := hd_frozen hSk.b 1
        have q0 := arr_cell hSk.a (k := 1) (x := b1) rfl
        have q4 := arr_cell hSk.a (k := 5) (x := b5) rfl
        have n1 : w.heap.size ≠ w.heap.size + 1 + 1 := by omega
        have n2 : w.heap.size + 1 + 1 ≠ w.heap.size := by omega
        have y1 : IntKind.i64.wrap 1 = 1 := by decide
        have y5 : IntKind.i64.wrap 5 = 5 := by decide
        have e1 : (bits .or .u32 (IntKind.u32.wrap (b0 * 256)) (IntKind.u32.wrap b1)) = (b0 * 256 + b1) := or32 (b0) b1 (by omega) (by omega) (by omega) (by omega)
        have e2 : (bits .or .u32 (IntKind.u32.wrap (b4 * 256)) (IntKind.u32.wrap b5)) = (b4 * 256 + b5) := or32 (b4) b5 (by omega) (by omega) (by omega) (by omega)
        have hA : OfSt [b0, b1, b2, b3, b4, b5, b6, b7, b8, b9, b10, b11, b12] ⟨(b0 * 256 + b1), (b4 * 256 + b5), b8, 0, 0⟩ w.heap.size w ((wr.setCell ⟨w.heap.size + 1 + 1, 0, none⟩ (.int .u32 (bits .or .u32 (IntKind.u32.wrap (b0 * 256)) (IntKind.u32.wrap b1)))).setCell ⟨w.heap.size + 1 + 1, 1, none⟩ (.int .u32 (bits .or .u32 (IntKind.u32.wrap (b4 * 256)) (IntKind.u32.wrap b5)))).drew := by
          have hN := (ofst_both hSk (Nat.le_refl _) (bits .or .u32 (IntKind.u32.wrap (b0 * 256)) (IntKind.u32.wrap b1)) (bits .or .u32 (IntKind.u32.wrap (b4 * 256)) (IntKind.u32.wrap b5))).1
          rw [e1, e2] at hN ⊢
          exact hN
        have hB : OfSt [b0, b1, b2, b3, b4, b5, b6, b7, b8, b9, b10, b11, b12] ⟨(b0 * 256 + b1), (b4 * 256 + b5), b8, 0, 0⟩ w.heap.size w ((wr.setCell ⟨w.heap.size + 1 + 1, 0, none⟩ (.int .u32 (bits .or .u32 (b0 * 256) b1))).setCell ⟨w.heap.size + 1 + 1, 1, none⟩ (.int .u32 (bits .or .u32 (b4 * 256) b5))).drew := by
          have hN := hA
          rw [wrap32_s b1 (by omega) (by omega), wrap32_s b5 (by omega) (by omega), wrap32_s (b0 * 256) (by omega) (by omega), wrap32_s (b4 * 256) (by omega) (by omega)] at hN
          exact hN
        have hN2 := Lib.hid hA
        have hN3 := Lib.hid hB
        clear hA hB hSk hSr e1 e2
        go_upto_region 5 with fail
        go_region
        all_goals (clear q0 q4 z0 z1 c0 c1 c2 c3 c4; go_wp2; first | exact ⟨⟨2, rfl, by omega, hN3⟩, by simp only [intOf]; omega⟩ | exact ⟨⟨2, rfl, by omega, hN2⟩, by simp only [intOf]; omega⟩)
      · have hSk : OfSt [b0, b1, b2, b3, b4, b5, b6, b7, b8, b9, b10, b11, b12] ⟨(b0 * 256 + b1), (b4 * 256 + b5), b8, 0, 0⟩ w.heap.size w wr := hSr.out
        obtain ⟨c0, c1, c2, c3, c4⟩ := hd_cell hSk.b
        have z0 := hd_frozen hSk.b 0
        have z1 := hd_frozen hSk.b 1
        have q0 := arr_cell hSk.a (k := 2) (x := b2) rfl
        have q4 := arr_cell hSk.a (k := 6) (x := b6) rfl
        have n1 : w.heap.size ≠ w.heap.size + 1 + 1 := by omega
        have n2 : w.heap.size + 1 + 1 ≠ w.heap.size := by omega
        have y2 : IntKind.i64.wrap 2 = 2 := by decide
        have y6 : IntKind.i64.wrap 6 = 6 := by decide
        have e1 : (bits .or .u32 (IntKind.u32.wrap ((b0 * 256 + b1) * 256)) (IntKind.u32.wrap b2)) = ((b0 * 256 + b1) * 256 + b2) := or32 ((b0 * 256 + b1)) b2 (by omega) (by omega) (by omega) (by omega)
        have e2 : (bits .or .u32 (IntKind.u32.wrap ((b4 * 256 + b5) * 256)) (IntKind.u32.wrap b6)) = ((b4 * 256 + b5) * 256 + b6) := or32 ((b4 * 256 + b5)) b6 (by omega) (by omega) (by omega) (by omega)
        have hA : OfSt [b0, b1, b2, b3, b4, b5, b6, b7, b8, b9, b10, b11, b12] ⟨((b0 * 256 + b1) * 256 + b2), ((b4 * 256 + b5) * 256 + b6), b8, 0, 0⟩ w.heap.size w ((wr.setCell ⟨w.heap.size + 1 + 1, 0, none⟩ (.int .u32 (bits .or .u32 (IntKind.u32.wrap ((b0 * 256 + b1) * 256)) (IntKind.u32.wrap b2)))).setCell ⟨w.heap.size + 1 + 1, 1, none⟩ (.int .u32 (bits .or .u32 (IntKind.u32.wrap ((b4 * 256 + b5) * 256)) (IntKind.u32.wrap b6)))).drew := by
          have hN := (ofst_both hSk (Nat.le_refl _) (bits .or .u32 (IntKind.u32.wrap ((b0 * 256 + b1) * 256)) (IntKind.u32.wrap b2)) (bits .or .u32 (IntKind.u32.wrap ((b4 * 256 + b5) * 256)) (IntKind.u32.wrap b6))).1
          rw [e1, e2] at hN ⊢
          exact hN
        have hB : OfSt [b0, b1, b2, b3, b4, b5, b6, b7, b8, b9, b10, b11, b12] ⟨((b0 * 256 + b1) * 256 + b2), ((b4 * 256 + b5) * 256 + b6), b8, 0, 0⟩ w.heap.size w ((wr.setCell ⟨w.heap.size + 1 + 1, 0, none⟩ (.int .u32 (bits .or .u32 ((b0 * 256 + b1) * 256) b2))).setCell ⟨w.heap.size + 1 + 1, 1, none⟩ (.int .u32 (bits .or .u32 ((b4 * 256 + b5) * 256) b6))).drew := by
          have hN := hA
          rw [wrap32_s b2 (by omega) (by omega), wrap32_s b6 (by omega) (by omega), wrap32_s ((b0 * 256 + b1) * 256) (by omega) (by omega), wrap32_s ((b4 * 256 + b5) * 256) (by omega) (by omega)] at hN
          exact hN
        have hN2 := Lib.hid hA
        have hN3 := Lib.hid hB
        clear hA hB hSk hSr e1 e2
        go_upto_region 5 with fail
        go_region
        all_goals (clear q0 q4 z0 z1 c0 c1 c2 c3 c4; go_wp2; first | exact ⟨⟨3, rfl, by omega, hN3⟩, by simp only [intOf]; omega⟩ | exact ⟨⟨3, rfl, by omega, hN2⟩, by simp only [intOf]; omega⟩)
      · have hSk : OfSt [b0, b1, b2, b3, b4, b5, b6, b7, b8, b9, b10, b11, b12] ⟨((b0 * 256 + b1) * 256 + b2), ((b4 * 256 + b5) * 256 + b6), b8, 0, 0⟩ w.heap.size w wr := hSr.out
        obtain ⟨c0, c1, c2, c3, c4⟩ := hd_cell hSk.b
        have z0 := hd_frozen hSk.b 0
        have z1 := hd_frozen hSk.b 1
        have q0 := arr_cell hSk.a (k := 3) (x := b3) rfl
        have q4 := arr_cell hSk.a (k := 7) (x := b7) rfl
        have n1 : w.heap.size ≠ w.heap.size + 1 + 1 := by omega
        have n2 : w.heap.size + 1 + 1 ≠ w.heap.size := by omega
        have y3 : IntKind.i64.wrap 3 = 3 := by decide
        have y7 : IntKind.i64.wrap 7 = 7 := by decide
        have e1 : (bits .or .u32 (IntKind.u32.wrap (((b0 * 256 + b1) * 256 + b2) * 256)) (IntKind.u32.wrap b3)) = (((b0 * 256 + b1) * 256 + b2) * 256 + b3) := or32 (((b0 * 256 + b1) * 256 + b2)) b3 (by omega) (by omega) (by omega) (by omega)
        have e2 : (bits .or .u32 (IntKind.u32.wrap (((b4 * 256 + b5) * 256 + b6) * 256)) (IntKind.u32.wrap b7)) = (((b4 * 256 + b5) * 256 + b6) * 256 + b7) := or32 (((b4 * 256 + b5) * 256 + b6)) b7 (by omega) (by omega) (by omega) (by omega)
        have hA : OfSt [b0, b1, b2, b3, b4, b5, b6, b7, b8, b9, b10, b11, b12] ⟨(((b0 * 256 + b1) * 256 + b2) * 256 + b3), (((b4 * 256 + b5) * 256 + b6) * 256 + b7), b8, 0, 0⟩ w.heap.size w ((wr.setCell ⟨w.heap.size + 1 + 1, 0, none⟩ (.int .u32 (bits .or .u32 (IntKind.u32.wrap (((b0 * 256 + b1) * 256 + b2) * 256)) (IntKind.u32.wrap b3)))).setCell ⟨w.heap.size + 1 + 1, 1, none⟩ (.int .u32 (bits .or .u32 (IntKind.u32.wrap (((b4 * 256 + b5) * 256 + b6) * 256)) (IntKind.u32.wrap b7)))).drew := by
          have hN := (ofst_both hSk (Nat.le_refl _) (bits .or .u32 (IntKind.u32.wrap (((b0 * 256 + b1) * 256 + b2) * 256)) (IntKind.u32.wrap b3)) (bits .or .u32 (IntKind.u32.wrap (((b4 * 256 + b5) * 256 + b6) * 256)) (IntKind.u32.wrap b7))).1
          rw [e1, e2] at hN ⊢
          exact hN
        have hB : OfSt [b0, b1, b2, b3, b4, b5, b6, b7, b8, b9, b10, b11, b12] ⟨(((b0 * 256 + b1) * 256 + b2) * 256 + b3), (((b4 * 256 + b5) * 256 + b6) * 256 + b7), b8, 0, 0⟩ w.heap.size w ((wr.setCell ⟨w.heap.size + 1 + 1, 0, none⟩ (.int .u32 (bits .or .u32 (((b0 * 256 + b1) * 256 + b2) * 256) b3))).setCell ⟨w.heap.size + 1 + 1, 1, none⟩ (.int .u32 (bits .or .u32 (((b4 * 256 + b5) * 256 + b6) * 256) b7))).drew := by
          have hN := hA
          rw [wrap32_s b3 (by omega) (by omega), wrap32_s b7 (by omega) (by omega), wrap32_s (((b0 * 256 + b1) * 256 + b2) * 256) (by omega) (by omega), wrap32_s (((b4 * 256 + b5) * 256 + b6) * 256) (by omega) (by omega)] at hN
          exact hN
        have hN2 := Lib.hid hA
        have hN3 := Lib.hid hB
        clear hA hB hSk hSr e1 e2
        go_upto_region 5 with fail
        go_region
        all_goals (clear q0 q4 z0 z1 c0 c1 c2 c3 c4; go_wp2; first | exact ⟨⟨4, rfl, by omega, hN3⟩, by simp only [intOf]; omega⟩ | exact ⟨⟨4, rfl, by omega, hN2⟩, by simp only [intOf]; omega⟩)
    · obtain rfl : k = 4 := by omega
      have hSk : Hid (OfSt [b0, b1, b2, b3, b4, b5, b6, b7, b8, b9, b10, b11, b12] ⟨(((b0 * 256 + b1) * 256 + b2) * 256 + b3), (((b4 * 256 + b5) * 256 + b6) * 256 + b7), b8, 0, 0⟩ w.heap.size w wr) := hSr
      clear hSr
      go_wp2
      go_loopw [32] (fun i wr => ∃ k : Nat, i = .int .i64 k ∧ k ≤ 2 ∧ Hid (OfSt [b0, b1, b2, b3, b4, b5, b6, b7, b8, b9, b10, b11, b12] (match k with | 0 => ⟨(((b0 * 256 + b1) * 256 + b2) * 256 + b3), (((b4 * 256 + b5) * 256 + b6) * 256 + b7), b8, 0, 0⟩ | 1 => ⟨(((b0 * 256 + b1) * 256 + b2) * 256 + b3), (((b4 * 256 + b5) * 256 + b6) * 256 + b7), b8, b9, b11⟩ | _ => ⟨(((b0 * 256 + b1) * 256 + b2) * 256 + b3), (((b4 * 256 + b5) * 256 + b6) * 256 + b7), b8, (b9 * 256 + b10), (b11 * 256 + b12)⟩) w.heap.size w wr)) (fun i _ => 2 - (intOf i).toNat)
      case atStart => exact ⟨0, rfl, by omega, hSk⟩
      case round =>
        clear hSk
        obtain ⟨k, rfl, hk2, hSr⟩ := hrel
        by_cases hlt2 : k < 2
        · have hI : (k : Int) < 2 := by omega
          rcases (show k = 0 ∨ k = 1 by omega) with rfl | rfl
          · have hSk : OfSt [b0, b1, b2, b3, b4, b5, b6, b7, b8, b9, b10, b11, b12] ⟨(((b0 * 256 + b1) * 256 + b2) * 256 + b3), (((b4 * 256 + b5) * 256 + b6) * 256 + b7), b8, 0, 0⟩ w.heap.size w wr := hSr.out
            obtain ⟨c0, c1, c2, c3, c4⟩ := hd_cell hSk.b
            have z0 := hd_frozen hSk.b 3
            have z1 := hd_frozen hSk.b 4
            have q0 := arr_cell hSk.a (k := 9) (x := b9) rfl
            have q4 := arr_cell hSk.a (k := 11) (x := b11) rfl
            have n1 : w.heap.size ≠ w.heap.size + 1 + 1 := by omega
            have n2 : w.heap.size + 1 + 1 ≠ w.heap.size := by omega
            have y9 : IntKind.i64.wrap 9 = 9 := by decide
            have y11 : IntKind.i64.wrap 11 = 11 := by decide
            have e1 : (bits .or .u16 (IntKind.u16.wrap (0)) (IntKind.u16.wrap b9)) = b9 := or16z b9 (by omega) (by omega)
            have e2 : (bits .or .u16 (IntKind.u16.wrap (0)) (IntKind.u16.wrap b11)) = b11 := or16z b11 (by omega) (by omega)
            have hA : OfSt [b0, b1, b2, b3, b4, b5, b6, b7, b8, b9, b10, b11, b12] ⟨(((b0 * 256 + b1) * 256 + b2) * 256 + b3), (((b4 * 256 + b5) * 256 + b6) * 256 + b7), b8, b9, b11⟩ w.heap.size w ((wr.setCell ⟨w.heap.size + 1 + 1, 3, none⟩ (.int .u16 (bits .or .u16 (IntKind.u16.wrap (0)) (IntKind.u16.wrap b9)))).setCell ⟨w.heap.size + 1 + 1, 4, none⟩ (.int .u16 (bits .or .u16 (IntKind.u16.wrap (0)) (IntKind.u16.wrap b11)))).drew := by
              have hN := (ofst_ports hSk (Nat.le_refl _) (bits .or .u16 (IntKind.u16.wrap (0)) (IntKind.u16.wrap b9)) (bits .or .u16 (IntKind.u16.wrap (0)) (IntKind.u16.wrap b11))).1
              rw [e1, e2] at hN ⊢
              exact hN
            have hB : OfSt [b0, b1, b2, b3, b4, b5, b6, b7, b8, b9, b10, b11, b12] ⟨(((b0 * 256 + b1) * 256 + b2) * 256 + b3), (((b4 * 256 + b5) * 256 + b6) * 256 + b7), b8, b9, b11⟩ w.heap.size w ((wr.setCell ⟨w.heap.size + 1 + 1, 3, none⟩ (.int .u16 (bits .or .u16 (0) b9))).setCell ⟨w.heap.size + 1 + 1, 4, none⟩ (.int .u16 (bits .or .u16 (0) b11))).drew := by
              have hN := hA
              rw [wrap16_s b9 (by omega) (by omega), wrap16_s b11 (by omega) (by omega), wrap16_s (0) (by omega) (by omega)] at hN
              exact hN
            have hN2 := Lib.hid hA
            have hN3 := Lib.hid hB
            clear hA hB hSk hSr e1 e2
            go_upto_region 10 with fail
            go_region
            all_goals (clear q0 q4 z0 z1 c0 c1 c2 c3 c4; go_wp2; go_roundw)
            all_goals first
              | (exact ⟨1, rfl, by omega, hN3⟩)
              | (exact ⟨1, rfl, by omega, hN2⟩)
              | ((repeat apply Exists.intro); first | exact ⟨⟨1, rfl, by omega, hN3⟩, rfl⟩ | exact ⟨⟨1, rfl, by omega, hN2⟩, rfl⟩)
              | (change 2 - (intOf (Value.int .i64 1)).toNat < 2 - (intOf (Value.int .i64 ((0 : Nat) : Int))).toNat; simp only [intOf]; omega)
          · have hSk : OfSt [b0, b1, b2, b3, b4, b5, b6, b7, b8, b9, b10, b11, b12] ⟨(((b0 * 256 + b1) * 256 + b2) * 256 + b3), (((b4 * 256 + b5) * 256 + b6) * 256 + b7), b8, b9, b11⟩ w.heap.size w wr := hSr.out
            obtain ⟨c0, c1, c2, c3, c4⟩ := hd_cell hSk.b
            have z0 := hd_frozen hSk.b 3
            have z1 := hd_frozen hSk.b 4
            have q0 := arr_cell hSk.a (k := 10) (x := b10) rfl
            have q4 := arr_cell hSk.a (k := 12) (x := b12) rfl
            have n1 : w.heap.size ≠ w.heap.size + 1 + 1 := by omega
            have n2 : w.heap.size + 1 + 1 ≠ w.heap.size := by omega
            have y10 : IntKind.i64.wrap 10 = 10 := by decide
            have y12 : IntKind.i64.wrap 12 = 12 := by decide
            have e1 : (bits .or .u16 (IntKind.u16.wrap (b9 * 256)) (IntKind.u16.wrap b10)) = (b9 * 256 + b10) := or16 (b9) b10 (by omega) (by omega) (by omega) (by omega)
            have e2 : (bits .or .u16 (IntKind.u16.wrap (b11 * 256)) (IntKind.u16.wrap b12)) = (b11 * 256 + b12) := or16 (b11) b12 (by omega) (by omega) (by omega) (by omega)
            have hA : OfSt [b0, b1, b2, b3, b4, b5, b6, b7, b8, b9, b10, b11, b12] ⟨(((b0 * 256 + b1) * 256 + b2) * 256 + b3), (((b4 * 256 + b5) * 256 + b6) * 256 + b7), b8, (b9 * 256 + b10), (b11 * 256 + b12)⟩ w.heap.size w ((wr.setCell ⟨w.heap.size + 1 + 1, 3, none⟩ (.int .u16 (bits .or .u16 (IntKind.u16.wrap (b9 * 256)) (IntKind.u16.wrap b10)))).setCell ⟨w.heap.size + 1 + 1, 4, none⟩ (.int .u16 (bits .or .u16 (IntKind.u16.wrap (b11 * 256)) (IntKind.u16.wrap b12)))).drew := by
              have hN := (ofst_ports hSk (Nat.le_refl _) (bits .or .u16 (IntKind.u16.wrap (b9 * 256)) (IntKind.u16.wrap b10)) (bits .or .u16 (IntKind.u16.wrap (b11 * 256)) (IntKind.u16.wrap b12))).1
              rw [e1, e2] at hN ⊢
              exact hN
            have hB : OfSt [b0, b1, b2, b3, b4, b5, b6, b7, b8, b9, b10, b11, b12] ⟨(((b0 * 256 + b1) * 256 + b2) * 256 + b3), (((b4 * 256 + b5) * 256 + b6) * 256 + b7), b8, (b9 * 256 + b10), (b11 * 256 + b12)⟩ w.heap.size w ((wr.setCell ⟨w.heap.size + 1 + 1, 3, none⟩ (.int .u16 (bits .or .u16 (b9 * 256) b10))).setCell ⟨w.heap.size + 1 + 1, 4, none⟩ (.int .u16 (bits .or .u16 (b11 * 256) b12))).drew := by
              have hN := hA
              rw [wrap16_s b10 (by omega) (by omega), wrap16_s b12 (by omega) (by omega), wrap16_s (b9 * 256) (by omega) (by omega), wrap16_s (b11 * 256) (by omega) (by omega)] at hN
              exact hN
            have hN2 := Lib.hid hA
            have hN3 := Lib.hid hB
            clear hA hB hSk hSr e1 e2
            go_upto_region 10 with fail
            go_region
            all_goals (clear q0 q4 z0 z1 c0 c1 c2 c3 c4; go_wp2; go_roundw)
            all_goals first
              | (exact ⟨2, rfl, by omega, hN3⟩)
              | (exact ⟨2, rfl, by omega, hN2⟩)
              | ((repeat apply Exists.intro); first | exact ⟨⟨2, rfl, by omega, hN3⟩, rfl⟩ | exact ⟨⟨2, rfl, by omega, hN2⟩, rfl⟩)
              | (change 2 - (intOf (Value.int .i64 2)).toNat < 2 - (intOf (Value.int .i64 ((1 : Nat) : Int))).toNat; simp only [intOf]; omega)
        · obtain rfl : k = 2 := by omega
          have hSk : OfSt [b0, b1, b2, b3, b4, b5, b6, b7, b8, b9, b10, b11, b12] ⟨(((b0 * 256 + b1) * 256 + b2) * 256 + b3), (((b4 * 256 + b5) * 256 + b6) * 256 + b7), b8, (b9 * 256 + b10), (b11 * 256 + b12)⟩ w.heap.size w wr := hSr.out
          obtain ⟨c0, c1, c2, c3, c4⟩ := hd_cell hSk.b
          obtain ⟨d0, d1, d2, d3, d4⟩ := hd_cell hSk.r
          have z0 := hd_frozen hSk.r 0
          have z1 := hd_frozen hSk.r 1
          have z2 := hd_frozen hSk.r 2
          have z3 := hd_frozen hSk.r 3
          have z4 := hd_frozen hSk.r 4
          clear hSk
          go_wp2
          have hSk : OfSt [b0, b1, b2, b3, b4, b5, b6, b7, b8, b9, b10, b11, b12] ⟨(((b0 * 256 + b1) * 256 + b2) * 256 + b3), (((b4 * 256 + b5) * 256 + b6) * 256 + b7), b8, (b9 * 256 + b10), (b11 * 256 + b12)⟩ w.heap.size w wr := hSr.out
          have hb := hSk.n
          exact bodyPost_ret (results_hd (t1 := 2) (g := w.heap.size + 1) Tryd.results32 rfl (hd_set4 (hd_set3 (hd_set2 (hd_set1 (hd_set0 hSk.r _) _) _) _) _)) rfl ⟨rfl, ((((hb.setCell (p := ⟨w.heap.size + 1, 0, none⟩) (Nat.le_succ _) _).setCell (p := ⟨w.heap.size + 1, 1, none⟩) (Nat.le_succ _) _).setCell (p := ⟨w.heap.size + 1, 2, none⟩) (Nat.le_succ _) _).setCell (p := ⟨w.heap.size + 1, 3, none⟩) (Nat.le_succ _) _).setCell (p := ⟨w.heap.size + 1, 4, none⟩) (Nat.le_succ _) _⟩
end Go.Proofs.YtdlhpiknifcehaaDoor
