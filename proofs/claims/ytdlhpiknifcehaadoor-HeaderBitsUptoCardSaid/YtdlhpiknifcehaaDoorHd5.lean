/-
  Walks over headers: With.
-/
import Derived.Test.YtdlhpiknifcehaaDoorHd4
namespace Go.Proofs.YtdlhpiknifcehaaDoor
open Go Go.RowKit Go.Sort

set_option maxRecDepth 100000 in
set_option maxHeartbeats 2000000 in
theorem of_bytes (h : Hd) (ho : h.ok) (w : World) :
    Calls Tryd.prog 32 #[.agg #[.int .u8 (h.src / 16777216), .int .u8 (h.src / 65536 % 256), .int .u8 (h.src / 256 % 256), .int .u8 (h.src % 256), .int .u8 (h.dst / 16777216), .int .u8 (h.dst / 65536 % 256), .int .u8 (h.dst / 256 % 256), .int .u8 (h.dst % 256), .int .u8 (h.proto), .int .u8 (h.sp / 256), .int .u8 (h.sp % 256), .int .u8 (h.dp / 256), .int .u8 (h.dp % 256)]] w fun e w' => e = .returned (.agg #[.int .u32 h.src, .int .u32 h.dst, .int .u8 h.proto, .int .u16 h.sp, .int .u16 h.dp]) ∧ Below w.heap.size w w' := by
  have h1 := of_any (h.src / 16777216) (h.src / 65536 % 256) (h.src / 256 % 256) (h.src % 256) (h.dst / 16777216) (h.dst / 65536 % 256) (h.dst / 256 % 256) (h.dst % 256) h.proto (h.sp / 256) (h.sp % 256) (h.dp / 256) (h.dp % 256) (bytes_range h ho) w
  have h2 : ofB [h.src / 16777216, h.src / 65536 % 256, h.src / 256 % 256, h.src % 256, h.dst / 16777216, h.dst / 65536 % 256, h.dst / 256 % 256, h.dst % 256, h.proto, h.sp / 256, h.sp % 256, h.dp / 256, h.dp % 256] = h := ofB_bytes ho
  rw [h2] at h1
  exact h1
/-- The cells of an array of a header's bytes. -/
theorem bytes_cells {w : World} {g : Nat} {h : Hd} (H : w.heap[g]? = some (arr h.bytes)) : w.cell? ⟨g, 0, none⟩ = some (.int .u8 (h.src / 16777216)) ∧ w.cell? ⟨g, 1, none⟩ = some (.int .u8 (h.src / 65536 % 256)) ∧ w.cell? ⟨g, 2, none⟩ = some (.int .u8 (h.src / 256 % 256)) ∧ w.cell? ⟨g, 3, none⟩ = some (.int .u8 (h.src % 256)) ∧ w.cell? ⟨g, 4, none⟩ = some (.int .u8 (h.dst / 16777216)) ∧ w.cell? ⟨g, 5, none⟩ = some (.int .u8 (h.dst / 65536 % 256)) ∧ w.cell? ⟨g, 6, none⟩ = some (.int .u8 (h.dst / 256 % 256)) ∧ w.cell? ⟨g, 7, none⟩ = some (.int .u8 (h.dst % 256)) ∧ w.cell? ⟨g, 8, none⟩ = some (.int .u8 h.proto) ∧ w.cell? ⟨g, 9, none⟩ = some (.int .u8 (h.sp / 256)) ∧ w.cell? ⟨g, 10, none⟩ = some (.int .u8 (h.sp % 256)) ∧ w.cell? ⟨g, 11, none⟩ = some (.int .u8 (h.dp / 256)) ∧ w.cell? ⟨g, 12, none⟩ = some (.int .u8 (h.dp % 256)) := by
  refine ⟨arr_cell H (k := 0) rfl, arr_cell H (k := 1) rfl, arr_cell H (k := 2) rfl, arr_cell H (k := 3) rfl, arr_cell H (k := 4) rfl, arr_cell H (k := 5) rfl, arr_cell H (k := 6) rfl, arr_cell H (k := 7) rfl, arr_cell H (k := 8) rfl, arr_cell H (k := 9) rfl, arr_cell H (k := 10) rfl, arr_cell H (k := 11) rfl, arr_cell H (k := 12) rfl⟩
theorem results_hd2 {fn : Func} {tmps : Array Value} {w : World} {g : Nat} {h : Hd} {e : Value} {t1 t3 : Nat} (hf : fn.results = #[.cell t1 48, .tmp t3]) (h1 : tmps.getD t1 undef = .pointer (some ⟨g, 0, none⟩)) (h3 : tmps.getD t3 undef = e) (k1 : w.heap[g]? = some h.cells) :
    (results fn tmps).run Tryd.prog w = .ok (.tuple #[.agg #[.int .u32 h.src, .int .u32 h.dst, .int .u8 h.proto, .int .u16 h.sp, .int .u16 h.dp], e]) w := by
  obtain ⟨c0, c1, c2, c3, c4⟩ := hd_cell k1
  have h1' : tmps[t1]?.getD undef = .pointer (some ⟨g, 0, none⟩) := by simpa using h1
  have h3' : tmps[t3]?.getD undef = e := by simpa using h3
  simp [results, hf, h1', h3', go_sem, c0, c1, c2, c3, c4]
theorem xor_bit (v r : Nat) (hr : r < 8) (hv : (v : Int) < 256) : bits .xor .u8 (v : Int) (128 / 2 ^ r) = ((v ^^^ 2 ^ (7 - r) : Nat) : Int) := by
  have e : (128 : Int) / 2 ^ r = ((2 ^ (7 - r) : Nat) : Int) := by
    match r, hr with
    | 0, _ => rfl
    | 1, _ => rfl
    | 2, _ => rfl
    | 3, _ => rfl
    | 4, _ => rfl
    | 5, _ => rfl
    | 6, _ => rfl
    | 7, _ => rfl
  have hp : 2 ^ (7 - r) < 256 := Nat.lt_of_le_of_lt (Nat.pow_le_pow_right (by decide) (show 7 - r ≤ 7 by omega)) (by decide)
  rw [e]
  generalize (2 ^ (7 - r) : Nat) = P at hp ⊢
  rw [u8_xor _ _ (by omega) hv (by omega) (by omega), Int.toNat_natCast, Int.toNat_natCast]
set_option maxRecDepth 100000 in
set_option maxHeartbeats 2000000 in
theorem with_no (h : Hd) (i : Int) (b : Bool) (w : World) (hi : i < 0 ∨ 104 ≤ i) :
    Calls Tryd.prog 35 #[.agg #[.int .u32 h.src, .int .u32 h.dst, .int .u8 h.proto, .int .u16 h.sp, .int .u16 h.dp], .int .i64 i, .bool b] w fun e w' => e = .returned (.tuple #[.agg #[.int .u32 0, .int .u32 0, .int .u8 0, .int .u16 0, .int .u16 0], .int .i64 1]) ∧ Below w.heap.size w w' := by
  have hB := Lib.hid (fun v => bit_no h i v hi)
  go_enter Tryd.func35, Tryd.ntmps35
  go_wp2_with fail
  refine (hB.out _).mono ?_
  rintro e w1 ⟨rfl, hb1⟩
  have hk := blk2 w h.cells (Hd.cells ⟨0, 0, 0, 0, 0⟩)
  have J0 : w1.heap[w.heap.size]? = some h.cells := blk_below hb1 hk.1
  have J1 : w1.heap[w.heap.size + 1]? = some (Hd.cells ⟨0, 0, 0, 0, 0⟩) := blk_below hb1 hk.2
  have hbw := below_call (below2 w _ _) hb1
  clear hb1 hk
  obtain ⟨c0, c1, c2, c3, c4⟩ := hd_cell J0
  obtain ⟨d0, d1, d2, d3, d4⟩ := hd_cell J1
  have f0 := hd_frozen J0
  have f1 := hd_frozen J1
  have lt := lt_of_block J1
  have K0 := Lib.hid J0
  have K1 := Lib.hid J1
  clear J0 J1
  go_wp2
  exact bodyPost_ret (results_hd2 (t1 := 6) (t3 := 7) (g := w.heap.size + 1) Tryd.results35 rfl rfl (hd_set4 (hd_set3 (hd_set2 (hd_set1 (hd_set0 (set_far (set_far (set_far (set_far (set_far K1.out (p := ⟨w.heap.size, 0, none⟩) (Nat.succ_ne_self _)) (p := ⟨w.heap.size, 1, none⟩) (Nat.succ_ne_self _)) (p := ⟨w.heap.size, 2, none⟩) (Nat.succ_ne_self _)) (p := ⟨w.heap.size, 3, none⟩) (Nat.succ_ne_self _)) (p := ⟨w.heap.size, 4, none⟩) (Nat.succ_ne_self _)) _) _) _) _) _)) rfl ⟨rfl, ((((((((((hbw.setCell (p := ⟨w.heap.size, 0, none⟩) (by first | exact Nat.le_refl _ | exact Nat.le_succ _) _).setCell (p := ⟨w.heap.size, 1, none⟩) (by first | exact Nat.le_refl _ | exact Nat.le_succ _) _).setCell (p := ⟨w.heap.size, 2, none⟩) (by first | exact Nat.le_refl _ | exact Nat.le_succ _) _).setCell (p := ⟨w.heap.size, 3, none⟩) (by first | exact Nat.le_refl _ | exact Nat.le_succ _) _).setCell (p := ⟨w.heap.size, 4, none⟩) (by first | exact Nat.le_refl _ | exact Nat.le_succ _) _).setCell (p := ⟨w.heap.size + 1, 0, none⟩) (by first | exact Nat.le_refl _ | exact Nat.le_succ _) _).setCell (p := ⟨w.heap.size + 1, 1, none⟩) (by first | exact Nat.le_refl _ | exact Nat.le_succ _) _).setCell (p := ⟨w.heap.size + 1, 2, none⟩) (by first | exact Nat.le_refl _ | exact Nat.le_succ _) _).setCell (p := ⟨w.heap.size + 1, 3, none⟩) (by first | exact Nat.le_refl _ | exact Nat.le_succ _) _).setCell (p := ⟨w.heap.size + 1, 4, none⟩) (by first | exact Nat.le_refl _ | exact Nat.le_succ _) _)⟩
set_option maxRecDepth 100000 in
set_option maxHeartbeats 2000000 in
theorem with_same (h : Hd) (ho : h.ok) (i : Nat) (b : Bool) (w : World) (hi : i < 104) (hb : h.bit i = b) :
    Calls Tryd.prog 35 #[.agg #[.int .u32 h.src, .int .u32 h.dst, .int .u8 h.proto, .int .u16 h.sp, .int .u16 h.dp], .int .i64 i, .bool b] w fun e w' => e = .returned (.tuple #[.agg #[.int .u32 h.src, .int .u32 h.dst, .int .u8 h.proto, .int .u16 h.sp, .int .u16 h.dp], .int .i64 0]) ∧ Below w.heap.size w w' := by
  have hB := Lib.hid (fun v => bit_yes h ho i v hi)
  rw [hb] at hB
  clear hb
  cases b
  · go_enter Tryd.func35, Tryd.ntmps35
    go_wp2_with fail
    refine (hB.out _).mono ?_
    rintro e w1 ⟨rfl, hb1⟩
    have hk := blk2 w h.cells (Hd.cells ⟨0, 0, 0, 0, 0⟩)
    have J0 : w1.heap[w.heap.size]? = some h.cells := blk_below hb1 hk.1
    have J1 : w1.heap[w.heap.size + 1]? = some (Hd.cells ⟨0, 0, 0, 0, 0⟩) := blk_below hb1 hk.2
    have hbw := below_call (below2 w _ _) hb1
    clear hb1 hk
    obtain ⟨c0, c1, c2, c3, c4⟩ := hd_cell J0
    obtain ⟨d0, d1, d2, d3, d4⟩ := hd_cell J1
    have f0 := hd_frozen J0
    have f1 := hd_frozen J1
    have lt := lt_of_block J1
    have K0 := Lib.hid J0
    have K1 := Lib.hid J1
    clear J0 J1
    go_wp2
    exact bodyPost_ret (results_hd2 (t1 := 6) (t3 := 7) (g := w.heap.size + 1) Tryd.results35 rfl rfl (hd_set4 (hd_set3 (hd_set2 (hd_set1 (hd_set0 K1.out _) _) _) _) _)) rfl ⟨rfl, (((((hbw.setCell (p := ⟨w.heap.size + 1, 0, none⟩) (by first | exact Nat.le_refl _ | exact Nat.le_succ _) _).setCell (p := ⟨w.heap.size + 1, 1, none⟩) (by first | exact Nat.le_refl _ | exact Nat.le_succ _) _).setCell (p := ⟨w.heap.size + 1, 2, none⟩) (by first | exact Nat.le_refl _ | exact Nat.le_succ _) _).setCell (p := ⟨w.heap.size + 1, 3, none⟩) (by first | exact Nat.le_refl _ | exact Nat.le_succ _) _).setCell (p := ⟨w.heap.size + 1, 4, none⟩) (by first | exact Nat.le_refl _ | exact Nat.le_succ _) _)⟩
  · go_enter Tryd.func35, Tryd.ntmps35
    go_wp2_with fail
    refine (hB.out _).mono ?_
    rintro e w1 ⟨rfl, hb1⟩
    have hk := blk2 w h.cells (Hd.cells ⟨0, 0, 0, 0, 0⟩)
    have J0 : w1.heap[w.heap.size]? = some h.cells := blk_below hb1 hk.1
    have J1 : w1.heap[w.heap.size + 1]? = some (Hd.cells ⟨0, 0, 0, 0, 0⟩) := blk_below hb1 hk.2
    have hbw := below_call (below2 w _ _) hb1
    clear hb1 hk
    obtain ⟨c0, c1, c2, c3, c4⟩ := hd_cell J0
    obtain ⟨d0, d1, d2, d3, d4⟩ := hd_cell J1
    have f0 := hd_frozen J0
    have f1 := hd_frozen J1
    have lt := lt_of_block J1
    have K0 := Lib.hid J0
    have K1 := Lib.hid J1
    clear J0 J1
    go_wp2
    exact bodyPost_ret (results_hd2 (t1 := 6) (t3 := 7) (g := w.heap.size + 1) Tryd.results35 rfl rfl (hd_set4 (hd_set3 (hd_set2 (hd_set1 (hd_set0 K1.out _) _) _) _) _)) rfl ⟨rfl, (((((hbw.setCell (p := ⟨w.heap.size + 1, 0, none⟩) (by first | exact Nat.le_refl _ | exact Nat.le_succ _) _).setCell (p := ⟨w.heap.size + 1, 1, none⟩) (by first | exact Nat.le_refl _ | exact Nat.le_succ _) _).setCell (p := ⟨w.heap.size + 1, 2, none⟩) (by first | exact Nat.le_refl _ | exact Nat.le_succ _) _).setCell (p := ⟨w.heap.size + 1, 3, none⟩) (by first | exact Nat.le_refl _ | exact Nat.le_succ _) _).setCell (p := ⟨w.heap.size + 1, 4, none⟩) (by first | exact Nat.le_refl _ | exact Nat.le_succ _) _)⟩
set_option maxRecDepth 100000 in
set_option maxHeartbeats 2000000 in
theorem with_turn (h : Hd) (ho : h.ok) (i : Nat) (b : Bool) (w : World) (hi : i < 104) (hb : h.bit i = !b) (p : Hd) (hp : p.ok) (hpb : ∀ x : Nat, h.bytes[i / 8]? = some (x : Int) → p.bytes = h.bytes.set (i / 8) ((x ^^^ 2 ^ (7 - i % 8) : Nat) : Int)) :
    Calls Tryd.prog 35 #[.agg #[.int .u32 h.src, .int .u32 h.dst, .int .u8 h.proto, .int .u16 h.sp, .int .u16 h.dp], .int .i64 i, .bool b] w fun e w' => e = .returned (.tuple #[.agg #[.int .u32 p.src, .int .u32 p.dst, .int .u8 p.proto, .int .u16 p.sp, .int .u16 p.dp], .int .i64 0]) ∧ Below w.heap.size w w' := by
  have hB := Lib.hid (fun v => bit_yes h ho i v hi)
  have hY : Hid (∀ v : World, Calls Tryd.prog 33 #[.agg #[.int .u32 h.src, .int .u32 h.dst, .int .u8 h.proto, .int .u16 h.sp, .int .u16 h.dp]] v fun e w' => e = .returned (.agg #[.int .u8 (h.src / 16777216), .int .u8 (h.src / 65536 % 256), .int .u8 (h.src / 256 % 256), .int .u8 (h.src % 256), .int .u8 (h.dst / 16777216), .int .u8 (h.dst / 65536 % 256), .int .u8 (h.dst / 256 % 256), .int .u8 (h.dst % 256), .int .u8 (h.proto), .int .u8 (h.sp / 256), .int .u8 (h.sp % 256), .int .u8 (h.dp / 256), .int .u8 (h.dp % 256)]) ∧ Below v.heap.size v w') := Lib.hid (fun v => bytes_any h ho v)
  have hO := Lib.hid (fun v => of_bytes p hp v)
  have hR := Lib.hid (bytes_range h ho)
  have hH := Lib.hid hpb
  rw [hb] at hB
  clear hb hpb ho hp
  cases b
  · go_enter Tryd.func35, Tryd.ntmps35
    go_wp2_with fail
    refine (hB.out _).mono ?_
    rintro e w1 ⟨rfl, hb1⟩
    have hk := blk2 w h.cells (Hd.cells ⟨0, 0, 0, 0, 0⟩)
    have J0 : w1.heap[w.heap.size]? = some h.cells := blk_below hb1 hk.1
    have J1 : w1.heap[w.heap.size + 1]? = some (Hd.cells ⟨0, 0, 0, 0, 0⟩) := blk_below hb1 hk.2
    have hbw := below_call (below2 w _ _) hb1
    clear hb1 hk
    obtain ⟨c0, c1, c2, c3, c4⟩ := hd_cell J0
    obtain ⟨d0, d1, d2, d3, d4⟩ := hd_cell J1
    have f0 := hd_frozen J0
    have f1 := hd_frozen J1
    have lt := lt_of_block J1
    have K0 := Lib.hid J0
    have K1 := Lib.hid J1
    clear J0 J1
    go_wp2_with fail
    refine (hY.out _).mono ?_
    rintro e w2 ⟨rfl, hb2⟩
    have J0 := blk_below hb2 K0.out
    have J1 := blk_below hb2 K1.out
    have hbw2 := below_call hbw hb2
    clear hb2 hbw c0 c1 c2 c3 c4 d0 d1 d2 d3 d4 f0 f1 lt K0 K1
    go_upto_region 7 with fail
    have Jb := heap_alloc_new w2 (arr h.bytes)
    have J0' : (w2.alloc (arr h.bytes)).heap[w.heap.size]? = some h.cells := (Below.heap_alloc _ _ _ (lt_of_block J0)).trans J0
    have J1' : (w2.alloc (arr h.bytes)).heap[w.heap.size + 1]? = some (Hd.cells ⟨0, 0, 0, 0, 0⟩) := (Below.heap_alloc _ _ _ (lt_of_block J1)).trans J1
    have hbw3 := hbw2.alloc hbw2.size (arr h.bytes)
    have lt1 := lt_of_block J1
    generalize hg3 : w2.heap.size = g3 at *
    change World at w2
    generalize hW3 : w2.alloc (arr h.bytes) = W3 at *
    have hW4 : (w2.alloc (.cells #[.int .u8 (h.src / 16777216), .int .u8 (h.src / 65536 % 256), .int .u8 (h.src / 256 % 256), .int .u8 (h.src % 256), .int .u8 (h.dst / 16777216), .int .u8 (h.dst / 65536 % 256), .int .u8 (h.dst / 256 % 256), .int .u8 (h.dst % 256), .int .u8 (h.proto), .int .u8 (h.sp / 256), .int .u8 (h.sp % 256), .int .u8 (h.dp / 256), .int .u8 (h.dp % 256)] 49)) = W3 := hW3
    rw [hW4]
    clear hW3 hW4 J0 J1 hbw2
    obtain ⟨v, hv⟩ : ∃ v, h.bytes[i / 8]? = some v := ⟨_, List.getElem?_eq_getElem (by rw [bytes_len]; omega)⟩
    have hr := hR.out v (List.mem_of_getElem? hv)
    obtain ⟨v, rfl⟩ := Int.eq_ofNat_of_zero_le hr.1
    have hH2 := hH.out v hv
    have hc := arr_cell Jb hv
    have fz := frozen_row Jb (i / 8)
    obtain ⟨q, hq⟩ : ∃ q, q = i / 8 := ⟨_, rfl⟩
    obtain ⟨r, hr8⟩ : ∃ r, r = i % 8 := ⟨_, rfl⟩
    have e1 : (i : Int).tdiv 8 = (q : Int) := by rw [Int.tdiv_eq_ediv_of_nonneg (by omega)]; omega
    have e2 : (i : Int).tmod 8 = (r : Int) := by rw [Int.tmod_eq_emod_of_nonneg (by omega)]; omega
    have e3 : (i : Int) / 8 = (q : Int) := by omega
    have e4 : (i : Int) % 8 = (r : Int) := by omega
    have e6 : ((r : Int) < 0) = False := by simp
    have e7 : (q : Int) < 13 := by omega
    have e8 : (0 : Int) ≤ (q : Int) := by omega
    rw [← hq] at hc fz hH2
    rw [← hr8] at hH2
    have hr7 := Lib.hid (show r < 8 by omega)
    have HR := Lib.hid hr
    have HH := Lib.hid hH2
    have KB := Lib.hid Jb
    have K0 := Lib.hid J0'
    have K1 := Lib.hid J1'
    clear hq hr8 hv hr hH2 Jb J0' J1'
    go_region
    have hx : bits .xor .u8 (v : Int) (128 / 2 ^ r) = ((v ^^^ 2 ^ (7 - r) : Nat) : Int) := xor_bit v r hr7.out HR.out.2
    have Jb : ((W3.setCell ⟨g3, q, none⟩ (.int .u8 (bits .xor .u8 (v : Int) (128 / 2 ^ r)))).drew).heap[g3]? = some (arr p.bytes) := by
      rw [hx, HH.out]
      exact arr_set KB.out q _
    have J0 : ((W3.setCell ⟨g3, q, none⟩ (.int .u8 (bits .xor .u8 (v : Int) (128 / 2 ^ r)))).drew).heap[w.heap.size]? = some h.cells := (set_heap _ _ _ _ _ (by omega)).trans K0.out
    have J1 : ((W3.setCell ⟨g3, q, none⟩ (.int .u8 (bits .xor .u8 (v : Int) (128 / 2 ^ r)))).drew).heap[w.heap.size + 1]? = some (Hd.cells ⟨0, 0, 0, 0, 0⟩) := (set_heap _ _ _ _ _ (by omega)).trans K1.out
    have hbw4 := (hbw3.setCell (p := ⟨g3, q, none⟩) (by show w.heap.size ≤ g3; omega) (.int .u8 (bits .xor .u8 (v : Int) (128 / 2 ^ r)))).drew
    generalize (W3.setCell ⟨g3, q, none⟩ (.int .u8 (bits .xor .u8 (v : Int) (128 / 2 ^ r)))).drew = W4 at *
    clear hx hc fz hbw3 KB K0 K1 HH HR hr7 e1 e2 e3 e4 e6 e7 e8
    obtain ⟨c0, c1, c2, c3, c4, c5, c6, c7, c8, c9, c10, c11, c12⟩ := bytes_cells Jb
    obtain ⟨d0, d1, d2, d3, d4⟩ := hd_cell J1
    have f1 := hd_frozen J1
    have K1 := Lib.hid J1
    clear J1 J0 Jb
    go_wp2_with fail
    refine (hO.out _).mono ?_
    rintro e w5 ⟨rfl, hb5⟩
    have J1 := blk_below hb5 K1.out
    have hbw5 := below_call hbw4 hb5
    clear hb5 hbw4 c0 c1 c2 c3 c4 c5 c6 c7 c8 c9 c10 c11 c12 d0 d1 d2 d3 d4 f1 K1
    obtain ⟨d0, d1, d2, d3, d4⟩ := hd_cell J1
    have f1 := hd_frozen J1
    have K1 := Lib.hid J1
    clear J1
    go_wp2
    exact bodyPost_ret (results_hd2 (t1 := 6) (t3 := 7) (g := w.heap.size + 1) Tryd.results35 rfl rfl (hd_set4 (hd_set3 (hd_set2 (hd_set1 (hd_set0 K1.out _) _) _) _) _)) rfl ⟨rfl, (((((hbw5.setCell (p := ⟨w.heap.size + 1, 0, none⟩) (by first | exact Nat.le_refl _ | exact Nat.le_succ _) _).setCell (p := ⟨w.heap.size + 1, 1, none⟩) (by first | exact Nat.le_refl _ | exact Nat.le_succ _) _).setCell (p := ⟨w.heap.size + 1, 2, none⟩) (by first | exact Nat.le_refl _ | exact Nat.le_succ _) _).setCell (p := ⟨w.heap.size + 1, 3, none⟩) (by first | exact Nat.le_refl _ | exact Nat.le_succ _) _).setCell (p := ⟨w.heap.size + 1, 4, none⟩) (by first | exact Nat.le_refl _ | exact Nat.le_succ _) _)⟩
  · go_enter Tryd.func35, Tryd.ntmps35
    go_wp2_with fail
    refine (hB.out _).mono ?_
    rintro e w1 ⟨rfl, hb1⟩
    have hk := blk2 w h.cells (Hd.cells ⟨0, 0, 0, 0, 0⟩)
    have J0 : w1.heap[w.heap.size]? = some h.cells := blk_below hb1 hk.1
    have J1 : w1.heap[w.heap.size + 1]? = some (Hd.cells ⟨0, 0, 0, 0, 0⟩) := blk_below hb1 hk.2
    have hbw := below_call (below2 w _ _) hb1
    clear hb1 hk
    obtain ⟨c0, c1, c2, c3, c4⟩ := hd_cell J0
    obtain ⟨d0, d1, d2, d3, d4⟩ := hd_cell J1
    have f0 := hd_frozen J0
    have f1 := hd_frozen J1
    have lt := lt_of_block J1
    have K0 := Lib.hid J0
    have K1 := Lib.hid J1
    clear J0 J1
    go_wp2_with fail
    refine (hY.out _).mono ?_
    rintro e w2 ⟨rfl, hb2⟩
    have J0 := blk_below hb2 K0.out
    have J1 := blk_below hb2 K1.out
    have hbw2 := below_call hbw hb2
    clear hb2 hbw c0 c1 c2 c3 c4 d0 d1 d2 d3 d4 f0 f1 lt K0 K1
    go_upto_region 7 with fail
    have Jb := heap_alloc_new w2 (arr h.bytes)
    have J0' : (w2.alloc (arr h.bytes)).heap[w.heap.size]? = some h.cells := (Below.heap_alloc _ _ _ (lt_of_block J0)).trans J0
    have J1' : (w2.alloc (arr h.bytes)).heap[w.heap.size + 1]? = some (Hd.cells ⟨0, 0, 0, 0, 0⟩) := (Below.heap_alloc _ _ _ (lt_of_block J1)).trans J1
    have hbw3 := hbw2.alloc hbw2.size (arr h.bytes)
    have lt1 := lt_of_block J1
    generalize hg3 : w2.heap.size = g3 at *
    change World at w2
    generalize hW3 : w2.alloc (arr h.bytes) = W3 at *
    have hW4 : (w2.alloc (.cells #[.int .u8 (h.src / 16777216), .int .u8 (h.src / 65536 % 256), .int .u8 (h.src / 256 % 256), .int .u8 (h.src % 256), .int .u8 (h.dst / 16777216), .int .u8 (h.dst / 65536 % 256), .int .u8 (h.dst / 256 % 256), .int .u8 (h.dst % 256), .int .u8 (h.proto), .int .u8 (h.sp / 256), .int .u8 (h.sp % 256), .int .u8 (h.dp / 256), .int .u8 (h.dp % 256)] 49)) = W3 := hW3
    rw [hW4]
    clear hW3 hW4 J0 J1 hbw2
    obtain ⟨v, hv⟩ : ∃ v, h.bytes[i / 8]? = some v := ⟨_, List.getElem?_eq_getElem (by rw [bytes_len]; omega)⟩
    have hr := hR.out v (List.mem_of_getElem? hv)
    obtain ⟨v, rfl⟩ := Int.eq_ofNat_of_zero_le hr.1
    have hH2 := hH.out v hv
    have hc := arr_cell Jb hv
    have fz := frozen_row Jb (i / 8)
    obtain ⟨q, hq⟩ : ∃ q, q = i / 8 := ⟨_, rfl⟩
    obtain ⟨r, hr8⟩ : ∃ r, r = i % 8 := ⟨_, rfl⟩
    have e1 : (i : Int).tdiv 8 = (q : Int) := by rw [Int.tdiv_eq_ediv_of_nonneg (by omega)]; omega
    have e2 : (i : Int).tmod 8 = (r : Int) := by rw [Int.tmod_eq_emod_of_nonneg (by omega)]; omega
    have e3 : (i : Int) / 8 = (q : Int) := by omega
    have e4 : (i : Int) % 8 = (r : Int) := by omega
    have e6 : ((r : Int) < 0) = False := by simp
    have e7 : (q : Int) < 13 := by omega
    have e8 : (0 : Int) ≤ (q : Int) := by omega
    rw [← hq] at hc fz hH2
    rw [← hr8] at hH2
    have hr7 := Lib.hid (show r < 8 by omega)
    have HR := Lib.hid hr
    have HH := Lib.hid hH2
    have KB := Lib.hid Jb
    have K0 := Lib.hid J0'
    have K1 := Lib.hid J1'
    clear hq hr8 hv hr hH2 Jb J0' J1'
    go_region
    have hx : bits .xor .u8 (v : Int) (128 / 2 ^ r) = ((v ^^^ 2 ^ (7 - r) : Nat) : Int) := xor_bit v r hr7.out HR.out.2
    have Jb : ((W3.setCell ⟨g3, q, none⟩ (.int .u8 (bits .xor .u8 (v : Int) (128 / 2 ^ r)))).drew).heap[g3]? = some (arr p.bytes) := by
      rw [hx, HH.out]
      exact arr_set KB.out q _
    have J0 : ((W3.setCell ⟨g3, q, none⟩ (.int .u8 (bits .xor .u8 (v : Int) (128 / 2 ^ r)))).drew).heap[w.heap.size]? = some h.cells := (set_heap _ _ _ _ _ (by omega)).trans K0.out
    have J1 : ((W3.setCell ⟨g3, q, none⟩ (.int .u8 (bits .xor .u8 (v : Int) (128 / 2 ^ r)))).drew).heap[w.heap.size + 1]? = some (Hd.cells ⟨0, 0, 0, 0, 0⟩) := (set_heap _ _ _ _ _ (by omega)).trans K1.out
    have hbw4 := (hbw3.setCell (p := ⟨g3, q, none⟩) (by show w.heap.size ≤ g3; omega) (.int .u8 (bits .xor .u8 (v : Int) (128 / 2 ^ r)))).drew
    generalize (W3.setCell ⟨g3, q, none⟩ (.int .u8 (bits .xor .u8 (v : Int) (128 / 2 ^ r)))).drew = W4 at *
    clear hx hc fz hbw3 KB K0 K1 HH HR hr7 e1 e2 e3 e4 e6 e7 e8
    obtain ⟨c0, c1, c2, c3, c4, c5, c6, c7, c8, c9, c10, c11, c12⟩ := bytes_cells Jb
    obtain ⟨d0, d1, d2, d3, d4⟩ := hd_cell J1
    have f1 := hd_frozen J1
    have K1 := Lib.hid J1
    clear J1 J0 Jb
    go_wp2_with fail
    refine (hO.out _).mono ?_
    rintro e w5 ⟨rfl, hb5⟩
    have J1 := blk_below hb5 K1.out
    have hbw5 := below_call hbw4 hb5
    clear hb5 hbw4 c0 c1 c2 c3 c4 c5 c6 c7 c8 c9 c10 c11 c12 d0 d1 d2 d3 d4 f1 K1
    obtain ⟨d0, d1, d2, d3, d4⟩ := hd_cell J1
    have f1 := hd_frozen J1
    have K1 := Lib.hid J1
    clear J1
    go_wp2
    exact bodyPost_ret (results_hd2 (t1 := 6) (t3 := 7) (g := w.heap.size + 1) Tryd.results35 rfl rfl (hd_set4 (hd_set3 (hd_set2 (hd_set1 (hd_set0 K1.out _) _) _) _) _)) rfl ⟨rfl, (((((hbw5.setCell (p := ⟨w.heap.size + 1, 0, none⟩) (by first | exact Nat.le_refl _ | exact Nat.le_succ _) _).setCell (p := ⟨w.heap.size + 1, 1, none⟩) (by first | exact Nat.le_refl _ | exact Nat.le_succ _) _).setCell (p := ⟨w.heap.size + 1, 2, none⟩) (by first | exact Nat.le_refl _ | exact Nat.le_succ _) _).setCell (p := ⟨w.heap.size + 1, 3, none⟩) (by first | exact Nat.le_refl _ | exact Nat.le_succ _) _).setCell (p := ⟨w.heap.size + 1, 4, none⟩) (by first | exact Nat.le_refl _ | exact Nat.le_succ _) _)⟩
set_option maxRecDepth 100000 in
set_option maxHeartbeats 2000000 in
theorem with_yes (h : Hd) (ho : h.ok) (i : Nat) (b : Bool) (w : World) (hi : i < 104) :
    Calls Tryd.prog 35 #[.agg #[.int .u32 h.src, .int .u32 h.dst, .int .u8 h.proto, .int .u16 h.sp, .int .u16 h.dp], .int .i64 i, .bool b] w fun e w' => e = .returned (.tuple #[.agg #[.int .u32 (h.put i b).src, .int .u32 (h.put i b).dst, .int .u8 (h.put i b).proto, .int .u16 (h.put i b).sp, .int .u16 (h.put i b).dp], .int .i64 0]) ∧ Below w.heap.size w w' := by
  by_cases hb : h.bit i = b
  · rw [put_same ho hi hb]
    exact with_same h ho i b w hi hb
  · rw [put_other ho hi hb]
    exact with_turn h ho i b w hi (by revert hb; cases h.bit i <;> cases b <;> simp) _ (hdOf_ok (xor_lt (val_lt ho) hi)) (fun x hx => bytes_xor ho hi hx)
end Go.Proofs.YtdlhpiknifcehaaDoor
