/-
  Walks over headers: the law's works.
-/
import Derived.Test.YtdlhpiknifcehaaDoorHd9
import Derived.Test.YtdlhpiknifcehaaDoorHd6
namespace Go.Proofs.YtdlhpiknifcehaaDoor
open Go Go.RowKit Go.Sort

theorem arr13_cells {w : World} {g : Nat} {b0 b1 b2 b3 b4 b5 b6 b7 b8 b9 b10 b11 b12 : Int} (H : w.heap[g]? = some (arr [b0, b1, b2, b3, b4, b5, b6, b7, b8, b9, b10, b11, b12])) : w.cell? ⟨g, 0, none⟩ = some (.int .u8 b0) ∧ w.cell? ⟨g, 1, none⟩ = some (.int .u8 b1) ∧ w.cell? ⟨g, 2, none⟩ = some (.int .u8 b2) ∧ w.cell? ⟨g, 3, none⟩ = some (.int .u8 b3) ∧ w.cell? ⟨g, 4, none⟩ = some (.int .u8 b4) ∧ w.cell? ⟨g, 5, none⟩ = some (.int .u8 b5) ∧ w.cell? ⟨g, 6, none⟩ = some (.int .u8 b6) ∧ w.cell? ⟨g, 7, none⟩ = some (.int .u8 b7) ∧ w.cell? ⟨g, 8, none⟩ = some (.int .u8 b8) ∧ w.cell? ⟨g, 9, none⟩ = some (.int .u8 b9) ∧ w.cell? ⟨g, 10, none⟩ = some (.int .u8 b10) ∧ w.cell? ⟨g, 11, none⟩ = some (.int .u8 b11) ∧ w.cell? ⟨g, 12, none⟩ = some (.int .u8 b12) :=
  ⟨arr_cell H (k := 0) rfl, arr_cell H (k := 1) rfl, arr_cell H (k := 2) rfl, arr_cell H (k := 3) rfl, arr_cell H (k := 4) rfl, arr_cell H (k := 5) rfl, arr_cell H (k := 6) rfl, arr_cell H (k := 7) rfl, arr_cell H (k := 8) rfl, arr_cell H (k := 9) rfl, arr_cell H (k := 10) rfl, arr_cell H (k := 11) rfl, arr_cell H (k := 12) rfl⟩
def h0 : Hd := ⟨167772161, 167772162, 6, 1024, 80⟩
theorem h0_ok : h0.ok := ⟨by decide, by decide, by decide, by decide, by decide, by decide, by decide, by decide, by decide, by decide⟩
theorem h0_text : h0.textL = [49, 48, 46, 48, 46, 48, 46, 49, 58, 49, 48, 50, 52, 32, 49, 48, 46, 48, 46, 48, 46, 50, 58, 56, 48, 32, 54] := by decide +kernel
theorem h0_bytes : h0.bytes = [10, 0, 0, 1, 10, 0, 0, 2, 6, 4, 0, 0, 80] := by decide +kernel
theorem h0_parse (w : World) (hE : Env w) : Calls Tryd.prog 29 #[.string ⟨#[49, 48, 46, 48, 46, 48, 46, 49, 58, 49, 48, 50, 52, 32, 49, 48, 46, 48, 46, 48, 46, 50, 58, 56, 48, 32, 54]⟩] w fun e w' => e = .returned (.tuple #[.agg #[.int .u32 167772161, .int .u32 167772162, .int .u8 6, .int .u16 1024, .int .u16 80], .int .i64 0]) ∧ Below w.heap.size w w' := by
  have h := hdParse_any ⟨#[49, 48, 46, 48, 46, 48, 46, 49, 58, 49, 48, 50, 52, 32, 49, 48, 46, 48, 46, 48, 46, 50, 58, 56, 48, 32, 54]⟩ w hE (by decide)
  have e := hp_some (l := [49, 48, 46, 48, 46, 48, 46, 49, 58, 49, 48, 50, 52, 32, 49, 48, 46, 48, 46, 48, 46, 50, 58, 56, 48, 32, 54]) (x := h0) (by rw [← h0_text]; exact hpO_text h0_ok)
  rw [show (⟨#[49, 48, 46, 48, 46, 48, 46, 49, 58, 49, 48, 50, 52, 32, 49, 48, 46, 48, 46, 48, 46, 50, 58, 56, 48, 32, 54]⟩ : ByteArray).data.toList = [49, 48, 46, 48, 46, 48, 46, 49, 58, 49, 48, 50, 52, 32, 49, 48, 46, 48, 46, 48, 46, 50, 58, 56, 48, 32, 54] from rfl, e.1, e.2] at h
  exact h
theorem h0_by (w : World) : Calls Tryd.prog 33 #[.agg #[.int .u32 167772161, .int .u32 167772162, .int .u8 6, .int .u16 1024, .int .u16 80]] w fun e w' => e = .returned (.agg #[.int .u8 10, .int .u8 0, .int .u8 0, .int .u8 1, .int .u8 10, .int .u8 0, .int .u8 0, .int .u8 2, .int .u8 6, .int .u8 4, .int .u8 0, .int .u8 0, .int .u8 80]) ∧ Below w.heap.size w w' := by
  have h := bytes_any h0 h0_ok w
  rw [h0_bytes] at h
  exact h
theorem h0_bit (w : World) : Calls Tryd.prog 34 #[.agg #[.int .u32 167772161, .int .u32 167772162, .int .u8 6, .int .u16 1024, .int .u16 80], .int .i64 4] w fun e w' => e = .returned (.tuple #[.bool true, .int .i64 0]) ∧ Below w.heap.size w w' := by
  have h := bit_yes h0 h0_ok 4 w (by decide)
  rw [show h0.bit 4 = true by decide +kernel] at h
  exact h
theorem h0_txt (w : World) (hE : Env w) : Calls Tryd.prog 30 #[.agg #[.int .u32 167772161, .int .u32 167772162, .int .u8 6, .int .u16 1024, .int .u16 80]] w fun e w' => e = .returned (.string ⟨#[49, 48, 46, 48, 46, 48, 46, 49, 58, 49, 48, 50, 52, 32, 49, 48, 46, 48, 46, 48, 46, 50, 58, 56, 48, 32, 54]⟩) ∧ Below w.heap.size w w' := by
  have h := hdText_any h0 h0_ok w hE
  rw [show h0.text = ⟨#[49, 48, 46, 48, 46, 48, 46, 49, 58, 49, 48, 50, 52, 32, 49, 48, 46, 48, 46, 48, 46, 50, 58, 56, 48, 32, 54]⟩ by unfold Hd.text; rw [h0_text]] at h
  exact h
theorem h0_of (w : World) : Calls Tryd.prog 32 #[.agg #[.int .u8 10, .int .u8 0, .int .u8 0, .int .u8 1, .int .u8 10, .int .u8 0, .int .u8 0, .int .u8 2, .int .u8 6, .int .u8 4, .int .u8 0, .int .u8 0, .int .u8 80]] w fun e w' => e = .returned (.agg #[.int .u32 167772161, .int .u32 167772162, .int .u8 6, .int .u16 1024, .int .u16 80]) ∧ Below w.heap.size w w' := by
  have h := of_any 10 0 0 1 10 0 0 2 6 4 0 0 80 (by decide) w
  rw [show ofB [10, 0, 0, 1, 10, 0, 0, 2, 6, 4, 0, 0, 80] = h0 by decide +kernel] at h
  exact h
theorem h0_same (w : World) : Calls Tryd.prog 31 #[.agg #[.int .u32 167772161, .int .u32 167772162, .int .u8 6, .int .u16 1024, .int .u16 80], .agg #[.int .u32 167772161, .int .u32 167772162, .int .u8 6, .int .u16 1024, .int .u16 80]] w fun e w' => e = .returned (.bool true) ∧ Below w.heap.size w w' := hdSame_any h0 w
theorem le_up' {w W : World} (h : Below w.heap.size w W) : w.heap.size ≤ W.heap.size := h.size
set_option maxRecDepth 100000 in
set_option maxHeartbeats 2000000 in
theorem hworks_any (w : World) (hE : Env w) : Calls Tryd.prog 28 #[] w fun e w' => e = .returned (.bool true) ∧ Below w.heap.size w w' := by
  go_enter Tryd.func28, Tryd.ntmps28
  go_wp2_with fail
  refine (h0_parse _ hE).mono ?_
  rintro e w1 ⟨rfl, hb⟩
  have hbw' := below_call (Below.refl _ _) hb
  clear hb
  have hbw := hbw'
  clear hbw'
  go_wp2_with fail
  refine (h0_by _).mono ?_
  rintro e w2 ⟨rfl, hb⟩
  have Jh := blk_below hb (heap_alloc_new w1 (.cells #[.int .u32 167772161, .int .u32 167772162, .int .u8 6, .int .u16 1024, .int .u16 80] 48))
  have hbw' := below_call (hbw.alloc (le_up hbw) _) hb
  clear hbw hb
  have hbw := hbw'
  clear hbw'
  obtain ⟨ch0, ch1, ch2, ch3, ch4⟩ := hd_cell (h := ⟨167772161, 167772162, 6, 1024, 80⟩) Jh
  have fh := hd_frozen (h := ⟨167772161, 167772162, 6, 1024, 80⟩) Jh
  dsimp only at ch0 ch1 ch2 ch3 ch4
  have lh := lt_of_block Jh
  have nh : w1.heap.size ≠ w2.heap.size := by omega
  have Kh := Lib.hid Jh
  clear Jh
  go_wp2_with fail
  refine (h0_bit _).mono ?_
  rintro e w3 ⟨rfl, hb⟩
  have Jh := blk_below hb ((Below.heap_alloc _ _ _ (by first | omega | (simp; omega))).trans Kh.out)
  have Jb := blk_below hb (heap_alloc_new w2 (arr [10, 0, 0, 1, 10, 0, 0, 2, 6, 4, 0, 0, 80]))
  have hbw' := below_call (hbw.alloc (le_up hbw) _) hb
  clear ch0 ch1 ch2 ch3 ch4 fh lh nh Kh hbw hb
  have hbw := hbw'
  clear hbw'
  obtain ⟨ch0, ch1, ch2, ch3, ch4⟩ := hd_cell (h := ⟨167772161, 167772162, 6, 1024, 80⟩) Jh
  have fh := hd_frozen (h := ⟨167772161, 167772162, 6, 1024, 80⟩) Jh
  dsimp only at ch0 ch1 ch2 ch3 ch4
  have lh := lt_of_block Jh
  have nh : w1.heap.size ≠ w3.heap.size := by omega
  have Kh := Lib.hid Jh
  clear Jh
  obtain ⟨cb0, cb1, cb2, cb3, cb4, cb5, cb6, cb7, cb8, cb9, cb10, cb11, cb12⟩ := arr13_cells Jb
  have lb := lt_of_block Jb
  have nb : w2.heap.size ≠ w3.heap.size := by omega
  have Kb := Lib.hid Jb
  clear Jb
  go_wp2_with fail
  have hEW := hE.below hbw
  have Fh0 := cell_regrown ch0
  have Fh1 := cell_regrown ch1
  have Fh2 := cell_regrown ch2
  have Fh3 := cell_regrown ch3
  have Fh4 := cell_regrown ch4
  have Fb0 := cell_regrown cb0
  have Fb1 := cell_regrown cb1
  have Fb2 := cell_regrown cb2
  have Fb3 := cell_regrown cb3
  have Fb4 := cell_regrown cb4
  have Fb5 := cell_regrown cb5
  have Fb6 := cell_regrown cb6
  have Fb7 := cell_regrown cb7
  have Fb8 := cell_regrown cb8
  have Fb9 := cell_regrown cb9
  have Fb10 := cell_regrown cb10
  have Fb11 := cell_regrown cb11
  have Fb12 := cell_regrown cb12
  generalize hWW : w3.heap.size = sz3 at *
  refine wp_region_quiet_below (by kernel_rfl) (by kernel_rfl) ?_
  repeat (first | go_big_quiet_step ((first | (go_at_call 30; with_reducible exact Calls.regrown_of (h0_txt _ (hEW.below (below_regrown w3 _ _)))) | (go_at_call 32; with_reducible exact Calls.regrown_of (h0_of _)) | (go_at_call 31; with_reducible exact Calls.regrown_of (h0_same _)))) | quiet_step ((first | (go_at_call 30; with_reducible exact Calls.regrown_of (h0_txt _ (hEW.below (below_regrown w3 _ _)))) | (go_at_call 32; with_reducible exact Calls.regrown_of (h0_of _)) | (go_at_call 31; with_reducible exact Calls.regrown_of (h0_same _)))))
  refine wpQuiet_nil ?_
  intro _ hw'
  obtain ⟨⟨nq, osq⟩, hw''⟩ := hw'
  subst hw''
  go_wp2
  go_ret
  exact ⟨rfl, hbw.trans ((below_regrown _ nq osq).mono hbw.size)⟩
end Go.Proofs.YtdlhpiknifcehaaDoor
