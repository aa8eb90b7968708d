/-
  Joined texts: Filt3.
-/
import Derived.Test.YthhcaoljejifeaaGreatMLintRewrites6
/-
  Walks over the filter's layer: which headers fit a rule; the program's and the reference's (written by wip/gen/genfilter.py).
-/
namespace Go.Proofs.YthhcaoljejifeaaGreat
open Go Go.RowKit

set_option maxRecDepth 100000 in
set_option maxHeartbeats 4000000 in
theorem refFits_any (r : RuleV) (h : HeaderV) (w : World) :
    Calls Tryz.prog 53 #[.agg #[.bool r.permit, .int .i64 r.proto, .int .u32 r.sa, .int .i64 r.sn, .int .u32 r.da, .int .i64 r.dn, .int .u32 r.sl, .int .u32 r.sh, .int .u32 r.dl, .int .u32 r.dh], .agg #[.int .u32 h.src, .int .u32 h.dst, .int .u8 h.proto, .int .u16 h.sp, .int .u16 h.dp]] w fun e w' => e = .returned (.bool (fitsB r h)) ∧ Below w.heap.size w w' := by
  obtain ⟨bh1, bh2⟩ := h.hproto
  obtain ⟨bh3, bh4⟩ := h.hsp
  obtain ⟨bh5, bh6⟩ := h.hdp
  by_cases q0a : chk r.sa r.sn = 0
  · have t0a0 : (chk r.sa r.sn != 0) = false := by first | (simp [*]; done) | (simp; omega) | (simp [*]; omega)
    by_cases q1a : chk r.da r.dn = 0
    · have t1a0 : (chk r.da r.dn != 0) = false := by first | (simp [*]; done) | (simp; omega) | (simp [*]; omega)
      by_cases q2a : inB h.src r.sa r.sn = true
      · have t2a0 : inB h.src r.sa r.sn = true := by first | (simp [*]; done) | (simp; omega) | (simp [*]; omega)
        by_cases q3a : inB h.dst r.da r.dn = true
        · have t3a0 : inB h.dst r.da r.dn = true := by first | (simp [*]; done) | (simp; omega) | (simp [*]; omega)
          by_cases q4a : r.proto = -1
          · have t4a0 : (r.proto == -1) = true := by first | (simp [*]; done) | (simp; omega) | (simp [*]; omega)
            by_cases q5a : r.sl ≤ h.sp
            · have t5a0 : decide (r.sl ≤ h.sp) = true := by first | (simp [*]; done) | (simp; omega) | (simp [*]; omega)
              by_cases q6a : h.sp ≤ r.sh
              · have t6a0 : decide (h.sp ≤ r.sh) = true := by first | (simp [*]; done) | (simp; omega) | (simp [*]; omega)
                by_cases q7a : r.dl ≤ h.dp
                · have t7a0 : decide (r.dl ≤ h.dp) = true := by first | (simp [*]; done) | (simp; omega) | (simp [*]; omega)
                  have hE : Hid (decide (h.dp ≤ r.dh) = fitsB r h) := by unfold Hid; simp [fitsB, inP, *]
                  clear q0a q1a q2a q3a q4a q5a q6a q7a
                  go_enter Tryz.func53, Tryz.ntmps53
                  go_wp2_with fail
                  refine (refCheck_any _ _ _ r.hsa.1 r.hsa.2).mono ?_
                  rintro e w1 ⟨rfl, hb⟩
                  have Jr := blk_below hb (blk2 w _ _).1
                  have Jh := blk_below hb (blk2 w _ _).2
                  have hbw := below_call (below2 w _ _) hb
                  clear hb
                  have cr0 : w1.cell? ⟨w.heap.size, 0, none⟩ = some (.bool r.permit) := cell_of_row w1 (w.heap.size) 0 _ _ (0, 0) Jr
                  have cr1 : w1.cell? ⟨w.heap.size, 1, none⟩ = some (.int .i64 r.proto) := cell_of_row w1 (w.heap.size) 1 _ _ (0, 0) Jr
                  have cr2 : w1.cell? ⟨w.heap.size, 2, none⟩ = some (.int .u32 r.sa) := cell_of_row w1 (w.heap.size) 2 _ _ (0, 0) Jr
                  have cr3 : w1.cell? ⟨w.heap.size, 3, none⟩ = some (.int .i64 r.sn) := cell_of_row w1 (w.heap.size) 3 _ _ (0, 0) Jr
                  have cr4 : w1.cell? ⟨w.heap.size, 4, none⟩ = some (.int .u32 r.da) := cell_of_row w1 (w.heap.size) 4 _ _ (0, 0) Jr
                  have cr5 : w1.cell? ⟨w.heap.size, 5, none⟩ = some (.int .i64 r.dn) := cell_of_row w1 (w.heap.size) 5 _ _ (0, 0) Jr
                  have cr6 : w1.cell? ⟨w.heap.size, 6, none⟩ = some (.int .u32 r.sl) := cell_of_row w1 (w.heap.size) 6 _ _ (0, 0) Jr
                  have cr7 : w1.cell? ⟨w.heap.size, 7, none⟩ = some (.int .u32 r.sh) := cell_of_row w1 (w.heap.size) 7 _ _ (0, 0) Jr
                  have cr8 : w1.cell? ⟨w.heap.size, 8, none⟩ = some (.int .u32 r.dl) := cell_of_row w1 (w.heap.size) 8 _ _ (0, 0) Jr
                  have cr9 : w1.cell? ⟨w.heap.size, 9, none⟩ = some (.int .u32 r.dh) := cell_of_row w1 (w.heap.size) 9 _ _ (0, 0) Jr
                  have lr : w.heap.size < w1.heap.size := lt_of_block Jr
                  have nr : w.heap.size ≠ w1.heap.size := Nat.ne_of_lt lr
                  have Kr := Lib.hid Jr
                  clear Jr
                  have ch0 : w1.cell? ⟨w.heap.size + 1, 0, none⟩ = some (.int .u32 h.src) := cell_of_row w1 (w.heap.size + 1) 0 _ _ (0, 0) Jh
                  have ch1 : w1.cell? ⟨w.heap.size + 1, 1, none⟩ = some (.int .u32 h.dst) := cell_of_row w1 (w.heap.size + 1) 1 _ _ (0, 0) Jh
                  have ch2 : w1.cell? ⟨w.heap.size + 1, 2, none⟩ = some (.int .u8 h.proto) := cell_of_row w1 (w.heap.size + 1) 2 _ _ (0, 0) Jh
                  have ch3 : w1.cell? ⟨w.heap.size + 1, 3, none⟩ = some (.int .u16 h.sp) := cell_of_row w1 (w.heap.size + 1) 3 _ _ (0, 0) Jh
                  have ch4 : w1.cell? ⟨w.heap.size + 1, 4, none⟩ = some (.int .u16 h.dp) := cell_of_row w1 (w.heap.size + 1) 4 _ _ (0, 0) Jh
                  have lh : w.heap.size + 1 < w1.heap.size := lt_of_block Jh
                  have nh : w.heap.size + 1 ≠ w1.heap.size := Nat.ne_of_lt lh
                  have Kh := Lib.hid Jh
                  clear Jh
                  go_wp2_with fail
                  refine (refCheck_any _ _ _ r.hda.1 r.hda.2).mono ?_
                  rintro e w2 ⟨rfl, hb⟩
                  have Jr := blk_below hb Kr.out
                  have Jh := blk_below hb Kh.out
                  have hbw' := below_call hbw hb
                  clear hb hbw Kr lr nr cr0 cr1 cr2 cr3 cr4 cr5 cr6 cr7 cr8 cr9 Kh lh nh ch0 ch1 ch2 ch3 ch4
                  have hbw := hbw'
                  clear hbw'
                  have cr0 : w2.cell? ⟨w.heap.size, 0, none⟩ = some (.bool r.permit) := cell_of_row w2 (w.heap.size) 0 _ _ (0, 0) Jr
                  have cr1 : w2.cell? ⟨w.heap.size, 1, none⟩ = some (.int .i64 r.proto) := cell_of_row w2 (w.heap.size) 1 _ _ (0, 0) Jr
                  have cr2 : w2.cell? ⟨w.heap.size, 2, none⟩ = some (.int .u32 r.sa) := cell_of_row w2 (w.heap.size) 2 _ _ (0, 0) Jr
                  have cr3 : w2.cell? ⟨w.heap.size, 3, none⟩ = some (.int .i64 r.sn) := cell_of_row w2 (w.heap.size) 3 _ _ (0, 0) Jr
                  have cr4 : w2.cell? ⟨w.heap.size, 4, none⟩ = some (.int .u32 r.da) := cell_of_row w2 (w.heap.size) 4 _ _ (0, 0) Jr
                  have cr5 : w2.cell? ⟨w.heap.size, 5, none⟩ = some (.int .i64 r.dn) := cell_of_row w2 (w.heap.size) 5 _ _ (0, 0) Jr
                  have cr6 : w2.cell? ⟨w.heap.size, 6, none⟩ = some (.int .u32 r.sl) := cell_of_row w2 (w.heap.size) 6 _ _ (0, 0) Jr
                  have cr7 : w2.cell? ⟨w.heap.size, 7, none⟩ = some (.int .u32 r.sh) := cell_of_row w2 (w.heap.size) 7 _ _ (0, 0) Jr
                  have cr8 : w2.cell? ⟨w.heap.size, 8, none⟩ = some (.int .u32 r.dl) := cell_of_row w2 (w.heap.size) 8 _ _ (0, 0) Jr
                  have cr9 : w2.cell? ⟨w.heap.size, 9, none⟩ = some (.int .u32 r.dh) := cell_of_row w2 (w.heap.size) 9 _ _ (0, 0) Jr
                  have lr : w.heap.size < w2.heap.size := lt_of_block Jr
                  have nr : w.heap.size ≠ w2.heap.size := Nat.ne_of_lt lr
                  have Kr := Lib.hid Jr
                  clear Jr
                  have ch0 : w2.cell? ⟨w.heap.size + 1, 0, none⟩ = some (.int .u32 h.src) := cell_of_row w2 (w.heap.size + 1) 0 _ _ (0, 0) Jh
                  have ch1 : w2.cell? ⟨w.heap.size + 1, 1, none⟩ = some (.int .u32 h.dst) := cell_of_row w2 (w.heap.size + 1) 1 _ _ (0, 0) Jh
                  have ch2 : w2.cell? ⟨w.heap.size + 1, 2, none⟩ = some (.int .u8 h.proto) := cell_of_row w2 (w.heap.size + 1) 2 _ _ (0, 0) Jh
                  have ch3 : w2.cell? ⟨w.heap.size + 1, 3, none⟩ = some (.int .u16 h.sp) := cell_of_row w2 (w.heap.size + 1) 3 _ _ (0, 0) Jh
                  have ch4 : w2.cell? ⟨w.heap.size + 1, 4, none⟩ = some (.int .u16 h.dp) := cell_of_row w2 (w.heap.size + 1) 4 _ _ (0, 0) Jh
                  have lh : w.heap.size + 1 < w2.heap.size := lt_of_block Jh
                  have nh : w.heap.size + 1 ≠ w2.heap.size := Nat.ne_of_lt lh
                  have Kh := Lib.hid Jh
                  clear Jh
                  go_wp2_with fail
                  refine (refIn_any _ _ _ _ h.hsrc.1 h.hsrc.2 r.hsa.1 r.hsa.2).mono ?_
                  rintro e w3 ⟨rfl, hb⟩
                  have Jr := blk_below hb Kr.out
                  have Jh := blk_below hb Kh.out
                  have hbw' := below_call hbw hb
                  clear hb hbw Kr lr nr cr0 cr1 cr2 cr3 cr4 cr5 cr6 cr7 cr8 cr9 Kh lh nh ch0 ch1 ch2 ch3 ch4
                  have hbw := hbw'
                  clear hbw'
                  have cr0 : w3.cell? ⟨w.heap.size, 0, none⟩ = some (.bool r.permit) := cell_of_row w3 (w.heap.size) 0 _ _ (0, 0) Jr
                  have cr1 : w3.cell? ⟨w.heap.size, 1, none⟩ = some (.int .i64 r.proto) := cell_of_row w3 (w.heap.size) 1 _ _ (0, 0) Jr
                  have cr2 : w3.cell? ⟨w.heap.size, 2, none⟩ = some (.int .u32 r.sa) := cell_of_row w3 (w.heap.size) 2 _ _ (0, 0) Jr
                  have cr3 : w3.cell? ⟨w.heap.size, 3, none⟩ = some (.int .i64 r.sn) := cell_of_row w3 (w.heap.size) 3 _ _ (0, 0) Jr
                  have cr4 : w3.cell? ⟨w.heap.size, 4, none⟩ = some (.int .u32 r.da) := cell_of_row w3 (w.heap.size) 4 _ _ (0, 0) Jr
                  have cr5 : w3.cell? ⟨w.heap.size, 5, none⟩ = some (.int .i64 r.dn) := cell_of_row w3 (w.heap.size) 5 _ _ (0, 0) Jr
                  have cr6 : w3.cell? ⟨w.heap.size, 6, none⟩ = some (.int .u32 r.sl) := cell_of_row w3 (w.heap.size) 6 _ _ (0, 0) Jr
                  have cr7 : w3.cell? ⟨w.heap.size, 7, none⟩ = some (.int .u32 r.sh) := cell_of_row w3 (w.heap.size) 7 _ _ (0, 0) Jr
                  have cr8 : w3.cell? ⟨w.heap.size, 8, none⟩ = some (.int .u32 r.dl) := cell_of_row w3 (w.heap.size) 8 _ _ (0, 0) Jr
                  have cr9 : w3.cell? ⟨w.heap.size, 9, none⟩ = some (.int .u32 r.dh) := cell_of_row w3 (w.heap.size) 9 _ _ (0, 0) Jr
                  have lr : w.heap.size < w3.heap.size := lt_of_block Jr
                  have nr : w.heap.size ≠ w3.heap.size := Nat.ne_of_lt lr
                  have Kr := Lib.hid Jr
                  clear Jr
                  have ch0 : w3.cell? ⟨w.heap.size + 1, 0, none⟩ = some (.int .u32 h.src) := cell_of_row w3 (w.heap.size + 1) 0 _ _ (0, 0) Jh
                  have ch1 : w3.cell? ⟨w.heap.size + 1, 1, none⟩ = some (.int .u32 h.dst) := cell_of_row w3 (w.heap.size + 1) 1 _ _ (0, 0) Jh
                  have ch2 : w3.cell? ⟨w.heap.size + 1, 2, none⟩ = some (.int .u8 h.proto) := cell_of_row w3 (w.heap.size + 1) 2 _ _ (0, 0) Jh
                  have ch3 : w3.cell? ⟨w.heap.size + 1, 3, none⟩ = some (.int .u16 h.sp) := cell_of_row w3 (w.heap.size + 1) 3 _ _ (0, 0) Jh
                  have ch4 : w3.cell? ⟨w.heap.size + 1, 4, none⟩ = some (.int .u16 h.dp) := cell_of_row w3 (w.heap.size + 1) 4 _ _ (0, 0) Jh
                  have lh : w.heap.size + 1 < w3.heap.size := lt_of_block Jh
                  have nh : w.heap.size + 1 ≠ w3.heap.size := Nat.ne_of_lt lh
                  have Kh := Lib.hid Jh
                  clear Jh
                  go_wp2_with fail
                  refine (refIn_any _ _ _ _ h.hdst.1 h.hdst.2 r.hda.1 r.hda.2).mono ?_
                  rintro e w4 ⟨rfl, hb⟩
                  have Jr := blk_below hb Kr.out
                  have Jh := blk_below hb Kh.out
                  have hbw' := below_call hbw hb
                  clear hb hbw Kr lr nr cr0 cr1 cr2 cr3 cr4 cr5 cr6 cr7 cr8 cr9 Kh lh nh ch0 ch1 ch2 ch3 ch4
                  have hbw := hbw'
                  clear hbw'
                  have cr0 : w4.cell? ⟨w.heap.size, 0, none⟩ = some (.bool r.permit) := cell_of_row w4 (w.heap.size) 0 _ _ (0, 0) Jr
                  have cr1 : w4.cell? ⟨w.heap.size, 1, none⟩ = some (.int .i64 r.proto) := cell_of_row w4 (w.heap.size) 1 _ _ (0, 0) Jr
                  have cr2 : w4.cell? ⟨w.heap.size, 2, none⟩ = some (.int .u32 r.sa) := cell_of_row w4 (w.heap.size) 2 _ _ (0, 0) Jr
                  have cr3 : w4.cell? ⟨w.heap.size, 3, none⟩ = some (.int .i64 r.sn) := cell_of_row w4 (w.heap.size) 3 _ _ (0, 0) Jr
                  have cr4 : w4.cell? ⟨w.heap.size, 4, none⟩ = some (.int .u32 r.da) := cell_of_row w4 (w.heap.size) 4 _ _ (0, 0) Jr
                  have cr5 : w4.cell? ⟨w.heap.size, 5, none⟩ = some (.int .i64 r.dn) := cell_of_row w4 (w.heap.size) 5 _ _ (0, 0) Jr
                  have cr6 : w4.cell? ⟨w.heap.size, 6, none⟩ = some (.int .u32 r.sl) := cell_of_row w4 (w.heap.size) 6 _ _ (0, 0) Jr
                  have cr7 : w4.cell? ⟨w.heap.size, 7, none⟩ = some (.int .u32 r.sh) := cell_of_row w4 (w.heap.size) 7 _ _ (0, 0) Jr
                  have cr8 : w4.cell? ⟨w.heap.size, 8, none⟩ = some (.int .u32 r.dl) := cell_of_row w4 (w.heap.size) 8 _ _ (0, 0) Jr
                  have cr9 : w4.cell? ⟨w.heap.size, 9, none⟩ = some (.int .u32 r.dh) := cell_of_row w4 (w.heap.size) 9 _ _ (0, 0) Jr
                  have lr : w.heap.size < w4.heap.size := lt_of_block Jr
                  have nr : w.heap.size ≠ w4.heap.size := Nat.ne_of_lt lr
                  have Kr := Lib.hid Jr
                  clear Jr
                  have ch0 : w4.cell? ⟨w.heap.size + 1, 0, none⟩ = some (.int .u32 h.src) := cell_of_row w4 (w.heap.size + 1) 0 _ _ (0, 0) Jh
                  have ch1 : w4.cell? ⟨w.heap.size + 1, 1, none⟩ = some (.int .u32 h.dst) := cell_of_row w4 (w.heap.size + 1) 1 _ _ (0, 0) Jh
                  have ch2 : w4.cell? ⟨w.heap.size + 1, 2, none⟩ = some (.int .u8 h.proto) := cell_of_row w4 (w.heap.size + 1) 2 _ _ (0, 0) Jh
                  have ch3 : w4.cell? ⟨w.heap.size + 1, 3, none⟩ = some (.int .u16 h.sp) := cell_of_row w4 (w.heap.size + 1) 3 _ _ (0, 0) Jh
                  have ch4 : w4.cell? ⟨w.heap.size + 1, 4, none⟩ = some (.int .u16 h.dp) := cell_of_row w4 (w.heap.size + 1) 4 _ _ (0, 0) Jh
                  have lh : w.heap.size + 1 < w4.heap.size := lt_of_block Jh
                  have nh : w.heap.size + 1 ≠ w4.heap.size := Nat.ne_of_lt lh
                  have Kh := Lib.hid Jh
                  clear Jh
                  go_wp2
                  go_ret
                  exact ⟨ret_bool hE.out, hbw⟩
                · have t7b0 : decide (r.dl ≤ h.dp) = false := by first | (simp [*]; done) | (simp; omega) | (simp [*]; omega)
                  have hE : Hid (false = fitsB r h) := by unfold Hid; simp [fitsB, inP, *]
                  clear q0a q1a q2a q3a q4a q5a q6a q7a
                  go_enter Tryz.func53, Tryz.ntmps53
                  go_wp2_with fail
                  refine (refCheck_any _ _ _ r.hsa.1 r.hsa.2).mono ?_
                  rintro e w1 ⟨rfl, hb⟩
                  have Jr := blk_below hb (blk2 w _ _).1
                  have Jh := blk_below hb (blk2 w _ _).2
                  have hbw := below_call (below2 w _ _) hb
                  clear hb
                  have cr0 : w1.cell? ⟨w.heap.size, 0, none⟩ = some (.bool r.permit) := cell_of_row w1 (w.heap.size) 0 _ _ (0, 0) Jr
                  have cr1 : w1.cell? ⟨w.heap.size, 1, none⟩ = some (.int .i64 r.proto) := cell_of_row w1 (w.heap.size) 1 _ _ (0, 0) Jr
                  have cr2 : w1.cell? ⟨w.heap.size, 2, none⟩ = some (.int .u32 r.sa) := cell_of_row w1 (w.heap.size) 2 _ _ (0, 0) Jr
                  have cr3 : w1.cell? ⟨w.heap.size, 3, none⟩ = some (.int .i64 r.sn) := cell_of_row w1 (w.heap.size) 3 _ _ (0, 0) Jr
                  have cr4 : w1.cell? ⟨w.heap.size, 4, none⟩ = some (.int .u32 r.da) := cell_of_row w1 (w.heap.size) 4 _ _ (0, 0) Jr
                  have cr5 : w1.cell? ⟨w.heap.size, 5, none⟩ = some (.int .i64 r.dn) := cell_of_row w1 (w.heap.size) 5 _ _ (0, 0) Jr
                  have cr6 : w1.cell? ⟨w.heap.size, 6, none⟩ = some (.int .u32 r.sl) := cell_of_row w1 (w.heap.size) 6 _ _ (0, 0) Jr
                  have cr7 : w1.cell? ⟨w.heap.size, 7, none⟩ = some (.int .u32 r.sh) := cell_of_row w1 (w.heap.size) 7 _ _ (0, 0) Jr
                  have cr8 : w1.cell? ⟨w.heap.size, 8, none⟩ = some (.int .u32 r.dl) := cell_of_row w1 (w.heap.size) 8 _ _ (0, 0) Jr
                  have cr9 : w1.cell? ⟨w.heap.size, 9, none⟩ = some (.int .u32 r.dh) := cell_of_row w1 (w.heap.size) 9 _ _ (0, 0) Jr
                  have lr : w.heap.size < w1.heap.size := lt_of_block Jr
                  have nr : w.heap.size ≠ w1.heap.size := Nat.ne_of_lt lr
                  have Kr := Lib.hid Jr
                  clear Jr
                  have ch0 : w1.cell? ⟨w.heap.size + 1, 0, none⟩ = some (.int .u32 h.src) := cell_of_row w1 (w.heap.size + 1) 0 _ _ (0, 0) Jh
                  have ch1 : w1.cell? ⟨w.heap.size + 1, 1, none⟩ = some (.int .u32 h.dst) := cell_of_row w1 (w.heap.size + 1) 1 _ _ (0, 0) Jh
                  have ch2 : w1.cell? ⟨w.heap.size + 1, 2, none⟩ = some (.int .u8 h.proto) := cell_of_row w1 (w.heap.size + 1) 2 _ _ (0, 0) Jh
                  have ch3 : w1.cell? ⟨w.heap.size + 1, 3, none⟩ = some (.int .u16 h.sp) := cell_of_row w1 (w.heap.size + 1) 3 _ _ (0, 0) Jh
                  have ch4 : w1.cell? ⟨w.heap.size + 1, 4, none⟩ = some (.int .u16 h.dp) := cell_of_row w1 (w.heap.size + 1) 4 _ _ (0, 0) Jh
                  have lh : w.heap.size + 1 < w1.heap.size := lt_of_block Jh
                  have nh : w.heap.size + 1 ≠ w1.heap.size := Nat.ne_of_lt lh
                  have Kh := Lib.hid Jh
                  clear Jh
                  go_wp2_with fail
                  refine (refCheck_any _ _ _ r.hda.1 r.hda.2).mono ?_
                  rintro e w2 ⟨rfl, hb⟩
                  have Jr := blk_below hb Kr.out
                  have Jh := blk_below hb Kh.out
                  have hbw' := below_call hbw hb
                  clear hb hbw Kr lr nr cr0 cr1 cr2 cr3 cr4 cr5 cr6 cr7 cr8 cr9 Kh lh nh ch0 ch1 ch2 ch3 ch4
                  have hbw := hbw'
                  clear hbw'
                  have cr0 : w2.cell? ⟨w.heap.size, 0, none⟩ = some (.bool r.permit) := cell_of_row w2 (w.heap.size) 0 _ _ (0, 0) Jr
                  have cr1 : w2.cell? ⟨w.heap.size, 1, none⟩ = some (.int .i64 r.proto) := cell_of_row w2 (w.heap.size) 1 _ _ (0, 0) Jr
                  have cr2 : w2.cell? ⟨w.heap.size, 2, none⟩ = some (.int .u32 r.sa) := cell_of_row w2 (w.heap.size) 2 _ _ (0, 0) Jr
                  have cr3 : w2.cell? ⟨w.heap.size, 3, none⟩ = some (.int .i64 r.sn) := cell_of_row w2 (w.heap.size) 3 _ _ (0, 0) Jr
                  have cr4 : w2.cell? ⟨w.heap.size, 4, none⟩ = some (.int .u32 r.da) := cell_of_row w2 (w.heap.size) 4 _ _ (0, 0) Jr
                  have cr5 : w2.cell? ⟨w.heap.size, 5, none⟩ = some (.int .i64 r.dn) := cell_of_row w2 (w.heap.size) 5 _ _ (0, 0) Jr
                  have cr6 : w2.cell? ⟨w.heap.size, 6, none⟩ = some (.int .u32 r.sl) := cell_of_row w2 (w.heap.size) 6 _ _ (0, 0) Jr
                  have cr7 : w2.cell? ⟨w.heap.size, 7, none⟩ = some (.int .u32 r.sh) := cell_of_row w2 (w.heap.size) 7 _ _ (0, 0) Jr
                  have cr8 : w2.cell? ⟨w.heap.size, 8, none⟩ = some (.int .u32 r.dl) := cell_of_row w2 (w.heap.size) 8 _ _ (0, 0) Jr
                  have cr9 : w2.cell? ⟨w.heap.size, 9, none⟩ = some (.int .u32 r.dh) := cell_of_row w2 (w.heap.size) 9 _ _ (0, 0) Jr
                  have lr : w.heap.size < w2.heap.size := lt_of_block Jr
                  have nr : w.heap.size ≠ w2.heap.size := Nat.ne_of_lt lr
                  have Kr := Lib.hid Jr
                  clear Jr
                  have ch0 : w2.cell? ⟨w.heap.size + 1, 0, none⟩ = some (.int .u32 h.src) := cell_of_row w2 (w.heap.size + 1) 0 _ _ (0, 0) Jh
                  have ch1 : w2.cell? ⟨w.heap.size + 1, 1, none⟩ = some (.int .u32 h.dst) := cell_of_row w2 (w.heap.size + 1) 1 _ _ (0, 0) Jh
                  have ch2 : w2.cell? ⟨w.heap.size + 1, 2, none⟩ = some (.int .u8 h.proto) := cell_of_row w2 (w.heap.size + 1) 2 _ _ (0, 0) Jh
                  have ch3 : w2.cell? ⟨w.heap.size + 1, 3, none⟩ = some (.int .u16 h.sp) := cell_of_row w2 (w.heap.size + 1) 3 _ _ (0, 0) Jh
                  have ch4 : w2.cell? ⟨w.heap.size + 1, 4, none⟩ = some (.int .u16 h.dp) := cell_of_row w2 (w.heap.size + 1) 4 _ _ (0, 0) Jh
                  have lh : w.heap.size + 1 < w2.heap.size := lt_of_block Jh
                  have nh : w.heap.size + 1 ≠ w2.heap.size := Nat.ne_of_lt lh
                  have Kh := Lib.hid Jh
                  clear Jh
                  go_wp2_with fail
                  refine (refIn_any _ _ _ _ h.hsrc.1 h.hsrc.2 r.hsa.1 r.hsa.2).mono ?_
                  rintro e w3 ⟨rfl, hb⟩
                  have Jr := blk_below hb Kr.out
                  have Jh := blk_below hb Kh.out
                  have hbw' := below_call hbw hb
                  clear hb hbw Kr lr nr cr0 cr1 cr2 cr3 cr4 cr5 cr6 cr7 cr8 cr9 Kh lh nh ch0 ch1 ch2 ch3 ch4
                  have hbw := hbw'
                  clear hbw'
                  have cr0 : w3.cell? ⟨w.heap.size, 0, none⟩ = some (.bool r.permit) := cell_of_row w3 (w.heap.size) 0 _ _ (0, 0) Jr
                  have cr1 : w3.cell? ⟨w.heap.size, 1, none⟩ = some (.int .i64 r.proto) := cell_of_row w3 (w.heap.size) 1 _ _ (0, 0) Jr
                  have cr2 : w3.cell? ⟨w.heap.size, 2, none⟩ = some (.int .u32 r.sa) := cell_of_row w3 (w.heap.size) 2 _ _ (0, 0) Jr
                  have cr3 : w3.cell? ⟨w.heap.size, 3, none⟩ = some (.int .i64 r.sn) := cell_of_row w3 (w.heap.size) 3 _ _ (0, 0) Jr
                  have cr4 : w3.cell? ⟨w.heap.size, 4, none⟩ = some (.int .u32 r.da) := cell_of_row w3 (w.heap.size) 4 _ _ (0, 0) Jr
                  have cr5 : w3.cell? ⟨w.heap.size, 5, none⟩ = some (.int .i64 r.dn) := cell_of_row w3 (w.heap.size) 5 _ _ (0, 0) Jr
                  have cr6 : w3.cell? ⟨w.heap.size, 6, none⟩ = some (.int .u32 r.sl) := cell_of_row w3 (w.heap.size) 6 _ _ (0, 0) Jr
                  have cr7 : w3.cell? ⟨w.heap.size, 7, none⟩ = some (.int .u32 r.sh) := cell_of_row w3 (w.heap.size) 7 _ _ (0, 0) Jr
                  have cr8 : w3.cell? ⟨w.heap.size, 8, none⟩ = some (.int .u32 r.dl) := cell_of_row w3 (w.heap.size) 8 _ _ (0, 0) Jr
                  have cr9 : w3.cell? ⟨w.heap.size, 9, none⟩ = some (.int .u32 r.dh) := cell_of_row w3 (w.heap.size) 9 _ _ (0, 0) Jr
                  have lr : w.heap.size < w3.heap.size := lt_of_block Jr
                  have nr : w.heap.size ≠ w3.heap.size := Nat.ne_of_lt lr
                  have Kr := Lib.hid Jr
                  clear Jr
                  have ch0 : w3.cell? ⟨w.heap.size + 1, 0, none⟩ = some (.int .u32 h.src) := cell_of_row w3 (w.heap.size + 1) 0 _ _ (0, 0) Jh
                  have ch1 : w3.cell? ⟨w.heap.size + 1, 1, none⟩ = some (.int .u32 h.dst) := cell_of_row w3 (w.heap.size + 1) 1 _ _ (0, 0) Jh
                  have ch2 : w3.cell? ⟨w.heap.size + 1, 2, none⟩ = some (.int .u8 h.proto) := cell_of_row w3 (w.heap.size + 1) 2 _ _ (0, 0) Jh
                  have ch3 : w3.cell? ⟨w.heap.size + 1, 3, none⟩ = some (.int .u16 h.sp) := cell_of_row w3 (w.heap.size + 1) 3 _ _ (0, 0) Jh
                  have ch4 : w3.cell? ⟨w.heap.size + 1, 4, none⟩ = some (.int .u16 h.dp) := cell_of_row w3 (w.heap.size + 1) 4 _ _ (0, 0) Jh
                  have lh : w.heap.size + 1 < w3.heap.size := lt_of_block Jh
                  have nh : w.heap.size + 1 ≠ w3.heap.size := Nat.ne_of_lt lh
                  have Kh := Lib.hid Jh
                  clear Jh
                  go_wp2_with fail
                  refine (refIn_any _ _ _ _ h.hdst.1 h.hdst.2 r.hda.1 r.hda.2).mono ?_
                  rintro e w4 ⟨rfl, hb⟩
                  have Jr := blk_below hb Kr.out
                  have Jh := blk_below hb Kh.out
                  have hbw' := below_call hbw hb
                  clear hb hbw Kr lr nr cr0 cr1 cr2 cr3 cr4 cr5 cr6 cr7 cr8 cr9 Kh lh nh ch0 ch1 ch2 ch3 ch4
                  have hbw := hbw'
                  clear hbw'
                  have cr0 : w4.cell? ⟨w.heap.size, 0, none⟩ = some (.bool r.permit) := cell_of_row w4 (w.heap.size) 0 _ _ (0, 0) Jr
                  have cr1 : w4.cell? ⟨w.heap.size, 1, none⟩ = some (.int .i64 r.proto) := cell_of_row w4 (w.heap.size) 1 _ _ (0, 0) Jr
                  have cr2 : w4.cell? ⟨w.heap.size, 2, none⟩ = some (.int .u32 r.sa) := cell_of_row w4 (w.heap.size) 2 _ _ (0, 0) Jr
                  have cr3 : w4.cell? ⟨w.heap.size, 3, none⟩ = some (.int .i64 r.sn) := cell_of_row w4 (w.heap.size) 3 _ _ (0, 0) Jr
                  have cr4 : w4.cell? ⟨w.heap.size, 4, none⟩ = some (.int .u32 r.da) := cell_of_row w4 (w.heap.size) 4 _ _ (0, 0) Jr
                  have cr5 : w4.cell? ⟨w.heap.size, 5, none⟩ = some (.int .i64 r.dn) := cell_of_row w4 (w.heap.size) 5 _ _ (0, 0) Jr
                  have cr6 : w4.cell? ⟨w.heap.size, 6, none⟩ = some (.int .u32 r.sl) := cell_of_row w4 (w.heap.size) 6 _ _ (0, 0) Jr
                  have cr7 : w4.cell? ⟨w.heap.size, 7, none⟩ = some (.int .u32 r.sh) := cell_of_row w4 (w.heap.size) 7 _ _ (0, 0) Jr
                  have cr8 : w4.cell? ⟨w.heap.size, 8, none⟩ = some (.int .u32 r.dl) := cell_of_row w4 (w.heap.size) 8 _ _ (0, 0) Jr
                  have cr9 : w4.cell? ⟨w.heap.size, 9, none⟩ = some (.int .u32 r.dh) := cell_of_row w4 (w.heap.size) 9 _ _ (0, 0) Jr
                  have lr : w.heap.size < w4.heap.size := lt_of_block Jr
                  have nr : w.heap.size ≠ w4.heap.size := Nat.ne_of_lt lr
                  have Kr := Lib.hid Jr
                  clear Jr
                  have ch0 : w4.cell? ⟨w.heap.size + 1, 0, none⟩ = some (.int .u32 h.src) := cell_of_row w4 (w.heap.size + 1) 0 _ _ (0, 0) Jh
                  have ch1 : w4.cell? ⟨w.heap.size + 1, 1, none⟩ = some (.int .u32 h.dst) := cell_of_row w4 (w.heap.size + 1) 1 _ _ (0, 0) Jh
                  have ch2 : w4.cell? ⟨w.heap.size + 1, 2, none⟩ = some (.int .u8 h.proto) := cell_of_row w4 (w.heap.size + 1) 2 _ _ (0, 0) Jh
                  have ch3 : w4.cell? ⟨w.heap.size + 1, 3, none⟩ = some (.int .u16 h.sp) := cell_of_row w4 (w.heap.size + 1) 3 _ _ (0, 0) Jh
                  have ch4 : w4.cell? ⟨w.heap.size + 1, 4, none⟩ = some (.int .u16 h.dp) := cell_of_row w4 (w.heap.size + 1) 4 _ _ (0, 0) Jh
                  have lh : w.heap.size + 1 < w4.heap.size := lt_of_block Jh
                  have nh : w.heap.size + 1 ≠ w4.heap.size := Nat.ne_of_lt lh
                  have Kh := Lib.hid Jh
                  clear Jh
                  go_wp2
                  go_ret
                  exact ⟨ret_bool hE.out, hbw⟩
              · have t6b0 : decide (h.sp ≤ r.sh) = false := by first | (simp [*]; done) | (simp; omega) | (simp [*]; omega)
                have hE : Hid (false = fitsB r h) := by unfold Hid; simp [fitsB, inP, *]
                clear q0a q1a q2a q3a q4a q5a q6a
                go_enter Tryz.func53, Tryz.ntmps53
                go_wp2_with fail
                refine (refCheck_any _ _ _ r.hsa.1 r.hsa.2).mono ?_
                rintro e w1 ⟨rfl, hb⟩
                have Jr := blk_below hb (blk2 w _ _).1
                have Jh := blk_below hb (blk2 w _ _).2
                have hbw := below_call (below2 w _ _) hb
                clear hb
                have cr0 : w1.cell? ⟨w.heap.size, 0, none⟩ = some (.bool r.permit) := cell_of_row w1 (w.heap.size) 0 _ _ (0, 0) Jr
                have cr1 : w1.cell? ⟨w.heap.size, 1, none⟩ = some (.int .i64 r.proto) := cell_of_row w1 (w.heap.size) 1 _ _ (0, 0) Jr
                have cr2 : w1.cell? ⟨w.heap.size, 2, none⟩ = some (.int .u32 r.sa) := cell_of_row w1 (w.heap.size) 2 _ _ (0, 0) Jr
                have cr3 : w1.cell? ⟨w.heap.size, 3, none⟩ = some (.int .i64 r.sn) := cell_of_row w1 (w.heap.size) 3 _ _ (0, 0) Jr
                have cr4 : w1.cell? ⟨w.heap.size, 4, none⟩ = some (.int .u32 r.da) := cell_of_row w1 (w.heap.size) 4 _ _ (0, 0) Jr
                have cr5 : w1.cell? ⟨w.heap.size, 5, none⟩ = some (.int .i64 r.dn) := cell_of_row w1 (w.heap.size) 5 _ _ (0, 0) Jr
                have cr6 : w1.cell? ⟨w.heap.size, 6, none⟩ = some (.int .u32 r.sl) := cell_of_row w1 (w.heap.size) 6 _ _ (0, 0) Jr
                have cr7 : w1.cell? ⟨w.heap.size, 7, none⟩ = some (.int .u32 r.sh) := cell_of_row w1 (w.heap.size) 7 _ _ (0, 0) Jr
                have cr8 : w1.cell? ⟨w.heap.size, 8, none⟩ = some (.int .u32 r.dl) := cell_of_row w1 (w.heap.size) 8 _ _ (0, 0) Jr
                have cr9 : w1.cell? ⟨w.heap.size, 9, none⟩ = some (.int .u32 r.dh) := cell_of_row w1 (w.heap.size) 9 _ _ (0, 0) Jr
                have lr : w.heap.size < w1.heap.size := lt_of_block Jr
                have nr : w.heap.size ≠ w1.heap.size := Nat.ne_of_lt lr
                have Kr := Lib.hid Jr
                clear Jr
                have ch0 : w1.cell? ⟨w.heap.size + 1, 0, none⟩ = some (.int .u32 h.src) := cell_of_row w1 (w.heap.size + 1) 0 _ _ (0, 0) Jh
                have ch1 : w1.cell? ⟨w.heap.size + 1, 1, none⟩ = some (.int .u32 h.dst) := cell_of_row w1 (w.heap.size + 1) 1 _ _ (0, 0) Jh
                have ch2 : w1.cell? ⟨w.heap.size + 1, 2, none⟩ = some (.int .u8 h.proto) := cell_of_row w1 (w.heap.size + 1) 2 _ _ (0, 0) Jh
                have ch3 : w1.cell? ⟨w.heap.size + 1, 3, none⟩ = some (.int .u16 h.sp) := cell_of_row w1 (w.heap.size + 1) 3 _ _ (0, 0) Jh
                have ch4 : w1.cell? ⟨w.heap.size + 1, 4, none⟩ = some (.int .u16 h.dp) := cell_of_row w1 (w.heap.size + 1) 4 _ _ (0, 0) Jh
                have lh : w.heap.size + 1 < w1.heap.size := lt_of_block Jh
                have nh : w.heap.size + 1 ≠ w1.heap.size := Nat.ne_of_lt lh
                have Kh := Lib.hid Jh
                clear Jh
                go_wp2_with fail
                refine (refCheck_any _ _ _ r.hda.1 r.hda.2).mono ?_
                rintro e w2 ⟨rfl, hb⟩
                have Jr := blk_below hb Kr.out
                have Jh := blk_below hb Kh.out
                have hbw' := below_call hbw hb
                clear hb hbw Kr lr nr cr0 cr1 cr2 cr3 cr4 cr5 cr6 cr7 cr8 cr9 Kh lh nh ch0 ch1 ch2 ch3 ch4
                have hbw := hbw'
                clear hbw'
                have cr0 : w2.cell? ⟨w.heap.size, 0, none⟩ = some (.bool r.permit) := cell_of_row w2 (w.heap.size) 0 _ _ (0, 0) Jr
                have cr1 : w2.cell? ⟨w.heap.size, 1, none⟩ = some (.int .i64 r.proto) := cell_of_row w2 (w.heap.size) 1 _ _ (0, 0) Jr
                have cr2 : w2.cell? ⟨w.heap.size, 2, none⟩ = some (.int .u32 r.sa) := cell_of_row w2 (w.heap.size) 2 _ _ (0, 0) Jr
                have cr3 : w2.cell? ⟨w.heap.size, 3, none⟩ = some (.int .i64 r.sn) := cell_of_row w2 (w.heap.size) 3 _ _ (0, 0) Jr
                have cr4 : w2.cell? ⟨w.heap.size, 4, none⟩ = some (.int .u32 r.da) := cell_of_row w2 (w.heap.size) 4 _ _ (0, 0) Jr
                have cr5 : w2.cell? ⟨w.heap.size, 5, none⟩ = some (.int .i64 r.dn) := cell_of_row w2 (w.heap.size) 5 _ _ (0, 0) Jr
                have cr6 : w2.cell? ⟨w.heap.size, 6, none⟩ = some (.int .u32 r.sl) := cell_of_row w2 (w.heap.size) 6 _ _ (0, 0) Jr
                have cr7 : w2.cell? ⟨w.heap.size, 7, none⟩ = some (.int .u32 r.sh) := cell_of_row w2 (w.heap.size) 7 _ _ (0, 0) Jr
                have cr8 : w2.cell? ⟨w.heap.size, 8, none⟩ = some (.int .u32 r.dl) := cell_of_row w2 (w.heap.size) 8 _ _ (0, 0) Jr
                have cr9 : w2.cell? ⟨w.heap.size, 9, none⟩ = some (.int .u32 r.dh) := cell_of_row w2 (w.heap.size) 9 _ _ (0, 0) Jr
                have lr : w.heap.size < w2.heap.size := lt_of_block Jr
                have nr : w.heap.size ≠ w2.heap.size := Nat.ne_of_lt lr
                have Kr := Lib.hid Jr
                clear Jr
                have ch0 : w2.cell? ⟨w.heap.size + 1, 0, none⟩ = some (.int .u32 h.src) := cell_of_row w2 (w.heap.size + 1) 0 _ _ (0, 0) Jh
                have ch1 : w2.cell? ⟨w.heap.size + 1, 1, none⟩ = some (.int .u32 h.dst) := cell_of_row w2 (w.heap.size + 1) 1 _ _ (0, 0) Jh
                have ch2 : w2.cell? ⟨w.heap.size + 1, 2, none⟩ = some (.int .u8 h.proto) := cell_of_row w2 (w.heap.size + 1) 2 _ _ (0, 0) Jh
                have ch3 : w2.cell? ⟨w.heap.size + 1, 3, none⟩ = some (.int .u16 h.sp) := cell_of_row w2 (w.heap.size + 1) 3 _ _ (0, 0) Jh
                have ch4 : w2.cell? ⟨w.heap.size + 1, 4, none⟩ = some (.int .u16 h.dp) := cell_of_row w2 (w.heap.size + 1) 4 _ _ (0, 0) Jh
                have lh : w.heap.size + 1 < w2.heap.size := lt_of_block Jh
                have nh : w.heap.size + 1 ≠ w2.heap.size := Nat.ne_of_lt lh
                have Kh := Lib.hid Jh
                clear Jh
                go_wp2_with fail
                refine (refIn_any _ _ _ _ h.hsrc.1 h.hsrc.2 r.hsa.1 r.hsa.2).mono ?_
                rintro e w3 ⟨rfl, hb⟩
                have Jr := blk_below hb Kr.out
                have Jh := blk_below hb Kh.out
                have hbw' := below_call hbw hb
                clear hb hbw Kr lr nr cr0 cr1 cr2 cr3 cr4 cr5 cr6 cr7 cr8 cr9 Kh lh nh ch0 ch1 ch2 ch3 ch4
                have hbw := hbw'
                clear hbw'
                have cr0 : w3.cell? ⟨w.heap.size, 0, none⟩ = some (.bool r.permit) := cell_of_row w3 (w.heap.size) 0 _ _ (0, 0) Jr
                have cr1 : w3.cell? ⟨w.heap.size, 1, none⟩ = some (.int .i64 r.proto) := cell_of_row w3 (w.heap.size) 1 _ _ (0, 0) Jr
                have cr2 : w3.cell? ⟨w.heap.size, 2, none⟩ = some (.int .u32 r.sa) := cell_of_row w3 (w.heap.size) 2 _ _ (0, 0) Jr
                have cr3 : w3.cell? ⟨w.heap.size, 3, none⟩ = some (.int .i64 r.sn) := cell_of_row w3 (w.heap.size) 3 _ _ (0, 0) Jr
                have cr4 : w3.cell? ⟨w.heap.size, 4, none⟩ = some (.int .u32 r.da) := cell_of_row w3 (w.heap.size) 4 _ _ (0, 0) Jr
                have cr5 : w3.cell? ⟨w.heap.size, 5, none⟩ = some (.int .i64 r.dn) := cell_of_row w3 (w.heap.size) 5 _ _ (0, 0) Jr
                have cr6 : w3.cell? ⟨w.heap.size, 6, none⟩ = some (.int .u32 r.sl) := cell_of_row w3 (w.heap.size) 6 _ _ (0, 0) Jr
                have cr7 : w3.cell? ⟨w.heap.size, 7, none⟩ = some (.int .u32 r.sh) := cell_of_row w3 (w.heap.size) 7 _ _ (0, 0) Jr
                have cr8 : w3.cell? ⟨w.heap.size, 8, none⟩ = some (.int .u32 r.dl) := cell_of_row w3 (w.heap.size) 8 _ _ (0, 0) Jr
                have cr9 : w3.cell? ⟨w.heap.size, 9, none⟩ = some (.int .u32 r.dh) := cell_of_row w3 (w.heap.size) 9 _ _ (0, 0) Jr
                have lr : w.heap.size < w3.heap.size := lt_of_block Jr
                have nr : w.heap.size ≠ w3.heap.size := Nat.ne_of_lt lr
                have Kr := Lib.hid Jr
                clear Jr
                have ch0 : w3.cell? ⟨w.heap.size + 1, 0, none⟩ = some (.int .u32 h.src) := cell_of_row w3 (w.heap.size + 1) 0 _ _ (0, 0) Jh
                have ch1 : w3.cell? ⟨w.heap.size + 1, 1, none⟩ = some (.int .u32 h.dst) := cell_of_row w3 (w.heap.size + 1) 1 _ _ (0, 0) Jh
                have ch2 : w3.cell? ⟨w.heap.size + 1, 2, none⟩ = some (.int .u8 h.proto) := cell_of_row w3 (w.heap.size + 1) 2 _ _ (0, 0) Jh
                have ch3 : w3.cell? ⟨w.heap.size + 1, 3, none⟩ = some (.int .u16 h.sp) := cell_of_row w3 (w.heap.size + 1) 3 _ _ (0, 0) Jh
                have ch4 : w3.cell? ⟨w.heap.size + 1, 4, none⟩ = some (.int .u16 h.dp) := cell_of_row w3 (w.heap.size + 1) 4 _ _ (0, 0) Jh
                have lh : w.heap.size + 1 < w3.heap.size := lt_of_block Jh
                have nh : w.heap.size + 1 ≠ w3.heap.size := Nat.ne_of_lt lh
                have Kh := Lib.hid Jh
                clear Jh
                go_wp2_with fail
                refine (refIn_any _ _ _ _ h.hdst.1 h.hdst.2 r.hda.1 r.hda.2).mono ?_
                rintro e w4 ⟨rfl, hb⟩
                have Jr := blk_below hb Kr.out
                have Jh := blk_below hb Kh.out
                have hbw' := below_call hbw hb
                clear hb hbw Kr lr nr cr0 cr1 cr2 cr3 cr4 cr5 cr6 cr7 cr8 cr9 Kh lh nh ch0 ch1 ch2 ch3 ch4
                have hbw := hbw'
                clear hbw'
                have cr0 : w4.cell? ⟨w.heap.size, 0, none⟩ = some (.bool r.permit) := cell_of_row w4 (w.heap.size) 0 _ _ (0, 0) Jr
                have cr1 : w4.cell? ⟨w.heap.size, 1, none⟩ = some (.int .i64 r.proto) := cell_of_row w4 (w.heap.size) 1 _ _ (0, 0) Jr
                have cr2 : w4.cell? ⟨w.heap.size, 2, none⟩ = some (.int .u32 r.sa) := cell_of_row w4 (w.heap.size) 2 _ _ (0, 0) Jr
                have cr3 : w4.cell? ⟨w.heap.size, 3, none⟩ = some (.int .i64 r.sn) := cell_of_row w4 (w.heap.size) 3 _ _ (0, 0) Jr
                have cr4 : w4.cell? ⟨w.heap.size, 4, none⟩ = some (.int .u32 r.da) := cell_of_row w4 (w.heap.size) 4 _ _ (0, 0) Jr
                have cr5 : w4.cell? ⟨w.heap.size, 5, none⟩ = some (.int .i64 r.dn) := cell_of_row w4 (w.heap.size) 5 _ _ (0, 0) Jr
                have cr6 : w4.cell? ⟨w.heap.size, 6, none⟩ = some (.int .u32 r.sl) := cell_of_row w4 (w.heap.size) 6 _ _ (0, 0) Jr
                have cr7 : w4.cell? ⟨w.heap.size, 7, none⟩ = some (.int .u32 r.sh) := cell_of_row w4 (w.heap.size) 7 _ _ (0, 0) Jr
                have cr8 : w4.cell? ⟨w.heap.size, 8, none⟩ = some (.int .u32 r.dl) := cell_of_row w4 (w.heap.size) 8 _ _ (0, 0) Jr
                have cr9 : w4.cell? ⟨w.heap.size, 9, none⟩ = some (.int .u32 r.dh) := cell_of_row w4 (w.heap.size) 9 _ _ (0, 0) Jr
                have lr : w.heap.size < w4.heap.size := lt_of_block Jr
                have nr : w.heap.size ≠ w4.heap.size := Nat.ne_of_lt lr
                have Kr := Lib.hid Jr
                clear Jr
                have ch0 : w4.cell? ⟨w.heap.size + 1, 0, none⟩ = some (.int .u32 h.src) := cell_of_row w4 (w.heap.size + 1) 0 _ _ (0, 0) Jh
                have ch1 : w4.cell? ⟨w.heap.size + 1, 1, none⟩ = some (.int .u32 h.dst) := cell_of_row w4 (w.heap.size + 1) 1 _ _ (0, 0) Jh
                have ch2 : w4.cell? ⟨w.heap.size + 1, 2, none⟩ = some (.int .u8 h.proto) := cell_of_row w4 (w.heap.size + 1) 2 _ _ (0, 0) Jh
                have ch3 : w4.cell? ⟨w.heap.size + 1, 3, none⟩ = some (.int .u16 h.sp) := cell_of_row w4 (w.heap.size + 1) 3 _ _ (0, 0) Jh
                have ch4 : w4.cell? ⟨w.heap.size + 1, 4, none⟩ = some (.int .u16 h.dp) := cell_of_row w4 (w.heap.size + 1) 4 _ _ (0, 0) Jh
                have lh : w.heap.size + 1 < w4.heap.size := lt_of_block Jh
                have nh : w.heap.size + 1 ≠ w4.heap.size := Nat.ne_of_lt lh
                have Kh := Lib.hid Jh
                clear Jh
                go_wp2
                go_ret
                exact ⟨ret_bool hE.out, hbw⟩
            · have t5b0 : decide (r.sl ≤ h.sp) = false := by first | (simp [*]; done) | (simp; omega) | (simp [*]; omega)
              have hE : Hid (false = fitsB r h) := by unfold Hid; simp [fitsB, inP, *]
              clear q0a q1a q2a q3a q4a q5a
              go_enter Tryz.func53, Tryz.ntmps53
              go_wp2_with fail
              refine (refCheck_any _ _ _ r.hsa.1 r.hsa.2).mono ?_
              rintro e w1 ⟨rfl, hb⟩
              have Jr := blk_below hb (blk2 w _ _).1
              have Jh := blk_below hb (blk2 w _ _).2
              have hbw := below_call (below2 w _ _) hb
              clear hb
              have cr0 : w1.cell? ⟨w.heap.size, 0, none⟩ = some (.bool r.permit) := cell_of_row w1 (w.heap.size) 0 _ _ (0, 0) Jr
              have cr1 : w1.cell? ⟨w.heap.size, 1, none⟩ = some (.int .i64 r.proto) := cell_of_row w1 (w.heap.size) 1 _ _ (0, 0) Jr
              have cr2 : w1.cell? ⟨w.heap.size, 2, none⟩ = some (.int .u32 r.sa) := cell_of_row w1 (w.heap.size) 2 _ _ (0, 0) Jr
              have cr3 : w1.cell? ⟨w.heap.size, 3, none⟩ = some (.int .i64 r.sn) := cell_of_row w1 (w.heap.size) 3 _ _ (0, 0) Jr
              have cr4 : w1.cell? ⟨w.heap.size, 4, none⟩ = some (.int .u32 r.da) := cell_of_row w1 (w.heap.size) 4 _ _ (0, 0) Jr
              have cr5 : w1.cell? ⟨w.heap.size, 5, none⟩ = some (.int .i64 r.dn) := cell_of_row w1 (w.heap.size) 5 _ _ (0, 0) Jr
              have cr6 : w1.cell? ⟨w.heap.size, 6, none⟩ = some (.int .u32 r.sl) := cell_of_row w1 (w.heap.size) 6 _ _ (0, 0) Jr
              have cr7 : w1.cell? ⟨w.heap.size, 7, none⟩ = some (.int .u32 r.sh) := cell_of_row w1 (w.heap.size) 7 _ _ (0, 0) Jr
              have cr8 : w1.cell? ⟨w.heap.size, 8, none⟩ = some (.int .u32 r.dl) := cell_of_row w1 (w.heap.size) 8 _ _ (0, 0) Jr
              have cr9 : w1.cell? ⟨w.heap.size, 9, none⟩ = some (.int .u32 r.dh) := cell_of_row w1 (w.heap.size) 9 _ _ (0, 0) Jr
              have lr : w.heap.size < w1.heap.size := lt_of_block Jr
              have nr : w.heap.size ≠ w1.heap.size := Nat.ne_of_lt lr
              have Kr := Lib.hid Jr
              clear Jr
              have ch0 : w1.cell? ⟨w.heap.size + 1, 0, none⟩ = some (.int .u32 h.src) := cell_of_row w1 (w.heap.size + 1) 0 _ _ (0, 0) Jh
              have ch1 : w1.cell? ⟨w.heap.size + 1, 1, none⟩ = some (.int .u32 h.dst) := cell_of_row w1 (w.heap.size + 1) 1 _ _ (0, 0) Jh
              have ch2 : w1.cell? ⟨w.heap.size + 1, 2, none⟩ = some (.int .u8 h.proto) := cell_of_row w1 (w.heap.size + 1) 2 _ _ (0, 0) Jh
              have ch3 : w1.cell? ⟨w.heap.size + 1, 3, none⟩ = some (.int .u16 h.sp) := cell_of_row w1 (w.heap.size + 1) 3 _ _ (0, 0) Jh
              have ch4 : w1.cell? ⟨w.heap.size + 1, 4, none⟩ = some (.int .u16 h.dp) := cell_of_row w1 (w.heap.size + 1) 4 _ _ (0, 0) Jh
              have lh : w.heap.size + 1 < w1.heap.size := lt_of_block Jh
              have nh : w.heap.size + 1 ≠ w1.heap.size := Nat.ne_of_lt lh
              have Kh := Lib.hid Jh
              clear Jh
              go_wp2_with fail
              refine (refCheck_any _ _ _ r.hda.1 r.hda.2).mono ?_
              rintro e w2 ⟨rfl, hb⟩
              have Jr := blk_below hb Kr.out
              have Jh := blk_below hb Kh.out
              have hbw' := below_call hbw hb
              clear hb hbw Kr lr nr cr0 cr1 cr2 cr3 cr4 cr5 cr6 cr7 cr8 cr9 Kh lh nh ch0 ch1 ch2 ch3 ch4
              have hbw := hbw'
              clear hbw'
              have cr0 : w2.cell? ⟨w.heap.size, 0, none⟩ = some (.bool r.permit) := cell_of_row w2 (w.heap.size) 0 _ _ (0, 0) Jr
              have cr1 : w2.cell? ⟨w.heap.size, 1, none⟩ = some (.int .i64 r.proto) := cell_of_row w2 (w.heap.size) 1 _ _ (0, 0) Jr
              have cr2 : w2.cell? ⟨w.heap.size, 2, none⟩ = some (.int .u32 r.sa) := cell_of_row w2 (w.heap.size) 2 _ _ (0, 0) Jr
              have cr3 : w2.cell? ⟨w.heap.size, 3, none⟩ = some (.int .i64 r.sn) := cell_of_row w2 (w.heap.size) 3 _ _ (0, 0) Jr
              have cr4 : w2.cell? ⟨w.heap.size, 4, none⟩ = some (.int .u32 r.da) := cell_of_row w2 (w.heap.size) 4 _ _ (0, 0) Jr
              have cr5 : w2.cell? ⟨w.heap.size, 5, none⟩ = some (.int .i64 r.dn) := cell_of_row w2 (w.heap.size) 5 _ _ (0, 0) Jr
              have cr6 : w2.cell? ⟨w.heap.size, 6, none⟩ = some (.int .u32 r.sl) := cell_of_row w2 (w.heap.size) 6 _ _ (0, 0) Jr
              have cr7 : w2.cell? ⟨w.heap.size, 7, none⟩ = some (.int .u32 r.sh) := cell_of_row w2 (w.heap.size) 7 _ _ (0, 0) Jr
              have cr8 : w2.cell? ⟨w.heap.size, 8, none⟩ = some (.int .u32 r.dl) := cell_of_row w2 (w.heap.size) 8 _ _ (0, 0) Jr
              have cr9 : w2.cell? ⟨w.heap.size, 9, none⟩ = some (.int .u32 r.dh) := cell_of_row w2 (w.heap.size) 9 _ _ (0, 0) Jr
              have lr : w.heap.size < w2.heap.size := lt_of_block Jr
              have nr : w.heap.size ≠ w2.heap.size := Nat.ne_of_lt lr
              have Kr := Lib.hid Jr
              clear Jr
              have ch0 : w2.cell? ⟨w.heap.size + 1, 0, none⟩ = some (.int .u32 h.src) := cell_of_row w2 (w.heap.size + 1) 0 _ _ (0, 0) Jh
              have ch1 : w2.cell? ⟨w.heap.size + 1, 1, none⟩ = some (.int .u32 h.dst) := cell_of_row w2 (w.heap.size + 1) 1 _ _ (0, 0) Jh
              have ch2 : w2.cell? ⟨w.heap.size + 1, 2, none⟩ = some (.int .u8 h.proto) := cell_of_row w2 (w.heap.size + 1) 2 _ _ (0, 0) Jh
              have ch3 : w2.cell? ⟨w.heap.size + 1, 3, none⟩ = some (.int .u16 h.sp) := cell_of_row w2 (w.heap.size + 1) 3 _ _ (0, 0) Jh
              have ch4 : w2.cell? ⟨w.heap.size + 1, 4, none⟩ = some (.int .u16 h.dp) := cell_of_row w2 (w.heap.size + 1) 4 _ _ (0, 0) Jh
              have lh : w.heap.size + 1 < w2.heap.size := lt_of_block Jh
              have nh : w.heap.size + 1 ≠ w2.heap.size := Nat.ne_of_lt lh
              have Kh := Lib.hid Jh
              clear Jh
              go_wp2_with fail
              refine (refIn_any _ _ _ _ h.hsrc.1 h.hsrc.2 r.hsa.1 r.hsa.2).mono ?_
              rintro e w3 ⟨rfl, hb⟩
              have Jr := blk_below hb Kr.out
              have Jh := blk_below hb Kh.out
              have hbw' := below_call hbw hb
              clear hb hbw Kr lr nr cr0 cr1 cr2 cr3 cr4 cr5 cr6 cr7 cr8 cr9 Kh lh nh ch0 ch1 ch2 ch3 ch4
              have hbw := hbw'
              clear hbw'
              have cr0 : w3.cell? ⟨w.heap.size, 0, none⟩ = some (.bool r.permit) := cell_of_row w3 (w.heap.size) 0 _ _ (0, 0) Jr
              have cr1 : w3.cell? ⟨w.heap.size, 1, none⟩ = some (.int .i64 r.proto) := cell_of_row w3 (w.heap.size) 1 _ _ (0, 0) Jr
              have cr2 : w3.cell? ⟨w.heap.size, 2, none⟩ = some (.int .u32 r.sa) := cell_of_row w3 (w.heap.size) 2 _ _ (0, 0) Jr
              have cr3 : w3.cell? ⟨w.heap.size, 3, none⟩ = some (.int .i64 r.sn) := cell_of_row w3 (w.heap.size) 3 _ _ (0, 0) Jr
              have cr4 : w3.cell? ⟨w.heap.size, 4, none⟩ = some (.int .u32 r.da) := cell_of_row w3 (w.heap.size) 4 _ _ (0, 0) Jr
              have cr5 : w3.cell? ⟨w.heap.size, 5, none⟩ = some (.int .i64 r.dn) := cell_of_row w3 (w.heap.size) 5 _ _ (0, 0) Jr
              have cr6 : w3.cell? ⟨w.heap.size, 6, none⟩ = some (.int .u32 r.sl) := cell_of_row w3 (w.heap.size) 6 _ _ (0, 0) Jr
              have cr7 : w3.cell? ⟨w.heap.size, 7, none⟩ = some (.int .u32 r.sh) := cell_of_row w3 (w.heap.size) 7 _ _ (0, 0) Jr
              have cr8 : w3.cell? ⟨w.heap.size, 8, none⟩ = some (.int .u32 r.dl) := cell_of_row w3 (w.heap.size) 8 _ _ (0, 0) Jr
              have cr9 : w3.cell? ⟨w.heap.size, 9, none⟩ = some (.int .u32 r.dh) := cell_of_row w3 (w.heap.size) 9 _ _ (0, 0) Jr
              have lr : w.heap.size < w3.heap.size := lt_of_block Jr
              have nr : w.heap.size ≠ w3.heap.size := Nat.ne_of_lt lr
              have Kr := Lib.hid Jr
              clear Jr
              have ch0 : w3.cell? ⟨w.heap.size + 1, 0, none⟩ = some (.int .u32 h.src) := cell_of_row w3 (w.heap.size + 1) 0 _ _ (0, 0) Jh
              have ch1 : w3.cell? ⟨w.heap.size + 1, 1, none⟩ = some (.int .u32 h.dst) := cell_of_row w3 (w.heap.size + 1) 1 _ _ (0, 0) Jh
              have ch2 : w3.cell? ⟨w.heap.size + 1, 2, none⟩ = some (.int .u8 h.proto) := cell_of_row w3 (w.heap.size + 1) 2 _ _ (0, 0) Jh
              have ch3 : w3.cell? ⟨w.heap.size + 1, 3, none⟩ = some (.int .u16 h.sp) := cell_of_row w3 (w.heap.size + 1) 3 _ _ (0, 0) Jh
              have ch4 : w3.cell? ⟨w.heap.size + 1, 4, none⟩ = some (.int .u16 h.dp) := cell_of_row w3 (w.heap.size + 1) 4 _ _ (0, 0) Jh
              have lh : w.heap.size + 1 < w3.heap.size := lt_of_block Jh
              have nh : w.heap.size + 1 ≠ w3.heap.size := Nat.ne_of_lt lh
              have Kh := Lib.hid Jh
              clear Jh
              go_wp2_with fail
              refine (refIn_any _ _ _ _ h.hdst.1 h.hdst.2 r.hda.1 r.hda.2).mono ?_
              rintro e w4 ⟨rfl, hb⟩
              have Jr := blk_below hb Kr.out
              have Jh := blk_below hb Kh.out
              have hbw' := below_call hbw hb
              clear hb hbw Kr lr nr cr0 cr1 cr2 cr3 cr4 cr5 cr6 cr7 cr8 cr9 Kh lh nh ch0 ch1 ch2 ch3 ch4
              have hbw := hbw'
              clear hbw'
              have cr0 : w4.cell? ⟨w.heap.size, 0, none⟩ = some (.bool r.permit) := cell_of_row w4 (w.heap.size) 0 _ _ (0, 0) Jr
              have cr1 : w4.cell? ⟨w.heap.size, 1, none⟩ = some (.int .i64 r.proto) := cell_of_row w4 (w.heap.size) 1 _ _ (0, 0) Jr
              have cr2 : w4.cell? ⟨w.heap.size, 2, none⟩ = some (.int .u32 r.sa) := cell_of_row w4 (w.heap.size) 2 _ _ (0, 0) Jr
              have cr3 : w4.cell? ⟨w.heap.size, 3, none⟩ = some (.int .i64 r.sn) := cell_of_row w4 (w.heap.size) 3 _ _ (0, 0) Jr
              have cr4 : w4.cell? ⟨w.heap.size, 4, none⟩ = some (.int .u32 r.da) := cell_of_row w4 (w.heap.size) 4 _ _ (0, 0) Jr
              have cr5 : w4.cell? ⟨w.heap.size, 5, none⟩ = some (.int .i64 r.dn) := cell_of_row w4 (w.heap.size) 5 _ _ (0, 0) Jr
              have cr6 : w4.cell? ⟨w.heap.size, 6, none⟩ = some (.int .u32 r.sl) := cell_of_row w4 (w.heap.size) 6 _ _ (0, 0) Jr
              have cr7 : w4.cell? ⟨w.heap.size, 7, none⟩ = some (.int .u32 r.sh) := cell_of_row w4 (w.heap.size) 7 _ _ (0, 0) Jr
              have cr8 : w4.cell? ⟨w.heap.size, 8, none⟩ = some (.int .u32 r.dl) := cell_of_row w4 (w.heap.size) 8 _ _ (0, 0) Jr
              have cr9 : w4.cell? ⟨w.heap.size, 9, none⟩ = some (.int .u32 r.dh) := cell_of_row w4 (w.heap.size) 9 _ _ (0, 0) Jr
              have lr : w.heap.size < w4.heap.size := lt_of_block Jr
              have nr : w.heap.size ≠ w4.heap.size := Nat.ne_of_lt lr
              have Kr := Lib.hid Jr
              clear Jr
              have ch0 : w4.cell? ⟨w.heap.size + 1, 0, none⟩ = some (.int .u32 h.src) := cell_of_row w4 (w.heap.size + 1) 0 _ _ (0, 0) Jh
              have ch1 : w4.cell? ⟨w.heap.size + 1, 1, none⟩ = some (.int .u32 h.dst) := cell_of_row w4 (w.heap.size + 1) 1 _ _ (0, 0) Jh
              have ch2 : w4.cell? ⟨w.heap.size + 1, 2, none⟩ = some (.int .u8 h.proto) := cell_of_row w4 (w.heap.size + 1) 2 _ _ (0, 0) Jh
              have ch3 : w4.cell? ⟨w.heap.size + 1, 3, none⟩ = some (.int .u16 h.sp) := cell_of_row w4 (w.heap.size + 1) 3 _ _ (0, 0) Jh
              have ch4 : w4.cell? ⟨w.heap.size + 1, 4, none⟩ = some (.int .u16 h.dp) := cell_of_row w4 (w.heap.size + 1) 4 _ _ (0, 0) Jh
              have lh : w.heap.size + 1 < w4.heap.size := lt_of_block Jh
              have nh : w.heap.size + 1 ≠ w4.heap.size := Nat.ne_of_lt lh
              have Kh := Lib.hid Jh
              clear Jh
              go_wp2
              go_ret
              exact ⟨ret_bool hE.out, hbw⟩
          · by_cases q4b : r.proto = h.proto
            · have t4b0 : (r.proto == -1) = false := by first | (simp [*]; done) | (simp; omega) | (simp [*]; omega)
              have t4b1 : (r.proto == h.proto) = true := by first | (simp [*]; done) | (simp; omega) | (simp [*]; omega)
              by_cases q5a : r.sl ≤ h.sp
              · have t5a0 : decide (r.sl ≤ h.sp) = true := by first | (simp [*]; done) | (simp; omega) | (simp [*]; omega)
                by_cases q6a : h.sp ≤ r.sh
                · have t6a0 : decide (h.sp ≤ r.sh) = true := by first | (simp [*]; done) | (simp; omega) | (simp [*]; omega)
                  by_cases q7a : r.dl ≤ h.dp
                  · have t7a0 : decide (r.dl ≤ h.dp) = true := by first | (simp [*]; done) | (simp; omega) | (simp [*]; omega)
                    have hE : Hid (decide (h.dp ≤ r.dh) = fitsB r h) := by unfold Hid; simp [fitsB, inP, *]
                    clear q0a q1a q2a q3a q4a q4b q5a q6a q7a
                    go_enter Tryz.func53, Tryz.ntmps53
                    go_wp2_with fail
                    refine (refCheck_any _ _ _ r.hsa.1 r.hsa.2).mono ?_
                    rintro e w1 ⟨rfl, hb⟩
                    have Jr := blk_below hb (blk2 w _ _).1
                    have Jh := blk_below hb (blk2 w _ _).2
                    have hbw := below_call (below2 w _ _) hb
                    clear hb
                    have cr0 : w1.cell? ⟨w.heap.size, 0, none⟩ = some (.bool r.permit) := cell_of_row w1 (w.heap.size) 0 _ _ (0, 0) Jr
                    have cr1 : w1.cell? ⟨w.heap.size, 1, none⟩ = some (.int .i64 r.proto) := cell_of_row w1 (w.heap.size) 1 _ _ (0, 0) Jr
                    have cr2 : w1.cell? ⟨w.heap.size, 2, none⟩ = some (.int .u32 r.sa) := cell_of_row w1 (w.heap.size) 2 _ _ (0, 0) Jr
                    have cr3 : w1.cell? ⟨w.heap.size, 3, none⟩ = some (.int .i64 r.sn) := cell_of_row w1 (w.heap.size) 3 _ _ (0, 0) Jr
                    have cr4 : w1.cell? ⟨w.heap.size, 4, none⟩ = some (.int .u32 r.da) := cell_of_row w1 (w.heap.size) 4 _ _ (0, 0) Jr
                    have cr5 : w1.cell? ⟨w.heap.size, 5, none⟩ = some (.int .i64 r.dn) := cell_of_row w1 (w.heap.size) 5 _ _ (0, 0) Jr
                    have cr6 : w1.cell? ⟨w.heap.size, 6, none⟩ = some (.int .u32 r.sl) := cell_of_row w1 (w.heap.size) 6 _ _ (0, 0) Jr
                    have cr7 : w1.cell? ⟨w.heap.size, 7, none⟩ = some (.int .u32 r.sh) := cell_of_row w1 (w.heap.size) 7 _ _ (0, 0) Jr
                    have cr8 : w1.cell? ⟨w.heap.size, 8, none⟩ = some (.int .u32 r.dl) := cell_of_row w1 (w.heap.size) 8 _ _ (0, 0) Jr
                    have cr9 : w1.cell? ⟨w.heap.size, 9, none⟩ = some (.int .u32 r.dh) := cell_of_row w1 (w.heap.size) 9 _ _ (0, 0) Jr
                    have lr : w.heap.size < w1.heap.size := lt_of_block Jr
                    have nr : w.heap.size ≠ w1.heap.size := Nat.ne_of_lt lr
                    have Kr := Lib.hid Jr
                    clear Jr
                    have ch0 : w1.cell? ⟨w.heap.size + 1, 0, none⟩ = some (.int .u32 h.src) := cell_of_row w1 (w.heap.size + 1) 0 _ _ (0, 0) Jh
                    have ch1 : w1.cell? ⟨w.heap.size + 1, 1, none⟩ = some (.int .u32 h.dst) := cell_of_row w1 (w.heap.size + 1) 1 _ _ (0, 0) Jh
                    have ch2 : w1.cell? ⟨w.heap.size + 1, 2, none⟩ = some (.int .u8 h.proto) := cell_of_row w1 (w.heap.size + 1) 2 _ _ (0, 0) Jh
                    have ch3 : w1.cell? ⟨w.heap.size + 1, 3, none⟩ = some (.int .u16 h.sp) := cell_of_row w1 (w.heap.size + 1) 3 _ _ (0, 0) Jh
                    have ch4 : w1.cell? ⟨w.heap.size + 1, 4, none⟩ = some (.int .u16 h.dp) := cell_of_row w1 (w.heap.size + 1) 4 _ _ (0, 0) Jh
                    have lh : w.heap.size + 1 < w1.heap.size := lt_of_block Jh
                    have nh : w.heap.size + 1 ≠ w1.heap.size := Nat.ne_of_lt lh
                    have Kh := Lib.hid Jh
                    clear Jh
                    go_wp2_with fail
                    refine (refCheck_any _ _ _ r.hda.1 r.hda.2).mono ?_
                    rintro e w2 ⟨rfl, hb⟩
                    have Jr := blk_below hb Kr.out
                    have Jh := blk_below hb Kh.out
                    have hbw' := below_call hbw hb
                    clear hb hbw Kr lr nr cr0 cr1 cr2 cr3 cr4 cr5 cr6 cr7 cr8 cr9 Kh lh nh ch0 ch1 ch2 ch3 ch4
                    have hbw := hbw'
                    clear hbw'
                    have cr0 : w2.cell? ⟨w.heap.size, 0, none⟩ = some (.bool r.permit) := cell_of_row w2 (w.heap.size) 0 _ _ (0, 0) Jr
                    have cr1 : w2.cell? ⟨w.heap.size, 1, none⟩ = some (.int .i64 r.proto) := cell_of_row w2 (w.heap.size) 1 _ _ (0, 0) Jr
                    have cr2 : w2.cell? ⟨w.heap.size, 2, none⟩ = some (.int .u32 r.sa) := cell_of_row w2 (w.heap.size) 2 _ _ (0, 0) Jr
                    have cr3 : w2.cell? ⟨w.heap.size, 3, none⟩ = some (.int .i64 r.sn) := cell_of_row w2 (w.heap.size) 3 _ _ (0, 0) Jr
                    have cr4 : w2.cell? ⟨w.heap.size, 4, none⟩ = some (.int .u32 r.da) := cell_of_row w2 (w.heap.size) 4 _ _ (0, 0) Jr
                    have cr5 : w2.cell? ⟨w.heap.size, 5, none⟩ = some (.int .i64 r.dn) := cell_of_row w2 (w.heap.size) 5 _ _ (0, 0) Jr
                    have cr6 : w2.cell? ⟨w.heap.size, 6, none⟩ = some (.int .u32 r.sl) := cell_of_row w2 (w.heap.size) 6 _ _ (0, 0) Jr
                    have cr7 : w2.cell? ⟨w.heap.size, 7, none⟩ = some (.int .u32 r.sh) := cell_of_row w2 (w.heap.size) 7 _ _ (0, 0) Jr
                    have cr8 : w2.cell? ⟨w.heap.size, 8, none⟩ = some (.int .u32 r.dl) := cell_of_row w2 (w.heap.size) 8 _ _ (0, 0) Jr
                    have cr9 : w2.cell? ⟨w.heap.size, 9, none⟩ = some (.int .u32 r.dh) := cell_of_row w2 (w.heap.size) 9 _ _ (0, 0) Jr
                    have lr : w.heap.size < w2.heap.size := lt_of_block Jr
                    have nr : w.heap.size ≠ w2.heap.size := Nat.ne_of_lt lr
                    have Kr := Lib.hid Jr
                    clear Jr
                    have ch0 : w2.cell? ⟨w.heap.size + 1, 0, none⟩ = some (.int .u32 h.src) := cell_of_row w2 (w.heap.size + 1) 0 _ _ (0, 0) Jh
                    have ch1 : w2.cell? ⟨w.heap.size + 1, 1, none⟩ = some (.int .u32 h.dst) := cell_of_row w2 (w.heap.size + 1) 1 _ _ (0, 0) Jh
                    have ch2 : w2.cell? ⟨w.heap.size + 1, 2, none⟩ = some (.int .u8 h.proto) := cell_of_row w2 (w.heap.size + 1) 2 _ _ (0, 0) Jh
                    have ch3 : w2.cell? ⟨w.heap.size + 1, 3, none⟩ = some (.int .u16 h.sp) := cell_of_row w2 (w.heap.size + 1) 3 _ _ (0, 0) Jh
                    have ch4 : w2.cell? ⟨w.heap.size + 1, 4, none⟩ = some (.int .u16 h.dp) := cell_of_row w2 (w.heap.size + 1) 4 _ _ (0, 0) Jh
                    have lh : w.heap.size + 1 < w2.heap.size := lt_of_block Jh
                    have nh : w.heap.size + 1 ≠ w2.heap.size := Nat.ne_of_lt lh
                    have Kh := Lib.hid Jh
                    clear Jh
                    go_wp2_with fail
                    refine (refIn_any _ _ _ _ h.hsrc.1 h.hsrc.2 r.hsa.1 r.hsa.2).mono ?_
                    rintro e w3 ⟨rfl, hb⟩
                    have Jr := blk_below hb Kr.out
                    have Jh := blk_below hb Kh.out
                    have hbw' := below_call hbw hb
                    clear hb hbw Kr lr nr cr0 cr1 cr2 cr3 cr4 cr5 cr6 cr7 cr8 cr9 Kh lh nh ch0 ch1 ch2 ch3 ch4
                    have hbw := hbw'
                    clear hbw'
                    have cr0 : w3.cell? ⟨w.heap.size, 0, none⟩ = some (.bool r.permit) := cell_of_row w3 (w.heap.size) 0 _ _ (0, 0) Jr
                    have cr1 : w3.cell? ⟨w.heap.size, 1, none⟩ = some (.int .i64 r.proto) := cell_of_row w3 (w.heap.size) 1 _ _ (0, 0) Jr
                    have cr2 : w3.cell? ⟨w.heap.size, 2, none⟩ = some (.int .u32 r.sa) := cell_of_row w3 (w.heap.size) 2 _ _ (0, 0) Jr
                    have cr3 : w3.cell? ⟨w.heap.size, 3, none⟩ = some (.int .i64 r.sn) := cell_of_row w3 (w.heap.size) 3 _ _ (0, 0) Jr
                    have cr4 : w3.cell? ⟨w.heap.size, 4, none⟩ = some (.int .u32 r.da) := cell_of_row w3 (w.heap.size) 4 _ _ (0, 0) Jr
                    have cr5 : w3.cell? ⟨w.heap.size, 5, none⟩ = some (.int .i64 r.dn) := cell_of_row w3 (w.heap.size) 5 _ _ (0, 0) Jr
                    have cr6 : w3.cell? ⟨w.heap.size, 6, none⟩ = some (.int .u32 r.sl) := cell_of_row w3 (w.heap.size) 6 _ _ (0, 0) Jr
                    have cr7 : w3.cell? ⟨w.heap.size, 7, none⟩ = some (.int .u32 r.sh) := cell_of_row w3 (w.heap.size) 7 _ _ (0, 0) Jr
                    have cr8 : w3.cell? ⟨w.heap.size, 8, none⟩ = some (.int .u32 r.dl) := cell_of_row w3 (w.heap.size) 8 _ _ (0, 0) Jr
                    have cr9 : w3.cell? ⟨w.heap.size, 9, none⟩ = some (.int .u32 r.dh) := cell_of_row w3 (w.heap.size) 9 _ _ (0, 0) Jr
                    have lr : w.heap.size < w3.heap.size := lt_of_block Jr
                    have nr : w.heap.size ≠ w3.heap.size := Nat.ne_of_lt lr
                    have Kr := Lib.hid Jr
                    clear Jr
                    have ch0 : w3.cell? ⟨w.heap.size + 1, 0, none⟩ = some (.int .u32 h.src) := cell_of_row w3 (w.heap.size + 1) 0 _ _ (0, 0) Jh
                    have ch1 : w3.cell? ⟨w.heap.size + 1, 1, none⟩ = some (.int .u32 h.dst) := cell_of_row w3 (w.heap.size + 1) 1 _ _ (0, 0) Jh
                    have ch2 : w3.cell? ⟨w.heap.size + 1, 2, none⟩ = some (.int .u8 h.proto) := cell_of_row w3 (w.heap.size + 1) 2 _ _ (0, 0) Jh
                    have ch3 : w3.cell? ⟨w.heap.size + 1, 3, none⟩ = some (.int .u16 h.sp) := cell_of_row w3 (w.heap.size + 1) 3 _ _ (0, 0) Jh
                    have ch4 : w3.cell? ⟨w.heap.size + 1, 4, none⟩ = some (.int .u16 h.dp) := cell_of_row w3 (w.heap.size + 1) 4 _ _ (0, 0) Jh
                    have lh : w.heap.size + 1 < w3.heap.size := lt_of_block Jh
                    have nh : w.heap.size + 1 ≠ w3.heap.size := Nat.ne_of_lt lh
                    have Kh := Lib.hid Jh
                    clear Jh
                    go_wp2_with fail
                    refine (refIn_any _ _ _ _ h.hdst.1 h.hdst.2 r.hda.1 r.hda.2).mono ?_
                    rintro e w4 ⟨rfl, hb⟩
                    have Jr := blk_below hb Kr.out
                    have Jh := blk_below hb Kh.out
                    have hbw' := below_call hbw hb
                    clear hb hbw Kr lr nr cr0 cr1 cr2 cr3 cr4 cr5 cr6 cr7 cr8 cr9 Kh lh nh ch0 ch1 ch2 ch3 ch4
                    have hbw := hbw'
                    clear hbw'
                    have cr0 : w4.cell? ⟨w.heap.size, 0, none⟩ = some (.bool r.permit) := cell_of_row w4 (w.heap.size) 0 _ _ (0, 0) Jr
                    have cr1 : w4.cell? ⟨w.heap.size, 1, none⟩ = some (.int .i64 r.proto) := cell_of_row w4 (w.heap.size) 1 _ _ (0, 0) Jr
                    have cr2 : w4.cell? ⟨w.heap.size, 2, none⟩ = some (.int .u32 r.sa) := cell_of_row w4 (w.heap.size) 2 _ _ (0, 0) Jr
                    have cr3 : w4.cell? ⟨w.heap.size, 3, none⟩ = some (.int .i64 r.sn) := cell_of_row w4 (w.heap.size) 3 _ _ (0, 0) Jr
                    have cr4 : w4.cell? ⟨w.heap.size, 4, none⟩ = some (.int .u32 r.da) := cell_of_row w4 (w.heap.size) 4 _ _ (0, 0) Jr
                    have cr5 : w4.cell? ⟨w.heap.size, 5, none⟩ = some (.int .i64 r.dn) := cell_of_row w4 (w.heap.size) 5 _ _ (0, 0) Jr
                    have cr6 : w4.cell? ⟨w.heap.size, 6, none⟩ = some (.int .u32 r.sl) := cell_of_row w4 (w.heap.size) 6 _ _ (0, 0) Jr
                    have cr7 : w4.cell? ⟨w.heap.size, 7, none⟩ = some (.int .u32 r.sh) := cell_of_row w4 (w.heap.size) 7 _ _ (0, 0) Jr
                    have cr8 : w4.cell? ⟨w.heap.size, 8, none⟩ = some (.int .u32 r.dl) := cell_of_row w4 (w.heap.size) 8 _ _ (0, 0) Jr
                    have cr9 : w4.cell? ⟨w.heap.size, 9, none⟩ = some (.int .u32 r.dh) := cell_of_row w4 (w.heap.size) 9 _ _ (0, 0) Jr
                    have lr : w.heap.size < w4.heap.size := lt_of_block Jr
                    have nr : w.heap.size ≠ w4.heap.size := Nat.ne_of_lt lr
                    have Kr := Lib.hid Jr
                    clear Jr
                    have ch0 : w4.cell? ⟨w.heap.size + 1, 0, none⟩ = some (.int .u32 h.src) := cell_of_row w4 (w.heap.size + 1) 0 _ _ (0, 0) Jh
                    have ch1 : w4.cell? ⟨w.heap.size + 1, 1, none⟩ = some (.int .u32 h.dst) := cell_of_row w4 (w.heap.size + 1) 1 _ _ (0, 0) Jh
                    have ch2 : w4.cell? ⟨w.heap.size + 1, 2, none⟩ = some (.int .u8 h.proto) := cell_of_row w4 (w.heap.size + 1) 2 _ _ (0, 0) Jh
                    have ch3 : w4.cell? ⟨w.heap.size + 1, 3, none⟩ = some (.int .u16 h.sp) := cell_of_row w4 (w.heap.size + 1) 3 _ _ (0, 0) Jh
                    have ch4 : w4.cell? ⟨w.heap.size + 1, 4, none⟩ = some (.int .u16 h.dp) := cell_of_row w4 (w.heap.size + 1) 4 _ _ (0, 0) Jh
                    have lh : w.heap.size + 1 < w4.heap.size := lt_of_block Jh
                    have nh : w.heap.size + 1 ≠ w4.heap.size := Nat.ne_of_lt lh
                    have Kh := Lib.hid Jh
                    clear Jh
                    go_wp2
                    go_ret
                    exact ⟨ret_bool hE.out, hbw⟩
                  · have t7b0 : decide (r.dl ≤ h.dp) = false := by first | (simp [*]; done) | (simp; omega) | (simp [*]; omega)
                    have hE : Hid (false = fitsB r h) := by unfold Hid; simp [fitsB, inP, *]
                    clear q0a q1a q2a q3a q4a q4b q5a q6a q7a
                    go_enter Tryz.func53, Tryz.ntmps53
                    go_wp2_with fail
                    refine (refCheck_any _ _ _ r.hsa.1 r.hsa.2).mono ?_
                    rintro e w1 ⟨rfl, hb⟩
                    have Jr := blk_below hb (blk2 w _ _).1
                    have Jh := blk_below hb (blk2 w _ _).2
                    have hbw := below_call (below2 w _ _) hb
                    clear hb
                    have cr0 : w1.cell? ⟨w.heap.size, 0, none⟩ = some (.bool r.permit) := cell_of_row w1 (w.heap.size) 0 _ _ (0, 0) Jr
                    have cr1 : w1.cell? ⟨w.heap.size, 1, none⟩ = some (.int .i64 r.proto) := cell_of_row w1 (w.heap.size) 1 _ _ (0, 0) Jr
                    have cr2 : w1.cell? ⟨w.heap.size, 2, none⟩ = some (.int .u32 r.sa) := cell_of_row w1 (w.heap.size) 2 _ _ (0, 0) Jr
                    have cr3 : w1.cell? ⟨w.heap.size, 3, none⟩ = some (.int .i64 r.sn) := cell_of_row w1 (w.heap.size) 3 _ _ (0, 0) Jr
                    have cr4 : w1.cell? ⟨w.heap.size, 4, none⟩ = some (.int .u32 r.da) := cell_of_row w1 (w.heap.size) 4 _ _ (0, 0) Jr
                    have cr5 : w1.cell? ⟨w.heap.size, 5, none⟩ = some (.int .i64 r.dn) := cell_of_row w1 (w.heap.size) 5 _ _ (0, 0) Jr
                    have cr6 : w1.cell? ⟨w.heap.size, 6, none⟩ = some (.int .u32 r.sl) := cell_of_row w1 (w.heap.size) 6 _ _ (0, 0) Jr
                    have cr7 : w1.cell? ⟨w.heap.size, 7, none⟩ = some (.int .u32 r.sh) := cell_of_row w1 (w.heap.size) 7 _ _ (0, 0) Jr
                    have cr8 : w1.cell? ⟨w.heap.size, 8, none⟩ = some (.int .u32 r.dl) := cell_of_row w1 (w.heap.size) 8 _ _ (0, 0) Jr
                    have cr9 : w1.cell? ⟨w.heap.size, 9, none⟩ = some (.int .u32 r.dh) := cell_of_row w1 (w.heap.size) 9 _ _ (0, 0) Jr
                    have lr : w.heap.size < w1.heap.size := lt_of_block Jr
                    have nr : w.heap.size ≠ w1.heap.size := Nat.ne_of_lt lr
                    have Kr := Lib.hid Jr
                    clear Jr
                    have ch0 : w1.cell? ⟨w.heap.size + 1, 0, none⟩ = some (.int .u32 h.src) := cell_of_row w1 (w.heap.size + 1) 0 _ _ (0, 0) Jh
                    have ch1 : w1.cell? ⟨w.heap.size + 1, 1, none⟩ = some (.int .u32 h.dst) := cell_of_row w1 (w.heap.size + 1) 1 _ _ (0, 0) Jh
                    have ch2 : w1.cell? ⟨w.heap.size + 1, 2, none⟩ = some (.int .u8 h.proto) := cell_of_row w1 (w.heap.size + 1) 2 _ _ (0, 0) Jh
                    have ch3 : w1.cell? ⟨w.heap.size + 1, 3, none⟩ = some (.int .u16 h.sp) := cell_of_row w1 (w.heap.size + 1) 3 _ _ (0, 0) Jh
                    have ch4 : w1.cell? ⟨w.heap.size + 1, 4, none⟩ = some (.int .u16 h.dp) := cell_of_row w1 (w.heap.size + 1) 4 _ _ (0, 0) Jh
                    have lh : w.heap.size + 1 < w1.heap.size := lt_of_block Jh
                    have nh : w.heap.size + 1 ≠ w1.heap.size := Nat.ne_of_lt lh
                    have Kh := Lib.hid Jh
                    clear Jh
                    go_wp2_with fail
                    refine (refCheck_any _ _ _ r.hda.1 r.hda.2).mono ?_
                    rintro e w2 ⟨rfl, hb⟩
                    have Jr := blk_below hb Kr.out
                    have Jh := blk_below hb Kh.out
                    have hbw' := below_call hbw hb
                    clear hb hbw Kr lr nr cr0 cr1 cr2 cr3 cr4 cr5 cr6 cr7 cr8 cr9 Kh lh nh ch0 ch1 ch2 ch3 ch4
                    have hbw := hbw'
                    clear hbw'
                    have cr0 : w2.cell? ⟨w.heap.size, 0, none⟩ = some (.bool r.permit) := cell_of_row w2 (w.heap.size) 0 _ _ (0, 0) Jr
                    have cr1 : w2.cell? ⟨w.heap.size, 1, none⟩ = some (.int .i64 r.proto) := cell_of_row w2 (w.heap.size) 1 _ _ (0, 0) Jr
                    have cr2 : w2.cell? ⟨w.heap.size, 2, none⟩ = some (.int .u32 r.sa) := cell_of_row w2 (w.heap.size) 2 _ _ (0, 0) Jr
                    have cr3 : w2.cell? ⟨w.heap.size, 3, none⟩ = some (.int .i64 r.sn) := cell_of_row w2 (w.heap.size) 3 _ _ (0, 0) Jr
                    have cr4 : w2.cell? ⟨w.heap.size, 4, none⟩ = some (.int .u32 r.da) := cell_of_row w2 (w.heap.size) 4 _ _ (0, 0) Jr
                    have cr5 : w2.cell? ⟨w.heap.size, 5, none⟩ = some (.int .i64 r.dn) := cell_of_row w2 (w.heap.size) 5 _ _ (0, 0) Jr
                    have cr6 : w2.cell? ⟨w.heap.size, 6, none⟩ = some (.int .u32 r.sl) := cell_of_row w2 (w.heap.size) 6 _ _ (0, 0) Jr
                    have cr7 : w2.cell? ⟨w.heap.size, 7, none⟩ = some (.int .u32 r.sh) := cell_of_row w2 (w.heap.size) 7 _ _ (0, 0) Jr
                    have cr8 : w2.cell? ⟨w.heap.size, 8, none⟩ = some (.int .u32 r.dl) := cell_of_row w2 (w.heap.size) 8 _ _ (0, 0) Jr
                    have cr9 : w2.cell? ⟨w.heap.size, 9, none⟩ = some (.int .u32 r.dh) := cell_of_row w2 (w.heap.size) 9 _ _ (0, 0) Jr
                    have lr : w.heap.size < w2.heap.size := lt_of_block Jr
                    have nr : w.heap.size ≠ w2.heap.size := Nat.ne_of_lt lr
                    have Kr := Lib.hid Jr
                    clear Jr
                    have ch0 : w2.cell? ⟨w.heap.size + 1, 0, none⟩ = some (.int .u32 h.src) := cell_of_row w2 (w.heap.size + 1) 0 _ _ (0, 0) Jh
                    have ch1 : w2.cell? ⟨w.heap.size + 1, 1, none⟩ = some (.int .u32 h.dst) := cell_of_row w2 (w.heap.size + 1) 1 _ _ (0, 0) Jh
                    have ch2 : w2.cell? ⟨w.heap.size + 1, 2, none⟩ = some (.int .u8 h.proto) := cell_of_row w2 (w.heap.size + 1) 2 _ _ (0, 0) Jh
                    have ch3 : w2.cell? ⟨w.heap.size + 1, 3, none⟩ = some (.int .u16 h.sp) := cell_of_row w2 (w.heap.size + 1) 3 _ _ (0, 0) Jh
                    have ch4 : w2.cell? ⟨w.heap.size + 1, 4, none⟩ = some (.int .u16 h.dp) := cell_of_row w2 (w.heap.size + 1) 4 _ _ (0, 0) Jh
                    have lh : w.heap.size + 1 < w2.heap.size := lt_of_block Jh
                    have nh : w.heap.size + 1 ≠ w2.heap.size := Nat.ne_of_lt lh
                    have Kh := Lib.hid Jh
                    clear Jh
                    go_wp2_with fail
                    refine (refIn_any _ _ _ _ h.hsrc.1 h.hsrc.2 r.hsa.1 r.hsa.2).mono ?_
                    rintro e w3 ⟨rfl, hb⟩
                    have Jr := blk_below hb Kr.out
                    have Jh := blk_below hb Kh.out
                    have hbw' := below_call hbw hb
                    clear hb hbw Kr lr nr cr0 cr1 cr2 cr3 cr4 cr5 cr6 cr7 cr8 cr9 Kh lh nh ch0 ch1 ch2 ch3 ch4
                    have hbw := hbw'
                    clear hbw'
                    have cr0 : w3.cell? ⟨w.heap.size, 0, none⟩ = some (.bool r.permit) := cell_of_row w3 (w.heap.size) 0 _ _ (0, 0) Jr
                    have cr1 : w3.cell? ⟨w.heap.size, 1, none⟩ = some (.int .i64 r.proto) := cell_of_row w3 (w.heap.size) 1 _ _ (0, 0) Jr
                    have cr2 : w3.cell? ⟨w.heap.size, 2, none⟩ = some (.int .u32 r.sa) := cell_of_row w3 (w.heap.size) 2 _ _ (0, 0) Jr
                    have cr3 : w3.cell? ⟨w.heap.size, 3, none⟩ = some (.int .i64 r.sn) := cell_of_row w3 (w.heap.size) 3 _ _ (0, 0) Jr
                    have cr4 : w3.cell? ⟨w.heap.size, 4, none⟩ = some (.int .u32 r.da) := cell_of_row w3 (w.heap.size) 4 _ _ (0, 0) Jr
                    have cr5 : w3.cell? ⟨w.heap.size, 5, none⟩ = some (.int .i64 r.dn) := cell_of_row w3 (w.heap.size) 5 _ _ (0, 0) Jr
                    have cr6 : w3.cell? ⟨w.heap.size, 6, none⟩ = some (.int .u32 r.sl) := cell_of_row w3 (w.heap.size) 6 _ _ (0, 0) Jr
                    have cr7 : w3.cell? ⟨w.heap.size, 7, none⟩ = some (.int .u32 r.sh) := cell_of_row w3 (w.heap.size) 7 _ _ (0, 0) Jr
                    have cr8 : w3.cell? ⟨w.heap.size, 8, none⟩ = some (.int .u32 r.dl) := cell_of_row w3 (w.heap.size) 8 _ _ (0, 0) Jr
                    have cr9 : w3.cell? ⟨w.heap.size, 9, none⟩ = some (.int .u32 r.dh) := cell_of_row w3 (w.heap.size) 9 _ _ (0, 0) Jr
                    have lr : w.heap.size < w3.heap.size := lt_of_block Jr
                    have nr : w.heap.size ≠ w3.heap.size := Nat.ne_of_lt lr
                    have Kr := Lib.hid Jr
                    clear Jr
                    have ch0 : w3.cell? ⟨w.heap.size + 1, 0, none⟩ = some (.int .u32 h.src) := cell_of_row w3 (w.heap.size + 1) 0 _ _ (0, 0) Jh
                    have ch1 : w3.cell? ⟨w.heap.size + 1, 1, none⟩ = some (.int .u32 h.dst) := cell_of_row w3 (w.heap.size + 1) 1 _ _ (0, 0) Jh
                    have ch2 : w3.cell? ⟨w.heap.size + 1, 2, none⟩ = some (.int .u8 h.proto) := cell_of_row w3 (w.heap.size + 1) 2 _ _ (0, 0) Jh
                    have ch3 : w3.cell? ⟨w.heap.size + 1, 3, none⟩ = some (.int .u16 h.sp) := cell_of_row w3 (w.heap.size + 1) 3 _ _ (0, 0) Jh
                    have ch4 : w3.cell? ⟨w.heap.size + 1, 4, none⟩ = some (.int .u16 h.dp) := cell_of_row w3 (w.heap.size + 1) 4 _ _ (0, 0) Jh
                    have lh : w.heap.size + 1 < w3.heap.size := lt_of_block Jh
                    have nh : w.heap.size + 1 ≠ w3.heap.size := Nat.ne_of_lt lh
                    have Kh := Lib.hid Jh
                    clear Jh
                    go_wp2_with fail
                    refine (refIn_any _ _ _ _ h.hdst.1 h.hdst.2 r.hda.1 r.hda.2).mono ?_
                    rintro e w4 ⟨rfl, hb⟩
                    have Jr := blk_below hb Kr.out
                    have Jh := blk_below hb Kh.out
                    have hbw' := below_call hbw hb
                    clear hb hbw Kr lr nr cr0 cr1 cr2 cr3 cr4 cr5 cr6 cr7 cr8 cr9 Kh lh nh ch0 ch1 ch2 ch3 ch4
                    have hbw := hbw'
                    clear hbw'
                    have cr0 : w4.cell? ⟨w.heap.size, 0, none⟩ = some (.bool r.permit) := cell_of_row w4 (w.heap.size) 0 _ _ (0, 0) Jr
                    have cr1 : w4.cell? ⟨w.heap.size, 1, none⟩ = some (.int .i64 r.proto) := cell_of_row w4 (w.heap.size) 1 _ _ (0, 0) Jr
                    have cr2 : w4.cell? ⟨w.heap.size, 2, none⟩ = some (.int .u32 r.sa) := cell_of_row w4 (w.heap.size) 2 _ _ (0, 0) Jr
                    have cr3 : w4.cell? ⟨w.heap.size, 3, none⟩ = some (.int .i64 r.sn) := cell_of_row w4 (w.heap.size) 3 _ _ (0, 0) Jr
                    have cr4 : w4.cell? ⟨w.heap.size, 4, none⟩ = some (.int .u32 r.da) := cell_of_row w4 (w.heap.size) 4 _ _ (0, 0) Jr
                    have cr5 : w4.cell? ⟨w.heap.size, 5, none⟩ = some (.int .i64 r.dn) := cell_of_row w4 (w.heap.size) 5 _ _ (0, 0) Jr
                    have cr6 : w4.cell? ⟨w.heap.size, 6, none⟩ = some (.int .u32 r.sl) := cell_of_row w4 (w.heap.size) 6 _ _ (0, 0) Jr
                    have cr7 : w4.cell? ⟨w.heap.size, 7, none⟩ = some (.int .u32 r.sh) := cell_of_row w4 (w.heap.size) 7 _ _ (0, 0) Jr
                    have cr8 : w4.cell? ⟨w.heap.size, 8, none⟩ = some (.int .u32 r.dl) := cell_of_row w4 (w.heap.size) 8 _ _ (0, 0) Jr
                    have cr9 : w4.cell? ⟨w.heap.size, 9, none⟩ = some (.int .u32 r.dh) := cell_of_row w4 (w.heap.size) 9 _ _ (0, 0) Jr
                    have lr : w.heap.size < w4.heap.size := lt_of_block Jr
                    have nr : w.heap.size ≠ w4.heap.size := Nat.ne_of_lt lr
                    have Kr := Lib.hid Jr
                    clear Jr
                    have ch0 : w4.cell? ⟨w.heap.size + 1, 0, none⟩ = some (.int .u32 h.src) := cell_of_row w4 (w.heap.size + 1) 0 _ _ (0, 0) Jh
                    have ch1 : w4.cell? ⟨w.heap.size + 1, 1, none⟩ = some (.int .u32 h.dst) := cell_of_row w4 (w.heap.size + 1) 1 _ _ (0, 0) Jh
                    have ch2 : w4.cell? ⟨w.heap.size + 1, 2, none⟩ = some (.int .u8 h.proto) := cell_of_row w4 (w.heap.size + 1) 2 _ _ (0, 0) Jh
                    have ch3 : w4.cell? ⟨w.heap.size + 1, 3, none⟩ = some (.int .u16 h.sp) := cell_of_row w4 (w.heap.size + 1) 3 _ _ (0, 0) Jh
                    have ch4 : w4.cell? ⟨w.heap.size + 1, 4, none⟩ = some (.int .u16 h.dp) := cell_of_row w4 (w.heap.size + 1) 4 _ _ (0, 0) Jh
                    have lh : w.heap.size + 1 < w4.heap.size := lt_of_block Jh
                    have nh : w.heap.size + 1 ≠ w4.heap.size := Nat.ne_of_lt lh
                    have Kh := Lib.hid Jh
                    clear Jh
                    go_wp2
                    go_ret
                    exact ⟨ret_bool hE.out, hbw⟩
                · have t6b0 : decide (h.sp ≤ r.sh) = false := by first | (simp [*]; done) | (simp; omega) | (simp [*]; omega)
                  have hE : Hid (false = fitsB r h) := by unfold Hid; simp [fitsB, inP, *]
                  clear q0a q1a q2a q3a q4a q4b q5a q6a
                  go_enter Tryz.func53, Tryz.ntmps53
                  go_wp2_with fail
                  refine (refCheck_any _ _ _ r.hsa.1 r.hsa.2).mono ?_
                  rintro e w1 ⟨rfl, hb⟩
                  have Jr := blk_below hb (blk2 w _ _).1
                  have Jh := blk_below hb (blk2 w _ _).2
                  have hbw := below_call (below2 w _ _) hb
                  clear hb
                  have cr0 : w1.cell? ⟨w.heap.size, 0, none⟩ = some (.bool r.permit) := cell_of_row w1 (w.heap.size) 0 _ _ (0, 0) Jr
                  have cr1 : w1.cell? ⟨w.heap.size, 1, none⟩ = some (.int .i64 r.proto) := cell_of_row w1 (w.heap.size) 1 _ _ (0, 0) Jr
                  have cr2 : w1.cell? ⟨w.heap.size, 2, none⟩ = some (.int .u32 r.sa) := cell_of_row w1 (w.heap.size) 2 _ _ (0, 0) Jr
                  have cr3 : w1.cell? ⟨w.heap.size, 3, none⟩ = some (.int .i64 r.sn) := cell_of_row w1 (w.heap.size) 3 _ _ (0, 0) Jr
                  have cr4 : w1.cell? ⟨w.heap.size, 4, none⟩ = some (.int .u32 r.da) := cell_of_row w1 (w.heap.size) 4 _ _ (0, 0) Jr
                  have cr5 : w1.cell? ⟨w.heap.size, 5, none⟩ = some (.int .i64 r.dn) := cell_of_row w1 (w.heap.size) 5 _ _ (0, 0) Jr
                  have cr6 : w1.cell? ⟨w.heap.size, 6, none⟩ = some (.int .u32 r.sl) := cell_of_row w1 (w.heap.size) 6 _ _ (0, 0) Jr
                  have cr7 : w1.cell? ⟨w.heap.size, 7, none⟩ = some (.int .u32 r.sh) := cell_of_row w1 (w.heap.size) 7 _ _ (0, 0) Jr
                  have cr8 : w1.cell? ⟨w.heap.size, 8, none⟩ = some (.int .u32 r.dl) := cell_of_row w1 (w.heap.size) 8 _ _ (0, 0) Jr
                  have cr9 : w1.cell? ⟨w.heap.size, 9, none⟩ = some (.int .u32 r.dh) := cell_of_row w1 (w.heap.size) 9 _ _ (0, 0) Jr
                  have lr : w.heap.size < w1.heap.size := lt_of_block Jr
                  have nr : w.heap.size ≠ w1.heap.size := Nat.ne_of_lt lr
                  have Kr := Lib.hid Jr
                  clear Jr
                  have ch0 : w1.cell? ⟨w.heap.size + 1, 0, none⟩ = some (.int .u32 h.src) := cell_of_row w1 (w.heap.size + 1) 0 _ _ (0, 0) Jh
                  have ch1 : w1.cell? ⟨w.heap.size + 1, 1, none⟩ = some (.int .u32 h.dst) := cell_of_row w1 (w.heap.size + 1) 1 _ _ (0, 0) Jh
                  have ch2 : w1.cell? ⟨w.heap.size + 1, 2, none⟩ = some (.int .u8 h.proto) := cell_of_row w1 (w.heap.size + 1) 2 _ _ (0, 0) Jh
                  have ch3 : w1.cell? ⟨w.heap.size + 1, 3, none⟩ = some (.int .u16 h.sp) := cell_of_row w1 (w.heap.size + 1) 3 _ _ (0, 0) Jh
                  have ch4 : w1.cell? ⟨w.heap.size + 1, 4, none⟩ = some (.int .u16 h.dp) := cell_of_row w1 (w.heap.size + 1) 4 _ _ (0, 0) Jh
                  have lh : w.heap.size + 1 < w1.heap.size := lt_of_block Jh
                  have nh : w.heap.size + 1 ≠ w1.heap.size := Nat.ne_of_lt lh
                  have Kh := Lib.hid Jh
                  clear Jh
                  go_wp2_with fail
                  refine (refCheck_any _ _ _ r.hda.1 r.hda.2).mono ?_
                  rintro e w2 ⟨rfl, hb⟩
                  have Jr := blk_below hb Kr.out
                  have Jh := blk_below hb Kh.out
                  have hbw' := below_call hbw hb
                  clear hb hbw Kr lr nr cr0 cr1 cr2 cr3 cr4 cr5 cr6 cr7 cr8 cr9 Kh lh nh ch0 ch1 ch2 ch3 ch4
                  have hbw := hbw'
                  clear hbw'
                  have cr0 : w2.cell? ⟨w.heap.size, 0, none⟩ = some (.bool r.permit) := cell_of_row w2 (w.heap.size) 0 _ _ (0, 0) Jr
                  have cr1 : w2.cell? ⟨w.heap.size, 1, none⟩ = some (.int .i64 r.proto) := cell_of_row w2 (w.heap.size) 1 _ _ (0, 0) Jr
                  have cr2 : w2.cell? ⟨w.heap.size, 2, none⟩ = some (.int .u32 r.sa) := cell_of_row w2 (w.heap.size) 2 _ _ (0, 0) Jr
                  have cr3 : w2.cell? ⟨w.heap.size, 3, none⟩ = some (.int .i64 r.sn) := cell_of_row w2 (w.heap.size) 3 _ _ (0, 0) Jr
                  have cr4 : w2.cell? ⟨w.heap.size, 4, none⟩ = some (.int .u32 r.da) := cell_of_row w2 (w.heap.size) 4 _ _ (0, 0) Jr
                  have cr5 : w2.cell? ⟨w.heap.size, 5, none⟩ = some (.int .i64 r.dn) := cell_of_row w2 (w.heap.size) 5 _ _ (0, 0) Jr
                  have cr6 : w2.cell? ⟨w.heap.size, 6, none⟩ = some (.int .u32 r.sl) := cell_of_row w2 (w.heap.size) 6 _ _ (0, 0) Jr
                  have cr7 : w2.cell? ⟨w.heap.size, 7, none⟩ = some (.int .u32 r.sh) := cell_of_row w2 (w.heap.size) 7 _ _ (0, 0) Jr
                  have cr8 : w2.cell? ⟨w.heap.size, 8, none⟩ = some (.int .u32 r.dl) := cell_of_row w2 (w.heap.size) 8 _ _ (0, 0) Jr
                  have cr9 : w2.cell? ⟨w.heap.size, 9, none⟩ = some (.int .u32 r.dh) := cell_of_row w2 (w.heap.size) 9 _ _ (0, 0) Jr
                  have lr : w.heap.size < w2.heap.size := lt_of_block Jr
                  have nr : w.heap.size ≠ w2.heap.size := Nat.ne_of_lt lr
                  have Kr := Lib.hid Jr
                  clear Jr
                  have ch0 : w2.cell? ⟨w.heap.size + 1, 0, none⟩ = some (.int .u32 h.src) := cell_of_row w2 (w.heap.size + 1) 0 _ _ (0, 0) Jh
                  have ch1 : w2.cell? ⟨w.heap.size + 1, 1, none⟩ = some (.int .u32 h.dst) := cell_of_row w2 (w.heap.size + 1) 1 _ _ (0, 0) Jh
                  have ch2 : w2.cell? ⟨w.heap.size + 1, 2, none⟩ = some (.int .u8 h.proto) := cell_of_row w2 (w.heap.size + 1) 2 _ _ (0, 0) Jh
                  have ch3 : w2.cell? ⟨w.heap.size + 1, 3, none⟩ = some (.int .u16 h.sp) := cell_of_row w2 (w.heap.size + 1) 3 _ _ (0, 0) Jh
                  have ch4 : w2.cell? ⟨w.heap.size + 1, 4, none⟩ = some (.int .u16 h.dp) := cell_of_row w2 (w.heap.size + 1) 4 _ _ (0, 0) Jh
                  have lh : w.heap.size + 1 < w2.heap.size := lt_of_block Jh
                  have nh : w.heap.size + 1 ≠ w2.heap.size := Nat.ne_of_lt lh
                  have Kh := Lib.hid Jh
                  clear Jh
                  go_wp2_with fail
                  refine (refIn_any _ _ _ _ h.hsrc.1 h.hsrc.2 r.hsa.1 r.hsa.2).mono ?_
                  rintro e w3 ⟨rfl, hb⟩
                  have Jr := blk_below hb Kr.out
                  have Jh := blk_below hb Kh.out
                  have hbw' := below_call hbw hb
                  clear hb hbw Kr lr nr cr0 cr1 cr2 cr3 cr4 cr5 cr6 cr7 cr8 cr9 Kh lh nh ch0 ch1 ch2 ch3 ch4
                  have hbw := hbw'
                  clear hbw'
                  have cr0 : w3.cell? ⟨w.heap.size, 0, none⟩ = some (.bool r.permit) := cell_of_row w3 (w.heap.size) 0 _ _ (0, 0) Jr
                  have cr1 : w3.cell? ⟨w.heap.size, 1, none⟩ = some (.int .i64 r.proto) := cell_of_row w3 (w.heap.size) 1 _ _ (0, 0) Jr
                  have cr2 : w3.cell? ⟨w.heap.size, 2, none⟩ = some (.int .u32 r.sa) := cell_of_row w3 (w.heap.size) 2 _ _ (0, 0) Jr
                  have cr3 : w3.cell? ⟨w.heap.size, 3, none⟩ = some (.int .i64 r.sn) := cell_of_row w3 (w.heap.size) 3 _ _ (0, 0) Jr
                  have cr4 : w3.cell? ⟨w.heap.size, 4, none⟩ = some (.int .u32 r.da) := cell_of_row w3 (w.heap.size) 4 _ _ (0, 0) Jr
                  have cr5 : w3.cell? ⟨w.heap.size, 5, none⟩ = some (.int .i64 r.dn) := cell_of_row w3 (w.heap.size) 5 _ _ (0, 0) Jr
                  have cr6 : w3.cell? ⟨w.heap.size, 6, none⟩ = some (.int .u32 r.sl) := cell_of_row w3 (w.heap.size) 6 _ _ (0, 0) Jr
                  have cr7 : w3.cell? ⟨w.heap.size, 7, none⟩ = some (.int .u32 r.sh) := cell_of_row w3 (w.heap.size) 7 _ _ (0, 0) Jr
                  have cr8 : w3.cell? ⟨w.heap.size, 8, none⟩ = some (.int .u32 r.dl) := cell_of_row w3 (w.heap.size) 8 _ _ (0, 0) Jr
                  have cr9 : w3.cell? ⟨w.heap.size, 9, none⟩ = some (.int .u32 r.dh) := cell_of_row w3 (w.heap.size) 9 _ _ (0, 0) Jr
                  have lr : w.heap.size < w3.heap.size := lt_of_block Jr
                  have nr : w.heap.size ≠ w3.heap.size := Nat.ne_of_lt lr
                  have Kr := Lib.hid Jr
                  clear Jr
                  have ch0 : w3.cell? ⟨w.heap.size + 1, 0, none⟩ = some (.int .u32 h.src) := cell_of_row w3 (w.heap.size + 1) 0 _ _ (0, 0) Jh
                  have ch1 : w3.cell? ⟨w.heap.size + 1, 1, none⟩ = some (.int .u32 h.dst) := cell_of_row w3 (w.heap.size + 1) 1 _ _ (0, 0) Jh
                  have ch2 : w3.cell? ⟨w.heap.size + 1, 2, none⟩ = some (.int .u8 h.proto) := cell_of_row w3 (w.heap.size + 1) 2 _ _ (0, 0) Jh
                  have ch3 : w3.cell? ⟨w.heap.size + 1, 3, none⟩ = some (.int .u16 h.sp) := cell_of_row w3 (w.heap.size + 1) 3 _ _ (0, 0) Jh
                  have ch4 : w3.cell? ⟨w.heap.size + 1, 4, none⟩ = some (.int .u16 h.dp) := cell_of_row w3 (w.heap.size + 1) 4 _ _ (0, 0) Jh
                  have lh : w.heap.size + 1 < w3.heap.size := lt_of_block Jh
                  have nh : w.heap.size + 1 ≠ w3.heap.size := Nat.ne_of_lt lh
                  have Kh := Lib.hid Jh
                  clear Jh
                  go_wp2_with fail
                  refine (refIn_any _ _ _ _ h.hdst.1 h.hdst.2 r.hda.1 r.hda.2).mono ?_
                  rintro e w4 ⟨rfl, hb⟩
                  have Jr := blk_below hb Kr.out
                  have Jh := blk_below hb Kh.out
                  have hbw' := below_call hbw hb
                  clear hb hbw Kr lr nr cr0 cr1 cr2 cr3 cr4 cr5 cr6 cr7 cr8 cr9 Kh lh nh ch0 ch1 ch2 ch3 ch4
                  have hbw := hbw'
                  clear hbw'
                  have cr0 : w4.cell? ⟨w.heap.size, 0, none⟩ = some (.bool r.permit) := cell_of_row w4 (w.heap.size) 0 _ _ (0, 0) Jr
                  have cr1 : w4.cell? ⟨w.heap.size, 1, none⟩ = some (.int .i64 r.proto) := cell_of_row w4 (w.heap.size) 1 _ _ (0, 0) Jr
                  have cr2 : w4.cell? ⟨w.heap.size, 2, none⟩ = some (.int .u32 r.sa) := cell_of_row w4 (w.heap.size) 2 _ _ (0, 0) Jr
                  have cr3 : w4.cell? ⟨w.heap.size, 3, none⟩ = some (.int .i64 r.sn) := cell_of_row w4 (w.heap.size) 3 _ _ (0, 0) Jr
                  have cr4 : w4.cell? ⟨w.heap.size, 4, none⟩ = some (.int .u32 r.da) := cell_of_row w4 (w.heap.size) 4 _ _ (0, 0) Jr
                  have cr5 : w4.cell? ⟨w.heap.size, 5, none⟩ = some (.int .i64 r.dn) := cell_of_row w4 (w.heap.size) 5 _ _ (0, 0) Jr
                  have cr6 : w4.cell? ⟨w.heap.size, 6, none⟩ = some (.int .u32 r.sl) := cell_of_row w4 (w.heap.size) 6 _ _ (0, 0) Jr
                  have cr7 : w4.cell? ⟨w.heap.size, 7, none⟩ = some (.int .u32 r.sh) := cell_of_row w4 (w.heap.size) 7 _ _ (0, 0) Jr
                  have cr8 : w4.cell? ⟨w.heap.size, 8, none⟩ = some (.int .u32 r.dl) := cell_of_row w4 (w.heap.size) 8 _ _ (0, 0) Jr
                  have cr9 : w4.cell? ⟨w.heap.size, 9, none⟩ = some (.int .u32 r.dh) := cell_of_row w4 (w.heap.size) 9 _ _ (0, 0) Jr
                  have lr : w.heap.size < w4.heap.size := lt_of_block Jr
                  have nr : w.heap.size ≠ w4.heap.size := Nat.ne_of_lt lr
                  have Kr := Lib.hid Jr
                  clear Jr
                  have ch0 : w4.cell? ⟨w.heap.size + 1, 0, none⟩ = some (.int .u32 h.src) := cell_of_row w4 (w.heap.size + 1) 0 _ _ (0, 0) Jh
                  have ch1 : w4.cell? ⟨w.heap.size + 1, 1, none⟩ = some (.int .u32 h.dst) := cell_of_row w4 (w.heap.size + 1) 1 _ _ (0, 0) Jh
                  have ch2 : w4.cell? ⟨w.heap.size + 1, 2, none⟩ = some (.int .u8 h.proto) := cell_of_row w4 (w.heap.size + 1) 2 _ _ (0, 0) Jh
                  have ch3 : w4.cell? ⟨w.heap.size + 1, 3, none⟩ = some (.int .u16 h.sp) := cell_of_row w4 (w.heap.size + 1) 3 _ _ (0, 0) Jh
                  have ch4 : w4.cell? ⟨w.heap.size + 1, 4, none⟩ = some (.int .u16 h.dp) := cell_of_row w4 (w.heap.size + 1) 4 _ _ (0, 0) Jh
                  have lh : w.heap.size + 1 < w4.heap.size := lt_of_block Jh
                  have nh : w.heap.size + 1 ≠ w4.heap.size := Nat.ne_of_lt lh
                  have Kh := Lib.hid Jh
                  clear Jh
                  go_wp2
                  go_ret
                  exact ⟨ret_bool hE.out, hbw⟩
              · have t5b0 : decide (r.sl ≤ h.sp) = false := by first | (simp [*]; done) | (simp; omega) | (simp [*]; omega)
                have hE : Hid (false = fitsB r h) := by unfold Hid; simp [fitsB, inP, *]
                clear q0a q1a q2a q3a q4a q4b q5a
                go_enter Tryz.func53, Tryz.ntmps53
                go_wp2_with fail
                refine (refCheck_any _ _ _ r.hsa.1 r.hsa.2).mono ?_
                rintro e w1 ⟨rfl, hb⟩
                have Jr := blk_below hb (blk2 w _ _).1
                have Jh := blk_below hb (blk2 w _ _).2
                have hbw := below_call (below2 w _ _) hb
                clear hb
                have cr0 : w1.cell? ⟨w.heap.size, 0, none⟩ = some (.bool r.permit) := cell_of_row w1 (w.heap.size) 0 _ _ (0, 0) Jr
                have cr1 : w1.cell? ⟨w.heap.size, 1, none⟩ = some (.int .i64 r.proto) := cell_of_row w1 (w.heap.size) 1 _ _ (0, 0) Jr
                have cr2 : w1.cell? ⟨w.heap.size, 2, none⟩ = some (.int .u32 r.sa) := cell_of_row w1 (w.heap.size) 2 _ _ (0, 0) Jr
                have cr3 : w1.cell? ⟨w.heap.size, 3, none⟩ = some (.int .i64 r.sn) := cell_of_row w1 (w.heap.size) 3 _ _ (0, 0) Jr
                have cr4 : w1.cell? ⟨w.heap.size, 4, none⟩ = some (.int .u32 r.da) := cell_of_row w1 (w.heap.size) 4 _ _ (0, 0) Jr
                have cr5 : w1.cell? ⟨w.heap.size, 5, none⟩ = some (.int .i64 r.dn) := cell_of_row w1 (w.heap.size) 5 _ _ (0, 0) Jr
                have cr6 : w1.cell? ⟨w.heap.size, 6, none⟩ = some (.int .u32 r.sl) := cell_of_row w1 (w.heap.size) 6 _ _ (0, 0) Jr
                have cr7 : w1.cell? ⟨w.heap.size, 7, none⟩ = some (.int .u32 r.sh) := cell_of_row w1 (w.heap.size) 7 _ _ (0, 0) Jr
                have cr8 : w1.cell? ⟨w.heap.size, 8, none⟩ = some (.int .u32 r.dl) := cell_of_row w1 (w.heap.size) 8 _ _ (0, 0) Jr
                have cr9 : w1.cell? ⟨w.heap.size, 9, none⟩ = some (.int .u32 r.dh) := cell_of_row w1 (w.heap.size) 9 _ _ (0, 0) Jr
                have lr : w.heap.size < w1.heap.size := lt_of_block Jr
                have nr : w.heap.size ≠ w1.heap.size := Nat.ne_of_lt lr
                have Kr := Lib.hid Jr
                clear Jr
                have ch0 : w1.cell? ⟨w.heap.size + 1, 0, none⟩ = some (.int .u32 h.src) := cell_of_row w1 (w.heap.size + 1) 0 _ _ (0, 0) Jh
                have ch1 : w1.cell? ⟨w.heap.size + 1, 1, none⟩ = some (.int .u32 h.dst) := cell_of_row w1 (w.heap.size + 1) 1 _ _ (0, 0) Jh
                have ch2 : w1.cell? ⟨w.heap.size + 1, 2, none⟩ = some (.int .u8 h.proto) := cell_of_row w1 (w.heap.size + 1) 2 _ _ (0, 0) Jh
                have ch3 : w1.cell? ⟨w.heap.size + 1, 3, none⟩ = some (.int .u16 h.sp) := cell_of_row w1 (w.heap.size + 1) 3 _ _ (0, 0) Jh
                have ch4 : w1.cell? ⟨w.heap.size + 1, 4, none⟩ = some (.int .u16 h.dp) := cell_of_row w1 (w.heap.size + 1) 4 _ _ (0, 0) Jh
                have lh : w.heap.size + 1 < w1.heap.size := lt_of_block Jh
                have nh : w.heap.size + 1 ≠ w1.heap.size := Nat.ne_of_lt lh
                have Kh := Lib.hid Jh
                clear Jh
                go_wp2_with fail
                refine (refCheck_any _ _ _ r.hda.1 r.hda.2).mono ?_
                rintro e w2 ⟨rfl, hb⟩
                have Jr := blk_below hb Kr.out
                have Jh := blk_below hb Kh.out
                have hbw' := below_call hbw hb
                clear hb hbw Kr lr nr cr0 cr1 cr2 cr3 cr4 cr5 cr6 cr7 cr8 cr9 Kh lh nh ch0 ch1 ch2 ch3 ch4
                have hbw := hbw'
                clear hbw'
                have cr0 : w2.cell? ⟨w.heap.size, 0, none⟩ = some (.bool r.permit) := cell_of_row w2 (w.heap.size) 0 _ _ (0, 0) Jr
                have cr1 : w2.cell? ⟨w.heap.size, 1, none⟩ = some (.int .i64 r.proto) := cell_of_row w2 (w.heap.size) 1 _ _ (0, 0) Jr
                have cr2 : w2.cell? ⟨w.heap.size, 2, none⟩ = some (.int .u32 r.sa) := cell_of_row w2 (w.heap.size) 2 _ _ (0, 0) Jr
                have cr3 : w2.cell? ⟨w.heap.size, 3, none⟩ = some (.int .i64 r.sn) := cell_of_row w2 (w.heap.size) 3 _ _ (0, 0) Jr
                have cr4 : w2.cell? ⟨w.heap.size, 4, none⟩ = some (.int .u32 r.da) := cell_of_row w2 (w.heap.size) 4 _ _ (0, 0) Jr
                have cr5 : w2.cell? ⟨w.heap.size, 5, none⟩ = some (.int .i64 r.dn) := cell_of_row w2 (w.heap.size) 5 _ _ (0, 0) Jr
                have cr6 : w2.cell? ⟨w.heap.size, 6, none⟩ = some (.int .u32 r.sl) := cell_of_row w2 (w.heap.size) 6 _ _ (0, 0) Jr
                have cr7 : w2.cell? ⟨w.heap.size, 7, none⟩ = some (.int .u32 r.sh) := cell_of_row w2 (w.heap.size) 7 _ _ (0, 0) Jr
                have cr8 : w2.cell? ⟨w.heap.size, 8, none⟩ = some (.int .u32 r.dl) := cell_of_row w2 (w.heap.size) 8 _ _ (0, 0) Jr
                have cr9 : w2.cell? ⟨w.heap.size, 9, none⟩ = some (.int .u32 r.dh) := cell_of_row w2 (w.heap.size) 9 _ _ (0, 0) Jr
                have lr : w.heap.size < w2.heap.size := lt_of_block Jr
                have nr : w.heap.size ≠ w2.heap.size := Nat.ne_of_lt lr
                have Kr := Lib.hid Jr
                clear Jr
                have ch0 : w2.cell? ⟨w.heap.size + 1, 0, none⟩ = some (.int .u32 h.src) := cell_of_row w2 (w.heap.size + 1) 0 _ _ (0, 0) Jh
                have ch1 : w2.cell? ⟨w.heap.size + 1, 1, none⟩ = some (.int .u32 h.dst) := cell_of_row w2 (w.heap.size + 1) 1 _ _ (0, 0) Jh
                have ch2 : w2.cell? ⟨w.heap.size + 1, 2, none⟩ = some (.int .u8 h.proto) := cell_of_row w2 (w.heap.size + 1) 2 _ _ (0, 0) Jh
                have ch3 : w2.cell? ⟨w.heap.size + 1, 3, none⟩ = some (.int .u16 h.sp) := cell_of_row w2 (w.heap.size + 1) 3 _ _ (0, 0) Jh
                have ch4 : w2.cell? ⟨w.heap.size + 1, 4, none⟩ = some (.int .u16 h.dp) := cell_of_row w2 (w.heap.size + 1) 4 _ _ (0, 0) Jh
                have lh : w.heap.size + 1 < w2.heap.size := lt_of_block Jh
                have nh : w.heap.size + 1 ≠ w2.heap.size := Nat.ne_of_lt lh
                have Kh := Lib.hid Jh
                clear Jh
                go_wp2_with fail
                refine (refIn_any _ _ _ _ h.hsrc.1 h.hsrc.2 r.hsa.1 r.hsa.2).mono ?_
                rintro e w3 ⟨rfl, hb⟩
                have Jr := blk_below hb Kr.out
                have Jh := blk_below hb Kh.out
                have hbw' := below_call hbw hb
                clear hb hbw Kr lr nr cr0 cr1 cr2 cr3 cr4 cr5 cr6 cr7 cr8 cr9 Kh lh nh ch0 ch1 ch2 ch3 ch4
                have hbw := hbw'
                clear hbw'
                have cr0 : w3.cell? ⟨w.heap.size, 0, none⟩ = some (.bool r.permit) := cell_of_row w3 (w.heap.size) 0 _ _ (0, 0) Jr
                have cr1 : w3.cell? ⟨w.heap.size, 1, none⟩ = some (.int .i64 r.proto) := cell_of_row w3 (w.heap.size) 1 _ _ (0, 0) Jr
                have cr2 : w3.cell? ⟨w.heap.size, 2, none⟩ = some (.int .u32 r.sa) := cell_of_row w3 (w.heap.size) 2 _ _ (0, 0) Jr
                have cr3 : w3.cell? ⟨w.heap.size, 3, none⟩ = some (.int .i64 r.sn) := cell_of_row w3 (w.heap.size) 3 _ _ (0, 0) Jr
                have cr4 : w3.cell? ⟨w.heap.size, 4, none⟩ = some (.int .u32 r.da) := cell_of_row w3 (w.heap.size) 4 _ _ (0, 0) Jr
                have cr5 : w3.cell? ⟨w.heap.size, 5, none⟩ = some (.int .i64 r.dn) := cell_of_row w3 (w.heap.size) 5 _ _ (0, 0) Jr
                have cr6 : w3.cell? ⟨w.heap.size, 6, none⟩ = some (.int .u32 r.sl) := cell_of_row w3 (w.heap.size) 6 _ _ (0, 0) Jr
                have cr7 : w3.cell? ⟨w.heap.size, 7, none⟩ = some (.int .u32 r.sh) := cell_of_row w3 (w.heap.size) 7 _ _ (0, 0) Jr
                have cr8 : w3.cell? ⟨w.heap.size, 8, none⟩ = some (.int .u32 r.dl) := cell_of_row w3 (w.heap.size) 8 _ _ (0, 0) Jr
                have cr9 : w3.cell? ⟨w.heap.size, 9, none⟩ = some (.int .u32 r.dh) := cell_of_row w3 (w.heap.size) 9 _ _ (0, 0) Jr
                have lr : w.heap.size < w3.heap.size := lt_of_block Jr
                have nr : w.heap.size ≠ w3.heap.size := Nat.ne_of_lt lr
                have Kr := Lib.hid Jr
                clear Jr
                have ch0 : w3.cell? ⟨w.heap.size + 1, 0, none⟩ = some (.int .u32 h.src) := cell_of_row w3 (w.heap.size + 1) 0 _ _ (0, 0) Jh
                have ch1 : w3.cell? ⟨w.heap.size + 1, 1, none⟩ = some (.int .u32 h.dst) := cell_of_row w3 (w.heap.size + 1) 1 _ _ (0, 0) Jh
                have ch2 : w3.cell? ⟨w.heap.size + 1, 2, none⟩ = some (.int .u8 h.proto) := cell_of_row w3 (w.heap.size + 1) 2 _ _ (0, 0) Jh
                have ch3 : w3.cell? ⟨w.heap.size + 1, 3, none⟩ = some (.int .u16 h.sp) := cell_of_row w3 (w.heap.size + 1) 3 _ _ (0, 0) Jh
                have ch4 : w3.cell? ⟨w.heap.size + 1, 4, none⟩ = some (.int .u16 h.dp) := cell_of_row w3 (w.heap.size + 1) 4 _ _ (0, 0) Jh
                have lh : w.heap.size + 1 < w3.heap.size := lt_of_block Jh
                have nh : w.heap.size + 1 ≠ w3.heap.size := Nat.ne_of_lt lh
                have Kh := Lib.hid Jh
                clear Jh
                go_wp2_with fail
                refine (refIn_any _ _ _ _ h.hdst.1 h.hdst.2 r.hda.1 r.hda.2).mono ?_
                rintro e w4 ⟨rfl, hb⟩
                have Jr := blk_below hb Kr.out
                have Jh := blk_below hb Kh.out
                have hbw' := below_call hbw hb
                clear hb hbw Kr lr nr cr0 cr1 cr2 cr3 cr4 cr5 cr6 cr7 cr8 cr9 Kh lh nh ch0 ch1 ch2 ch3 ch4
                have hbw := hbw'
                clear hbw'
                have cr0 : w4.cell? ⟨w.heap.size, 0, none⟩ = some (.bool r.permit) := cell_of_row w4 (w.heap.size) 0 _ _ (0, 0) Jr
                have cr1 : w4.cell? ⟨w.heap.size, 1, none⟩ = some (.int .i64 r.proto) := cell_of_row w4 (w.heap.size) 1 _ _ (0, 0) Jr
                have cr2 : w4.cell? ⟨w.heap.size, 2, none⟩ = some (.int .u32 r.sa) := cell_of_row w4 (w.heap.size) 2 _ _ (0, 0) Jr
                have cr3 : w4.cell? ⟨w.heap.size, 3, none⟩ = some (.int .i64 r.sn) := cell_of_row w4 (w.heap.size) 3 _ _ (0, 0) Jr
                have cr4 : w4.cell? ⟨w.heap.size, 4, none⟩ = some (.int .u32 r.da) := cell_of_row w4 (w.heap.size) 4 _ _ (0, 0) Jr
                have cr5 : w4.cell? ⟨w.heap.size, 5, none⟩ = some (.int .i64 r.dn) := cell_of_row w4 (w.heap.size) 5 _ _ (0, 0) Jr
                have cr6 : w4.cell? ⟨w.heap.size, 6, none⟩ = some (.int .u32 r.sl) := cell_of_row w4 (w.heap.size) 6 _ _ (0, 0) Jr
                have cr7 : w4.cell? ⟨w.heap.size, 7, none⟩ = some (.int .u32 r.sh) := cell_of_row w4 (w.heap.size) 7 _ _ (0, 0) Jr
                have cr8 : w4.cell? ⟨w.heap.size, 8, none⟩ = some (.int .u32 r.dl) := cell_of_row w4 (w.heap.size) 8 _ _ (0, 0) Jr
                have cr9 : w4.cell? ⟨w.heap.size, 9, none⟩ = some (.int .u32 r.dh) := cell_of_row w4 (w.heap.size) 9 _ _ (0, 0) Jr
                have lr : w.heap.size < w4.heap.size := lt_of_block Jr
                have nr : w.heap.size ≠ w4.heap.size := Nat.ne_of_lt lr
                have Kr := Lib.hid Jr
                clear Jr
                have ch0 : w4.cell? ⟨w.heap.size + 1, 0, none⟩ = some (.int .u32 h.src) := cell_of_row w4 (w.heap.size + 1) 0 _ _ (0, 0) Jh
                have ch1 : w4.cell? ⟨w.heap.size + 1, 1, none⟩ = some (.int .u32 h.dst) := cell_of_row w4 (w.heap.size + 1) 1 _ _ (0, 0) Jh
                have ch2 : w4.cell? ⟨w.heap.size + 1, 2, none⟩ = some (.int .u8 h.proto) := cell_of_row w4 (w.heap.size + 1) 2 _ _ (0, 0) Jh
                have ch3 : w4.cell? ⟨w.heap.size + 1, 3, none⟩ = some (.int .u16 h.sp) := cell_of_row w4 (w.heap.size + 1) 3 _ _ (0, 0) Jh
                have ch4 : w4.cell? ⟨w.heap.size + 1, 4, none⟩ = some (.int .u16 h.dp) := cell_of_row w4 (w.heap.size + 1) 4 _ _ (0, 0) Jh
                have lh : w.heap.size + 1 < w4.heap.size := lt_of_block Jh
                have nh : w.heap.size + 1 ≠ w4.heap.size := Nat.ne_of_lt lh
                have Kh := Lib.hid Jh
                clear Jh
                go_wp2
                go_ret
                exact ⟨ret_bool hE.out, hbw⟩
            · have t4c0 : (r.proto == -1) = false := by first | (simp [*]; done) | (simp; omega) | (simp [*]; omega)
              have t4c1 : (r.proto == h.proto) = false := by first | (simp [*]; done) | (simp; omega) | (simp [*]; omega)
              have hE : Hid (false = fitsB r h) := by unfold Hid; simp [fitsB, inP, *]
              clear q0a q1a q2a q3a q4a q4b
              go_enter Tryz.func53, Tryz.ntmps53
              go_wp2_with fail
              refine (refCheck_any _ _ _ r.hsa.1 r.hsa.2).mono ?_
              rintro e w1 ⟨rfl, hb⟩
              have Jr := blk_below hb (blk2 w _ _).1
              have Jh := blk_below hb (blk2 w _ _).2
              have hbw := below_call (below2 w _ _) hb
              clear hb
              have cr0 : w1.cell? ⟨w.heap.size, 0, none⟩ = some (.bool r.permit) := cell_of_row w1 (w.heap.size) 0 _ _ (0, 0) Jr
              have cr1 : w1.cell? ⟨w.heap.size, 1, none⟩ = some (.int .i64 r.proto) := cell_of_row w1 (w.heap.size) 1 _ _ (0, 0) Jr
              have cr2 : w1.cell? ⟨w.heap.size, 2, none⟩ = some (.int .u32 r.sa) := cell_of_row w1 (w.heap.size) 2 _ _ (0, 0) Jr
              have cr3 : w1.cell? ⟨w.heap.size, 3, none⟩ = some (.int .i64 r.sn) := cell_of_row w1 (w.heap.size) 3 _ _ (0, 0) Jr
              have cr4 : w1.cell? ⟨w.heap.size, 4, none⟩ = some (.int .u32 r.da) := cell_of_row w1 (w.heap.size) 4 _ _ (0, 0) Jr
              have cr5 : w1.cell? ⟨w.heap.size, 5, none⟩ = some (.int .i64 r.dn) := cell_of_row w1 (w.heap.size) 5 _ _ (0, 0) Jr
              have cr6 : w1.cell? ⟨w.heap.size, 6, none⟩ = some (.int .u32 r.sl) := cell_of_row w1 (w.heap.size) 6 _ _ (0, 0) Jr
              have cr7 : w1.cell? ⟨w.heap.size, 7, none⟩ = some (.int .u32 r.sh) := cell_of_row w1 (w.heap.size) 7 _ _ (0, 0) Jr
              have cr8 : w1.cell? ⟨w.heap.size, 8, none⟩ = some (.int .u32 r.dl) := cell_of_row w1 (w.heap.size) 8 _ _ (0, 0) Jr
              have cr9 : w1.cell? ⟨w.heap.size, 9, none⟩ = some (.int .u32 r.dh) := cell_of_row w1 (w.heap.size) 9 _ _ (0, 0) Jr
              have lr : w.heap.size < w1.heap.size := lt_of_block Jr
              have nr : w.heap.size ≠ w1.heap.size := Nat.ne_of_lt lr
              have Kr := Lib.hid Jr
              clear Jr
              have ch0 : w1.cell? ⟨w.heap.size + 1, 0, none⟩ = some (.int .u32 h.src) := cell_of_row w1 (w.heap.size + 1) 0 _ _ (0, 0) Jh
              have ch1 : w1.cell? ⟨w.heap.size + 1, 1, none⟩ = some (.int .u32 h.dst) := cell_of_row w1 (w.heap.size + 1) 1 _ _ (0, 0) Jh
              have ch2 : w1.cell? ⟨w.heap.size + 1, 2, none⟩ = some (.int .u8 h.proto) := cell_of_row w1 (w.heap.size + 1) 2 _ _ (0, 0) Jh
              have ch3 : w1.cell? ⟨w.heap.size + 1, 3, none⟩ = some (.int .u16 h.sp) := cell_of_row w1 (w.heap.size + 1) 3 _ _ (0, 0) Jh
              have ch4 : w1.cell? ⟨w.heap.size + 1, 4, none⟩ = some (.int .u16 h.dp) := cell_of_row w1 (w.heap.size + 1) 4 _ _ (0, 0) Jh
              have lh : w.heap.size + 1 < w1.heap.size := lt_of_block Jh
              have nh : w.heap.size + 1 ≠ w1.heap.size := Nat.ne_of_lt lh
              have Kh := Lib.hid Jh
              clear Jh
              go_wp2_with fail
              refine (refCheck_any _ _ _ r.hda.1 r.hda.2).mono ?_
              rintro e w2 ⟨rfl, hb⟩
              have Jr := blk_below hb Kr.out
              have Jh := blk_below hb Kh.out
              have hbw' := below_call hbw hb
              clear hb hbw Kr lr nr cr0 cr1 cr2 cr3 cr4 cr5 cr6 cr7 cr8 cr9 Kh lh nh ch0 ch1 ch2 ch3 ch4
              have hbw := hbw'
              clear hbw'
              have cr0 : w2.cell? ⟨w.heap.size, 0, none⟩ = some (.bool r.permit) := cell_of_row w2 (w.heap.size) 0 _ _ (0, 0) Jr
              have cr1 : w2.cell? ⟨w.heap.size, 1, none⟩ = some (.int .i64 r.proto) := cell_of_row w2 (w.heap.size) 1 _ _ (0, 0) Jr
              have cr2 : w2.cell? ⟨w.heap.size, 2, none⟩ = some (.int .u32 r.sa) := cell_of_row w2 (w.heap.size) 2 _ _ (0, 0) Jr
              have cr3 : w2.cell? ⟨w.heap.size, 3, none⟩ = some (.int .i64 r.sn) := cell_of_row w2 (w.heap.size) 3 _ _ (0, 0) Jr
              have cr4 : w2.cell? ⟨w.heap.size, 4, none⟩ = some (.int .u32 r.da) := cell_of_row w2 (w.heap.size) 4 _ _ (0, 0) Jr
              have cr5 : w2.cell? ⟨w.heap.size, 5, none⟩ = some (.int .i64 r.dn) := cell_of_row w2 (w.heap.size) 5 _ _ (0, 0) Jr
              have cr6 : w2.cell? ⟨w.heap.size, 6, none⟩ = some (.int .u32 r.sl) := cell_of_row w2 (w.heap.size) 6 _ _ (0, 0) Jr
              have cr7 : w2.cell? ⟨w.heap.size, 7, none⟩ = some (.int .u32 r.sh) := cell_of_row w2 (w.heap.size) 7 _ _ (0, 0) Jr
              have cr8 : w2.cell? ⟨w.heap.size, 8, none⟩ = some (.int .u32 r.dl) := cell_of_row w2 (w.heap.size) 8 _ _ (0, 0) Jr
              have cr9 : w2.cell? ⟨w.heap.size, 9, none⟩ = some (.int .u32 r.dh) := cell_of_row w2 (w.heap.size) 9 _ _ (0, 0) Jr
              have lr : w.heap.size < w2.heap.size := lt_of_block Jr
              have nr : w.heap.size ≠ w2.heap.size := Nat.ne_of_lt lr
              have Kr := Lib.hid Jr
              clear Jr
              have ch0 : w2.cell? ⟨w.heap.size + 1, 0, none⟩ = some (.int .u32 h.src) := cell_of_row w2 (w.heap.size + 1) 0 _ _ (0, 0) Jh
              have ch1 : w2.cell? ⟨w.heap.size + 1, 1, none⟩ = some (.int .u32 h.dst) := cell_of_row w2 (w.heap.size + 1) 1 _ _ (0, 0) Jh
              have ch2 : w2.cell? ⟨w.heap.size + 1, 2, none⟩ = some (.int .u8 h.proto) := cell_of_row w2 (w.heap.size + 1) 2 _ _ (0, 0) Jh
              have ch3 : w2.cell? ⟨w.heap.size + 1, 3, none⟩ = some (.int .u16 h.sp) := cell_of_row w2 (w.heap.size + 1) 3 _ _ (0, 0) Jh
              have ch4 : w2.cell? ⟨w.heap.size + 1, 4, none⟩ = some (.int .u16 h.dp) := cell_of_row w2 (w.heap.size + 1) 4 _ _ (0, 0) Jh
              have lh : w.heap.size + 1 < w2.heap.size := lt_of_block Jh
              have nh : w.heap.size + 1 ≠ w2.heap.size := Nat.ne_of_lt lh
              have Kh := Lib.hid Jh
              clear Jh
              go_wp2_with fail
              refine (refIn_any _ _ _ _ h.hsrc.1 h.hsrc.2 r.hsa.1 r.hsa.2).mono ?_
              rintro e w3 ⟨rfl, hb⟩
              have Jr := blk_below hb Kr.out
              have Jh := blk_below hb Kh.out
              have hbw' := below_call hbw hb
              clear hb hbw Kr lr nr cr0 cr1 cr2 cr3 cr4 cr5 cr6 cr7 cr8 cr9 Kh lh nh ch0 ch1 ch2 ch3 ch4
              have hbw := hbw'
              clear hbw'
              have cr0 : w3.cell? ⟨w.heap.size, 0, none⟩ = some (.bool r.permit) := cell_of_row w3 (w.heap.size) 0 _ _ (0, 0) Jr
              have cr1 : w3.cell? ⟨w.heap.size, 1, none⟩ = some (.int .i64 r.proto) := cell_of_row w3 (w.heap.size) 1 _ _ (0, 0) Jr
              have cr2 : w3.cell? ⟨w.heap.size, 2, none⟩ = some (.int .u32 r.sa) := cell_of_row w3 (w.heap.size) 2 _ _ (0, 0) Jr
              have cr3 : w3.cell? ⟨w.heap.size, 3, none⟩ = some (.int .i64 r.sn) := cell_of_row w3 (w.heap.size) 3 _ _ (0, 0) Jr
              have cr4 : w3.cell? ⟨w.heap.size, 4, none⟩ = some (.int .u32 r.da) := cell_of_row w3 (w.heap.size) 4 _ _ (0, 0) Jr
              have cr5 : w3.cell? ⟨w.heap.size, 5, none⟩ = some (.int .i64 r.dn) := cell_of_row w3 (w.heap.size) 5 _ _ (0, 0) Jr
              have cr6 : w3.cell? ⟨w.heap.size, 6, none⟩ = some (.int .u32 r.sl) := cell_of_row w3 (w.heap.size) 6 _ _ (0, 0) Jr
              have cr7 : w3.cell? ⟨w.heap.size, 7, none⟩ = some (.int .u32 r.sh) := cell_of_row w3 (w.heap.size) 7 _ _ (0, 0) Jr
              have cr8 : w3.cell? ⟨w.heap.size, 8, none⟩ = some (.int .u32 r.dl) := cell_of_row w3 (w.heap.size) 8 _ _ (0, 0) Jr
              have cr9 : w3.cell? ⟨w.heap.size, 9, none⟩ = some (.int .u32 r.dh) := cell_of_row w3 (w.heap.size) 9 _ _ (0, 0) Jr
              have lr : w.heap.size < w3.heap.size := lt_of_block Jr
              have nr : w.heap.size ≠ w3.heap.size := Nat.ne_of_lt lr
              have Kr := Lib.hid Jr
              clear Jr
              have ch0 : w3.cell? ⟨w.heap.size + 1, 0, none⟩ = some (.int .u32 h.src) := cell_of_row w3 (w.heap.size + 1) 0 _ _ (0, 0) Jh
              have ch1 : w3.cell? ⟨w.heap.size + 1, 1, none⟩ = some (.int .u32 h.dst) := cell_of_row w3 (w.heap.size + 1) 1 _ _ (0, 0) Jh
              have ch2 : w3.cell? ⟨w.heap.size + 1, 2, none⟩ = some (.int .u8 h.proto) := cell_of_row w3 (w.heap.size + 1) 2 _ _ (0, 0) Jh
              have ch3 : w3.cell? ⟨w.heap.size + 1, 3, none⟩ = some (.int .u16 h.sp) := cell_of_row w3 (w.heap.size + 1) 3 _ _ (0, 0) Jh
              have ch4 : w3.cell? ⟨w.heap.size + 1, 4, none⟩ = some (.int .u16 h.dp) := cell_of_row w3 (w.heap.size + 1) 4 _ _ (0, 0) Jh
              have lh : w.heap.size + 1 < w3.heap.size := lt_of_block Jh
              have nh : w.heap.size + 1 ≠ w3.heap.size := Nat.ne_of_lt lh
              have Kh := Lib.hid Jh
              clear Jh
              go_wp2_with fail
              refine (refIn_any _ _ _ _ h.hdst.1 h.hdst.2 r.hda.1 r.hda.2).mono ?_
              rintro e w4 ⟨rfl, hb⟩
              have Jr := blk_below hb Kr.out
              have Jh := blk_below hb Kh.out
              have hbw' := below_call hbw hb
              clear hb hbw Kr lr nr cr0 cr1 cr2 cr3 cr4 cr5 cr6 cr7 cr8 cr9 Kh lh nh ch0 ch1 ch2 ch3 ch4
              have hbw := hbw'
              clear hbw'
              have cr0 : w4.cell? ⟨w.heap.size, 0, none⟩ = some (.bool r.permit) := cell_of_row w4 (w.heap.size) 0 _ _ (0, 0) Jr
              have cr1 : w4.cell? ⟨w.heap.size, 1, none⟩ = some (.int .i64 r.proto) := cell_of_row w4 (w.heap.size) 1 _ _ (0, 0) Jr
              have cr2 : w4.cell? ⟨w.heap.size, 2, none⟩ = some (.int .u32 r.sa) := cell_of_row w4 (w.heap.size) 2 _ _ (0, 0) Jr
              have cr3 : w4.cell? ⟨w.heap.size, 3, none⟩ = some (.int .i64 r.sn) := cell_of_row w4 (w.heap.size) 3 _ _ (0, 0) Jr
              have cr4 : w4.cell? ⟨w.heap.size, 4, none⟩ = some (.int .u32 r.da) := cell_of_row w4 (w.heap.size) 4 _ _ (0, 0) Jr
              have cr5 : w4.cell? ⟨w.heap.size, 5, none⟩ = some (.int .i64 r.dn) := cell_of_row w4 (w.heap.size) 5 _ _ (0, 0) Jr
              have cr6 : w4.cell? ⟨w.heap.size, 6, none⟩ = some (.int .u32 r.sl) := cell_of_row w4 (w.heap.size) 6 _ _ (0, 0) Jr
              have cr7 : w4.cell? ⟨w.heap.size, 7, none⟩ = some (.int .u32 r.sh) := cell_of_row w4 (w.heap.size) 7 _ _ (0, 0) Jr
              have cr8 : w4.cell? ⟨w.heap.size, 8, none⟩ = some (.int .u32 r.dl) := cell_of_row w4 (w.heap.size) 8 _ _ (0, 0) Jr
              have cr9 : w4.cell? ⟨w.heap.size, 9, none⟩ = some (.int .u32 r.dh) := cell_of_row w4 (w.heap.size) 9 _ _ (0, 0) Jr
              have lr : w.heap.size < w4.heap.size := lt_of_block Jr
              have nr : w.heap.size ≠ w4.heap.size := Nat.ne_of_lt lr
              have Kr := Lib.hid Jr
              clear Jr
              have ch0 : w4.cell? ⟨w.heap.size + 1, 0, none⟩ = some (.int .u32 h.src) := cell_of_row w4 (w.heap.size + 1) 0 _ _ (0, 0) Jh
              have ch1 : w4.cell? ⟨w.heap.size + 1, 1, none⟩ = some (.int .u32 h.dst) := cell_of_row w4 (w.heap.size + 1) 1 _ _ (0, 0) Jh
              have ch2 : w4.cell? ⟨w.heap.size + 1, 2, none⟩ = some (.int .u8 h.proto) := cell_of_row w4 (w.heap.size + 1) 2 _ _ (0, 0) Jh
              have ch3 : w4.cell? ⟨w.heap.size + 1, 3, none⟩ = some (.int .u16 h.sp) := cell_of_row w4 (w.heap.size + 1) 3 _ _ (0, 0) Jh
              have ch4 : w4.cell? ⟨w.heap.size + 1, 4, none⟩ = some (.int .u16 h.dp) := cell_of_row w4 (w.heap.size + 1) 4 _ _ (0, 0) Jh
              have lh : w.heap.size + 1 < w4.heap.size := lt_of_block Jh
              have nh : w.heap.size + 1 ≠ w4.heap.size := Nat.ne_of_lt lh
              have Kh := Lib.hid Jh
              clear Jh
              go_wp2
              go_ret
              exact ⟨ret_bool hE.out, hbw⟩
        · have t3b0 : inB h.dst r.da r.dn = false := by first | (simp [*]; done) | (simp; omega) | (simp [*]; omega)
          have hE : Hid (false = fitsB r h) := by unfold Hid; simp [fitsB, inP, *]
          clear q0a q1a q2a q3a
          go_enter Tryz.func53, Tryz.ntmps53
          go_wp2_with fail
          refine (refCheck_any _ _ _ r.hsa.1 r.hsa.2).mono ?_
          rintro e w1 ⟨rfl, hb⟩
          have Jr := blk_below hb (blk2 w _ _).1
          have Jh := blk_below hb (blk2 w _ _).2
          have hbw := below_call (below2 w _ _) hb
          clear hb
          have cr0 : w1.cell? ⟨w.heap.size, 0, none⟩ = some (.bool r.permit) := cell_of_row w1 (w.heap.size) 0 _ _ (0, 0) Jr
          have cr1 : w1.cell? ⟨w.heap.size, 1, none⟩ = some (.int .i64 r.proto) := cell_of_row w1 (w.heap.size) 1 _ _ (0, 0) Jr
          have cr2 : w1.cell? ⟨w.heap.size, 2, none⟩ = some (.int .u32 r.sa) := cell_of_row w1 (w.heap.size) 2 _ _ (0, 0) Jr
          have cr3 : w1.cell? ⟨w.heap.size, 3, none⟩ = some (.int .i64 r.sn) := cell_of_row w1 (w.heap.size) 3 _ _ (0, 0) Jr
          have cr4 : w1.cell? ⟨w.heap.size, 4, none⟩ = some (.int .u32 r.da) := cell_of_row w1 (w.heap.size) 4 _ _ (0, 0) Jr
          have cr5 : w1.cell? ⟨w.heap.size, 5, none⟩ = some (.int .i64 r.dn) := cell_of_row w1 (w.heap.size) 5 _ _ (0, 0) Jr
          have cr6 : w1.cell? ⟨w.heap.size, 6, none⟩ = some (.int .u32 r.sl) := cell_of_row w1 (w.heap.size) 6 _ _ (0, 0) Jr
          have cr7 : w1.cell? ⟨w.heap.size, 7, none⟩ = some (.int .u32 r.sh) := cell_of_row w1 (w.heap.size) 7 _ _ (0, 0) Jr
          have cr8 : w1.cell? ⟨w.heap.size, 8, none⟩ = some (.int .u32 r.dl) := cell_of_row w1 (w.heap.size) 8 _ _ (0, 0) Jr
          have cr9 : w1.cell? ⟨w.heap.size, 9, none⟩ = some (.int .u32 r.dh) := cell_of_row w1 (w.heap.size) 9 _ _ (0, 0) Jr
          have lr : w.heap.size < w1.heap.size := lt_of_block Jr
          have nr : w.heap.size ≠ w1.heap.size := Nat.ne_of_lt lr
          have Kr := Lib.hid Jr
          clear Jr
          have ch0 : w1.cell? ⟨w.heap.size + 1, 0, none⟩ = some (.int .u32 h.src) := cell_of_row w1 (w.heap.size + 1) 0 _ _ (0, 0) Jh
          have ch1 : w1.cell? ⟨w.heap.size + 1, 1, none⟩ = some (.int .u32 h.dst) := cell_of_row w1 (w.heap.size + 1) 1 _ _ (0, 0) Jh
          have ch2 : w1.cell? ⟨w.heap.size + 1, 2, none⟩ = some (.int .u8 h.proto) := cell_of_row w1 (w.heap.size + 1) 2 _ _ (0, 0) Jh
          have ch3 : w1.cell? ⟨w.heap.size + 1, 3, none⟩ = some (.int .u16 h.sp) := cell_of_row w1 (w.heap.size + 1) 3 _ _ (0, 0) Jh
          have ch4 : w1.cell? ⟨w.heap.size + 1, 4, none⟩ = some (.int .u16 h.dp) := cell_of_row w1 (w.heap.size + 1) 4 _ _ (0, 0) Jh
          have lh : w.heap.size + 1 < w1.heap.size := lt_of_block Jh
          have nh : w.heap.size + 1 ≠ w1.heap.size := Nat.ne_of_lt lh
          have Kh := Lib.hid Jh
          clear Jh
          go_wp2_with fail
          refine (refCheck_any _ _ _ r.hda.1 r.hda.2).mono ?_
          rintro e w2 ⟨rfl, hb⟩
          have Jr := blk_below hb Kr.out
          have Jh := blk_below hb Kh.out
          have hbw' := below_call hbw hb
          clear hb hbw Kr lr nr cr0 cr1 cr2 cr3 cr4 cr5 cr6 cr7 cr8 cr9 Kh lh nh ch0 ch1 ch2 ch3 ch4
          have hbw := hbw'
          clear hbw'
          have cr0 : w2.cell? ⟨w.heap.size, 0, none⟩ = some (.bool r.permit) := cell_of_row w2 (w.heap.size) 0 _ _ (0, 0) Jr
          have cr1 : w2.cell? ⟨w.heap.size, 1, none⟩ = some (.int .i64 r.proto) := cell_of_row w2 (w.heap.size) 1 _ _ (0, 0) Jr
          have cr2 : w2.cell? ⟨w.heap.size, 2, none⟩ = some (.int .u32 r.sa) := cell_of_row w2 (w.heap.size) 2 _ _ (0, 0) Jr
          have cr3 : w2.cell? ⟨w.heap.size, 3, none⟩ = some (.int .i64 r.sn) := cell_of_row w2 (w.heap.size) 3 _ _ (0, 0) Jr
          have cr4 : w2.cell? ⟨w.heap.size, 4, none⟩ = some (.int .u32 r.da) := cell_of_row w2 (w.heap.size) 4 _ _ (0, 0) Jr
          have cr5 : w2.cell? ⟨w.heap.size, 5, none⟩ = some (.int .i64 r.dn) := cell_of_row w2 (w.heap.size) 5 _ _ (0, 0) Jr
          have cr6 : w2.cell? ⟨w.heap.size, 6, none⟩ = some (.int .u32 r.sl) := cell_of_row w2 (w.heap.size) 6 _ _ (0, 0) Jr
          have cr7 : w2.cell? ⟨w.heap.size, 7, none⟩ = some (.int .u32 r.sh) := cell_of_row w2 (w.heap.size) 7 _ _ (0, 0) Jr
          have cr8 : w2.cell? ⟨w.heap.size, 8, none⟩ = some (.int .u32 r.dl) := cell_of_row w2 (w.heap.size) 8 _ _ (0, 0) Jr
          have cr9 : w2.cell? ⟨w.heap.size, 9, none⟩ = some (.int .u32 r.dh) := cell_of_row w2 (w.heap.size) 9 _ _ (0, 0) Jr
          have lr : w.heap.size < w2.heap.size := lt_of_block Jr
          have nr : w.heap.size ≠ w2.heap.size := Nat.ne_of_lt lr
          have Kr := Lib.hid Jr
          clear Jr
          have ch0 : w2.cell? ⟨w.heap.size + 1, 0, none⟩ = some (.int .u32 h.src) := cell_of_row w2 (w.heap.size + 1) 0 _ _ (0, 0) Jh
          have ch1 : w2.cell? ⟨w.heap.size + 1, 1, none⟩ = some (.int .u32 h.dst) := cell_of_row w2 (w.heap.size + 1) 1 _ _ (0, 0) Jh
          have ch2 : w2.cell? ⟨w.heap.size + 1, 2, none⟩ = some (.int .u8 h.proto) := cell_of_row w2 (w.heap.size + 1) 2 _ _ (0, 0) Jh
          have ch3 : w2.cell? ⟨w.heap.size + 1, 3, none⟩ = some (.int .u16 h.sp) := cell_of_row w2 (w.heap.size + 1) 3 _ _ (0, 0) Jh
          have ch4 : w2.cell? ⟨w.heap.size + 1, 4, none⟩ = some (.int .u16 h.dp) := cell_of_row w2 (w.heap.size + 1) 4 _ _ (0, 0) Jh
          have lh : w.heap.size + 1 < w2.heap.size := lt_of_block Jh
          have nh : w.heap.size + 1 ≠ w2.heap.size := Nat.ne_of_lt lh
          have Kh := Lib.hid Jh
          clear Jh
          go_wp2_with fail
          refine (refIn_any _ _ _ _ h.hsrc.1 h.hsrc.2 r.hsa.1 r.hsa.2).mono ?_
          rintro e w3 ⟨rfl, hb⟩
          have Jr := blk_below hb Kr.out
          have Jh := blk_below hb Kh.out
          have hbw' := below_call hbw hb
          clear hb hbw Kr lr nr cr0 cr1 cr2 cr3 cr4 cr5 cr6 cr7 cr8 cr9 Kh lh nh ch0 ch1 ch2 ch3 ch4
          have hbw := hbw'
          clear hbw'
          have cr0 : w3.cell? ⟨w.heap.size, 0, none⟩ = some (.bool r.permit) := cell_of_row w3 (w.heap.size) 0 _ _ (0, 0) Jr
          have cr1 : w3.cell? ⟨w.heap.size, 1, none⟩ = some (.int .i64 r.proto) := cell_of_row w3 (w.heap.size) 1 _ _ (0, 0) Jr
          have cr2 : w3.cell? ⟨w.heap.size, 2, none⟩ = some (.int .u32 r.sa) := cell_of_row w3 (w.heap.size) 2 _ _ (0, 0) Jr
          have cr3 : w3.cell? ⟨w.heap.size, 3, none⟩ = some (.int .i64 r.sn) := cell_of_row w3 (w.heap.size) 3 _ _ (0, 0) Jr
          have cr4 : w3.cell? ⟨w.heap.size, 4, none⟩ = some (.int .u32 r.da) := cell_of_row w3 (w.heap.size) 4 _ _ (0, 0) Jr
          have cr5 : w3.cell? ⟨w.heap.size, 5, none⟩ = some (.int .i64 r.dn) := cell_of_row w3 (w.heap.size) 5 _ _ (0, 0) Jr
          have cr6 : w3.cell? ⟨w.heap.size, 6, none⟩ = some (.int .u32 r.sl) := cell_of_row w3 (w.heap.size) 6 _ _ (0, 0) Jr
          have cr7 : w3.cell? ⟨w.heap.size, 7, none⟩ = some (.int .u32 r.sh) := cell_of_row w3 (w.heap.size) 7 _ _ (0, 0) Jr
          have cr8 : w3.cell? ⟨w.heap.size, 8, none⟩ = some (.int .u32 r.dl) := cell_of_row w3 (w.heap.size) 8 _ _ (0, 0) Jr
          have cr9 : w3.cell? ⟨w.heap.size, 9, none⟩ = some (.int .u32 r.dh) := cell_of_row w3 (w.heap.size) 9 _ _ (0, 0) Jr
          have lr : w.heap.size < w3.heap.size := lt_of_block Jr
          have nr : w.heap.size ≠ w3.heap.size := Nat.ne_of_lt lr
          have Kr := Lib.hid Jr
          clear Jr
          have ch0 : w3.cell? ⟨w.heap.size + 1, 0, none⟩ = some (.int .u32 h.src) := cell_of_row w3 (w.heap.size + 1) 0 _ _ (0, 0) Jh
          have ch1 : w3.cell? ⟨w.heap.size + 1, 1, none⟩ = some (.int .u32 h.dst) := cell_of_row w3 (w.heap.size + 1) 1 _ _ (0, 0) Jh
          have ch2 : w3.cell? ⟨w.heap.size + 1, 2, none⟩ = some (.int .u8 h.proto) := cell_of_row w3 (w.heap.size + 1) 2 _ _ (0, 0) Jh
          have ch3 : w3.cell? ⟨w.heap.size + 1, 3, none⟩ = some (.int .u16 h.sp) := cell_of_row w3 (w.heap.size + 1) 3 _ _ (0, 0) Jh
          have ch4 : w3.cell? ⟨w.heap.size + 1, 4, none⟩ = some (.int .u16 h.dp) := cell_of_row w3 (w.heap.size + 1) 4 _ _ (0, 0) Jh
          have lh : w.heap.size + 1 < w3.heap.size := lt_of_block Jh
          have nh : w.heap.size + 1 ≠ w3.heap.size := Nat.ne_of_lt lh
          have Kh := Lib.hid Jh
          clear Jh
          go_wp2_with fail
          refine (refIn_any _ _ _ _ h.hdst.1 h.hdst.2 r.hda.1 r.hda.2).mono ?_
          rintro e w4 ⟨rfl, hb⟩
          have Jr := blk_below hb Kr.out
          have Jh := blk_below hb Kh.out
          have hbw' := below_call hbw hb
          clear hb hbw Kr lr nr cr0 cr1 cr2 cr3 cr4 cr5 cr6 cr7 cr8 cr9 Kh lh nh ch0 ch1 ch2 ch3 ch4
          have hbw := hbw'
          clear hbw'
          have cr0 : w4.cell? ⟨w.heap.size, 0, none⟩ = some (.bool r.permit) := cell_of_row w4 (w.heap.size) 0 _ _ (0, 0) Jr
          have cr1 : w4.cell? ⟨w.heap.size, 1, none⟩ = some (.int .i64 r.proto) := cell_of_row w4 (w.heap.size) 1 _ _ (0, 0) Jr
          have cr2 : w4.cell? ⟨w.heap.size, 2, none⟩ = some (.int .u32 r.sa) := cell_of_row w4 (w.heap.size) 2 _ _ (0, 0) Jr
          have cr3 : w4.cell? ⟨w.heap.size, 3, none⟩ = some (.int .i64 r.sn) := cell_of_row w4 (w.heap.size) 3 _ _ (0, 0) Jr
          have cr4 : w4.cell? ⟨w.heap.size, 4, none⟩ = some (.int .u32 r.da) := cell_of_row w4 (w.heap.size) 4 _ _ (0, 0) Jr
          have cr5 : w4.cell? ⟨w.heap.size, 5, none⟩ = some (.int .i64 r.dn) := cell_of_row w4 (w.heap.size) 5 _ _ (0, 0) Jr
          have cr6 : w4.cell? ⟨w.heap.size, 6, none⟩ = some (.int .u32 r.sl) := cell_of_row w4 (w.heap.size) 6 _ _ (0, 0) Jr
          have cr7 : w4.cell? ⟨w.heap.size, 7, none⟩ = some (.int .u32 r.sh) := cell_of_row w4 (w.heap.size) 7 _ _ (0, 0) Jr
          have cr8 : w4.cell? ⟨w.heap.size, 8, none⟩ = some (.int .u32 r.dl) := cell_of_row w4 (w.heap.size) 8 _ _ (0, 0) Jr
          have cr9 : w4.cell? ⟨w.heap.size, 9, none⟩ = some (.int .u32 r.dh) := cell_of_row w4 (w.heap.size) 9 _ _ (0, 0) Jr
          have lr : w.heap.size < w4.heap.size := lt_of_block Jr
          have nr : w.heap.size ≠ w4.heap.size := Nat.ne_of_lt lr
          have Kr := Lib.hid Jr
          clear Jr
          have ch0 : w4.cell? ⟨w.heap.size + 1, 0, none⟩ = some (.int .u32 h.src) := cell_of_row w4 (w.heap.size + 1) 0 _ _ (0, 0) Jh
          have ch1 : w4.cell? ⟨w.heap.size + 1, 1, none⟩ = some (.int .u32 h.dst) := cell_of_row w4 (w.heap.size + 1) 1 _ _ (0, 0) Jh
          have ch2 : w4.cell? ⟨w.heap.size + 1, 2, none⟩ = some (.int .u8 h.proto) := cell_of_row w4 (w.heap.size + 1) 2 _ _ (0, 0) Jh
          have ch3 : w4.cell? ⟨w.heap.size + 1, 3, none⟩ = some (.int .u16 h.sp) := cell_of_row w4 (w.heap.size + 1) 3 _ _ (0, 0) Jh
          have ch4 : w4.cell? ⟨w.heap.size + 1, 4, none⟩ = some (.int .u16 h.dp) := cell_of_row w4 (w.heap.size + 1) 4 _ _ (0, 0) Jh
          have lh : w.heap.size + 1 < w4.heap.size := lt_of_block Jh
          have nh : w.heap.size + 1 ≠ w4.heap.size := Nat.ne_of_lt lh
          have Kh := Lib.hid Jh
          clear Jh
          go_wp2
          go_ret
          exact ⟨ret_bool hE.out, hbw⟩
      · have t2b0 : inB h.src r.sa r.sn = false := by first | (simp [*]; done) | (simp; omega) | (simp [*]; omega)
        have hE : Hid (false = fitsB r h) := by unfold Hid; simp [fitsB, inP, *]
        clear q0a q1a q2a
        go_enter Tryz.func53, Tryz.ntmps53
        go_wp2_with fail
        refine (refCheck_any _ _ _ r.hsa.1 r.hsa.2).mono ?_
        rintro e w1 ⟨rfl, hb⟩
        have Jr := blk_below hb (blk2 w _ _).1
        have Jh := blk_below hb (blk2 w _ _).2
        have hbw := below_call (below2 w _ _) hb
        clear hb
        have cr0 : w1.cell? ⟨w.heap.size, 0, none⟩ = some (.bool r.permit) := cell_of_row w1 (w.heap.size) 0 _ _ (0, 0) Jr
        have cr1 : w1.cell? ⟨w.heap.size, 1, none⟩ = some (.int .i64 r.proto) := cell_of_row w1 (w.heap.size) 1 _ _ (0, 0) Jr
        have cr2 : w1.cell? ⟨w.heap.size, 2, none⟩ = some (.int .u32 r.sa) := cell_of_row w1 (w.heap.size) 2 _ _ (0, 0) Jr
        have cr3 : w1.cell? ⟨w.heap.size, 3, none⟩ = some (.int .i64 r.sn) := cell_of_row w1 (w.heap.size) 3 _ _ (0, 0) Jr
        have cr4 : w1.cell? ⟨w.heap.size, 4, none⟩ = some (.int .u32 r.da) := cell_of_row w1 (w.heap.size) 4 _ _ (0, 0) Jr
        have cr5 : w1.cell? ⟨w.heap.size, 5, none⟩ = some (.int .i64 r.dn) := cell_of_row w1 (w.heap.size) 5 _ _ (0, 0) Jr
        have cr6 : w1.cell? ⟨w.heap.size, 6, none⟩ = some (.int .u32 r.sl) := cell_of_row w1 (w.heap.size) 6 _ _ (0, 0) Jr
        have cr7 : w1.cell? ⟨w.heap.size, 7, none⟩ = some (.int .u32 r.sh) := cell_of_row w1 (w.heap.size) 7 _ _ (0, 0) Jr
        have cr8 : w1.cell? ⟨w.heap.size, 8, none⟩ = some (.int .u32 r.dl) := cell_of_row w1 (w.heap.size) 8 _ _ (0, 0) Jr
        have cr9 : w1.cell? ⟨w.heap.size, 9, none⟩ = some (.int .u32 r.dh) := cell_of_row w1 (w.heap.size) 9 _ _ (0, 0) Jr
        have lr : w.heap.size < w1.heap.size := lt_of_block Jr
        have nr : w.heap.size ≠ w1.heap.size := Nat.ne_of_lt lr
        have Kr := Lib.hid Jr
        clear Jr
        have ch0 : w1.cell? ⟨w.heap.size + 1, 0, none⟩ = some (.int .u32 h.src) := cell_of_row w1 (w.heap.size + 1) 0 _ _ (0, 0) Jh
        have ch1 : w1.cell? ⟨w.heap.size + 1, 1, none⟩ = some (.int .u32 h.dst) := cell_of_row w1 (w.heap.size + 1) 1 _ _ (0, 0) Jh
        have ch2 : w1.cell? ⟨w.heap.size + 1, 2, none⟩ = some (.int .u8 h.proto) := cell_of_row w1 (w.heap.size + 1) 2 _ _ (0, 0) Jh
        have ch3 : w1.cell? ⟨w.heap.size + 1, 3, none⟩ = some (.int .u16 h.sp) := cell_of_row w1 (w.heap.size + 1) 3 _ _ (0, 0) Jh
        have ch4 : w1.cell? ⟨w.heap.size + 1, 4, none⟩ = some (.int .u16 h.dp) := cell_of_row w1 (w.heap.size + 1) 4 _ _ (0, 0) Jh
        have lh : w.heap.size + 1 < w1.heap.size := lt_of_block Jh
        have nh : w.heap.size + 1 ≠ w1.heap.size := Nat.ne_of_lt lh
        have Kh := Lib.hid Jh
        clear Jh
        go_wp2_with fail
        refine (refCheck_any _ _ _ r.hda.1 r.hda.2).mono ?_
        rintro e w2 ⟨rfl, hb⟩
        have Jr := blk_below hb Kr.out
        have Jh := blk_below hb Kh.out
        have hbw' := below_call hbw hb
        clear hb hbw Kr lr nr cr0 cr1 cr2 cr3 cr4 cr5 cr6 cr7 cr8 cr9 Kh lh nh ch0 ch1 ch2 ch3 ch4
        have hbw := hbw'
        clear hbw'
        have cr0 : w2.cell? ⟨w.heap.size, 0, none⟩ = some (.bool r.permit) := cell_of_row w2 (w.heap.size) 0 _ _ (0, 0) Jr
        have cr1 : w2.cell? ⟨w.heap.size, 1, none⟩ = some (.int .i64 r.proto) := cell_of_row w2 (w.heap.size) 1 _ _ (0, 0) Jr
        have cr2 : w2.cell? ⟨w.heap.size, 2, none⟩ = some (.int .u32 r.sa) := cell_of_row w2 (w.heap.size) 2 _ _ (0, 0) Jr
        have cr3 : w2.cell? ⟨w.heap.size, 3, none⟩ = some (.int .i64 r.sn) := cell_of_row w2 (w.heap.size) 3 _ _ (0, 0) Jr
        have cr4 : w2.cell? ⟨w.heap.size, 4, none⟩ = some (.int .u32 r.da) := cell_of_row w2 (w.heap.size) 4 _ _ (0, 0) Jr
        have cr5 : w2.cell? ⟨w.heap.size, 5, none⟩ = some (.int .i64 r.dn) := cell_of_row w2 (w.heap.size) 5 _ _ (0, 0) Jr
        have cr6 : w2.cell? ⟨w.heap.size, 6, none⟩ = some (.int .u32 r.sl) := cell_of_row w2 (w.heap.size) 6 _ _ (0, 0) Jr
        have cr7 : w2.cell? ⟨w.heap.size, 7, none⟩ = some (.int .u32 r.sh) := cell_of_row w2 (w.heap.size) 7 _ _ (0, 0) Jr
        have cr8 : w2.cell? ⟨w.heap.size, 8, none⟩ = some (.int .u32 r.dl) := cell_of_row w2 (w.heap.size) 8 _ _ (0, 0) Jr
        have cr9 : w2.cell? ⟨w.heap.size, 9, none⟩ = some (.int .u32 r.dh) := cell_of_row w2 (w.heap.size) 9 _ _ (0, 0) Jr
        have lr : w.heap.size < w2.heap.size := lt_of_block Jr
        have nr : w.heap.size ≠ w2.heap.size := Nat.ne_of_lt lr
        have Kr := Lib.hid Jr
        clear Jr
        have ch0 : w2.cell? ⟨w.heap.size + 1, 0, none⟩ = some (.int .u32 h.src) := cell_of_row w2 (w.heap.size + 1) 0 _ _ (0, 0) Jh
        have ch1 : w2.cell? ⟨w.heap.size + 1, 1, none⟩ = some (.int .u32 h.dst) := cell_of_row w2 (w.heap.size + 1) 1 _ _ (0, 0) Jh
        have ch2 : w2.cell? ⟨w.heap.size + 1, 2, none⟩ = some (.int .u8 h.proto) := cell_of_row w2 (w.heap.size + 1) 2 _ _ (0, 0) Jh
        have ch3 : w2.cell? ⟨w.heap.size + 1, 3, none⟩ = some (.int .u16 h.sp) := cell_of_row w2 (w.heap.size + 1) 3 _ _ (0, 0) Jh
        have ch4 : w2.cell? ⟨w.heap.size + 1, 4, none⟩ = some (.int .u16 h.dp) := cell_of_row w2 (w.heap.size + 1) 4 _ _ (0, 0) Jh
        have lh : w.heap.size + 1 < w2.heap.size := lt_of_block Jh
        have nh : w.heap.size + 1 ≠ w2.heap.size := Nat.ne_of_lt lh
        have Kh := Lib.hid Jh
        clear Jh
        go_wp2_with fail
        refine (refIn_any _ _ _ _ h.hsrc.1 h.hsrc.2 r.hsa.1 r.hsa.2).mono ?_
        rintro e w3 ⟨rfl, hb⟩
        have Jr := blk_below hb Kr.out
        have Jh := blk_below hb Kh.out
        have hbw' := below_call hbw hb
        clear hb hbw Kr lr nr cr0 cr1 cr2 cr3 cr4 cr5 cr6 cr7 cr8 cr9 Kh lh nh ch0 ch1 ch2 ch3 ch4
        have hbw := hbw'
        clear hbw'
        have cr0 : w3.cell? ⟨w.heap.size, 0, none⟩ = some (.bool r.permit) := cell_of_row w3 (w.heap.size) 0 _ _ (0, 0) Jr
        have cr1 : w3.cell? ⟨w.heap.size, 1, none⟩ = some (.int .i64 r.proto) := cell_of_row w3 (w.heap.size) 1 _ _ (0, 0) Jr
        have cr2 : w3.cell? ⟨w.heap.size, 2, none⟩ = some (.int .u32 r.sa) := cell_of_row w3 (w.heap.size) 2 _ _ (0, 0) Jr
        have cr3 : w3.cell? ⟨w.heap.size, 3, none⟩ = some (.int .i64 r.sn) := cell_of_row w3 (w.heap.size) 3 _ _ (0, 0) Jr
        have cr4 : w3.cell? ⟨w.heap.size, 4, none⟩ = some (.int .u32 r.da) := cell_of_row w3 (w.heap.size) 4 _ _ (0, 0) Jr
        have cr5 : w3.cell? ⟨w.heap.size, 5, none⟩ = some (.int .i64 r.dn) := cell_of_row w3 (w.heap.size) 5 _ _ (0, 0) Jr
        have cr6 : w3.cell? ⟨w.heap.size, 6, none⟩ = some (.int .u32 r.sl) := cell_of_row w3 (w.heap.size) 6 _ _ (0, 0) Jr
        have cr7 : w3.cell? ⟨w.heap.size, 7, none⟩ = some (.int .u32 r.sh) := cell_of_row w3 (w.heap.size) 7 _ _ (0, 0) Jr
        have cr8 : w3.cell? ⟨w.heap.size, 8, none⟩ = some (.int .u32 r.dl) := cell_of_row w3 (w.heap.size) 8 _ _ (0, 0) Jr
        have cr9 : w3.cell? ⟨w.heap.size, 9, none⟩ = some (.int .u32 r.dh) := cell_of_row w3 (w.heap.size) 9 _ _ (0, 0) Jr
        have lr : w.heap.size < w3.heap.size := lt_of_block Jr
        have nr : w.heap.size ≠ w3.heap.size := Nat.ne_of_lt lr
        have Kr := Lib.hid Jr
        clear Jr
        have ch0 : w3.cell? ⟨w.heap.size + 1, 0, none⟩ = some (.int .u32 h.src) := cell_of_row w3 (w.heap.size + 1) 0 _ _ (0, 0) Jh
        have ch1 : w3.cell? ⟨w.heap.size + 1, 1, none⟩ = some (.int .u32 h.dst) := cell_of_row w3 (w.heap.size + 1) 1 _ _ (0, 0) Jh
        have ch2 : w3.cell? ⟨w.heap.size + 1, 2, none⟩ = some (.int .u8 h.proto) := cell_of_row w3 (w.heap.size + 1) 2 _ _ (0, 0) Jh
        have ch3 : w3.cell? ⟨w.heap.size + 1, 3, none⟩ = some (.int .u16 h.sp) := cell_of_row w3 (w.heap.size + 1) 3 _ _ (0, 0) Jh
        have ch4 : w3.cell? ⟨w.heap.size + 1, 4, none⟩ = some (.int .u16 h.dp) := cell_of_row w3 (w.heap.size + 1) 4 _ _ (0, 0) Jh
        have lh : w.heap.size + 1 < w3.heap.size := lt_of_block Jh
        have nh : w.heap.size + 1 ≠ w3.heap.size := Nat.ne_of_lt lh
        have Kh := Lib.hid Jh
        clear Jh
        go_wp2
        go_ret
        exact ⟨ret_bool hE.out, hbw⟩
    · have t1b0 : (chk r.da r.dn != 0) = true := by first | (simp [*]; done) | (simp; omega) | (simp [*]; omega)
      have hE : Hid (false = fitsB r h) := by unfold Hid; simp [fitsB, inP, *]
      clear q0a q1a
      go_enter Tryz.func53, Tryz.ntmps53
      go_wp2_with fail
      refine (refCheck_any _ _ _ r.hsa.1 r.hsa.2).mono ?_
      rintro e w1 ⟨rfl, hb⟩
      have Jr := blk_below hb (blk2 w _ _).1
      have Jh := blk_below hb (blk2 w _ _).2
      have hbw := below_call (below2 w _ _) hb
      clear hb
      have cr0 : w1.cell? ⟨w.heap.size, 0, none⟩ = some (.bool r.permit) := cell_of_row w1 (w.heap.size) 0 _ _ (0, 0) Jr
      have cr1 : w1.cell? ⟨w.heap.size, 1, none⟩ = some (.int .i64 r.proto) := cell_of_row w1 (w.heap.size) 1 _ _ (0, 0) Jr
      have cr2 : w1.cell? ⟨w.heap.size, 2, none⟩ = some (.int .u32 r.sa) := cell_of_row w1 (w.heap.size) 2 _ _ (0, 0) Jr
      have cr3 : w1.cell? ⟨w.heap.size, 3, none⟩ = some (.int .i64 r.sn) := cell_of_row w1 (w.heap.size) 3 _ _ (0, 0) Jr
      have cr4 : w1.cell? ⟨w.heap.size, 4, none⟩ = some (.int .u32 r.da) := cell_of_row w1 (w.heap.size) 4 _ _ (0, 0) Jr
      have cr5 : w1.cell? ⟨w.heap.size, 5, none⟩ = some (.int .i64 r.dn) := cell_of_row w1 (w.heap.size) 5 _ _ (0, 0) Jr
      have cr6 : w1.cell? ⟨w.heap.size, 6, none⟩ = some (.int .u32 r.sl) := cell_of_row w1 (w.heap.size) 6 _ _ (0, 0) Jr
      have cr7 : w1.cell? ⟨w.heap.size, 7, none⟩ = some (.int .u32 r.sh) := cell_of_row w1 (w.heap.size) 7 _ _ (0, 0) Jr
      have cr8 : w1.cell? ⟨w.heap.size, 8, none⟩ = some (.int .u32 r.dl) := cell_of_row w1 (w.heap.size) 8 _ _ (0, 0) Jr
      have cr9 : w1.cell? ⟨w.heap.size, 9, none⟩ = some (.int .u32 r.dh) := cell_of_row w1 (w.heap.size) 9 _ _ (0, 0) Jr
      have lr : w.heap.size < w1.heap.size := lt_of_block Jr
      have nr : w.heap.size ≠ w1.heap.size := Nat.ne_of_lt lr
      have Kr := Lib.hid Jr
      clear Jr
      have ch0 : w1.cell? ⟨w.heap.size + 1, 0, none⟩ = some (.int .u32 h.src) := cell_of_row w1 (w.heap.size + 1) 0 _ _ (0, 0) Jh
      have ch1 : w1.cell? ⟨w.heap.size + 1, 1, none⟩ = some (.int .u32 h.dst) := cell_of_row w1 (w.heap.size + 1) 1 _ _ (0, 0) Jh
      have ch2 : w1.cell? ⟨w.heap.size + 1, 2, none⟩ = some (.int .u8 h.proto) := cell_of_row w1 (w.heap.size + 1) 2 _ _ (0, 0) Jh
      have ch3 : w1.cell? ⟨w.heap.size + 1, 3, none⟩ = some (.int .u16 h.sp) := cell_of_row w1 (w.heap.size + 1) 3 _ _ (0, 0) Jh
      have ch4 : w1.cell? ⟨w.heap.size + 1, 4, none⟩ = some (.int .u16 h.dp) := cell_of_row w1 (w.heap.size + 1) 4 _ _ (0, 0) Jh
      have lh : w.heap.size + 1 < w1.heap.size := lt_of_block Jh
      have nh : w.heap.size + 1 ≠ w1.heap.size := Nat.ne_of_lt lh
      have Kh := Lib.hid Jh
      clear Jh
      go_wp2_with fail
      refine (refCheck_any _ _ _ r.hda.1 r.hda.2).mono ?_
      rintro e w2 ⟨rfl, hb⟩
      have Jr := blk_below hb Kr.out
      have Jh := blk_below hb Kh.out
      have hbw' := below_call hbw hb
      clear hb hbw Kr lr nr cr0 cr1 cr2 cr3 cr4 cr5 cr6 cr7 cr8 cr9 Kh lh nh ch0 ch1 ch2 ch3 ch4
      have hbw := hbw'
      clear hbw'
      have cr0 : w2.cell? ⟨w.heap.size, 0, none⟩ = some (.bool r.permit) := cell_of_row w2 (w.heap.size) 0 _ _ (0, 0) Jr
      have cr1 : w2.cell? ⟨w.heap.size, 1, none⟩ = some (.int .i64 r.proto) := cell_of_row w2 (w.heap.size) 1 _ _ (0, 0) Jr
      have cr2 : w2.cell? ⟨w.heap.size, 2, none⟩ = some (.int .u32 r.sa) := cell_of_row w2 (w.heap.size) 2 _ _ (0, 0) Jr
      have cr3 : w2.cell? ⟨w.heap.size, 3, none⟩ = some (.int .i64 r.sn) := cell_of_row w2 (w.heap.size) 3 _ _ (0, 0) Jr
      have cr4 : w2.cell? ⟨w.heap.size, 4, none⟩ = some (.int .u32 r.da) := cell_of_row w2 (w.heap.size) 4 _ _ (0, 0) Jr
      have cr5 : w2.cell? ⟨w.heap.size, 5, none⟩ = some (.int .i64 r.dn) := cell_of_row w2 (w.heap.size) 5 _ _ (0, 0) Jr
      have cr6 : w2.cell? ⟨w.heap.size, 6, none⟩ = some (.int .u32 r.sl) := cell_of_row w2 (w.heap.size) 6 _ _ (0, 0) Jr
      have cr7 : w2.cell? ⟨w.heap.size, 7, none⟩ = some (.int .u32 r.sh) := cell_of_row w2 (w.heap.size) 7 _ _ (0, 0) Jr
      have cr8 : w2.cell? ⟨w.heap.size, 8, none⟩ = some (.int .u32 r.dl) := cell_of_row w2 (w.heap.size) 8 _ _ (0, 0) Jr
      have cr9 : w2.cell? ⟨w.heap.size, 9, none⟩ = some (.int .u32 r.dh) := cell_of_row w2 (w.heap.size) 9 _ _ (0, 0) Jr
      have lr : w.heap.size < w2.heap.size := lt_of_block Jr
      have nr : w.heap.size ≠ w2.heap.size := Nat.ne_of_lt lr
      have Kr := Lib.hid Jr
      clear Jr
      have ch0 : w2.cell? ⟨w.heap.size + 1, 0, none⟩ = some (.int .u32 h.src) := cell_of_row w2 (w.heap.size + 1) 0 _ _ (0, 0) Jh
      have ch1 : w2.cell? ⟨w.heap.size + 1, 1, none⟩ = some (.int .u32 h.dst) := cell_of_row w2 (w.heap.size + 1) 1 _ _ (0, 0) Jh
      have ch2 : w2.cell? ⟨w.heap.size + 1, 2, none⟩ = some (.int .u8 h.proto) := cell_of_row w2 (w.heap.size + 1) 2 _ _ (0, 0) Jh
      have ch3 : w2.cell? ⟨w.heap.size + 1, 3, none⟩ = some (.int .u16 h.sp) := cell_of_row w2 (w.heap.size + 1) 3 _ _ (0, 0) Jh
      have ch4 : w2.cell? ⟨w.heap.size + 1, 4, none⟩ = some (.int .u16 h.dp) := cell_of_row w2 (w.heap.size + 1) 4 _ _ (0, 0) Jh
      have lh : w.heap.size + 1 < w2.heap.size := lt_of_block Jh
      have nh : w.heap.size + 1 ≠ w2.heap.size := Nat.ne_of_lt lh
      have Kh := Lib.hid Jh
      clear Jh
      go_wp2
      go_ret
      exact ⟨ret_bool hE.out, hbw⟩
  · have t0b0 : (chk r.sa r.sn != 0) = true := by first | (simp [*]; done) | (simp; omega) | (simp [*]; omega)
    have hE : Hid (false = fitsB r h) := by unfold Hid; simp [fitsB, inP, *]
    clear q0a
    go_enter Tryz.func53, Tryz.ntmps53
    go_wp2_with fail
    refine (refCheck_any _ _ _ r.hsa.1 r.hsa.2).mono ?_
    rintro e w1 ⟨rfl, hb⟩
    have Jr := blk_below hb (blk2 w _ _).1
    have Jh := blk_below hb (blk2 w _ _).2
    have hbw := below_call (below2 w _ _) hb
    clear hb
    have cr0 : w1.cell? ⟨w.heap.size, 0, none⟩ = some (.bool r.permit) := cell_of_row w1 (w.heap.size) 0 _ _ (0, 0) Jr
    have cr1 : w1.cell? ⟨w.heap.size, 1, none⟩ = some (.int .i64 r.proto) := cell_of_row w1 (w.heap.size) 1 _ _ (0, 0) Jr
    have cr2 : w1.cell? ⟨w.heap.size, 2, none⟩ = some (.int .u32 r.sa) := cell_of_row w1 (w.heap.size) 2 _ _ (0, 0) Jr
    have cr3 : w1.cell? ⟨w.heap.size, 3, none⟩ = some (.int .i64 r.sn) := cell_of_row w1 (w.heap.size) 3 _ _ (0, 0) Jr
    have cr4 : w1.cell? ⟨w.heap.size, 4, none⟩ = some (.int .u32 r.da) := cell_of_row w1 (w.heap.size) 4 _ _ (0, 0) Jr
    have cr5 : w1.cell? ⟨w.heap.size, 5, none⟩ = some (.int .i64 r.dn) := cell_of_row w1 (w.heap.size) 5 _ _ (0, 0) Jr
    have cr6 : w1.cell? ⟨w.heap.size, 6, none⟩ = some (.int .u32 r.sl) := cell_of_row w1 (w.heap.size) 6 _ _ (0, 0) Jr
    have cr7 : w1.cell? ⟨w.heap.size, 7, none⟩ = some (.int .u32 r.sh) := cell_of_row w1 (w.heap.size) 7 _ _ (0, 0) Jr
    have cr8 : w1.cell? ⟨w.heap.size, 8, none⟩ = some (.int .u32 r.dl) := cell_of_row w1 (w.heap.size) 8 _ _ (0, 0) Jr
    have cr9 : w1.cell? ⟨w.heap.size, 9, none⟩ = some (.int .u32 r.dh) := cell_of_row w1 (w.heap.size) 9 _ _ (0, 0) Jr
    have lr : w.heap.size < w1.heap.size := lt_of_block Jr
    have nr : w.heap.size ≠ w1.heap.size := Nat.ne_of_lt lr
    have Kr := Lib.hid Jr
    clear Jr
    have ch0 : w1.cell? ⟨w.heap.size + 1, 0, none⟩ = some (.int .u32 h.src) := cell_of_row w1 (w.heap.size + 1) 0 _ _ (0, 0) Jh
    have ch1 : w1.cell? ⟨w.heap.size + 1, 1, none⟩ = some (.int .u32 h.dst) := cell_of_row w1 (w.heap.size + 1) 1 _ _ (0, 0) Jh
    have ch2 : w1.cell? ⟨w.heap.size + 1, 2, none⟩ = some (.int .u8 h.proto) := cell_of_row w1 (w.heap.size + 1) 2 _ _ (0, 0) Jh
    have ch3 : w1.cell? ⟨w.heap.size + 1, 3, none⟩ = some (.int .u16 h.sp) := cell_of_row w1 (w.heap.size + 1) 3 _ _ (0, 0) Jh
    have ch4 : w1.cell? ⟨w.heap.size + 1, 4, none⟩ = some (.int .u16 h.dp) := cell_of_row w1 (w.heap.size + 1) 4 _ _ (0, 0) Jh
    have lh : w.heap.size + 1 < w1.heap.size := lt_of_block Jh
    have nh : w.heap.size + 1 ≠ w1.heap.size := Nat.ne_of_lt lh
    have Kh := Lib.hid Jh
    clear Jh
    go_wp2
    go_ret
    exact ⟨ret_bool hE.out, hbw⟩

end Go.Proofs.YthhcaoljejifeaaGreat
