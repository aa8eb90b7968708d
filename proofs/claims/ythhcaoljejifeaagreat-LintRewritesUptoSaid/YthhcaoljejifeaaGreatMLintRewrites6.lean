/-
  Joined texts: Filt.
-/
import Derived.Test.YthhcaoljejifeaaGreatMLintRewrites4
/-
  Walks over the filter's layer: what a rule may be, and which headers fit it; the program's and the reference's (written by wip/gen/genfilter.py).
-/
namespace Go.Proofs.YthhcaoljejifeaaGreat
open Go Go.RowKit

/-- A rule, its numbers within their kinds. -/
structure RuleV where
  permit : Bool
  proto : Int
  sa : Int
  sn : Int
  da : Int
  dn : Int
  sl : Int
  sh : Int
  dl : Int
  dh : Int
  hpr : -9223372036854775808 ≤ proto ∧ proto ≤ 9223372036854775807
  hsa : 0 ≤ sa ∧ sa < 4294967296
  hda : 0 ≤ da ∧ da < 4294967296
  hsl : 0 ≤ sl ∧ sl < 4294967296
  hsh : 0 ≤ sh ∧ sh < 4294967296
  hdl : 0 ≤ dl ∧ dl < 4294967296
  hdh : 0 ≤ dh ∧ dh < 4294967296
/-- A header, its numbers within their kinds. -/
structure HeaderV where
  src : Int
  dst : Int
  proto : Int
  sp : Int
  dp : Int
  hsrc : 0 ≤ src ∧ src < 4294967296
  hdst : 0 ≤ dst ∧ dst < 4294967296
  hproto : 0 ≤ proto ∧ proto ≤ 255
  hsp : 0 ≤ sp ∧ sp ≤ 65535
  hdp : 0 ≤ dp ∧ dp ≤ 65535

def portsB (lo hi : Int) : Bool := decide (lo ≤ hi) && decide (hi ≤ 65535)
def mayB (r : RuleV) : Bool := decide (-1 ≤ r.proto) && decide (r.proto ≤ 255) && decide (chk r.sa r.sn = 0) && decide (chk r.da r.dn = 0) && portsB r.sl r.sh && portsB r.dl r.dh
def inP (lo hi x : Int) : Bool := decide (lo ≤ x) && decide (x ≤ hi)
def fitsB (r : RuleV) (h : HeaderV) : Bool := decide (chk r.sa r.sn = 0) && decide (chk r.da r.dn = 0) && inB h.src r.sa r.sn && inB h.dst r.da r.dn && (decide (r.proto = -1) || decide (r.proto = h.proto)) && inP r.sl r.sh h.sp && inP r.dl r.dh h.dp

set_option maxHeartbeats 1000000 in
theorem ports_any (lo hi : Int) (w : World) :
    Calls Tryz.prog 48 #[.agg #[.int .u32 lo, .int .u32 hi]] w fun e w' => e = .returned (.bool (portsB lo hi)) ∧ Below w.heap.size w w' := by
  by_cases q0a : lo ≤ hi
  · have t0a0 : decide (lo ≤ hi) = true := by first | (simp [*]; done) | (simp; omega) | (simp [*]; omega)
    have hE : Hid (decide (hi ≤ 65535) = portsB lo hi) := by unfold Hid; simp [portsB, *]
    clear q0a
    go_enter Tryz.func48, Tryz.ntmps48
    go_wp2
    go_ret
    exact ⟨ret_bool hE.out, below1 w _⟩
  · have t0b0 : decide (lo ≤ hi) = false := by first | (simp [*]; done) | (simp; omega) | (simp [*]; omega)
    have hE : Hid (false = portsB lo hi) := by unfold Hid; simp [portsB, *]
    clear q0a
    go_enter Tryz.func48, Tryz.ntmps48
    go_wp2
    go_ret
    exact ⟨ret_bool hE.out, below1 w _⟩

set_option maxHeartbeats 1000000 in
theorem may_any (r : RuleV) (w : World) :
    Calls Tryz.prog 31 #[.agg #[.bool r.permit, .int .i64 r.proto, .int .u32 r.sa, .int .i64 r.sn, .int .u32 r.da, .int .i64 r.dn, .int .u32 r.sl, .int .u32 r.sh, .int .u32 r.dl, .int .u32 r.dh]] w fun e w' => e = .returned (.bool (mayB r)) ∧ Below w.heap.size w w' := by
  by_cases q0a : -1 ≤ r.proto
  · have t0a0 : decide (-1 ≤ r.proto) = true := by first | (simp [*]; done) | (simp; omega) | (simp [*]; omega)
    by_cases q1a : r.proto ≤ 255
    · have t1a0 : decide (r.proto ≤ 255) = true := by first | (simp [*]; done) | (simp; omega) | (simp [*]; omega)
      by_cases q2a : chk r.sa r.sn = 0
      · have t2a0 : (chk r.sa r.sn == 0) = true := by first | (simp [*]; done) | (simp; omega) | (simp [*]; omega)
        by_cases q3a : chk r.da r.dn = 0
        · have t3a0 : (chk r.da r.dn == 0) = true := by first | (simp [*]; done) | (simp; omega) | (simp [*]; omega)
          by_cases q4a : portsB r.sl r.sh = true
          · have t4a0 : portsB r.sl r.sh = true := by first | (simp [*]; done) | (simp; omega) | (simp [*]; omega)
            have hE : Hid (portsB r.dl r.dh = mayB r) := by unfold Hid; simp [mayB, *]
            clear q0a q1a q2a q3a q4a
            go_enter Tryz.func31, Tryz.ntmps31
            go_wp2_with fail
            refine (addrCheck_any _ _ _ r.hsa.1 r.hsa.2).mono ?_
            rintro e w1 ⟨rfl, hb⟩
            have Jr := blk_below hb (blk1 w _)
            have hbw := below_call (below1 w _) hb
            clear hb
            have cr0 : w1.cell? ⟨w.heap.size, 0, none⟩ = some (.bool r.permit) := cell_of_row w1 (w.heap.size) 0 _ _ (0, 0) Jr
            have cr1 : w1.cell? ⟨w.heap.size, 1, none⟩ = some (.int .i64 r.proto) := cell_of_row w1 (w.heap.size) 1 _ _ (0, 0) Jr
            have cr2 : w1.cell? ⟨w.heap.size, 2, none⟩ = some (.int .u32 r.sa) := cell_of_row w1 (w.heap.size) 2 _ _ (0, 0) Jr
            have cr3 : w1.cell? ⟨w.heap.size, 3, none⟩ = some (.int .i64 r.sn) := cell_of_row w1 (w.heap.size) 3 _ _ (0, 0) Jr
            have cr4 : w1.cell? ⟨w.heap.size, 4, none⟩ = some (.int .u32 r.da) := cell_of_row w1 (w.heap.size) 4 _ _ (0, 0) Jr
            have cr5 : w1.cell? ⟨w.heap.size, 5, none⟩ = some (.int .i64 r.dn) := cell_of_row w1 (w.heap.size) 5 _ _ (0, 0) Jr
            have cr6 : w1.cell? ⟨w.heap.size, 6, none⟩ = some (.int .u32 r.sl) := cell_of_row w1 (w.heap.size) 6 _ _ (0, 0) Jr
            have cr7 : w1.cell? ⟨w.heap.size, 7, none⟩ = some (.int .u32 r.sh) := cell_of_row w1 (w.heap.size) 7 _ _ (0, 0) Jr
            have cr8 : w1.cell? ⟨w.heap.size, 8, none⟩ = some (.int .u32 r.dl) := cell_of_row w1 (w.heap.size) 8 _ _ (0, 0) Jr
            have cr9 : w1.cell? ⟨w.heap.size, 9, none⟩ = some (.int .u32 r.dh) := cell_of_row w1 (w.heap.size) 9 _ _ (0, 0) Jr
            have lr : w.heap.size < w1.heap.size := lt_of_block Jr
            have nr : w.heap.size ≠ w1.heap.size := Nat.ne_of_lt lr
            have Kr := Lib.hid Jr
            clear Jr
            go_wp2_with fail
            refine (addrCheck_any _ _ _ r.hda.1 r.hda.2).mono ?_
            rintro e w2 ⟨rfl, hb⟩
            have Jr := blk_below hb Kr.out
            have hbw' := below_call hbw hb
            clear hb hbw Kr lr nr cr0 cr1 cr2 cr3 cr4 cr5 cr6 cr7 cr8 cr9
            have hbw := hbw'
            clear hbw'
            have cr0 : w2.cell? ⟨w.heap.size, 0, none⟩ = some (.bool r.permit) := cell_of_row w2 (w.heap.size) 0 _ _ (0, 0) Jr
            have cr1 : w2.cell? ⟨w.heap.size, 1, none⟩ = some (.int .i64 r.proto) := cell_of_row w2 (w.heap.size) 1 _ _ (0, 0) Jr
            have cr2 : w2.cell? ⟨w.heap.size, 2, none⟩ = some (.int .u32 r.sa) := cell_of_row w2 (w.heap.size) 2 _ _ (0, 0) Jr
            have cr3 : w2.cell? ⟨w.heap.size, 3, none⟩ = some (.int .i64 r.sn) := cell_of_row w2 (w.heap.size) 3 _ _ (0, 0) Jr
            have cr4 : w2.cell? ⟨w.heap.size, 4, none⟩ = some (.int .u32 r.da) := cell_of_row w2 (w.heap.size) 4 _ _ (0, 0) Jr
            have cr5 : w2.cell? ⟨w.heap.size, 5, none⟩ = some (.int .i64 r.dn) := cell_of_row w2 (w.heap.size) 5 _ _ (0, 0) Jr
            have cr6 : w2.cell? ⟨w.heap.size, 6, none⟩ = some (.int .u32 r.sl) := cell_of_row w2 (w.heap.size) 6 _ _ (0, 0) Jr
            have cr7 : w2.cell? ⟨w.heap.size, 7, none⟩ = some (.int .u32 r.sh) := cell_of_row w2 (w.heap.size) 7 _ _ (0, 0) Jr
            have cr8 : w2.cell? ⟨w.heap.size, 8, none⟩ = some (.int .u32 r.dl) := cell_of_row w2 (w.heap.size) 8 _ _ (0, 0) Jr
            have cr9 : w2.cell? ⟨w.heap.size, 9, none⟩ = some (.int .u32 r.dh) := cell_of_row w2 (w.heap.size) 9 _ _ (0, 0) Jr
            have lr : w.heap.size < w2.heap.size := lt_of_block Jr
            have nr : w.heap.size ≠ w2.heap.size := Nat.ne_of_lt lr
            have Kr := Lib.hid Jr
            clear Jr
            go_wp2_with fail
            refine (ports_any _ _ _).mono ?_
            rintro e w3 ⟨rfl, hb⟩
            have Jr := blk_below hb Kr.out
            have hbw' := below_call hbw hb
            clear hb hbw Kr lr nr cr0 cr1 cr2 cr3 cr4 cr5 cr6 cr7 cr8 cr9
            have hbw := hbw'
            clear hbw'
            have cr0 : w3.cell? ⟨w.heap.size, 0, none⟩ = some (.bool r.permit) := cell_of_row w3 (w.heap.size) 0 _ _ (0, 0) Jr
            have cr1 : w3.cell? ⟨w.heap.size, 1, none⟩ = some (.int .i64 r.proto) := cell_of_row w3 (w.heap.size) 1 _ _ (0, 0) Jr
            have cr2 : w3.cell? ⟨w.heap.size, 2, none⟩ = some (.int .u32 r.sa) := cell_of_row w3 (w.heap.size) 2 _ _ (0, 0) Jr
            have cr3 : w3.cell? ⟨w.heap.size, 3, none⟩ = some (.int .i64 r.sn) := cell_of_row w3 (w.heap.size) 3 _ _ (0, 0) Jr
            have cr4 : w3.cell? ⟨w.heap.size, 4, none⟩ = some (.int .u32 r.da) := cell_of_row w3 (w.heap.size) 4 _ _ (0, 0) Jr
            have cr5 : w3.cell? ⟨w.heap.size, 5, none⟩ = some (.int .i64 r.dn) := cell_of_row w3 (w.heap.size) 5 _ _ (0, 0) Jr
            have cr6 : w3.cell? ⟨w.heap.size, 6, none⟩ = some (.int .u32 r.sl) := cell_of_row w3 (w.heap.size) 6 _ _ (0, 0) Jr
            have cr7 : w3.cell? ⟨w.heap.size, 7, none⟩ = some (.int .u32 r.sh) := cell_of_row w3 (w.heap.size) 7 _ _ (0, 0) Jr
            have cr8 : w3.cell? ⟨w.heap.size, 8, none⟩ = some (.int .u32 r.dl) := cell_of_row w3 (w.heap.size) 8 _ _ (0, 0) Jr
            have cr9 : w3.cell? ⟨w.heap.size, 9, none⟩ = some (.int .u32 r.dh) := cell_of_row w3 (w.heap.size) 9 _ _ (0, 0) Jr
            have lr : w.heap.size < w3.heap.size := lt_of_block Jr
            have nr : w.heap.size ≠ w3.heap.size := Nat.ne_of_lt lr
            have Kr := Lib.hid Jr
            clear Jr
            go_wp2_with fail
            refine (ports_any _ _ _).mono ?_
            rintro e w4 ⟨rfl, hb⟩
            have Jr := blk_below hb Kr.out
            have hbw' := below_call hbw hb
            clear hb hbw Kr lr nr cr0 cr1 cr2 cr3 cr4 cr5 cr6 cr7 cr8 cr9
            have hbw := hbw'
            clear hbw'
            have cr0 : w4.cell? ⟨w.heap.size, 0, none⟩ = some (.bool r.permit) := cell_of_row w4 (w.heap.size) 0 _ _ (0, 0) Jr
            have cr1 : w4.cell? ⟨w.heap.size, 1, none⟩ = some (.int .i64 r.proto) := cell_of_row w4 (w.heap.size) 1 _ _ (0, 0) Jr
            have cr2 : w4.cell? ⟨w.heap.size, 2, none⟩ = some (.int .u32 r.sa) := cell_of_row w4 (w.heap.size) 2 _ _ (0, 0) Jr
            have cr3 : w4.cell? ⟨w.heap.size, 3, none⟩ = some (.int .i64 r.sn) := cell_of_row w4 (w.heap.size) 3 _ _ (0, 0) Jr
            have cr4 : w4.cell? ⟨w.heap.size, 4, none⟩ = some (.int .u32 r.da) := cell_of_row w4 (w.heap.size) 4 _ _ (0, 0) Jr
            have cr5 : w4.cell? ⟨w.heap.size, 5, none⟩ = some (.int .i64 r.dn) := cell_of_row w4 (w.heap.size) 5 _ _ (0, 0) Jr
            have cr6 : w4.cell? ⟨w.heap.size, 6, none⟩ = some (.int .u32 r.sl) := cell_of_row w4 (w.heap.size) 6 _ _ (0, 0) Jr
            have cr7 : w4.cell? ⟨w.heap.size, 7, none⟩ = some (.int .u32 r.sh) := cell_of_row w4 (w.heap.size) 7 _ _ (0, 0) Jr
            have cr8 : w4.cell? ⟨w.heap.size, 8, none⟩ = some (.int .u32 r.dl) := cell_of_row w4 (w.heap.size) 8 _ _ (0, 0) Jr
            have cr9 : w4.cell? ⟨w.heap.size, 9, none⟩ = some (.int .u32 r.dh) := cell_of_row w4 (w.heap.size) 9 _ _ (0, 0) Jr
            have lr : w.heap.size < w4.heap.size := lt_of_block Jr
            have nr : w.heap.size ≠ w4.heap.size := Nat.ne_of_lt lr
            have Kr := Lib.hid Jr
            clear Jr
            go_wp2
            go_ret
            exact ⟨ret_bool hE.out, hbw⟩
          · have t4b0 : portsB r.sl r.sh = false := by first | (simp [*]; done) | (simp; omega) | (simp [*]; omega)
            have hE : Hid (false = mayB r) := by unfold Hid; simp [mayB, *]
            clear q0a q1a q2a q3a q4a
            go_enter Tryz.func31, Tryz.ntmps31
            go_wp2_with fail
            refine (addrCheck_any _ _ _ r.hsa.1 r.hsa.2).mono ?_
            rintro e w1 ⟨rfl, hb⟩
            have Jr := blk_below hb (blk1 w _)
            have hbw := below_call (below1 w _) hb
            clear hb
            have cr0 : w1.cell? ⟨w.heap.size, 0, none⟩ = some (.bool r.permit) := cell_of_row w1 (w.heap.size) 0 _ _ (0, 0) Jr
            have cr1 : w1.cell? ⟨w.heap.size, 1, none⟩ = some (.int .i64 r.proto) := cell_of_row w1 (w.heap.size) 1 _ _ (0, 0) Jr
            have cr2 : w1.cell? ⟨w.heap.size, 2, none⟩ = some (.int .u32 r.sa) := cell_of_row w1 (w.heap.size) 2 _ _ (0, 0) Jr
            have cr3 : w1.cell? ⟨w.heap.size, 3, none⟩ = some (.int .i64 r.sn) := cell_of_row w1 (w.heap.size) 3 _ _ (0, 0) Jr
            have cr4 : w1.cell? ⟨w.heap.size, 4, none⟩ = some (.int .u32 r.da) := cell_of_row w1 (w.heap.size) 4 _ _ (0, 0) Jr
            have cr5 : w1.cell? ⟨w.heap.size, 5, none⟩ = some (.int .i64 r.dn) := cell_of_row w1 (w.heap.size) 5 _ _ (0, 0) Jr
            have cr6 : w1.cell? ⟨w.heap.size, 6, none⟩ = some (.int .u32 r.sl) := cell_of_row w1 (w.heap.size) 6 _ _ (0, 0) Jr
            have cr7 : w1.cell? ⟨w.heap.size, 7, none⟩ = some (.int .u32 r.sh) := cell_of_row w1 (w.heap.size) 7 _ _ (0, 0) Jr
            have cr8 : w1.cell? ⟨w.heap.size, 8, none⟩ = some (.int .u32 r.dl) := cell_of_row w1 (w.heap.size) 8 _ _ (0, 0) Jr
            have cr9 : w1.cell? ⟨w.heap.size, 9, none⟩ = some (.int .u32 r.dh) := cell_of_row w1 (w.heap.size) 9 _ _ (0, 0) Jr
            have lr : w.heap.size < w1.heap.size := lt_of_block Jr
            have nr : w.heap.size ≠ w1.heap.size := Nat.ne_of_lt lr
            have Kr := Lib.hid Jr
            clear Jr
            go_wp2_with fail
            refine (addrCheck_any _ _ _ r.hda.1 r.hda.2).mono ?_
            rintro e w2 ⟨rfl, hb⟩
            have Jr := blk_below hb Kr.out
            have hbw' := below_call hbw hb
            clear hb hbw Kr lr nr cr0 cr1 cr2 cr3 cr4 cr5 cr6 cr7 cr8 cr9
            have hbw := hbw'
            clear hbw'
            have cr0 : w2.cell? ⟨w.heap.size, 0, none⟩ = some (.bool r.permit) := cell_of_row w2 (w.heap.size) 0 _ _ (0, 0) Jr
            have cr1 : w2.cell? ⟨w.heap.size, 1, none⟩ = some (.int .i64 r.proto) := cell_of_row w2 (w.heap.size) 1 _ _ (0, 0) Jr
            have cr2 : w2.cell? ⟨w.heap.size, 2, none⟩ = some (.int .u32 r.sa) := cell_of_row w2 (w.heap.size) 2 _ _ (0, 0) Jr
            have cr3 : w2.cell? ⟨w.heap.size, 3, none⟩ = some (.int .i64 r.sn) := cell_of_row w2 (w.heap.size) 3 _ _ (0, 0) Jr
            have cr4 : w2.cell? ⟨w.heap.size, 4, none⟩ = some (.int .u32 r.da) := cell_of_row w2 (w.heap.size) 4 _ _ (0, 0) Jr
            have cr5 : w2.cell? ⟨w.heap.size, 5, none⟩ = some (.int .i64 r.dn) := cell_of_row w2 (w.heap.size) 5 _ _ (0, 0) Jr
            have cr6 : w2.cell? ⟨w.heap.size, 6, none⟩ = some (.int .u32 r.sl) := cell_of_row w2 (w.heap.size) 6 _ _ (0, 0) Jr
            have cr7 : w2.cell? ⟨w.heap.size, 7, none⟩ = some (.int .u32 r.sh) := cell_of_row w2 (w.heap.size) 7 _ _ (0, 0) Jr
            have cr8 : w2.cell? ⟨w.heap.size, 8, none⟩ = some (.int .u32 r.dl) := cell_of_row w2 (w.heap.size) 8 _ _ (0, 0) Jr
            have cr9 : w2.cell? ⟨w.heap.size, 9, none⟩ = some (.int .u32 r.dh) := cell_of_row w2 (w.heap.size) 9 _ _ (0, 0) Jr
            have lr : w.heap.size < w2.heap.size := lt_of_block Jr
            have nr : w.heap.size ≠ w2.heap.size := Nat.ne_of_lt lr
            have Kr := Lib.hid Jr
            clear Jr
            go_wp2_with fail
            refine (ports_any _ _ _).mono ?_
            rintro e w3 ⟨rfl, hb⟩
            have Jr := blk_below hb Kr.out
            have hbw' := below_call hbw hb
            clear hb hbw Kr lr nr cr0 cr1 cr2 cr3 cr4 cr5 cr6 cr7 cr8 cr9
            have hbw := hbw'
            clear hbw'
            have cr0 : w3.cell? ⟨w.heap.size, 0, none⟩ = some (.bool r.permit) := cell_of_row w3 (w.heap.size) 0 _ _ (0, 0) Jr
            have cr1 : w3.cell? ⟨w.heap.size, 1, none⟩ = some (.int .i64 r.proto) := cell_of_row w3 (w.heap.size) 1 _ _ (0, 0) Jr
            have cr2 : w3.cell? ⟨w.heap.size, 2, none⟩ = some (.int .u32 r.sa) := cell_of_row w3 (w.heap.size) 2 _ _ (0, 0) Jr
            have cr3 : w3.cell? ⟨w.heap.size, 3, none⟩ = some (.int .i64 r.sn) := cell_of_row w3 (w.heap.size) 3 _ _ (0, 0) Jr
            have cr4 : w3.cell? ⟨w.heap.size, 4, none⟩ = some (.int .u32 r.da) := cell_of_row w3 (w.heap.size) 4 _ _ (0, 0) Jr
            have cr5 : w3.cell? ⟨w.heap.size, 5, none⟩ = some (.int .i64 r.dn) := cell_of_row w3 (w.heap.size) 5 _ _ (0, 0) Jr
            have cr6 : w3.cell? ⟨w.heap.size, 6, none⟩ = some (.int .u32 r.sl) := cell_of_row w3 (w.heap.size) 6 _ _ (0, 0) Jr
            have cr7 : w3.cell? ⟨w.heap.size, 7, none⟩ = some (.int .u32 r.sh) := cell_of_row w3 (w.heap.size) 7 _ _ (0, 0) Jr
            have cr8 : w3.cell? ⟨w.heap.size, 8, none⟩ = some (.int .u32 r.dl) := cell_of_row w3 (w.heap.size) 8 _ _ (0, 0) Jr
            have cr9 : w3.cell? ⟨w.heap.size, 9, none⟩ = some (.int .u32 r.dh) := cell_of_row w3 (w.heap.size) 9 _ _ (0, 0) Jr
            have lr : w.heap.size < w3.heap.size := lt_of_block Jr
            have nr : w.heap.size ≠ w3.heap.size := Nat.ne_of_lt lr
            have Kr := Lib.hid Jr
            clear Jr
            go_wp2
            go_ret
            exact ⟨ret_bool hE.out, hbw⟩
        · have t3b0 : (chk r.da r.dn == 0) = false := by first | (simp [*]; done) | (simp; omega) | (simp [*]; omega)
          have hE : Hid (false = mayB r) := by unfold Hid; simp [mayB, *]
          clear q0a q1a q2a q3a
          go_enter Tryz.func31, Tryz.ntmps31
          go_wp2_with fail
          refine (addrCheck_any _ _ _ r.hsa.1 r.hsa.2).mono ?_
          rintro e w1 ⟨rfl, hb⟩
          have Jr := blk_below hb (blk1 w _)
          have hbw := below_call (below1 w _) hb
          clear hb
          have cr0 : w1.cell? ⟨w.heap.size, 0, none⟩ = some (.bool r.permit) := cell_of_row w1 (w.heap.size) 0 _ _ (0, 0) Jr
          have cr1 : w1.cell? ⟨w.heap.size, 1, none⟩ = some (.int .i64 r.proto) := cell_of_row w1 (w.heap.size) 1 _ _ (0, 0) Jr
          have cr2 : w1.cell? ⟨w.heap.size, 2, none⟩ = some (.int .u32 r.sa) := cell_of_row w1 (w.heap.size) 2 _ _ (0, 0) Jr
          have cr3 : w1.cell? ⟨w.heap.size, 3, none⟩ = some (.int .i64 r.sn) := cell_of_row w1 (w.heap.size) 3 _ _ (0, 0) Jr
          have cr4 : w1.cell? ⟨w.heap.size, 4, none⟩ = some (.int .u32 r.da) := cell_of_row w1 (w.heap.size) 4 _ _ (0, 0) Jr
          have cr5 : w1.cell? ⟨w.heap.size, 5, none⟩ = some (.int .i64 r.dn) := cell_of_row w1 (w.heap.size) 5 _ _ (0, 0) Jr
          have cr6 : w1.cell? ⟨w.heap.size, 6, none⟩ = some (.int .u32 r.sl) := cell_of_row w1 (w.heap.size) 6 _ _ (0, 0) Jr
          have cr7 : w1.cell? ⟨w.heap.size, 7, none⟩ = some (.int .u32 r.sh) := cell_of_row w1 (w.heap.size) 7 _ _ (0, 0) Jr
          have cr8 : w1.cell? ⟨w.heap.size, 8, none⟩ = some (.int .u32 r.dl) := cell_of_row w1 (w.heap.size) 8 _ _ (0, 0) Jr
          have cr9 : w1.cell? ⟨w.heap.size, 9, none⟩ = some (.int .u32 r.dh) := cell_of_row w1 (w.heap.size) 9 _ _ (0, 0) Jr
          have lr : w.heap.size < w1.heap.size := lt_of_block Jr
          have nr : w.heap.size ≠ w1.heap.size := Nat.ne_of_lt lr
          have Kr := Lib.hid Jr
          clear Jr
          go_wp2_with fail
          refine (addrCheck_any _ _ _ r.hda.1 r.hda.2).mono ?_
          rintro e w2 ⟨rfl, hb⟩
          have Jr := blk_below hb Kr.out
          have hbw' := below_call hbw hb
          clear hb hbw Kr lr nr cr0 cr1 cr2 cr3 cr4 cr5 cr6 cr7 cr8 cr9
          have hbw := hbw'
          clear hbw'
          have cr0 : w2.cell? ⟨w.heap.size, 0, none⟩ = some (.bool r.permit) := cell_of_row w2 (w.heap.size) 0 _ _ (0, 0) Jr
          have cr1 : w2.cell? ⟨w.heap.size, 1, none⟩ = some (.int .i64 r.proto) := cell_of_row w2 (w.heap.size) 1 _ _ (0, 0) Jr
          have cr2 : w2.cell? ⟨w.heap.size, 2, none⟩ = some (.int .u32 r.sa) := cell_of_row w2 (w.heap.size) 2 _ _ (0, 0) Jr
          have cr3 : w2.cell? ⟨w.heap.size, 3, none⟩ = some (.int .i64 r.sn) := cell_of_row w2 (w.heap.size) 3 _ _ (0, 0) Jr
          have cr4 : w2.cell? ⟨w.heap.size, 4, none⟩ = some (.int .u32 r.da) := cell_of_row w2 (w.heap.size) 4 _ _ (0, 0) Jr
          have cr5 : w2.cell? ⟨w.heap.size, 5, none⟩ = some (.int .i64 r.dn) := cell_of_row w2 (w.heap.size) 5 _ _ (0, 0) Jr
          have cr6 : w2.cell? ⟨w.heap.size, 6, none⟩ = some (.int .u32 r.sl) := cell_of_row w2 (w.heap.size) 6 _ _ (0, 0) Jr
          have cr7 : w2.cell? ⟨w.heap.size, 7, none⟩ = some (.int .u32 r.sh) := cell_of_row w2 (w.heap.size) 7 _ _ (0, 0) Jr
          have cr8 : w2.cell? ⟨w.heap.size, 8, none⟩ = some (.int .u32 r.dl) := cell_of_row w2 (w.heap.size) 8 _ _ (0, 0) Jr
          have cr9 : w2.cell? ⟨w.heap.size, 9, none⟩ = some (.int .u32 r.dh) := cell_of_row w2 (w.heap.size) 9 _ _ (0, 0) Jr
          have lr : w.heap.size < w2.heap.size := lt_of_block Jr
          have nr : w.heap.size ≠ w2.heap.size := Nat.ne_of_lt lr
          have Kr := Lib.hid Jr
          clear Jr
          go_wp2
          go_ret
          exact ⟨ret_bool hE.out, hbw⟩
      · have t2b0 : (chk r.sa r.sn == 0) = false := by first | (simp [*]; done) | (simp; omega) | (simp [*]; omega)
        have hE : Hid (false = mayB r) := by unfold Hid; simp [mayB, *]
        clear q0a q1a q2a
        go_enter Tryz.func31, Tryz.ntmps31
        go_wp2_with fail
        refine (addrCheck_any _ _ _ r.hsa.1 r.hsa.2).mono ?_
        rintro e w1 ⟨rfl, hb⟩
        have Jr := blk_below hb (blk1 w _)
        have hbw := below_call (below1 w _) hb
        clear hb
        have cr0 : w1.cell? ⟨w.heap.size, 0, none⟩ = some (.bool r.permit) := cell_of_row w1 (w.heap.size) 0 _ _ (0, 0) Jr
        have cr1 : w1.cell? ⟨w.heap.size, 1, none⟩ = some (.int .i64 r.proto) := cell_of_row w1 (w.heap.size) 1 _ _ (0, 0) Jr
        have cr2 : w1.cell? ⟨w.heap.size, 2, none⟩ = some (.int .u32 r.sa) := cell_of_row w1 (w.heap.size) 2 _ _ (0, 0) Jr
        have cr3 : w1.cell? ⟨w.heap.size, 3, none⟩ = some (.int .i64 r.sn) := cell_of_row w1 (w.heap.size) 3 _ _ (0, 0) Jr
        have cr4 : w1.cell? ⟨w.heap.size, 4, none⟩ = some (.int .u32 r.da) := cell_of_row w1 (w.heap.size) 4 _ _ (0, 0) Jr
        have cr5 : w1.cell? ⟨w.heap.size, 5, none⟩ = some (.int .i64 r.dn) := cell_of_row w1 (w.heap.size) 5 _ _ (0, 0) Jr
        have cr6 : w1.cell? ⟨w.heap.size, 6, none⟩ = some (.int .u32 r.sl) := cell_of_row w1 (w.heap.size) 6 _ _ (0, 0) Jr
        have cr7 : w1.cell? ⟨w.heap.size, 7, none⟩ = some (.int .u32 r.sh) := cell_of_row w1 (w.heap.size) 7 _ _ (0, 0) Jr
        have cr8 : w1.cell? ⟨w.heap.size, 8, none⟩ = some (.int .u32 r.dl) := cell_of_row w1 (w.heap.size) 8 _ _ (0, 0) Jr
        have cr9 : w1.cell? ⟨w.heap.size, 9, none⟩ = some (.int .u32 r.dh) := cell_of_row w1 (w.heap.size) 9 _ _ (0, 0) Jr
        have lr : w.heap.size < w1.heap.size := lt_of_block Jr
        have nr : w.heap.size ≠ w1.heap.size := Nat.ne_of_lt lr
        have Kr := Lib.hid Jr
        clear Jr
        go_wp2
        go_ret
        exact ⟨ret_bool hE.out, hbw⟩
    · have t1b0 : decide (r.proto ≤ 255) = false := by first | (simp [*]; done) | (simp; omega) | (simp [*]; omega)
      have hE : Hid (false = mayB r) := by unfold Hid; simp [mayB, *]
      clear q0a q1a
      go_enter Tryz.func31, Tryz.ntmps31
      go_wp2
      go_ret
      exact ⟨ret_bool hE.out, below1 w _⟩
  · have t0b0 : decide (-1 ≤ r.proto) = false := by first | (simp [*]; done) | (simp; omega) | (simp [*]; omega)
    have hE : Hid (false = mayB r) := by unfold Hid; simp [mayB, *]
    clear q0a
    go_enter Tryz.func31, Tryz.ntmps31
    go_wp2
    go_ret
    exact ⟨ret_bool hE.out, below1 w _⟩

set_option maxHeartbeats 1000000 in
theorem refMay_any (r : RuleV) (w : World) :
    Calls Tryz.prog 20 #[.agg #[.bool r.permit, .int .i64 r.proto, .int .u32 r.sa, .int .i64 r.sn, .int .u32 r.da, .int .i64 r.dn, .int .u32 r.sl, .int .u32 r.sh, .int .u32 r.dl, .int .u32 r.dh]] w fun e w' => e = .returned (.bool (mayB r)) ∧ Below w.heap.size w w' := by
  by_cases q0a : -1 ≤ r.proto
  · have t0a0 : decide (-1 ≤ r.proto) = true := by first | (simp [*]; done) | (simp; omega) | (simp [*]; omega)
    by_cases q1a : r.proto ≤ 255
    · have t1a0 : decide (r.proto ≤ 255) = true := by first | (simp [*]; done) | (simp; omega) | (simp [*]; omega)
      by_cases q2a : chk r.sa r.sn = 0
      · have t2a0 : (chk r.sa r.sn == 0) = true := by first | (simp [*]; done) | (simp; omega) | (simp [*]; omega)
        by_cases q3a : chk r.da r.dn = 0
        · have t3a0 : (chk r.da r.dn == 0) = true := by first | (simp [*]; done) | (simp; omega) | (simp [*]; omega)
          by_cases q4a : r.sl ≤ r.sh
          · have t4a0 : decide (r.sl ≤ r.sh) = true := by first | (simp [*]; done) | (simp; omega) | (simp [*]; omega)
            by_cases q5a : r.sh ≤ 65535
            · have t5a0 : decide (r.sh ≤ 65535) = true := by first | (simp [*]; done) | (simp; omega) | (simp [*]; omega)
              by_cases q6a : r.dl ≤ r.dh
              · have t6a0 : decide (r.dl ≤ r.dh) = true := by first | (simp [*]; done) | (simp; omega) | (simp [*]; omega)
                have hE : Hid (decide (r.dh ≤ 65535) = mayB r) := by unfold Hid; simp [mayB, portsB, *]
                clear q0a q1a q2a q3a q4a q5a q6a
                go_enter Tryz.func20, Tryz.ntmps20
                go_wp2_with fail
                refine (refCheck_any _ _ _ r.hsa.1 r.hsa.2).mono ?_
                rintro e w1 ⟨rfl, hb⟩
                have Jr := blk_below hb (blk1 w _)
                have hbw := below_call (below1 w _) hb
                clear hb
                have cr0 : w1.cell? ⟨w.heap.size, 0, none⟩ = some (.bool r.permit) := cell_of_row w1 (w.heap.size) 0 _ _ (0, 0) Jr
                have cr1 : w1.cell? ⟨w.heap.size, 1, none⟩ = some (.int .i64 r.proto) := cell_of_row w1 (w.heap.size) 1 _ _ (0, 0) Jr
                have cr2 : w1.cell? ⟨w.heap.size, 2, none⟩ = some (.int .u32 r.sa) := cell_of_row w1 (w.heap.size) 2 _ _ (0, 0) Jr
                have cr3 : w1.cell? ⟨w.heap.size, 3, none⟩ = some (.int .i64 r.sn) := cell_of_row w1 (w.heap.size) 3 _ _ (0, 0) Jr
                have cr4 : w1.cell? ⟨w.heap.size, 4, none⟩ = some (.int .u32 r.da) := cell_of_row w1 (w.heap.size) 4 _ _ (0, 0) Jr
                have cr5 : w1.cell? ⟨w.heap.size, 5, none⟩ = some (.int .i64 r.dn) := cell_of_row w1 (w.heap.size) 5 _ _ (0, 0) Jr
                have cr6 : w1.cell? ⟨w.heap.size, 6, none⟩ = some (.int .u32 r.sl) := cell_of_row w1 (w.heap.size) 6 _ _ (0, 0) Jr
                have cr7 : w1.cell? ⟨w.heap.size, 7, none⟩ = some (.int .u32 r.sh) := cell_of_row w1 (w.heap.size) 7 _ _ (0, 0) Jr
                have cr8 : w1.cell? ⟨w.heap.size, 8, none⟩ = some (.int .u32 r.dl) := cell_of_row w1 (w.heap.size) 8 _ _ (0, 0) Jr
                have cr9 : w1.cell? ⟨w.heap.size, 9, none⟩ = some (.int .u32 r.dh) := cell_of_row w1 (w.heap.size) 9 _ _ (0, 0) Jr
                have lr : w.heap.size < w1.heap.size := lt_of_block Jr
                have nr : w.heap.size ≠ w1.heap.size := Nat.ne_of_lt lr
                have Kr := Lib.hid Jr
                clear Jr
                go_wp2_with fail
                refine (refCheck_any _ _ _ r.hda.1 r.hda.2).mono ?_
                rintro e w2 ⟨rfl, hb⟩
                have Jr := blk_below hb Kr.out
                have hbw' := below_call hbw hb
                clear hb hbw Kr lr nr cr0 cr1 cr2 cr3 cr4 cr5 cr6 cr7 cr8 cr9
                have hbw := hbw'
                clear hbw'
                have cr0 : w2.cell? ⟨w.heap.size, 0, none⟩ = some (.bool r.permit) := cell_of_row w2 (w.heap.size) 0 _ _ (0, 0) Jr
                have cr1 : w2.cell? ⟨w.heap.size, 1, none⟩ = some (.int .i64 r.proto) := cell_of_row w2 (w.heap.size) 1 _ _ (0, 0) Jr
                have cr2 : w2.cell? ⟨w.heap.size, 2, none⟩ = some (.int .u32 r.sa) := cell_of_row w2 (w.heap.size) 2 _ _ (0, 0) Jr
                have cr3 : w2.cell? ⟨w.heap.size, 3, none⟩ = some (.int .i64 r.sn) := cell_of_row w2 (w.heap.size) 3 _ _ (0, 0) Jr
                have cr4 : w2.cell? ⟨w.heap.size, 4, none⟩ = some (.int .u32 r.da) := cell_of_row w2 (w.heap.size) 4 _ _ (0, 0) Jr
                have cr5 : w2.cell? ⟨w.heap.size, 5, none⟩ = some (.int .i64 r.dn) := cell_of_row w2 (w.heap.size) 5 _ _ (0, 0) Jr
                have cr6 : w2.cell? ⟨w.heap.size, 6, none⟩ = some (.int .u32 r.sl) := cell_of_row w2 (w.heap.size) 6 _ _ (0, 0) Jr
                have cr7 : w2.cell? ⟨w.heap.size, 7, none⟩ = some (.int .u32 r.sh) := cell_of_row w2 (w.heap.size) 7 _ _ (0, 0) Jr
                have cr8 : w2.cell? ⟨w.heap.size, 8, none⟩ = some (.int .u32 r.dl) := cell_of_row w2 (w.heap.size) 8 _ _ (0, 0) Jr
                have cr9 : w2.cell? ⟨w.heap.size, 9, none⟩ = some (.int .u32 r.dh) := cell_of_row w2 (w.heap.size) 9 _ _ (0, 0) Jr
                have lr : w.heap.size < w2.heap.size := lt_of_block Jr
                have nr : w.heap.size ≠ w2.heap.size := Nat.ne_of_lt lr
                have Kr := Lib.hid Jr
                clear Jr
                go_wp2
                go_ret
                exact ⟨ret_bool hE.out, hbw⟩
              · have t6b0 : decide (r.dl ≤ r.dh) = false := by first | (simp [*]; done) | (simp; omega) | (simp [*]; omega)
                have hE : Hid (false = mayB r) := by unfold Hid; simp [mayB, portsB, *]
                clear q0a q1a q2a q3a q4a q5a q6a
                go_enter Tryz.func20, Tryz.ntmps20
                go_wp2_with fail
                refine (refCheck_any _ _ _ r.hsa.1 r.hsa.2).mono ?_
                rintro e w1 ⟨rfl, hb⟩
                have Jr := blk_below hb (blk1 w _)
                have hbw := below_call (below1 w _) hb
                clear hb
                have cr0 : w1.cell? ⟨w.heap.size, 0, none⟩ = some (.bool r.permit) := cell_of_row w1 (w.heap.size) 0 _ _ (0, 0) Jr
                have cr1 : w1.cell? ⟨w.heap.size, 1, none⟩ = some (.int .i64 r.proto) := cell_of_row w1 (w.heap.size) 1 _ _ (0, 0) Jr
                have cr2 : w1.cell? ⟨w.heap.size, 2, none⟩ = some (.int .u32 r.sa) := cell_of_row w1 (w.heap.size) 2 _ _ (0, 0) Jr
                have cr3 : w1.cell? ⟨w.heap.size, 3, none⟩ = some (.int .i64 r.sn) := cell_of_row w1 (w.heap.size) 3 _ _ (0, 0) Jr
                have cr4 : w1.cell? ⟨w.heap.size, 4, none⟩ = some (.int .u32 r.da) := cell_of_row w1 (w.heap.size) 4 _ _ (0, 0) Jr
                have cr5 : w1.cell? ⟨w.heap.size, 5, none⟩ = some (.int .i64 r.dn) := cell_of_row w1 (w.heap.size) 5 _ _ (0, 0) Jr
                have cr6 : w1.cell? ⟨w.heap.size, 6, none⟩ = some (.int .u32 r.sl) := cell_of_row w1 (w.heap.size) 6 _ _ (0, 0) Jr
                have cr7 : w1.cell? ⟨w.heap.size, 7, none⟩ = some (.int .u32 r.sh) := cell_of_row w1 (w.heap.size) 7 _ _ (0, 0) Jr
                have cr8 : w1.cell? ⟨w.heap.size, 8, none⟩ = some (.int .u32 r.dl) := cell_of_row w1 (w.heap.size) 8 _ _ (0, 0) Jr
                have cr9 : w1.cell? ⟨w.heap.size, 9, none⟩ = some (.int .u32 r.dh) := cell_of_row w1 (w.heap.size) 9 _ _ (0, 0) Jr
                have lr : w.heap.size < w1.heap.size := lt_of_block Jr
                have nr : w.heap.size ≠ w1.heap.size := Nat.ne_of_lt lr
                have Kr := Lib.hid Jr
                clear Jr
                go_wp2_with fail
                refine (refCheck_any _ _ _ r.hda.1 r.hda.2).mono ?_
                rintro e w2 ⟨rfl, hb⟩
                have Jr := blk_below hb Kr.out
                have hbw' := below_call hbw hb
                clear hb hbw Kr lr nr cr0 cr1 cr2 cr3 cr4 cr5 cr6 cr7 cr8 cr9
                have hbw := hbw'
                clear hbw'
                have cr0 : w2.cell? ⟨w.heap.size, 0, none⟩ = some (.bool r.permit) := cell_of_row w2 (w.heap.size) 0 _ _ (0, 0) Jr
                have cr1 : w2.cell? ⟨w.heap.size, 1, none⟩ = some (.int .i64 r.proto) := cell_of_row w2 (w.heap.size) 1 _ _ (0, 0) Jr
                have cr2 : w2.cell? ⟨w.heap.size, 2, none⟩ = some (.int .u32 r.sa) := cell_of_row w2 (w.heap.size) 2 _ _ (0, 0) Jr
                have cr3 : w2.cell? ⟨w.heap.size, 3, none⟩ = some (.int .i64 r.sn) := cell_of_row w2 (w.heap.size) 3 _ _ (0, 0) Jr
                have cr4 : w2.cell? ⟨w.heap.size, 4, none⟩ = some (.int .u32 r.da) := cell_of_row w2 (w.heap.size) 4 _ _ (0, 0) Jr
                have cr5 : w2.cell? ⟨w.heap.size, 5, none⟩ = some (.int .i64 r.dn) := cell_of_row w2 (w.heap.size) 5 _ _ (0, 0) Jr
                have cr6 : w2.cell? ⟨w.heap.size, 6, none⟩ = some (.int .u32 r.sl) := cell_of_row w2 (w.heap.size) 6 _ _ (0, 0) Jr
                have cr7 : w2.cell? ⟨w.heap.size, 7, none⟩ = some (.int .u32 r.sh) := cell_of_row w2 (w.heap.size) 7 _ _ (0, 0) Jr
                have cr8 : w2.cell? ⟨w.heap.size, 8, none⟩ = some (.int .u32 r.dl) := cell_of_row w2 (w.heap.size) 8 _ _ (0, 0) Jr
                have cr9 : w2.cell? ⟨w.heap.size, 9, none⟩ = some (.int .u32 r.dh) := cell_of_row w2 (w.heap.size) 9 _ _ (0, 0) Jr
                have lr : w.heap.size < w2.heap.size := lt_of_block Jr
                have nr : w.heap.size ≠ w2.heap.size := Nat.ne_of_lt lr
                have Kr := Lib.hid Jr
                clear Jr
                go_wp2
                go_ret
                exact ⟨ret_bool hE.out, hbw⟩
            · have t5b0 : decide (r.sh ≤ 65535) = false := by first | (simp [*]; done) | (simp; omega) | (simp [*]; omega)
              have hE : Hid (false = mayB r) := by unfold Hid; simp [mayB, portsB, *]
              clear q0a q1a q2a q3a q4a q5a
              go_enter Tryz.func20, Tryz.ntmps20
              go_wp2_with fail
              refine (refCheck_any _ _ _ r.hsa.1 r.hsa.2).mono ?_
              rintro e w1 ⟨rfl, hb⟩
              have Jr := blk_below hb (blk1 w _)
              have hbw := below_call (below1 w _) hb
              clear hb
              have cr0 : w1.cell? ⟨w.heap.size, 0, none⟩ = some (.bool r.permit) := cell_of_row w1 (w.heap.size) 0 _ _ (0, 0) Jr
              have cr1 : w1.cell? ⟨w.heap.size, 1, none⟩ = some (.int .i64 r.proto) := cell_of_row w1 (w.heap.size) 1 _ _ (0, 0) Jr
              have cr2 : w1.cell? ⟨w.heap.size, 2, none⟩ = some (.int .u32 r.sa) := cell_of_row w1 (w.heap.size) 2 _ _ (0, 0) Jr
              have cr3 : w1.cell? ⟨w.heap.size, 3, none⟩ = some (.int .i64 r.sn) := cell_of_row w1 (w.heap.size) 3 _ _ (0, 0) Jr
              have cr4 : w1.cell? ⟨w.heap.size, 4, none⟩ = some (.int .u32 r.da) := cell_of_row w1 (w.heap.size) 4 _ _ (0, 0) Jr
              have cr5 : w1.cell? ⟨w.heap.size, 5, none⟩ = some (.int .i64 r.dn) := cell_of_row w1 (w.heap.size) 5 _ _ (0, 0) Jr
              have cr6 : w1.cell? ⟨w.heap.size, 6, none⟩ = some (.int .u32 r.sl) := cell_of_row w1 (w.heap.size) 6 _ _ (0, 0) Jr
              have cr7 : w1.cell? ⟨w.heap.size, 7, none⟩ = some (.int .u32 r.sh) := cell_of_row w1 (w.heap.size) 7 _ _ (0, 0) Jr
              have cr8 : w1.cell? ⟨w.heap.size, 8, none⟩ = some (.int .u32 r.dl) := cell_of_row w1 (w.heap.size) 8 _ _ (0, 0) Jr
              have cr9 : w1.cell? ⟨w.heap.size, 9, none⟩ = some (.int .u32 r.dh) := cell_of_row w1 (w.heap.size) 9 _ _ (0, 0) Jr
              have lr : w.heap.size < w1.heap.size := lt_of_block Jr
              have nr : w.heap.size ≠ w1.heap.size := Nat.ne_of_lt lr
              have Kr := Lib.hid Jr
              clear Jr
              go_wp2_with fail
              refine (refCheck_any _ _ _ r.hda.1 r.hda.2).mono ?_
              rintro e w2 ⟨rfl, hb⟩
              have Jr := blk_below hb Kr.out
              have hbw' := below_call hbw hb
              clear hb hbw Kr lr nr cr0 cr1 cr2 cr3 cr4 cr5 cr6 cr7 cr8 cr9
              have hbw := hbw'
              clear hbw'
              have cr0 : w2.cell? ⟨w.heap.size, 0, none⟩ = some (.bool r.permit) := cell_of_row w2 (w.heap.size) 0 _ _ (0, 0) Jr
              have cr1 : w2.cell? ⟨w.heap.size, 1, none⟩ = some (.int .i64 r.proto) := cell_of_row w2 (w.heap.size) 1 _ _ (0, 0) Jr
              have cr2 : w2.cell? ⟨w.heap.size, 2, none⟩ = some (.int .u32 r.sa) := cell_of_row w2 (w.heap.size) 2 _ _ (0, 0) Jr
              have cr3 : w2.cell? ⟨w.heap.size, 3, none⟩ = some (.int .i64 r.sn) := cell_of_row w2 (w.heap.size) 3 _ _ (0, 0) Jr
              have cr4 : w2.cell? ⟨w.heap.size, 4, none⟩ = some (.int .u32 r.da) := cell_of_row w2 (w.heap.size) 4 _ _ (0, 0) Jr
              have cr5 : w2.cell? ⟨w.heap.size, 5, none⟩ = some (.int .i64 r.dn) := cell_of_row w2 (w.heap.size) 5 _ _ (0, 0) Jr
              have cr6 : w2.cell? ⟨w.heap.size, 6, none⟩ = some (.int .u32 r.sl) := cell_of_row w2 (w.heap.size) 6 _ _ (0, 0) Jr
              have cr7 : w2.cell? ⟨w.heap.size, 7, none⟩ = some (.int .u32 r.sh) := cell_of_row w2 (w.heap.size) 7 _ _ (0, 0) Jr
              have cr8 : w2.cell? ⟨w.heap.size, 8, none⟩ = some (.int .u32 r.dl) := cell_of_row w2 (w.heap.size) 8 _ _ (0, 0) Jr
              have cr9 : w2.cell? ⟨w.heap.size, 9, none⟩ = some (.int .u32 r.dh) := cell_of_row w2 (w.heap.size) 9 _ _ (0, 0) Jr
              have lr : w.heap.size < w2.heap.size := lt_of_block Jr
              have nr : w.heap.size ≠ w2.heap.size := Nat.ne_of_lt lr
              have Kr := Lib.hid Jr
              clear Jr
              go_wp2
              go_ret
              exact ⟨ret_bool hE.out, hbw⟩
          · have t4b0 : decide (r.sl ≤ r.sh) = false := by first | (simp [*]; done) | (simp; omega) | (simp [*]; omega)
            have hE : Hid (false = mayB r) := by unfold Hid; simp [mayB, portsB, *]
            clear q0a q1a q2a q3a q4a
            go_enter Tryz.func20, Tryz.ntmps20
            go_wp2_with fail
            refine (refCheck_any _ _ _ r.hsa.1 r.hsa.2).mono ?_
            rintro e w1 ⟨rfl, hb⟩
            have Jr := blk_below hb (blk1 w _)
            have hbw := below_call (below1 w _) hb
            clear hb
            have cr0 : w1.cell? ⟨w.heap.size, 0, none⟩ = some (.bool r.permit) := cell_of_row w1 (w.heap.size) 0 _ _ (0, 0) Jr
            have cr1 : w1.cell? ⟨w.heap.size, 1, none⟩ = some (.int .i64 r.proto) := cell_of_row w1 (w.heap.size) 1 _ _ (0, 0) Jr
            have cr2 : w1.cell? ⟨w.heap.size, 2, none⟩ = some (.int .u32 r.sa) := cell_of_row w1 (w.heap.size) 2 _ _ (0, 0) Jr
            have cr3 : w1.cell? ⟨w.heap.size, 3, none⟩ = some (.int .i64 r.sn) := cell_of_row w1 (w.heap.size) 3 _ _ (0, 0) Jr
            have cr4 : w1.cell? ⟨w.heap.size, 4, none⟩ = some (.int .u32 r.da) := cell_of_row w1 (w.heap.size) 4 _ _ (0, 0) Jr
            have cr5 : w1.cell? ⟨w.heap.size, 5, none⟩ = some (.int .i64 r.dn) := cell_of_row w1 (w.heap.size) 5 _ _ (0, 0) Jr
            have cr6 : w1.cell? ⟨w.heap.size, 6, none⟩ = some (.int .u32 r.sl) := cell_of_row w1 (w.heap.size) 6 _ _ (0, 0) Jr
            have cr7 : w1.cell? ⟨w.heap.size, 7, none⟩ = some (.int .u32 r.sh) := cell_of_row w1 (w.heap.size) 7 _ _ (0, 0) Jr
            have cr8 : w1.cell? ⟨w.heap.size, 8, none⟩ = some (.int .u32 r.dl) := cell_of_row w1 (w.heap.size) 8 _ _ (0, 0) Jr
            have cr9 : w1.cell? ⟨w.heap.size, 9, none⟩ = some (.int .u32 r.dh) := cell_of_row w1 (w.heap.size) 9 _ _ (0, 0) Jr
            have lr : w.heap.size < w1.heap.size := lt_of_block Jr
            have nr : w.heap.size ≠ w1.heap.size := Nat.ne_of_lt lr
            have Kr := Lib.hid Jr
            clear Jr
            go_wp2_with fail
            refine (refCheck_any _ _ _ r.hda.1 r.hda.2).mono ?_
            rintro e w2 ⟨rfl, hb⟩
            have Jr := blk_below hb Kr.out
            have hbw' := below_call hbw hb
            clear hb hbw Kr lr nr cr0 cr1 cr2 cr3 cr4 cr5 cr6 cr7 cr8 cr9
            have hbw := hbw'
            clear hbw'
            have cr0 : w2.cell? ⟨w.heap.size, 0, none⟩ = some (.bool r.permit) := cell_of_row w2 (w.heap.size) 0 _ _ (0, 0) Jr
            have cr1 : w2.cell? ⟨w.heap.size, 1, none⟩ = some (.int .i64 r.proto) := cell_of_row w2 (w.heap.size) 1 _ _ (0, 0) Jr
            have cr2 : w2.cell? ⟨w.heap.size, 2, none⟩ = some (.int .u32 r.sa) := cell_of_row w2 (w.heap.size) 2 _ _ (0, 0) Jr
            have cr3 : w2.cell? ⟨w.heap.size, 3, none⟩ = some (.int .i64 r.sn) := cell_of_row w2 (w.heap.size) 3 _ _ (0, 0) Jr
            have cr4 : w2.cell? ⟨w.heap.size, 4, none⟩ = some (.int .u32 r.da) := cell_of_row w2 (w.heap.size) 4 _ _ (0, 0) Jr
            have cr5 : w2.cell? ⟨w.heap.size, 5, none⟩ = some (.int .i64 r.dn) := cell_of_row w2 (w.heap.size) 5 _ _ (0, 0) Jr
            have cr6 : w2.cell? ⟨w.heap.size, 6, none⟩ = some (.int .u32 r.sl) := cell_of_row w2 (w.heap.size) 6 _ _ (0, 0) Jr
            have cr7 : w2.cell? ⟨w.heap.size, 7, none⟩ = some (.int .u32 r.sh) := cell_of_row w2 (w.heap.size) 7 _ _ (0, 0) Jr
            have cr8 : w2.cell? ⟨w.heap.size, 8, none⟩ = some (.int .u32 r.dl) := cell_of_row w2 (w.heap.size) 8 _ _ (0, 0) Jr
            have cr9 : w2.cell? ⟨w.heap.size, 9, none⟩ = some (.int .u32 r.dh) := cell_of_row w2 (w.heap.size) 9 _ _ (0, 0) Jr
            have lr : w.heap.size < w2.heap.size := lt_of_block Jr
            have nr : w.heap.size ≠ w2.heap.size := Nat.ne_of_lt lr
            have Kr := Lib.hid Jr
            clear Jr
            go_wp2
            go_ret
            exact ⟨ret_bool hE.out, hbw⟩
        · have t3b0 : (chk r.da r.dn == 0) = false := by first | (simp [*]; done) | (simp; omega) | (simp [*]; omega)
          have hE : Hid (false = mayB r) := by unfold Hid; simp [mayB, portsB, *]
          clear q0a q1a q2a q3a
          go_enter Tryz.func20, Tryz.ntmps20
          go_wp2_with fail
          refine (refCheck_any _ _ _ r.hsa.1 r.hsa.2).mono ?_
          rintro e w1 ⟨rfl, hb⟩
          have Jr := blk_below hb (blk1 w _)
          have hbw := below_call (below1 w _) hb
          clear hb
          have cr0 : w1.cell? ⟨w.heap.size, 0, none⟩ = some (.bool r.permit) := cell_of_row w1 (w.heap.size) 0 _ _ (0, 0) Jr
          have cr1 : w1.cell? ⟨w.heap.size, 1, none⟩ = some (.int .i64 r.proto) := cell_of_row w1 (w.heap.size) 1 _ _ (0, 0) Jr
          have cr2 : w1.cell? ⟨w.heap.size, 2, none⟩ = some (.int .u32 r.sa) := cell_of_row w1 (w.heap.size) 2 _ _ (0, 0) Jr
          have cr3 : w1.cell? ⟨w.heap.size, 3, none⟩ = some (.int .i64 r.sn) := cell_of_row w1 (w.heap.size) 3 _ _ (0, 0) Jr
          have cr4 : w1.cell? ⟨w.heap.size, 4, none⟩ = some (.int .u32 r.da) := cell_of_row w1 (w.heap.size) 4 _ _ (0, 0) Jr
          have cr5 : w1.cell? ⟨w.heap.size, 5, none⟩ = some (.int .i64 r.dn) := cell_of_row w1 (w.heap.size) 5 _ _ (0, 0) Jr
          have cr6 : w1.cell? ⟨w.heap.size, 6, none⟩ = some (.int .u32 r.sl) := cell_of_row w1 (w.heap.size) 6 _ _ (0, 0) Jr
          have cr7 : w1.cell? ⟨w.heap.size, 7, none⟩ = some (.int .u32 r.sh) := cell_of_row w1 (w.heap.size) 7 _ _ (0, 0) Jr
          have cr8 : w1.cell? ⟨w.heap.size, 8, none⟩ = some (.int .u32 r.dl) := cell_of_row w1 (w.heap.size) 8 _ _ (0, 0) Jr
          have cr9 : w1.cell? ⟨w.heap.size, 9, none⟩ = some (.int .u32 r.dh) := cell_of_row w1 (w.heap.size) 9 _ _ (0, 0) Jr
          have lr : w.heap.size < w1.heap.size := lt_of_block Jr
          have nr : w.heap.size ≠ w1.heap.size := Nat.ne_of_lt lr
          have Kr := Lib.hid Jr
          clear Jr
          go_wp2_with fail
          refine (refCheck_any _ _ _ r.hda.1 r.hda.2).mono ?_
          rintro e w2 ⟨rfl, hb⟩
          have Jr := blk_below hb Kr.out
          have hbw' := below_call hbw hb
          clear hb hbw Kr lr nr cr0 cr1 cr2 cr3 cr4 cr5 cr6 cr7 cr8 cr9
          have hbw := hbw'
          clear hbw'
          have cr0 : w2.cell? ⟨w.heap.size, 0, none⟩ = some (.bool r.permit) := cell_of_row w2 (w.heap.size) 0 _ _ (0, 0) Jr
          have cr1 : w2.cell? ⟨w.heap.size, 1, none⟩ = some (.int .i64 r.proto) := cell_of_row w2 (w.heap.size) 1 _ _ (0, 0) Jr
          have cr2 : w2.cell? ⟨w.heap.size, 2, none⟩ = some (.int .u32 r.sa) := cell_of_row w2 (w.heap.size) 2 _ _ (0, 0) Jr
          have cr3 : w2.cell? ⟨w.heap.size, 3, none⟩ = some (.int .i64 r.sn) := cell_of_row w2 (w.heap.size) 3 _ _ (0, 0) Jr
          have cr4 : w2.cell? ⟨w.heap.size, 4, none⟩ = some (.int .u32 r.da) := cell_of_row w2 (w.heap.size) 4 _ _ (0, 0) Jr
          have cr5 : w2.cell? ⟨w.heap.size, 5, none⟩ = some (.int .i64 r.dn) := cell_of_row w2 (w.heap.size) 5 _ _ (0, 0) Jr
          have cr6 : w2.cell? ⟨w.heap.size, 6, none⟩ = some (.int .u32 r.sl) := cell_of_row w2 (w.heap.size) 6 _ _ (0, 0) Jr
          have cr7 : w2.cell? ⟨w.heap.size, 7, none⟩ = some (.int .u32 r.sh) := cell_of_row w2 (w.heap.size) 7 _ _ (0, 0) Jr
          have cr8 : w2.cell? ⟨w.heap.size, 8, none⟩ = some (.int .u32 r.dl) := cell_of_row w2 (w.heap.size) 8 _ _ (0, 0) Jr
          have cr9 : w2.cell? ⟨w.heap.size, 9, none⟩ = some (.int .u32 r.dh) := cell_of_row w2 (w.heap.size) 9 _ _ (0, 0) Jr
          have lr : w.heap.size < w2.heap.size := lt_of_block Jr
          have nr : w.heap.size ≠ w2.heap.size := Nat.ne_of_lt lr
          have Kr := Lib.hid Jr
          clear Jr
          go_wp2
          go_ret
          exact ⟨ret_bool hE.out, hbw⟩
      · have t2b0 : (chk r.sa r.sn == 0) = false := by first | (simp [*]; done) | (simp; omega) | (simp [*]; omega)
        have hE : Hid (false = mayB r) := by unfold Hid; simp [mayB, portsB, *]
        clear q0a q1a q2a
        go_enter Tryz.func20, Tryz.ntmps20
        go_wp2_with fail
        refine (refCheck_any _ _ _ r.hsa.1 r.hsa.2).mono ?_
        rintro e w1 ⟨rfl, hb⟩
        have Jr := blk_below hb (blk1 w _)
        have hbw := below_call (below1 w _) hb
        clear hb
        have cr0 : w1.cell? ⟨w.heap.size, 0, none⟩ = some (.bool r.permit) := cell_of_row w1 (w.heap.size) 0 _ _ (0, 0) Jr
        have cr1 : w1.cell? ⟨w.heap.size, 1, none⟩ = some (.int .i64 r.proto) := cell_of_row w1 (w.heap.size) 1 _ _ (0, 0) Jr
        have cr2 : w1.cell? ⟨w.heap.size, 2, none⟩ = some (.int .u32 r.sa) := cell_of_row w1 (w.heap.size) 2 _ _ (0, 0) Jr
        have cr3 : w1.cell? ⟨w.heap.size, 3, none⟩ = some (.int .i64 r.sn) := cell_of_row w1 (w.heap.size) 3 _ _ (0, 0) Jr
        have cr4 : w1.cell? ⟨w.heap.size, 4, none⟩ = some (.int .u32 r.da) := cell_of_row w1 (w.heap.size) 4 _ _ (0, 0) Jr
        have cr5 : w1.cell? ⟨w.heap.size, 5, none⟩ = some (.int .i64 r.dn) := cell_of_row w1 (w.heap.size) 5 _ _ (0, 0) Jr
        have cr6 : w1.cell? ⟨w.heap.size, 6, none⟩ = some (.int .u32 r.sl) := cell_of_row w1 (w.heap.size) 6 _ _ (0, 0) Jr
        have cr7 : w1.cell? ⟨w.heap.size, 7, none⟩ = some (.int .u32 r.sh) := cell_of_row w1 (w.heap.size) 7 _ _ (0, 0) Jr
        have cr8 : w1.cell? ⟨w.heap.size, 8, none⟩ = some (.int .u32 r.dl) := cell_of_row w1 (w.heap.size) 8 _ _ (0, 0) Jr
        have cr9 : w1.cell? ⟨w.heap.size, 9, none⟩ = some (.int .u32 r.dh) := cell_of_row w1 (w.heap.size) 9 _ _ (0, 0) Jr
        have lr : w.heap.size < w1.heap.size := lt_of_block Jr
        have nr : w.heap.size ≠ w1.heap.size := Nat.ne_of_lt lr
        have Kr := Lib.hid Jr
        clear Jr
        go_wp2
        go_ret
        exact ⟨ret_bool hE.out, hbw⟩
    · have t1b0 : decide (r.proto ≤ 255) = false := by first | (simp [*]; done) | (simp; omega) | (simp [*]; omega)
      have hE : Hid (false = mayB r) := by unfold Hid; simp [mayB, portsB, *]
      clear q0a q1a
      go_enter Tryz.func20, Tryz.ntmps20
      go_wp2
      go_ret
      exact ⟨ret_bool hE.out, below1 w _⟩
  · have t0b0 : decide (-1 ≤ r.proto) = false := by first | (simp [*]; done) | (simp; omega) | (simp [*]; omega)
    have hE : Hid (false = mayB r) := by unfold Hid; simp [mayB, portsB, *]
    clear q0a
    go_enter Tryz.func20, Tryz.ntmps20
    go_wp2
    go_ret
    exact ⟨ret_bool hE.out, below1 w _⟩

end Go.Proofs.YthhcaoljejifeaaGreat
