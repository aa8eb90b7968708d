/-
  Walks over the addresses' layer: Within, Cmp, and the law's same; the program's and the reference's.
-/
import Derived.Test.YtdlhpiknifcehaaDoorAddr5
namespace Go.Proofs.YtdlhpiknifcehaaDoor
open Go Go.RowKit Go.Sort

/-- Is a prefix in another one? -/
def withinB (a n b m : Int) : Bool := decide (chk a n = 0 ∧ m ≤ n) && inB a b m
theorem within_1 {a n : Int} (b m : Int) (h : ¬ chk a n = 0) : false = withinB a n b m := by unfold withinB; simp [h]
theorem within_2 {n m : Int} (a b : Int) (h : ¬ m ≤ n) : false = withinB a n b m := by unfold withinB; simp [h]
theorem within_3 {a n b m : Int} (h : ¬ chk b m = 0) : false = withinB a n b m := by unfold withinB; rw [← in_no a b m h]; simp
theorem within_4 {a n b m : Int} (h : chk a n = 0) (h1 : m ≤ n) : inB a b m = withinB a n b m := by unfold withinB; simp [h, h1]

set_option maxHeartbeats 400000 in
theorem addrWithin_any (a n b m : Int) (w : World) (h0 : 0 ≤ a) (h1 : a < 4294967296) (h2 : 0 ≤ b) (h3 : b < 4294967296) :
    Calls Tryd.prog 24 #[.agg #[.int .u32 a, .int .i64 n], .agg #[.int .u32 b, .int .i64 m]] w fun e w' => e = .returned (.bool (withinB a n b m)) ∧ Below w.heap.size w w' := by
  by_cases hr : chk a n = 0
  · have hd : (chk a n == 0) = true := by simp [hr]
    by_cases hm : m ≤ n
    · have hE := Lib.hid (within_4 (b := b) hr hm)
      have hd2 : decide (m ≤ n) = true := by simp [hm]
      clear hr
      go_enter Tryd.func24, Tryd.ntmps24
      go_wp2_with fail
      refine (addrCheck_any _ _ _ h0 h1).mono ?_
      rintro e w1 ⟨rfl, hb1⟩
      obtain ⟨k0, k1⟩ := blk2 w (.cells #[.int .u32 a, .int .i64 n] 25) (.cells #[.int .u32 b, .int .i64 m] 25)
      have K0 := blk_below hb1 k0
      have K1 := blk_below hb1 k1
      obtain ⟨c0, c1, _, _⟩ := two_cells K0
      obtain ⟨c2, c3, _, _⟩ := two_cells K1
      have hbw1 := below_call (below2 w _ _) hb1
      have hsz1 := lt_of_block K1
      have HK0 := Lib.hid K0
      have HK1 := Lib.hid K1
      clear k0 k1 hb1 K0 K1
      go_wp2_with fail
      refine (addrIn_any _ _ _ _ h0 h1 h2 h3).mono ?_
      rintro e w2 ⟨rfl, hb2⟩
      have hbw2 := hbw1.trans (hb2.mono hbw1.size)
      go_wp2
      go_ret
      exact ⟨ret_bool hE.out, hbw2⟩
    · have hE := Lib.hid (within_2 a b hm)
      have hd2 : decide (m ≤ n) = false := by simp; omega
      clear hr
      go_enter Tryd.func24, Tryd.ntmps24
      go_wp2_with fail
      refine (addrCheck_any _ _ _ h0 h1).mono ?_
      rintro e w1 ⟨rfl, hb1⟩
      obtain ⟨k0, k1⟩ := blk2 w (.cells #[.int .u32 a, .int .i64 n] 25) (.cells #[.int .u32 b, .int .i64 m] 25)
      have K0 := blk_below hb1 k0
      have K1 := blk_below hb1 k1
      obtain ⟨c0, c1, _, _⟩ := two_cells K0
      obtain ⟨c2, c3, _, _⟩ := two_cells K1
      have hbw1 := below_call (below2 w _ _) hb1
      have hsz1 := lt_of_block K1
      have HK0 := Lib.hid K0
      have HK1 := Lib.hid K1
      clear k0 k1 hb1 K0 K1
      go_wp2
      go_ret
      exact ⟨ret_bool hE.out, hbw1⟩
  · have hd : (chk a n == 0) = false := by simp [hr]
    have hE := Lib.hid (within_1 b m hr)
    clear hr
    go_enter Tryd.func24, Tryd.ntmps24
    go_wp2_with fail
    refine (addrCheck_any _ _ _ h0 h1).mono ?_
    rintro e w1 ⟨rfl, hb1⟩
    obtain ⟨k0, k1⟩ := blk2 w (.cells #[.int .u32 a, .int .i64 n] 25) (.cells #[.int .u32 b, .int .i64 m] 25)
    have K0 := blk_below hb1 k0
    have K1 := blk_below hb1 k1
    obtain ⟨c0, c1, _, _⟩ := two_cells K0
    obtain ⟨c2, c3, _, _⟩ := two_cells K1
    have hbw1 := below_call (below2 w _ _) hb1
    have hsz1 := lt_of_block K1
    have HK0 := Lib.hid K0
    have HK1 := Lib.hid K1
    clear k0 k1 hb1 K0 K1
    go_wp2
    go_ret
    exact ⟨ret_bool hE.out, hbw1⟩

end Go.Proofs.YtdlhpiknifcehaaDoor
