/-
  Walks over the addresses' layer: Halves; the program's and the reference's.
-/
import Derived.Test.YtdlhpiknifcehaaDoorAddr4
import Derived.RegionTactic
import Derived.BigRegion
import Derived.Deep.RegionHeld3
namespace Go.Proofs.YtdlhpiknifcehaaDoor
open Go Go.RowKit Go.Sort

/-- The halves of a prefix: the refusal, where they begin, their bits. -/
def halfE (a n : Int) : Int := if chk a n = 0 then (if n = 32 then 5 else 0) else chk a n
def halfL (a n : Int) : Int := if halfE a n = 0 then a else 0
def halfH (a n : Int) : Int := if halfE a n = 0 then a + sz (n + 1) else 0
def halfN (a n : Int) : Int := if halfE a n = 0 then n + 1 else 0
theorem half_no {a n : Int} (h : ¬ halfE a n = 0) : halfL a n = 0 ∧ halfH a n = 0 ∧ halfN a n = 0 := ⟨if_neg h, if_neg h, if_neg h⟩
theorem half_yes {a n : Int} (h : halfE a n = 0) : halfL a n = a ∧ halfH a n = a + sz (n + 1) ∧ halfN a n = n + 1 := ⟨if_pos h, if_pos h, if_pos h⟩
theorem halfE_chk {a n : Int} (h : ¬ chk a n = 0) : halfE a n = chk a n := if_neg h
theorem halfE_32 {a n : Int} (h : chk a n = 0) (h1 : n = 32) : halfE a n = 5 := by unfold halfE; rw [if_pos h, if_pos h1]
theorem halfE_ok {a n : Int} (h : chk a n = 0) (h1 : ¬ n = 32) : halfE a n = 0 := by unfold halfE; rw [if_pos h, if_neg h1]
theorem ret_pp {a a' b b' n n' e e' : Int} (h : a = a' ∧ b = b' ∧ n = n' ∧ e = e') : Ending.returned (.tuple #[.agg #[.int .u32 a, .int .i64 n], .agg #[.int .u32 b, .int .i64 n], .int .i64 e]) = .returned (.tuple #[.agg #[.int .u32 a', .int .i64 n'], .agg #[.int .u32 b', .int .i64 n'], .int .i64 e']) := by rw [h.1, h.2.1, h.2.2.1, h.2.2.2]

theorem half_le (a n : Int) (hb : a < 4294967296) (hn0 : 0 ≤ n) (hn : n < 32) (h : a % sz n = 0) : sz n = 2 * sz (n + 1) ∧ a + sz (n + 1) < 4294967296 := by
  have e : sz n = 2 * sz (n + 1) := by
    unfold sz
    rw [← p2_succ]
    congr 1; omega
  have h1 := end_le a n hb h
  have := sz_pos (n + 1)
  omega
theorem or_half (a n : Int) (ha : 0 ≤ a) (hb : a < 4294967296) (hn0 : 0 ≤ n) (hn : n < 32) (h : a % sz n = 0) : bits .or .u32 a (2 ^ (31 - n).toNat % 4294967296) = a + sz (n + 1) := by
  obtain ⟨a, rfl⟩ := Int.eq_ofNat_of_zero_le ha
  have e1 : (31 - n).toNat = 32 - (n + 1).toNat := by omega
  have e2 : (2 : Int) ^ (31 - n).toNat = sz (n + 1) := by rw [e1]; rfl
  have hp := sz_pos (n + 1)
  have e3 : sz (n + 1) < 4294967296 := by
    have := p2_succ (32 - (n + 1).toNat)
    have h3 := p2_le32 (k := 32 - (n + 1).toNat + 1) (by omega)
    unfold sz at *
    omega
  rw [e2, Int.emod_eq_of_lt (by omega) e3, u32_or _ _ ha hb (by omega) e3, sz_nat]
  have h2 := Nat.two_pow_pos (32 - (n + 1).toNat)
  have hm : a % 2 ^ (32 - n.toNat) = 0 := by rw [sz_nat] at h; omega
  rw [Int.toNat_natCast, Int.toNat_natCast, nat_join (32 - n.toNat) a _ hm (by
    rw [show 32 - n.toNat = (32 - (n + 1).toNat) + 1 by omega, Nat.pow_succ]; omega)]
  omega

theorem half_val (a n : Int) (ha : 0 ≤ a) (hb : a < 4294967296) (hn0 : 0 ≤ n) (hn : n < 32) (h : a % sz n = 0) : IntKind.u32.wrap (IntKind.u64.wrap (IntKind.u64.wrap a + sz (n + 1))) = a + sz (n + 1) := by
  have h1 := half_le a n hb hn0 hn h
  have := sz_pos (n + 1)
  simp only [IntKind.wrap_u64, IntKind.wrap_u32']
  omega
theorem results_pp {fn : Func} {tmps : Array Value} {w : World} {g1 g2 : Nat} {a b c d e : Value} {t1 t2 t3 : Nat} (hf : fn.results = #[.cell t1 25, .cell t2 25, .tmp t3]) (h1 : tmps.getD t1 undef = .pointer (some ⟨g1, 0, none⟩)) (h2 : tmps.getD t2 undef = .pointer (some ⟨g2, 0, none⟩)) (h3 : tmps.getD t3 undef = e)
    (k1 : w.heap[g1]? = some (.cells #[a, b] 25 (0, 0))) (k2 : w.heap[g2]? = some (.cells #[c, d] 25 (0, 0))) :
    (results fn tmps).run Tryd.prog w = .ok (.tuple #[.agg #[a, b], .agg #[c, d], e]) w := by
  obtain ⟨c0, c1, _, _⟩ := two_cells k1
  obtain ⟨c2, c3, _, _⟩ := two_cells k2
  have h1' : tmps[t1]?.getD undef = .pointer (some ⟨g1, 0, none⟩) := by simpa using h1
  have h2' : tmps[t2]?.getD undef = .pointer (some ⟨g2, 0, none⟩) := by simpa using h2
  have h3' : tmps[t3]?.getD undef = e := by simpa using h3
  simp [results, hf, h1', h2', h3', go_sem, c0, c1, c2, c3]

def HalfRes (a n : Int) (w : World) (en : Ending) (w' : World) : Prop :=
  en = .returned (.tuple #[.agg #[.int .u32 (halfL a n), .int .i64 (halfN a n)], .agg #[.int .u32 (halfH a n), .int .i64 (halfN a n)], .int .i64 (halfE a n)]) ∧ Below w.heap.size w w'

set_option maxHeartbeats 400000 in
theorem addrHalves_any (a n : Int) (w : World) (h0 : 0 ≤ a) (h1 : a < 4294967296) :
    Calls Tryd.prog 25 #[.agg #[.int .u32 a, .int .i64 n]] w (HalfRes a n w) := by
  by_cases hr : chk a n = 0
  · obtain ⟨hn0, hn1, h2⟩ := chk_ok hr
    have hd : (chk a n != 0) = false := by simp [hr]
    by_cases h32 : n = 32
    · have hE := Lib.hid (halfE_32 hr h32)
      have hN := Lib.hid (half_no (a := a) (n := n) (by rw [hE.out]; decide))
      have hd2 : (n == 32) = true := by simp [h32]
      clear hr h2 h32
      go_enter Tryd.func25, Tryd.ntmps25
      go_wp2_with fail
      refine (addrCheck_any _ _ _ h0 h1).mono ?_
      rintro e w1 ⟨rfl, hb⟩
      obtain ⟨k0, k1, k2⟩ := blk3 w (.cells #[.int .u32 a, .int .i64 n] 25) (.cells #[.int .u32 0, .int .i64 0] 25) (.cells #[.int .u32 0, .int .i64 0] 25)
      obtain ⟨c0, c1, f0, f1⟩ := two_cells (blk_below hb k0)
      obtain ⟨c2, c3, f2, f3⟩ := two_cells (blk_below hb k1)
      obtain ⟨c4, c5, f4, f5⟩ := two_cells (blk_below hb k2)
      have hsz := lt_of_block (blk_below hb k2)
      have hbw1 := below_call (below3 w _ _ _) hb
      have HK1 := Lib.hid (blk_below hb k1)
      have HK2 := Lib.hid (blk_below hb k2)
      clear hb k0 k1 k2
      go_wp2
      refine bodyPost_ret (v := .tuple #[.agg #[.int .u32 0, .int .i64 0], .agg #[.int .u32 0, .int .i64 0], .int .i64 5]) (by simp [results, Tryd.results25, go_sem, c2, c3, c4, c5]) rfl ⟨ret_pp ⟨hN.out.1.symm, hN.out.2.1.symm, hN.out.2.2.symm, hE.out.symm⟩, ((((hbw1.setCell (by simp) _).setCell (by simp) _).setCell (by simp <;> omega) _).setCell (by simp <;> omega) _)⟩
    · have hE := Lib.hid (halfE_ok hr h32)
      have hN := Lib.hid (half_yes hE.out)
      have hd2 : (n == 32) = false := by simp [h32]
      have hn32 : n < 32 := by omega
      have H2 := Lib.hid h2
      clear hr h2 h32
      go_enter Tryd.func25, Tryd.ntmps25
      go_wp2_with fail
      refine (addrCheck_any _ _ _ h0 h1).mono ?_
      rintro e w1 ⟨rfl, hb⟩
      obtain ⟨k0, k1, k2⟩ := blk3 w (.cells #[.int .u32 a, .int .i64 n] 25) (.cells #[.int .u32 0, .int .i64 0] 25) (.cells #[.int .u32 0, .int .i64 0] 25)
      obtain ⟨c0, c1, f0, f1⟩ := two_cells (blk_below hb k0)
      obtain ⟨c2, c3, f2, f3⟩ := two_cells (blk_below hb k1)
      obtain ⟨c4, c5, f4, f5⟩ := two_cells (blk_below hb k2)
      have hsz := lt_of_block (blk_below hb k2)
      have hbw1 := below_call (below3 w _ _ _) hb
      have HK1 := Lib.hid (blk_below hb k1)
      have HK2 := Lib.hid (blk_below hb k2)
      clear hb k0 k1 k2
      go_wp2
      go_region
      all_goals go_wp2
      have ho := or_half a n h0 h1 hn0 hn32 H2.out
      refine bodyPost_ret (results_pp (t1 := 2) (t2 := 3) (t3 := 4) (g1 := w.heap.size + 1) (g2 := w.heap.size + 1 + 1) Tryd.results25 rfl rfl rfl (heap_drew (set_far (set_far (set_1 (set_0 (set_1 (set_0 HK1.out)))) (by simp)) (by simp))) (heap_drew (set_1 (set_0 (set_far (set_far (set_far (set_far HK2.out (by simp)) (by simp)) (by simp)) (by simp)))))) rfl ⟨ret_pp ⟨hN.out.1.symm, by rw [ho]; exact hN.out.2.1.symm, hN.out.2.2.symm, hE.out.symm⟩, ((((((hbw1.setCell (by simp) _).setCell (by simp) _).setCell (by simp) _).setCell (by simp) _).setCell (by simp <;> omega) _).setCell (by simp <;> omega) _).drew⟩
  · have hE := Lib.hid (halfE_chk hr)
    have hN := Lib.hid (half_no (a := a) (n := n) (by rw [hE.out]; exact hr))
    have hd : (chk a n != 0) = true := by simp [hr]
    clear hr
    go_enter Tryd.func25, Tryd.ntmps25
    go_wp2_with fail
    refine (addrCheck_any _ _ _ h0 h1).mono ?_
    rintro e w1 ⟨rfl, hb⟩
    obtain ⟨k0, k1, k2⟩ := blk3 w (.cells #[.int .u32 a, .int .i64 n] 25) (.cells #[.int .u32 0, .int .i64 0] 25) (.cells #[.int .u32 0, .int .i64 0] 25)
    obtain ⟨c0, c1, f0, f1⟩ := two_cells (blk_below hb k0)
    obtain ⟨c2, c3, f2, f3⟩ := two_cells (blk_below hb k1)
    obtain ⟨c4, c5, f4, f5⟩ := two_cells (blk_below hb k2)
    have hsz := lt_of_block (blk_below hb k2)
    have hbw1 := below_call (below3 w _ _ _) hb
    clear hb k0 k1 k2
    go_wp2
    refine bodyPost_ret (v := .tuple #[.agg #[.int .u32 0, .int .i64 0], .agg #[.int .u32 0, .int .i64 0], .int .i64 (chk a n)]) (by simp [results, Tryd.results25, go_sem, c2, c3, c4, c5]) rfl ⟨ret_pp ⟨hN.out.1.symm, hN.out.2.1.symm, hN.out.2.2.symm, hE.out.symm⟩, ((((hbw1.setCell (by simp) _).setCell (by simp) _).setCell (by simp <;> omega) _).setCell (by simp <;> omega) _)⟩

end Go.Proofs.YtdlhpiknifcehaaDoor
