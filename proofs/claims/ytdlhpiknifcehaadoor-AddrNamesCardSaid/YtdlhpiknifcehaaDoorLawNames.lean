/-
  The walk of the law AddrNames (written by wip/gen/gennames.py).
-/
import Derived.Test.YtdlhpiknifcehaaDoorAd6
import Derived.BigFrame
import Derived.Deep.DeepCutAuto
import Derived.Deep.RegionHeld3
namespace Go.Proofs.YtdlhpiknifcehaaDoor
open Go Go.RowKit Go.Sort

def badL : List ByteArray := [⟨#[50, 53, 54, 46, 48, 46, 48, 46, 49]⟩, ⟨#[49, 46, 50, 46, 51]⟩, ⟨#[49, 46, 50, 46, 51, 46, 52, 46, 53]⟩, ⟨#[49, 46, 46, 50, 46, 51]⟩, ⟨#[48, 49, 46, 50, 46, 51, 46, 52]⟩]
theorem bad_none : ∀ s ∈ badL, parseB s.data.toList = none ∧ s.size < 100 := by decide +kernel
theorem bad_parse {s : ByteArray} (h : s ∈ badL) (w : World) (hE : Env w) : Calls Tryd.prog 12 #[.string s] w fun e w' => e = .returned (.tuple #[.int .u32 0, .int .i64 4]) ∧ Below w.heap.size w w' := by
  have hb := bad_none s h
  have h := addrParse_any s w hE (by omega)
  rw [hb.1] at h
  exact h
theorem pp_c0 : ppA [48, 46, 48, 46, 48, 46, 48, 47, 48] = 0 ∧ ppN [48, 46, 48, 46, 48, 46, 48, 47, 48] = 0 ∧ ppE [48, 46, 48, 46, 48, 46, 48, 47, 48] = 0 := by decide +kernel
theorem np_0 (w : World) (hE : Env w) : Calls Tryd.prog 14 #[.string ⟨#[48, 46, 48, 46, 48, 46, 48, 47, 48]⟩] w fun e w' => e = .returned (.tuple #[.agg #[.int .u32 0, .int .i64 0], .int .i64 0]) ∧ Below w.heap.size w w' := by
  have h := parsePrefix_any ⟨#[48, 46, 48, 46, 48, 46, 48, 47, 48]⟩ w hE (by decide)
  rw [show ppA (⟨#[48, 46, 48, 46, 48, 46, 48, 47, 48]⟩ : ByteArray).data.toList = 0 from pp_c0.1, show ppN (⟨#[48, 46, 48, 46, 48, 46, 48, 47, 48]⟩ : ByteArray).data.toList = 0 from pp_c0.2.1, show ppE (⟨#[48, 46, 48, 46, 48, 46, 48, 47, 48]⟩ : ByteArray).data.toList = 0 from pp_c0.2.2] at h
  exact h
theorem pp_c1 : ppA [50, 53, 53, 46, 50, 53, 53, 46, 50, 53, 53, 46, 50, 53, 53, 47, 51, 50] = 4294967295 ∧ ppN [50, 53, 53, 46, 50, 53, 53, 46, 50, 53, 53, 46, 50, 53, 53, 47, 51, 50] = 32 ∧ ppE [50, 53, 53, 46, 50, 53, 53, 46, 50, 53, 53, 46, 50, 53, 53, 47, 51, 50] = 0 := by decide +kernel
theorem np_1 (w : World) (hE : Env w) : Calls Tryd.prog 14 #[.string ⟨#[50, 53, 53, 46, 50, 53, 53, 46, 50, 53, 53, 46, 50, 53, 53, 47, 51, 50]⟩] w fun e w' => e = .returned (.tuple #[.agg #[.int .u32 4294967295, .int .i64 32], .int .i64 0]) ∧ Below w.heap.size w w' := by
  have h := parsePrefix_any ⟨#[50, 53, 53, 46, 50, 53, 53, 46, 50, 53, 53, 46, 50, 53, 53, 47, 51, 50]⟩ w hE (by decide)
  rw [show ppA (⟨#[50, 53, 53, 46, 50, 53, 53, 46, 50, 53, 53, 46, 50, 53, 53, 47, 51, 50]⟩ : ByteArray).data.toList = 4294967295 from pp_c1.1, show ppN (⟨#[50, 53, 53, 46, 50, 53, 53, 46, 50, 53, 53, 46, 50, 53, 53, 47, 51, 50]⟩ : ByteArray).data.toList = 32 from pp_c1.2.1, show ppE (⟨#[50, 53, 53, 46, 50, 53, 53, 46, 50, 53, 53, 46, 50, 53, 53, 47, 51, 50]⟩ : ByteArray).data.toList = 0 from pp_c1.2.2] at h
  exact h
theorem pp_c2 : ppA [49, 50, 56, 46, 48, 46, 48, 46, 48, 47, 48] = 0 ∧ ppN [49, 50, 56, 46, 48, 46, 48, 46, 48, 47, 48] = 0 ∧ ppE [49, 50, 56, 46, 48, 46, 48, 46, 48, 47, 48] = 10 := by decide +kernel
theorem np_2 (w : World) (hE : Env w) : Calls Tryd.prog 14 #[.string ⟨#[49, 50, 56, 46, 48, 46, 48, 46, 48, 47, 48]⟩] w fun e w' => e = .returned (.tuple #[.agg #[.int .u32 0, .int .i64 0], .int .i64 10]) ∧ Below w.heap.size w w' := by
  have h := parsePrefix_any ⟨#[49, 50, 56, 46, 48, 46, 48, 46, 48, 47, 48]⟩ w hE (by decide)
  rw [show ppA (⟨#[49, 50, 56, 46, 48, 46, 48, 46, 48, 47, 48]⟩ : ByteArray).data.toList = 0 from pp_c2.1, show ppN (⟨#[49, 50, 56, 46, 48, 46, 48, 46, 48, 47, 48]⟩ : ByteArray).data.toList = 0 from pp_c2.2.1, show ppE (⟨#[49, 50, 56, 46, 48, 46, 48, 46, 48, 47, 48]⟩ : ByteArray).data.toList = 10 from pp_c2.2.2] at h
  exact h
theorem pp_c3 : ppA [48, 46, 48, 46, 48, 46, 48, 47, 51, 51] = 0 ∧ ppN [48, 46, 48, 46, 48, 46, 48, 47, 51, 51] = 0 ∧ ppE [48, 46, 48, 46, 48, 46, 48, 47, 51, 51] = 4 := by decide +kernel
theorem np_3 (w : World) (hE : Env w) : Calls Tryd.prog 14 #[.string ⟨#[48, 46, 48, 46, 48, 46, 48, 47, 51, 51]⟩] w fun e w' => e = .returned (.tuple #[.agg #[.int .u32 0, .int .i64 0], .int .i64 4]) ∧ Below w.heap.size w w' := by
  have h := parsePrefix_any ⟨#[48, 46, 48, 46, 48, 46, 48, 47, 51, 51]⟩ w hE (by decide)
  rw [show ppA (⟨#[48, 46, 48, 46, 48, 46, 48, 47, 51, 51]⟩ : ByteArray).data.toList = 0 from pp_c3.1, show ppN (⟨#[48, 46, 48, 46, 48, 46, 48, 47, 51, 51]⟩ : ByteArray).data.toList = 0 from pp_c3.2.1, show ppE (⟨#[48, 46, 48, 46, 48, 46, 48, 47, 51, 51]⟩ : ByteArray).data.toList = 4 from pp_c3.2.2] at h
  exact h
theorem mask_c : maskA 0 = 0 ∧ argE 0 = 0 ∧ maskA 32 = 4294967295 ∧ argE 32 = 0 := by decide +kernel
theorem nm_0 (w : World) : Calls Tryd.prog 22 #[.int .i64 0] w fun e w' => e = .returned (.tuple #[.int .u32 0, .int .i64 0]) ∧ Below w.heap.size w w' :=
  (addrMask_any 0 w).mono fun e w' ⟨he, hw⟩ => ⟨by rw [he, mask_c.1, mask_c.2.1], hw ▸ Below.refl _ _⟩
theorem nm_1 (w : World) : Calls Tryd.prog 22 #[.int .i64 32] w fun e w' => e = .returned (.tuple #[.int .u32 4294967295, .int .i64 0]) ∧ Below w.heap.size w w' :=
  (addrMask_any 32 w).mono fun e w' ⟨he, hw⟩ => ⟨by rw [he, mask_c.2.2.1, mask_c.2.2.2], hw ▸ Below.refl _ _⟩
theorem in_c : inB 0 0 0 = true ∧ inB 4294967295 0 0 = true ∧ inB 4294967295 4294967295 32 = true ∧ inB 0 4294967295 32 = false ∧ withinB 4294967295 32 0 0 = true := by decide +kernel
theorem ni_0 (w : World) : Calls Tryd.prog 23 #[.int .u32 0, .agg #[.int .u32 0, .int .i64 0]] w fun e w' => e = .returned (.bool true) ∧ Below w.heap.size w w' := by
  have h := addrIn_any 0 0 0 w (by omega) (by omega) (by omega) (by omega)
  rw [in_c.1] at h
  exact h
theorem ni_1 (w : World) : Calls Tryd.prog 23 #[.int .u32 4294967295, .agg #[.int .u32 0, .int .i64 0]] w fun e w' => e = .returned (.bool true) ∧ Below w.heap.size w w' := by
  have h := addrIn_any 4294967295 0 0 w (by omega) (by omega) (by omega) (by omega)
  rw [in_c.2.1] at h
  exact h
theorem ni_2 (w : World) : Calls Tryd.prog 23 #[.int .u32 4294967295, .agg #[.int .u32 4294967295, .int .i64 32]] w fun e w' => e = .returned (.bool true) ∧ Below w.heap.size w w' := by
  have h := addrIn_any 4294967295 4294967295 32 w (by omega) (by omega) (by omega) (by omega)
  rw [in_c.2.2.1] at h
  exact h
theorem ni_3 (w : World) : Calls Tryd.prog 23 #[.int .u32 0, .agg #[.int .u32 4294967295, .int .i64 32]] w fun e w' => e = .returned (.bool false) ∧ Below w.heap.size w w' := by
  have h := addrIn_any 0 4294967295 32 w (by omega) (by omega) (by omega) (by omega)
  rw [in_c.2.2.2.1] at h
  exact h
theorem nw_0 (w : World) : Calls Tryd.prog 24 #[.agg #[.int .u32 4294967295, .int .i64 32], .agg #[.int .u32 0, .int .i64 0]] w fun e w' => e = .returned (.bool true) ∧ Below w.heap.size w w' := by
  have h := addrWithin_any 4294967295 32 0 0 w (by omega) (by omega) (by omega) (by omega)
  rw [in_c.2.2.2.2] at h
  exact h
theorem half_c : halfL 4294967295 32 = 0 ∧ halfH 4294967295 32 = 0 ∧ halfN 4294967295 32 = 0 ∧ halfE 4294967295 32 = 5 := by decide +kernel
theorem nh_0 (w : World) : Calls Tryd.prog 25 #[.agg #[.int .u32 4294967295, .int .i64 32]] w fun e w' => e = .returned (.tuple #[.agg #[.int .u32 0, .int .i64 0], .agg #[.int .u32 0, .int .i64 0], .int .i64 5]) ∧ Below w.heap.size w w' := by
  have h := addrHalves_any 4294967295 32 w (by omega) (by omega)
  unfold HalfRes at h
  rw [half_c.1, half_c.2.1, half_c.2.2.1, half_c.2.2.2] at h
  exact h
theorem end_c : endA 0 0 = 0 ∧ endB 0 0 = 4294967295 ∧ chk 0 0 = 0 := by decide +kernel
theorem ne_0 (w : World) : Calls Tryd.prog 26 #[.agg #[.int .u32 0, .int .i64 0]] w fun e w' => e = .returned (.tuple #[.int .u32 0, .int .u32 4294967295, .int .i64 0]) ∧ Below w.heap.size w w' := by
  have h := addrEnds_any 0 0 w (by omega) (by omega)
  rw [end_c.1, end_c.2.1, end_c.2.2] at h
  exact h
/-- Steps that are made written out. -/
theorem cutL_len_step (e a : Int) (f : Nat) (k : Nat) (n : Nat) (h : a < e) (hp : pick a e 32 = k) (hn : (cutL e f (a + p2 k)).length = n) : (cutL e (f + 1) a).length = n + 1 := by
  rw [cutL_step e a f h, List.length_cons, hp, hn]
/-- More fuel than is wanted changes nothing. -/
theorem cutL_fuel (e : Int) : ∀ (f : Nat) (a : Int) (g : Nat), (cutL e f a).length < f → f ≤ g → cutL e g a = cutL e f a
  | 0, a, g, h, _ => by omega
  | f + 1, a, g, h, hg => by
    obtain ⟨g, rfl⟩ : ∃ g', g = g' + 1 := ⟨g - 1, by omega⟩
    by_cases he : e ≤ a
    · rw [cutL_done e a _ he, cutL_done e a _ he]
    · rw [cutL_step e a f (by omega), cutL_step e a g (by omega)]
      rw [cutL_step e a f (by omega), List.length_cons] at h
      rw [cutL_fuel e f _ g (by omega) (by omega)]
theorem cut_c0 : (cutP 0 4294967295).length = 1 := by
  have h : (cutL 4294967296 2 0).length = 1 := by decide +kernel
  unfold cutP
  show (cutL 4294967296 4294967296 0).length = 1
  rw [cutL_fuel 4294967296 2 0 4294967296 (by omega) (by omega), h]
theorem cut_c1 : (cutP 1 4294967294).length = 62 := by
  have h : (cutL 4294967295 63 1).length = 62 := by decide +kernel
  unfold cutP
  show (cutL 4294967295 4294967294 1).length = 62
  rw [cutL_fuel 4294967295 63 1 4294967294 (by omega) (by omega), h]
set_option maxHeartbeats 400000 in
theorem nc_2 (w : World) : Calls Tryd.prog 27 #[.int .u32 1, .int .u32 0] w fun e w' => e = .returned (.tuple #[.slice none 0 0, .int .i64 1]) ∧ Below w.heap.size w w' := by
  go_enter Tryd.func27, Tryd.ntmps27
  go_wp2
  go_ret2
  exact ⟨rfl, Below.refl _ _⟩
theorem text_c : textP 0 (-5) = ⟨#[48, 46, 48, 46, 48, 46, 48, 47, 45, 53]⟩ := by
  unfold textP
  rw [textA_eq, show Lib.itoa (-5) = 45 :: Lib.decDigits 5 from rfl, dec3_eq (by omega)]
  decide +kernel
theorem nt_0 (w : World) (hE : Env w) : Calls Tryd.prog 19 #[.agg #[.int .u32 0, .int .i64 (-5)]] w fun e w' => e = .returned (.string ⟨#[48, 46, 48, 46, 48, 46, 48, 47, 45, 53]⟩) ∧ Below w.heap.size w w' := by
  have h := prefixText_any 0 (-5) (by omega) (by omega) (by omega) w hE
  rw [text_c] at h
  exact h

set_option maxRecDepth 100000 in
set_option maxHeartbeats 4000000 in
theorem lawNames_any (w : World) (hE : Env w) : Calls Tryd.prog 4 #[] w fun e w' => e = .returned (.bool true) ∧ Below w.heap.size w w' := by
  go_enter Tryd.func4, Tryd.ntmps4
  go_wp2_with fail
  refine (works_any w hE).mono ?_
  rintro e w1 ⟨rfl, hb⟩
  have hbw' := below_call (Below.refl _ _) hb
  clear hb
  have hbw := hbw'
  clear hbw'
  have hk := heap_alloc_new w1 (.cells (badL.map Value.string).toArray 9)
  have hba := hbw.alloc hbw.size (.cells (badL.map Value.string).toArray 9)
  go_wp2
  go_loopw [41] (fun i wr => ∃ k : Nat, i = .int .i64 k ∧ k ≤ 5 ∧ wr.heap[w1.heap.size]? = some (.cells (badL.map Value.string).toArray 9 (0, 0)) ∧ Below w.heap.size w wr) (fun i _ => 5 - (intOf i).toNat)
  case atStart => exact ⟨0, rfl, by omega, hk, hba⟩
  case round =>
    obtain ⟨k, rfl, hk5, hblk, hbr⟩ := hrel
    clear hk hba hbw
    by_cases hlt : k < 5
    · obtain ⟨s, hs⟩ : ∃ s, badL[k]? = some s := ⟨_, List.getElem?_eq_getElem (show k < badL.length from hlt)⟩
      have hc := cells_str hblk hs
      have hm := Lib.hid (List.mem_of_getElem? hs)
      have hI : (k : Int) < 5 := by omega
      have hI0 : (0 : Int) ≤ k := by omega
      clear hs
      go_wp2_with fail
      refine (bad_parse hm.out _ (hE.below hbr)).mono ?_
      rintro e v2 ⟨rfl, hb⟩
      have hblk2 := blk_below hb hblk
      have hbr2 := hbr.trans (hb.mono hbr.size)
      go_wp2
      exact ⟨⟨k + 1, by go_num, by omega, hblk2, hbr2⟩, by simp only [intOf]; omega⟩
    · obtain rfl : k = 5 := by omega
      have hbw := hbr
      clear hblk hbr
      go_wp2_with fail
      refine (np_0 _ (hE.below hbw)).mono ?_
      rintro e w21 ⟨rfl, hb⟩
      have hbw' := below_call hbw hb
      clear hbw hb
      have hbw := hbw'
      clear hbw'
      go_wp2_with fail
      refine (np_1 _ (hE.below (hbw.alloc hbw.size _))).mono ?_
      rintro e w22 ⟨rfl, hb⟩
      have Ja := blk_below hb (heap_alloc_new w21 (.cells #[.int .u32 0, .int .i64 0] 25))
      have hbw' := below_call (hbw.alloc (le_up hbw) _) hb
      clear hbw hb
      have hbw := hbw'
      clear hbw'
      obtain ⟨ca0, ca1, fa0, fa1⟩ := two_cells Ja
      have la := lt_of_block Ja
      have na : w21.heap.size ≠ w22.heap.size := by omega
      have Ka := Lib.hid Ja
      clear Ja
      go_wp2_with fail
      refine (np_2 _ (hE.below (hbw.alloc hbw.size _))).mono ?_
      rintro e w23 ⟨rfl, hb⟩
      have Ja := blk_below hb ((Below.heap_alloc _ _ _ (by first | omega | (simp; omega))).trans Ka.out)
      have Jb := blk_below hb (heap_alloc_new w22 (.cells #[.int .u32 4294967295, .int .i64 32] 25))
      have hbw' := below_call (hbw.alloc (le_up hbw) _) hb
      clear ca0 ca1 fa0 fa1 la na Ka hbw hb
      have hbw := hbw'
      clear hbw'
      obtain ⟨ca0, ca1, fa0, fa1⟩ := two_cells Ja
      have la := lt_of_block Ja
      have na : w21.heap.size ≠ w23.heap.size := by omega
      have Ka := Lib.hid Ja
      clear Ja
      obtain ⟨cb0, cb1, fb0, fb1⟩ := two_cells Jb
      have lb := lt_of_block Jb
      have nb : w22.heap.size ≠ w23.heap.size := by omega
      have Kb := Lib.hid Jb
      clear Jb
      go_wp2_with fail
      refine (np_3 _ (hE.below (hbw.alloc hbw.size _))).mono ?_
      rintro e w24 ⟨rfl, hb⟩
      have Ja := blk_below hb ((Below.heap_alloc _ _ _ (by first | omega | (simp; omega))).trans Ka.out)
      have Jb := blk_below hb ((Below.heap_alloc _ _ _ (by first | omega | (simp; omega))).trans Kb.out)
      have Jc := blk_below hb (heap_alloc_new w23 (.cells #[.int .u32 0, .int .i64 0] 25))
      have hbw' := below_call (hbw.alloc (le_up hbw) _) hb
      clear ca0 ca1 fa0 fa1 la na Ka cb0 cb1 fb0 fb1 lb nb Kb hbw hb
      have hbw := hbw'
      clear hbw'
      obtain ⟨ca0, ca1, fa0, fa1⟩ := two_cells Ja
      have la := lt_of_block Ja
      have na : w21.heap.size ≠ w24.heap.size := by omega
      have Ka := Lib.hid Ja
      clear Ja
      obtain ⟨cb0, cb1, fb0, fb1⟩ := two_cells Jb
      have lb := lt_of_block Jb
      have nb : w22.heap.size ≠ w24.heap.size := by omega
      have Kb := Lib.hid Jb
      clear Jb
      obtain ⟨cc0, cc1, fc0, fc1⟩ := two_cells Jc
      have lc := lt_of_block Jc
      have nc : w23.heap.size ≠ w24.heap.size := by omega
      have Kc := Lib.hid Jc
      clear Jc
      go_wp2_with fail
      refine (nm_0 _).mono ?_
      rintro e w25 ⟨rfl, hb⟩
      have Ja := blk_below hb ((Below.heap_alloc _ _ _ (by first | omega | (simp; omega))).trans Ka.out)
      have Jb := blk_below hb ((Below.heap_alloc _ _ _ (by first | omega | (simp; omega))).trans Kb.out)
      have Jc := blk_below hb ((Below.heap_alloc _ _ _ (by first | omega | (simp; omega))).trans Kc.out)
      have Jd := blk_below hb (heap_alloc_new w24 (.cells #[.int .u32 0, .int .i64 0] 25))
      have hbw' := below_call (hbw.alloc (le_up hbw) _) hb
      clear ca0 ca1 fa0 fa1 la na Ka cb0 cb1 fb0 fb1 lb nb Kb cc0 cc1 fc0 fc1 lc nc Kc hbw hb
      have hbw := hbw'
      clear hbw'
      obtain ⟨ca0, ca1, fa0, fa1⟩ := two_cells Ja
      have la := lt_of_block Ja
      have na : w21.heap.size ≠ w25.heap.size := by omega
      have Ka := Lib.hid Ja
      clear Ja
      obtain ⟨cb0, cb1, fb0, fb1⟩ := two_cells Jb
      have lb := lt_of_block Jb
      have nb : w22.heap.size ≠ w25.heap.size := by omega
      have Kb := Lib.hid Jb
      clear Jb
      obtain ⟨cc0, cc1, fc0, fc1⟩ := two_cells Jc
      have lc := lt_of_block Jc
      have nc : w23.heap.size ≠ w25.heap.size := by omega
      have Kc := Lib.hid Jc
      clear Jc
      obtain ⟨cd0, cd1, fd0, fd1⟩ := two_cells Jd
      have ld := lt_of_block Jd
      have nd : w24.heap.size ≠ w25.heap.size := by omega
      have Kd := Lib.hid Jd
      clear Jd
      go_wp2_with fail
      refine (nm_1 _).mono ?_
      rintro e w26 ⟨rfl, hb⟩
      have Ja := blk_below hb Ka.out
      have Jb := blk_below hb Kb.out
      have Jc := blk_below hb Kc.out
      have Jd := blk_below hb Kd.out
      have hbw' := below_call hbw hb
      clear ca0 ca1 fa0 fa1 la na Ka cb0 cb1 fb0 fb1 lb nb Kb cc0 cc1 fc0 fc1 lc nc Kc cd0 cd1 fd0 fd1 ld nd Kd hbw hb
      have hbw := hbw'
      clear hbw'
      obtain ⟨ca0, ca1, fa0, fa1⟩ := two_cells Ja
      have la := lt_of_block Ja
      have na : w21.heap.size ≠ w26.heap.size := by omega
      have Ka := Lib.hid Ja
      clear Ja
      obtain ⟨cb0, cb1, fb0, fb1⟩ := two_cells Jb
      have lb := lt_of_block Jb
      have nb : w22.heap.size ≠ w26.heap.size := by omega
      have Kb := Lib.hid Jb
      clear Jb
      obtain ⟨cc0, cc1, fc0, fc1⟩ := two_cells Jc
      have lc := lt_of_block Jc
      have nc : w23.heap.size ≠ w26.heap.size := by omega
      have Kc := Lib.hid Jc
      clear Jc
      obtain ⟨cd0, cd1, fd0, fd1⟩ := two_cells Jd
      have ld := lt_of_block Jd
      have nd : w24.heap.size ≠ w26.heap.size := by omega
      have Kd := Lib.hid Jd
      clear Jd
      go_wp2_with fail
      refine (ni_0 _).mono ?_
      rintro e w27 ⟨rfl, hb⟩
      have Ja := blk_below hb Ka.out
      have Jb := blk_below hb Kb.out
      have Jc := blk_below hb Kc.out
      have Jd := blk_below hb Kd.out
      have hbw' := below_call hbw hb
      clear ca0 ca1 fa0 fa1 la na Ka cb0 cb1 fb0 fb1 lb nb Kb cc0 cc1 fc0 fc1 lc nc Kc cd0 cd1 fd0 fd1 ld nd Kd hbw hb
      have hbw := hbw'
      clear hbw'
      obtain ⟨ca0, ca1, fa0, fa1⟩ := two_cells Ja
      have la := lt_of_block Ja
      have na : w21.heap.size ≠ w27.heap.size := by omega
      have Ka := Lib.hid Ja
      clear Ja
      obtain ⟨cb0, cb1, fb0, fb1⟩ := two_cells Jb
      have lb := lt_of_block Jb
      have nb : w22.heap.size ≠ w27.heap.size := by omega
      have Kb := Lib.hid Jb
      clear Jb
      obtain ⟨cc0, cc1, fc0, fc1⟩ := two_cells Jc
      have lc := lt_of_block Jc
      have nc : w23.heap.size ≠ w27.heap.size := by omega
      have Kc := Lib.hid Jc
      clear Jc
      obtain ⟨cd0, cd1, fd0, fd1⟩ := two_cells Jd
      have ld := lt_of_block Jd
      have nd : w24.heap.size ≠ w27.heap.size := by omega
      have Kd := Lib.hid Jd
      clear Jd
      go_wp2_with fail
      refine (ni_1 _).mono ?_
      rintro e w28 ⟨rfl, hb⟩
      have Ja := blk_below hb Ka.out
      have Jb := blk_below hb Kb.out
      have Jc := blk_below hb Kc.out
      have Jd := blk_below hb Kd.out
      have hbw' := below_call hbw hb
      clear ca0 ca1 fa0 fa1 la na Ka cb0 cb1 fb0 fb1 lb nb Kb cc0 cc1 fc0 fc1 lc nc Kc cd0 cd1 fd0 fd1 ld nd Kd hbw hb
      have hbw := hbw'
      clear hbw'
      obtain ⟨ca0, ca1, fa0, fa1⟩ := two_cells Ja
      have la := lt_of_block Ja
      have na : w21.heap.size ≠ w28.heap.size := by omega
      have Ka := Lib.hid Ja
      clear Ja
      obtain ⟨cb0, cb1, fb0, fb1⟩ := two_cells Jb
      have lb := lt_of_block Jb
      have nb : w22.heap.size ≠ w28.heap.size := by omega
      have Kb := Lib.hid Jb
      clear Jb
      obtain ⟨cc0, cc1, fc0, fc1⟩ := two_cells Jc
      have lc := lt_of_block Jc
      have nc : w23.heap.size ≠ w28.heap.size := by omega
      have Kc := Lib.hid Jc
      clear Jc
      obtain ⟨cd0, cd1, fd0, fd1⟩ := two_cells Jd
      have ld := lt_of_block Jd
      have nd : w24.heap.size ≠ w28.heap.size := by omega
      have Kd := Lib.hid Jd
      clear Jd
      go_wp2_with fail
      refine (ni_2 _).mono ?_
      rintro e w29 ⟨rfl, hb⟩
      have Ja := blk_below hb Ka.out
      have Jb := blk_below hb Kb.out
      have Jc := blk_below hb Kc.out
      have Jd := blk_below hb Kd.out
      have hbw' := below_call hbw hb
      clear ca0 ca1 fa0 fa1 la na Ka cb0 cb1 fb0 fb1 lb nb Kb cc0 cc1 fc0 fc1 lc nc Kc cd0 cd1 fd0 fd1 ld nd Kd hbw hb
      have hbw := hbw'
      clear hbw'
      obtain ⟨ca0, ca1, fa0, fa1⟩ := two_cells Ja
      have la := lt_of_block Ja
      have na : w21.heap.size ≠ w29.heap.size := by omega
      have Ka := Lib.hid Ja
      clear Ja
      obtain ⟨cb0, cb1, fb0, fb1⟩ := two_cells Jb
      have lb := lt_of_block Jb
      have nb : w22.heap.size ≠ w29.heap.size := by omega
      have Kb := Lib.hid Jb
      clear Jb
      obtain ⟨cc0, cc1, fc0, fc1⟩ := two_cells Jc
      have lc := lt_of_block Jc
      have nc : w23.heap.size ≠ w29.heap.size := by omega
      have Kc := Lib.hid Jc
      clear Jc
      obtain ⟨cd0, cd1, fd0, fd1⟩ := two_cells Jd
      have ld := lt_of_block Jd
      have nd : w24.heap.size ≠ w29.heap.size := by omega
      have Kd := Lib.hid Jd
      clear Jd
      go_wp2_with fail
      refine (ni_3 _).mono ?_
      rintro e w30 ⟨rfl, hb⟩
      have Ja := blk_below hb Ka.out
      have Jb := blk_below hb Kb.out
      have Jc := blk_below hb Kc.out
      have Jd := blk_below hb Kd.out
      have hbw' := below_call hbw hb
      clear ca0 ca1 fa0 fa1 la na Ka cb0 cb1 fb0 fb1 lb nb Kb cc0 cc1 fc0 fc1 lc nc Kc cd0 cd1 fd0 fd1 ld nd Kd hbw hb
      have hbw := hbw'
      clear hbw'
      obtain ⟨ca0, ca1, fa0, fa1⟩ := two_cells Ja
      have la := lt_of_block Ja
      have na : w21.heap.size ≠ w30.heap.size := by omega
      have Ka := Lib.hid Ja
      clear Ja
      obtain ⟨cb0, cb1, fb0, fb1⟩ := two_cells Jb
      have lb := lt_of_block Jb
      have nb : w22.heap.size ≠ w30.heap.size := by omega
      have Kb := Lib.hid Jb
      clear Jb
      obtain ⟨cc0, cc1, fc0, fc1⟩ := two_cells Jc
      have lc := lt_of_block Jc
      have nc : w23.heap.size ≠ w30.heap.size := by omega
      have Kc := Lib.hid Jc
      clear Jc
      obtain ⟨cd0, cd1, fd0, fd1⟩ := two_cells Jd
      have ld := lt_of_block Jd
      have nd : w24.heap.size ≠ w30.heap.size := by omega
      have Kd := Lib.hid Jd
      clear Jd
      go_wp2_with fail
      refine (nw_0 _).mono ?_
      rintro e w31 ⟨rfl, hb⟩
      have Ja := blk_below hb Ka.out
      have Jb := blk_below hb Kb.out
      have Jc := blk_below hb Kc.out
      have Jd := blk_below hb Kd.out
      have hbw' := below_call hbw hb
      clear ca0 ca1 fa0 fa1 la na Ka cb0 cb1 fb0 fb1 lb nb Kb cc0 cc1 fc0 fc1 lc nc Kc cd0 cd1 fd0 fd1 ld nd Kd hbw hb
      have hbw := hbw'
      clear hbw'
      obtain ⟨ca0, ca1, fa0, fa1⟩ := two_cells Ja
      have la := lt_of_block Ja
      have na : w21.heap.size ≠ w31.heap.size := by omega
      have Ka := Lib.hid Ja
      clear Ja
      obtain ⟨cb0, cb1, fb0, fb1⟩ := two_cells Jb
      have lb := lt_of_block Jb
      have nb : w22.heap.size ≠ w31.heap.size := by omega
      have Kb := Lib.hid Jb
      clear Jb
      obtain ⟨cc0, cc1, fc0, fc1⟩ := two_cells Jc
      have lc := lt_of_block Jc
      have nc : w23.heap.size ≠ w31.heap.size := by omega
      have Kc := Lib.hid Jc
      clear Jc
      obtain ⟨cd0, cd1, fd0, fd1⟩ := two_cells Jd
      have ld := lt_of_block Jd
      have nd : w24.heap.size ≠ w31.heap.size := by omega
      have Kd := Lib.hid Jd
      clear Jd
      go_wp2_with fail
      refine (nh_0 _).mono ?_
      rintro e w32 ⟨rfl, hb⟩
      have Ja := blk_below hb Ka.out
      have Jb := blk_below hb Kb.out
      have Jc := blk_below hb Kc.out
      have Jd := blk_below hb Kd.out
      have hbw' := below_call hbw hb
      clear ca0 ca1 fa0 fa1 la na Ka cb0 cb1 fb0 fb1 lb nb Kb cc0 cc1 fc0 fc1 lc nc Kc cd0 cd1 fd0 fd1 ld nd Kd hbw hb
      have hbw := hbw'
      clear hbw'
      obtain ⟨ca0, ca1, fa0, fa1⟩ := two_cells Ja
      have la := lt_of_block Ja
      have na : w21.heap.size ≠ w32.heap.size := by omega
      have Ka := Lib.hid Ja
      clear Ja
      obtain ⟨cb0, cb1, fb0, fb1⟩ := two_cells Jb
      have lb := lt_of_block Jb
      have nb : w22.heap.size ≠ w32.heap.size := by omega
      have Kb := Lib.hid Jb
      clear Jb
      obtain ⟨cc0, cc1, fc0, fc1⟩ := two_cells Jc
      have lc := lt_of_block Jc
      have nc : w23.heap.size ≠ w32.heap.size := by omega
      have Kc := Lib.hid Jc
      clear Jc
      obtain ⟨cd0, cd1, fd0, fd1⟩ := two_cells Jd
      have ld := lt_of_block Jd
      have nd : w24.heap.size ≠ w32.heap.size := by omega
      have Kd := Lib.hid Jd
      clear Jd
      
      go_wp2_with fail
      refine (ne_0 _).mono ?_
      rintro e w33 ⟨rfl, hb⟩
      have Ja := blk_below hb ((Below.heap_alloc _ _ _ (by first | omega | (simp; omega))).trans ((Below.heap_alloc _ _ _ (by first | omega | (simp; omega))).trans Ka.out))
      have Jb := blk_below hb ((Below.heap_alloc _ _ _ (by first | omega | (simp; omega))).trans ((Below.heap_alloc _ _ _ (by first | omega | (simp; omega))).trans Kb.out))
      have Jc := blk_below hb ((Below.heap_alloc _ _ _ (by first | omega | (simp; omega))).trans ((Below.heap_alloc _ _ _ (by first | omega | (simp; omega))).trans Kc.out))
      have Jd := blk_below hb ((Below.heap_alloc _ _ _ (by first | omega | (simp; omega))).trans ((Below.heap_alloc _ _ _ (by first | omega | (simp; omega))).trans Kd.out))
      have Jg := blk_below hb (blk2 w32 (.cells #[.int .u32 0, .int .i64 0] 25) (.cells #[.int .u32 0, .int .i64 0] 25)).1
      have Jh := blk_below hb (blk2 w32 (.cells #[.int .u32 0, .int .i64 0] 25) (.cells #[.int .u32 0, .int .i64 0] 25)).2
      have hbw' := below_call ((hbw.alloc (le_up hbw) _).alloc (le_up (hbw.alloc (le_up hbw) _)) _) hb
      clear ca0 ca1 fa0 fa1 la na Ka cb0 cb1 fb0 fb1 lb nb Kb cc0 cc1 fc0 fc1 lc nc Kc cd0 cd1 fd0 fd1 ld nd Kd hbw hb
      have hbw := hbw'
      clear hbw'
      obtain ⟨ca0, ca1, fa0, fa1⟩ := two_cells Ja
      have la := lt_of_block Ja
      have na : w21.heap.size ≠ w33.heap.size := by omega
      have Ka := Lib.hid Ja
      clear Ja
      obtain ⟨cb0, cb1, fb0, fb1⟩ := two_cells Jb
      have lb := lt_of_block Jb
      have nb : w22.heap.size ≠ w33.heap.size := by omega
      have Kb := Lib.hid Jb
      clear Jb
      obtain ⟨cc0, cc1, fc0, fc1⟩ := two_cells Jc
      have lc := lt_of_block Jc
      have nc : w23.heap.size ≠ w33.heap.size := by omega
      have Kc := Lib.hid Jc
      clear Jc
      obtain ⟨cd0, cd1, fd0, fd1⟩ := two_cells Jd
      have ld := lt_of_block Jd
      have nd : w24.heap.size ≠ w33.heap.size := by omega
      have Kd := Lib.hid Jd
      clear Jd
      obtain ⟨cg0, cg1, fg0, fg1⟩ := two_cells Jg
      have lg := lt_of_block Jg
      have ng : w32.heap.size ≠ w33.heap.size := by omega
      have Kg := Lib.hid Jg
      clear Jg
      obtain ⟨ch0, ch1, fh0, fh1⟩ := two_cells Jh
      have lh := lt_of_block Jh
      have nh : w32.heap.size + 1 ≠ w33.heap.size := by omega
      have Kh := Lib.hid Jh
      clear Jh
      go_wp2_with fail
      refine (cut_any 0 4294967295 _ (by omega) (by omega) (by omega)).mono ?_
      rintro e w34 ⟨v, rfl, hown, hb⟩
      have Ja := blk_below hb Ka.out
      have Jb := blk_below hb Kb.out
      have Jc := blk_below hb Kc.out
      have Jd := blk_below hb Kd.out
      have Jg := blk_below hb Kg.out
      have Jh := blk_below hb Kh.out
      have hbw' := below_call hbw hb
      clear ca0 ca1 fa0 fa1 la na Ka cb0 cb1 fb0 fb1 lb nb Kb cc0 cc1 fc0 fc1 lc nc Kc cd0 cd1 fd0 fd1 ld nd Kd cg0 cg1 fg0 fg1 lg ng Kg ch0 ch1 fh0 fh1 lh nh Kh hbw hb
      have hbw := hbw'
      clear hbw'
      obtain ⟨ca0, ca1, fa0, fa1⟩ := two_cells Ja
      have la := lt_of_block Ja
      have na : w21.heap.size ≠ w34.heap.size := by omega
      have Ka := Lib.hid Ja
      clear Ja
      obtain ⟨cb0, cb1, fb0, fb1⟩ := two_cells Jb
      have lb := lt_of_block Jb
      have nb : w22.heap.size ≠ w34.heap.size := by omega
      have Kb := Lib.hid Jb
      clear Jb
      obtain ⟨cc0, cc1, fc0, fc1⟩ := two_cells Jc
      have lc := lt_of_block Jc
      have nc : w23.heap.size ≠ w34.heap.size := by omega
      have Kc := Lib.hid Jc
      clear Jc
      obtain ⟨cd0, cd1, fd0, fd1⟩ := two_cells Jd
      have ld := lt_of_block Jd
      have nd : w24.heap.size ≠ w34.heap.size := by omega
      have Kd := Lib.hid Jd
      clear Jd
      obtain ⟨cg0, cg1, fg0, fg1⟩ := two_cells Jg
      have lg := lt_of_block Jg
      have ng : w32.heap.size ≠ w34.heap.size := by omega
      have Kg := Lib.hid Jg
      clear Jg
      obtain ⟨ch0, ch1, fh0, fh1⟩ := two_cells Jh
      have lh := lt_of_block Jh
      have nh : w32.heap.size + 1 ≠ w34.heap.size := by omega
      have Kh := Lib.hid Jh
      clear Jh
      obtain ⟨A1, d1, rfl, hcap1⟩ := (Rd.of_own hown).form
      rw [cut_c0] at hcap1 ⊢
      clear hown
      go_wp2_with fail
      refine (cut_any 1 4294967294 _ (by omega) (by omega) (by omega)).mono ?_
      rintro e w35 ⟨v, rfl, hown, hb⟩
      have Ja := blk_below hb Ka.out
      have Jb := blk_below hb Kb.out
      have Jc := blk_below hb Kc.out
      have Jd := blk_below hb Kd.out
      have Jg := blk_below hb Kg.out
      have Jh := blk_below hb Kh.out
      have hbw' := below_call hbw hb
      clear ca0 ca1 fa0 fa1 la na Ka cb0 cb1 fb0 fb1 lb nb Kb cc0 cc1 fc0 fc1 lc nc Kc cd0 cd1 fd0 fd1 ld nd Kd cg0 cg1 fg0 fg1 lg ng Kg ch0 ch1 fh0 fh1 lh nh Kh hbw hb
      have hbw := hbw'
      clear hbw'
      obtain ⟨ca0, ca1, fa0, fa1⟩ := two_cells Ja
      have la := lt_of_block Ja
      have na : w21.heap.size ≠ w35.heap.size := by omega
      have Ka := Lib.hid Ja
      clear Ja
      obtain ⟨cb0, cb1, fb0, fb1⟩ := two_cells Jb
      have lb := lt_of_block Jb
      have nb : w22.heap.size ≠ w35.heap.size := by omega
      have Kb := Lib.hid Jb
      clear Jb
      obtain ⟨cc0, cc1, fc0, fc1⟩ := two_cells Jc
      have lc := lt_of_block Jc
      have nc : w23.heap.size ≠ w35.heap.size := by omega
      have Kc := Lib.hid Jc
      clear Jc
      obtain ⟨cd0, cd1, fd0, fd1⟩ := two_cells Jd
      have ld := lt_of_block Jd
      have nd : w24.heap.size ≠ w35.heap.size := by omega
      have Kd := Lib.hid Jd
      clear Jd
      obtain ⟨cg0, cg1, fg0, fg1⟩ := two_cells Jg
      have lg := lt_of_block Jg
      have ng : w32.heap.size ≠ w35.heap.size := by omega
      have Kg := Lib.hid Jg
      clear Jg
      obtain ⟨ch0, ch1, fh0, fh1⟩ := two_cells Jh
      have lh := lt_of_block Jh
      have nh : w32.heap.size + 1 ≠ w35.heap.size := by omega
      have Kh := Lib.hid Jh
      clear Jh
      obtain ⟨A2, d2, rfl, hcap2⟩ := (Rd.of_own hown).form
      rw [cut_c1] at hcap2 ⊢
      clear hown
      go_wp2_with fail
      refine (nc_2 _).mono ?_
      rintro e w36 ⟨rfl, hb⟩
      have Ja := blk_below hb Ka.out
      have Jb := blk_below hb Kb.out
      have Jc := blk_below hb Kc.out
      have Jd := blk_below hb Kd.out
      have Jg := blk_below hb Kg.out
      have Jh := blk_below hb Kh.out
      have hbw' := below_call hbw hb
      clear ca0 ca1 fa0 fa1 la na Ka cb0 cb1 fb0 fb1 lb nb Kb cc0 cc1 fc0 fc1 lc nc Kc cd0 cd1 fd0 fd1 ld nd Kd cg0 cg1 fg0 fg1 lg ng Kg ch0 ch1 fh0 fh1 lh nh Kh hbw hb
      have hbw := hbw'
      clear hbw'
      obtain ⟨ca0, ca1, fa0, fa1⟩ := two_cells Ja
      have la := lt_of_block Ja
      have na : w21.heap.size ≠ w36.heap.size := by omega
      have Ka := Lib.hid Ja
      clear Ja
      obtain ⟨cb0, cb1, fb0, fb1⟩ := two_cells Jb
      have lb := lt_of_block Jb
      have nb : w22.heap.size ≠ w36.heap.size := by omega
      have Kb := Lib.hid Jb
      clear Jb
      obtain ⟨cc0, cc1, fc0, fc1⟩ := two_cells Jc
      have lc := lt_of_block Jc
      have nc : w23.heap.size ≠ w36.heap.size := by omega
      have Kc := Lib.hid Jc
      clear Jc
      obtain ⟨cd0, cd1, fd0, fd1⟩ := two_cells Jd
      have ld := lt_of_block Jd
      have nd : w24.heap.size ≠ w36.heap.size := by omega
      have Kd := Lib.hid Jd
      clear Jd
      obtain ⟨cg0, cg1, fg0, fg1⟩ := two_cells Jg
      have lg := lt_of_block Jg
      have ng : w32.heap.size ≠ w36.heap.size := by omega
      have Kg := Lib.hid Jg
      clear Jg
      obtain ⟨ch0, ch1, fh0, fh1⟩ := two_cells Jh
      have lh := lt_of_block Jh
      have nh : w32.heap.size + 1 ≠ w36.heap.size := by omega
      have Kh := Lib.hid Jh
      clear Jh
      go_wp2_with fail
      refine (nt_0 _ (hE.below hbw)).mono ?_
      rintro e w37 ⟨rfl, hb⟩
      have Ja := blk_below hb Ka.out
      have Jb := blk_below hb Kb.out
      have Jc := blk_below hb Kc.out
      have Jd := blk_below hb Kd.out
      have Jg := blk_below hb Kg.out
      have Jh := blk_below hb Kh.out
      have hbw' := below_call hbw hb
      clear ca0 ca1 fa0 fa1 la na Ka cb0 cb1 fb0 fb1 lb nb Kb cc0 cc1 fc0 fc1 lc nc Kc cd0 cd1 fd0 fd1 ld nd Kd cg0 cg1 fg0 fg1 lg ng Kg ch0 ch1 fh0 fh1 lh nh Kh hbw hb
      have hbw := hbw'
      clear hbw'
      obtain ⟨ca0, ca1, fa0, fa1⟩ := two_cells Ja
      have la := lt_of_block Ja
      have na : w21.heap.size ≠ w37.heap.size := by omega
      have Ka := Lib.hid Ja
      clear Ja
      obtain ⟨cb0, cb1, fb0, fb1⟩ := two_cells Jb
      have lb := lt_of_block Jb
      have nb : w22.heap.size ≠ w37.heap.size := by omega
      have Kb := Lib.hid Jb
      clear Jb
      obtain ⟨cc0, cc1, fc0, fc1⟩ := two_cells Jc
      have lc := lt_of_block Jc
      have nc : w23.heap.size ≠ w37.heap.size := by omega
      have Kc := Lib.hid Jc
      clear Jc
      obtain ⟨cd0, cd1, fd0, fd1⟩ := two_cells Jd
      have ld := lt_of_block Jd
      have nd : w24.heap.size ≠ w37.heap.size := by omega
      have Kd := Lib.hid Jd
      clear Jd
      obtain ⟨cg0, cg1, fg0, fg1⟩ := two_cells Jg
      have lg := lt_of_block Jg
      have ng : w32.heap.size ≠ w37.heap.size := by omega
      have Kg := Lib.hid Jg
      clear Jg
      obtain ⟨ch0, ch1, fh0, fh1⟩ := two_cells Jh
      have lh := lt_of_block Jh
      have nh : w32.heap.size + 1 ≠ w37.heap.size := by omega
      have Kh := Lib.hid Jh
      clear Jh
      go_wp2
      go_ret
      exact ⟨rfl, hbw⟩
end Go.Proofs.YtdlhpiknifcehaaDoor
