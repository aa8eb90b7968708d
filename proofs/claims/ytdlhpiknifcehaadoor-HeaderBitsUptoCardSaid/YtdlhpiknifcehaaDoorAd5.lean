/-
  Walks over the addresses' laws: works.
-/
import Derived.Test.YtdlhpiknifcehaaDoorAd4
import Derived.Test.YtdlhpiknifcehaaDoorCut
import Derived.Test.YtdlhpiknifcehaaDoorAddr6
namespace Go.Proofs.YtdlhpiknifcehaaDoor
open Go Go.RowKit Go.Sort

theorem le_up {w W : World} (h : Below w.heap.size w W) : w.heap.size ≤ W.heap.size := h.size
theorem sub_24 : subA 167838211 24 = 167838208 ∧ subN 24 = 24 ∧ argE 24 = 0 := by decide +kernel
theorem pp_8 : ppA [49, 48, 46, 48, 46, 48, 46, 48, 47, 56] = 167772160 ∧ ppN [49, 48, 46, 48, 46, 48, 46, 48, 47, 56] = 8 ∧ ppE [49, 48, 46, 48, 46, 48, 46, 48, 47, 56] = 0 := by decide +kernel
theorem pa_8 : parseB [49, 48, 46, 49, 46, 50, 46, 51] = some 167838211 := by decide +kernel
theorem cut_8 : (cutP 167838211 167838212).length = 2 := by decide +kernel
theorem text_8 : textA 167838211 = ⟨#[49, 48, 46, 49, 46, 50, 46, 51]⟩ := by rw [textA_eq]; decide +kernel
theorem textp_8 : textP 167838208 24 = ⟨#[49, 48, 46, 49, 46, 50, 46, 48, 47, 50, 52]⟩ := by
  unfold textP
  rw [textA_eq, show Lib.itoa 24 = Lib.decDigits 24 from rfl, dec3_eq (by omega)]
  decide +kernel
theorem works_parse (w : World) (hE : Env w) : Calls Tryd.prog 12 #[.string ⟨#[49, 48, 46, 49, 46, 50, 46, 51]⟩] w fun e w' => e = .returned (.tuple #[.int .u32 167838211, .int .i64 0]) ∧ Below w.heap.size w w' := by
  have h := addrParse_any ⟨#[49, 48, 46, 49, 46, 50, 46, 51]⟩ w hE (by decide)
  rw [show parseB (⟨#[49, 48, 46, 49, 46, 50, 46, 51]⟩ : ByteArray).data.toList = some 167838211 from pa_8] at h
  exact h
theorem works_prefix (w : World) (hE : Env w) : Calls Tryd.prog 14 #[.string ⟨#[49, 48, 46, 48, 46, 48, 46, 48, 47, 56]⟩] w fun e w' => e = .returned (.tuple #[.agg #[.int .u32 167772160, .int .i64 8], .int .i64 0]) ∧ Below w.heap.size w w' := by
  have h := parsePrefix_any ⟨#[49, 48, 46, 48, 46, 48, 46, 48, 47, 56]⟩ w hE (by decide)
  rw [show ppA (⟨#[49, 48, 46, 48, 46, 48, 46, 48, 47, 56]⟩ : ByteArray).data.toList = 167772160 from pp_8.1, show ppN (⟨#[49, 48, 46, 48, 46, 48, 46, 48, 47, 56]⟩ : ByteArray).data.toList = 8 from pp_8.2.1, show ppE (⟨#[49, 48, 46, 48, 46, 48, 46, 48, 47, 56]⟩ : ByteArray).data.toList = 0 from pp_8.2.2] at h
  exact h
theorem works_subnet (w : World) : Calls Tryd.prog 60 #[.int .u32 167838211, .int .i64 24] w fun e w' => e = .returned (.tuple #[.agg #[.int .u32 167838208, .int .i64 24], .int .i64 0]) ∧ Below w.heap.size w w' := by
  have h := addrSubnet_any 167838211 24 w (by omega) (by omega)
  rw [sub_24.1, sub_24.2.1, sub_24.2.2] at h
  exact h
theorem works_text (w : World) (hE : Env w) : Calls Tryd.prog 17 #[.int .u32 167838211] w fun e w' => e = .returned (.string ⟨#[49, 48, 46, 49, 46, 50, 46, 51]⟩) ∧ Below w.heap.size w w' := by
  have h := addrText_any 167838211 (by omega) w hE
  rw [text_8] at h
  exact h
theorem works_ptext (w : World) (hE : Env w) : Calls Tryd.prog 19 #[.agg #[.int .u32 167838208, .int .i64 24]] w fun e w' => e = .returned (.string ⟨#[49, 48, 46, 49, 46, 50, 46, 48, 47, 50, 52]⟩) ∧ Below w.heap.size w w' := by
  have h := prefixText_any 167838208 24 (by omega) (by omega) (by omega) w hE
  rw [textp_8] at h
  exact h
theorem in_8 : inB 167838211 167772160 8 = true ∧ withinB 167838208 24 167772160 8 = true ∧ withinB 167772160 8 167838208 24 = false := by decide +kernel
theorem works_in (w : World) : Calls Tryd.prog 23 #[.int .u32 167838211, .agg #[.int .u32 167772160, .int .i64 8]] w fun e w' => e = .returned (.bool true) ∧ Below w.heap.size w w' := by
  have h := addrIn_any 167838211 167772160 8 w (by omega) (by omega) (by omega) (by omega)
  rw [in_8.1] at h
  exact h
theorem works_w1 (w : World) : Calls Tryd.prog 24 #[.agg #[.int .u32 167838208, .int .i64 24], .agg #[.int .u32 167772160, .int .i64 8]] w fun e w' => e = .returned (.bool true) ∧ Below w.heap.size w w' := by
  have h := addrWithin_any 167838208 24 167772160 8 w (by omega) (by omega) (by omega) (by omega)
  rw [in_8.2.1] at h
  exact h
theorem works_w2 (w : World) : Calls Tryd.prog 24 #[.agg #[.int .u32 167772160, .int .i64 8], .agg #[.int .u32 167838208, .int .i64 24]] w fun e w' => e = .returned (.bool false) ∧ Below w.heap.size w w' := by
  have h := addrWithin_any 167772160 8 167838208 24 w (by omega) (by omega) (by omega) (by omega)
  rw [in_8.2.2] at h
  exact h

set_option maxHeartbeats 2000000 in
theorem works_any (w : World) (hE : Env w) : Calls Tryd.prog 21 #[] w fun e w' => e = .returned (.bool true) ∧ Below w.heap.size w w' := by
  go_enter Tryd.func21, Tryd.ntmps21
  go_wp2_with fail
  refine (works_parse _ hE).mono ?_
  rintro e w1 ⟨rfl, hb⟩
  have hbw' := below_call (Below.refl _ _) hb
  clear hb
  have hbw := hbw'
  clear hbw'
  go_wp2_with fail
  refine (works_prefix _ (hE.below hbw)).mono ?_
  rintro e w2 ⟨rfl, hb⟩
  have hbw' := below_call hbw hb
  clear hbw hb
  have hbw := hbw'
  clear hbw'
  go_wp2_with fail
  refine (works_subnet _).mono ?_
  rintro e w3 ⟨rfl, hb⟩
  have Jp := blk_below hb (heap_alloc_new w2 (.cells #[.int .u32 167772160, .int .i64 8] 25))
  have hbw' := below_call (hbw.alloc (le_up hbw) _) hb
  clear hbw hb
  have hbw := hbw'
  clear hbw'
  obtain ⟨cp0, cp1, fp0, fp1⟩ := two_cells Jp
  have lp := lt_of_block Jp
  have np : w2.heap.size ≠ w3.heap.size := by omega
  have Kp := Lib.hid Jp
  clear Jp
  go_wp2_with fail
  refine (cut_any 167838211 167838212 _ (by omega) (by omega) (by omega)).mono ?_
  rintro e w4 ⟨v, rfl, hown, hb⟩
  have Jp := blk_below hb ((Below.heap_alloc _ _ _ (by first | omega | (simp; omega))).trans Kp.out)
  have Jq := blk_below hb (heap_alloc_new w3 (.cells #[.int .u32 167838208, .int .i64 24] 25))
  have hbw' := below_call (hbw.alloc (le_up hbw) _) hb
  clear cp0 cp1 fp0 fp1 lp np Kp hbw hb
  have hbw := hbw'
  clear hbw'
  obtain ⟨cp0, cp1, fp0, fp1⟩ := two_cells Jp
  have lp := lt_of_block Jp
  have np : w2.heap.size ≠ w4.heap.size := by omega
  have Kp := Lib.hid Jp
  clear Jp
  obtain ⟨cq0, cq1, fq0, fq1⟩ := two_cells Jq
  have lq := lt_of_block Jq
  have nq : w3.heap.size ≠ w4.heap.size := by omega
  have Kq := Lib.hid Jq
  clear Jq
  obtain ⟨A, c, rfl, hcap⟩ := (Rd.of_own hown).form
  rw [cut_8] at hcap ⊢
  clear hown
  go_wp2_with fail
  refine (works_in _).mono ?_
  rintro e w5 ⟨rfl, hb⟩
  have Jp := blk_below hb Kp.out
  have Jq := blk_below hb Kq.out
  have hbw' := below_call hbw hb
  clear cp0 cp1 fp0 fp1 lp np Kp cq0 cq1 fq0 fq1 lq nq Kq hbw hb
  have hbw := hbw'
  clear hbw'
  obtain ⟨cp0, cp1, fp0, fp1⟩ := two_cells Jp
  have lp := lt_of_block Jp
  have np : w2.heap.size ≠ w5.heap.size := by omega
  have Kp := Lib.hid Jp
  clear Jp
  obtain ⟨cq0, cq1, fq0, fq1⟩ := two_cells Jq
  have lq := lt_of_block Jq
  have nq : w3.heap.size ≠ w5.heap.size := by omega
  have Kq := Lib.hid Jq
  clear Jq
  go_wp2_with fail
  refine (works_w1 _).mono ?_
  rintro e w6 ⟨rfl, hb⟩
  have Jp := blk_below hb Kp.out
  have Jq := blk_below hb Kq.out
  have hbw' := below_call hbw hb
  clear cp0 cp1 fp0 fp1 lp np Kp cq0 cq1 fq0 fq1 lq nq Kq hbw hb
  have hbw := hbw'
  clear hbw'
  obtain ⟨cp0, cp1, fp0, fp1⟩ := two_cells Jp
  have lp := lt_of_block Jp
  have np : w2.heap.size ≠ w6.heap.size := by omega
  have Kp := Lib.hid Jp
  clear Jp
  obtain ⟨cq0, cq1, fq0, fq1⟩ := two_cells Jq
  have lq := lt_of_block Jq
  have nq : w3.heap.size ≠ w6.heap.size := by omega
  have Kq := Lib.hid Jq
  clear Jq
  go_wp2_with fail
  refine (works_w2 _).mono ?_
  rintro e w7 ⟨rfl, hb⟩
  have Jp := blk_below hb Kp.out
  have Jq := blk_below hb Kq.out
  have hbw' := below_call hbw hb
  clear cp0 cp1 fp0 fp1 lp np Kp cq0 cq1 fq0 fq1 lq nq Kq hbw hb
  have hbw := hbw'
  clear hbw'
  obtain ⟨cp0, cp1, fp0, fp1⟩ := two_cells Jp
  have lp := lt_of_block Jp
  have np : w2.heap.size ≠ w7.heap.size := by omega
  have Kp := Lib.hid Jp
  clear Jp
  obtain ⟨cq0, cq1, fq0, fq1⟩ := two_cells Jq
  have lq := lt_of_block Jq
  have nq : w3.heap.size ≠ w7.heap.size := by omega
  have Kq := Lib.hid Jq
  clear Jq
  go_wp2_with fail
  refine (works_text _ (hE.below hbw)).mono ?_
  rintro e w8 ⟨rfl, hb⟩
  have Jp := blk_below hb Kp.out
  have Jq := blk_below hb Kq.out
  have hbw' := below_call hbw hb
  clear cp0 cp1 fp0 fp1 lp np Kp cq0 cq1 fq0 fq1 lq nq Kq hbw hb
  have hbw := hbw'
  clear hbw'
  obtain ⟨cp0, cp1, fp0, fp1⟩ := two_cells Jp
  have lp := lt_of_block Jp
  have np : w2.heap.size ≠ w8.heap.size := by omega
  have Kp := Lib.hid Jp
  clear Jp
  obtain ⟨cq0, cq1, fq0, fq1⟩ := two_cells Jq
  have lq := lt_of_block Jq
  have nq : w3.heap.size ≠ w8.heap.size := by omega
  have Kq := Lib.hid Jq
  clear Jq
  go_wp2_with fail
  refine (works_ptext _ (hE.below hbw)).mono ?_
  rintro e w9 ⟨rfl, hb⟩
  have Jp := blk_below hb Kp.out
  have Jq := blk_below hb Kq.out
  have hbw' := below_call hbw hb
  clear cp0 cp1 fp0 fp1 lp np Kp cq0 cq1 fq0 fq1 lq nq Kq hbw hb
  have hbw := hbw'
  clear hbw'
  obtain ⟨cp0, cp1, fp0, fp1⟩ := two_cells Jp
  have lp := lt_of_block Jp
  have np : w2.heap.size ≠ w9.heap.size := by omega
  have Kp := Lib.hid Jp
  clear Jp
  obtain ⟨cq0, cq1, fq0, fq1⟩ := two_cells Jq
  have lq := lt_of_block Jq
  have nq : w3.heap.size ≠ w9.heap.size := by omega
  have Kq := Lib.hid Jq
  clear Jq
  go_wp2
  go_ret
  exact ⟨rfl, hbw⟩
end Go.Proofs.YtdlhpiknifcehaaDoor
