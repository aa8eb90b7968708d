/-
  The walk of the law AddrBack (written by wip/gen/genback.py).
-/
import Derived.Test.YtdlhpiknifcehaaDoorBackMath
import Derived.Deep.DeepCutAuto
namespace Go.Proofs.YtdlhpiknifcehaaDoor
open Go Go.RowKit Go.Sort

theorem pb_1 (a : Nat) (h : a < 4294967296) (w : World) (hE : Env w) : Calls Tryd.prog 12 #[.string (textA a)] w fun e w' => e = .returned (.tuple #[.int .u32 a, .int .i64 0]) ∧ Below w.heap.size w w' := by
  have hs := textA_size a
  have hc := addrParse_any (textA a) w hE (by omega)
  rw [parse_text a h] at hc
  exact hc
theorem textP_size (a n : Nat) (hn : n ≤ 32) : (textP a n).size ≤ 40 := by
  have h1 := textA_size a
  have h2 := textP_list a n
  have e1 : (textP a n).size = (textP a n).data.toList.length := (Array.length_toList).symm
  have e2 : (textA a).size = (textA a).data.toList.length := (Array.length_toList).symm
  rw [e1, h2, List.length_append, List.length_cons, dec3_eq (by omega), ← e2]
  have := dec3_len n
  omega
theorem pb_2 (a n : Nat) (h : a < 4294967296) (hn : n ≤ 32) (hk : chk a n = 0) (w : World) (hE : Env w) : Calls Tryd.prog 14 #[.string (textP a n)] w fun e w' => e = .returned (.tuple #[.agg #[.int .u32 a, .int .i64 n], .int .i64 0]) ∧ Below w.heap.size w w' := by
  have hs := textP_size a n hn
  have hc := parsePrefix_any (textP a n) w hE (by omega)
  have hp := pp_yes (prefix_text a n h hn) hk
  rw [hp.1, hp.2.1, hp.2.2] at hc
  exact hc
theorem pb_3 (n : Nat) (hn : n ≤ 32) (w : World) : Calls Tryd.prog 22 #[.int .i64 n] w fun e w' => e = .returned (.tuple #[.int .u32 (maskA n), .int .i64 0]) ∧ Below w.heap.size w w' :=
  (addrMask_any n w).mono fun e w' ⟨he, hw⟩ => ⟨by rw [he, (mask_yes (n := n) (by omega) (by omega)).2], hw ▸ Below.refl _ _⟩
theorem pb_4 (n : Nat) (hn : n ≤ 32) (w : World) : Calls Tryd.prog 37 #[.int .u32 (maskA n)] w fun e w' => e = .returned (.tuple #[.int .i64 n, .int .i64 0]) ∧ Below w.heap.size w w' :=
  (addrBits_any (maskA n) w (mask_range n).1 (mask_range n).2).mono fun e w' ⟨he, hw⟩ => ⟨by rw [he, (bits_mask n (by omega) (by omega)).1, (bits_mask n (by omega) (by omega)).2], hw ▸ Below.refl _ _⟩
theorem pb_5 (a n : Int) (w : World) : Calls Tryd.prog 16 #[.agg #[.int .u32 a, .int .i64 n], .agg #[.int .u32 a, .int .i64 n]] w fun e w' => e = .returned (.bool true) ∧ Below w.heap.size w w' := by
  have h := same_any2 a n a n w
  rw [show decide (a = a ∧ n = n) = true by simp] at h
  exact h

set_option maxRecDepth 100000 in
set_option maxHeartbeats 4000000 in
theorem lawBack_any (a : Nat) (n : Int) (s : ByteArray) (w : World) (hE : Env w) (ha : a < 4294967296) (hs : s.size < 4294967281) :
    Calls Tryd.prog 6 #[.int .u32 a, .int .i64 n, .string s] w fun e w' => e = .returned (.bool true) ∧ Below w.heap.size w w' := by
  go_enter Tryd.func6, Tryd.ntmps6
  go_wp2_with fail
  refine (works_any w hE).mono ?_
  rintro e w1 ⟨rfl, hb⟩
  have hbw' := below_call (Below.refl _ _) hb
  clear hb
  have hbw := hbw'
  clear hbw'
  go_wp2_with fail
  refine (fit_any a n _ (by omega) (by omega)).mono ?_
  rintro e w2 ⟨rfl, hb⟩
  have hbw' := below_call hbw hb
  clear hbw hb
  have hbw := hbw'
  clear hbw'
  have hP := fit_chk a n
  have pr := sub_range a (fitN n) (by omega) (by omega)
  have nr := fitN_range n
  generalize subA a (fitN n) = A at *
  generalize fitN n = N at *
  obtain ⟨A, rfl⟩ := Int.eq_ofNat_of_zero_le pr.1
  obtain ⟨N, rfl⟩ := Int.eq_ofNat_of_zero_le nr.1
  have hA : A < 4294967296 := by omega
  have hN : N ≤ 32 := by omega
  have HP := Lib.hid hP
  clear hP pr nr
  go_wp2_with fail
  refine (addrText_any a ha _ (hE.below (hbw.alloc hbw.size _))).mono ?_
  rintro e w3 ⟨rfl, hb⟩
  have Jp := blk_below hb (heap_alloc_new w2 (.cells #[.int .u32 (A : Int), .int .i64 (N : Int)] 25))
  have hbw' := below_call (hbw.alloc (le_up hbw) _) hb
  clear hbw hb
  have hbw := hbw'
  clear hbw'
  obtain ⟨cp0, cp1, fp0, fp1⟩ := two_cells Jp
  have lp := lt_of_block Jp
  have np : w2.heap.size ≠ w3.heap.size := by omega
  have Kp := Lib.hid Jp
  clear Jp
  go_wp2_with fail
  refine (pb_1 a ha _ (hE.below hbw)).mono ?_
  rintro e w4 ⟨rfl, hb⟩
  have Jp := blk_below hb Kp.out
  have hbw' := below_call hbw hb
  clear cp0 cp1 fp0 fp1 lp np Kp hbw hb
  have hbw := hbw'
  clear hbw'
  obtain ⟨cp0, cp1, fp0, fp1⟩ := two_cells Jp
  have lp := lt_of_block Jp
  have np : w2.heap.size ≠ w4.heap.size := by omega
  have Kp := Lib.hid Jp
  clear Jp
  go_wp2_with fail
  refine (prefixText_any A N hA (by omega) (by omega) _ (hE.below hbw)).mono ?_
  rintro e w5 ⟨rfl, hb⟩
  have Jp := blk_below hb Kp.out
  have hbw' := below_call hbw hb
  clear cp0 cp1 fp0 fp1 lp np Kp hbw hb
  have hbw := hbw'
  clear hbw'
  obtain ⟨cp0, cp1, fp0, fp1⟩ := two_cells Jp
  have lp := lt_of_block Jp
  have np : w2.heap.size ≠ w5.heap.size := by omega
  have Kp := Lib.hid Jp
  clear Jp
  go_wp2_with fail
  refine (pb_2 A N hA hN HP.out _ (hE.below hbw)).mono ?_
  rintro e w6 ⟨rfl, hb⟩
  have Jp := blk_below hb Kp.out
  have hbw' := below_call hbw hb
  clear cp0 cp1 fp0 fp1 lp np Kp hbw hb
  have hbw := hbw'
  have hgq0 : w.heap.size ≤ w6.heap.size := hbw.size
  clear hbw'
  obtain ⟨cp0, cp1, fp0, fp1⟩ := two_cells Jp
  have lp := lt_of_block Jp
  have np : w2.heap.size ≠ w6.heap.size := by omega
  have Kp := Lib.hid Jp
  clear Jp
  go_wp2_with fail
  refine (pb_3 N hN _).mono ?_
  rintro e w7 ⟨rfl, hb⟩
  have Jp := blk_below hb ((Below.heap_alloc _ _ _ (by first | omega | (simp; omega))).trans Kp.out)
  have Jq := blk_below hb (heap_alloc_new w6 (.cells #[.int .u32 (A : Int), .int .i64 (N : Int)] 25))
  have hbw' := below_call (hbw.alloc (le_up hbw) _) hb
  clear cp0 cp1 fp0 fp1 lp np Kp hbw hb
  have hbw := hbw'
  clear hbw'
  obtain ⟨cp0, cp1, fp0, fp1⟩ := two_cells Jp
  have lp := lt_of_block Jp
  have np : w2.heap.size ≠ w7.heap.size := by omega
  have Kp := Lib.hid Jp
  clear Jp
  obtain ⟨cq0, cq1, fq0, fq1⟩ := two_cells Jq
  have lq := lt_of_block Jq
  have nq : w6.heap.size ≠ w7.heap.size := by omega
  have Kq := Lib.hid Jq
  clear Jq
  go_wp2_with fail
  refine (pb_4 N hN _).mono ?_
  rintro e w8 ⟨rfl, hb⟩
  have Jp := blk_below hb Kp.out
  have Jq := blk_below hb Kq.out
  have hbw' := below_call hbw hb
  clear cp0 cp1 fp0 fp1 lp np Kp cq0 cq1 fq0 fq1 lq nq Kq hbw hb
  have hbw := hbw'
  clear hbw'
  obtain ⟨cp0, cp1, fp0, fp1⟩ := two_cells Jp
  have lp := lt_of_block Jp
  have np : w2.heap.size ≠ w8.heap.size := by omega
  have Kp := Lib.hid Jp
  clear Jp
  obtain ⟨cq0, cq1, fq0, fq1⟩ := two_cells Jq
  have lq := lt_of_block Jq
  have nq : w6.heap.size ≠ w8.heap.size := by omega
  have Kq := Lib.hid Jq
  clear Jq
  go_wp2_with fail
  refine (pb_5 A N _).mono ?_
  rintro e w9 ⟨rfl, hb⟩
  have Jp := blk_below hb Kp.out
  have Jq := blk_below hb Kq.out
  have hbw' := below_call hbw hb
  clear cp0 cp1 fp0 fp1 lp np Kp cq0 cq1 fq0 fq1 lq nq Kq hbw hb
  have hbw := hbw'
  clear hbw'
  obtain ⟨cp0, cp1, fp0, fp1⟩ := two_cells Jp
  have lp := lt_of_block Jp
  have np : w2.heap.size ≠ w9.heap.size := by omega
  have Kp := Lib.hid Jp
  clear Jp
  obtain ⟨cq0, cq1, fq0, fq1⟩ := two_cells Jq
  have lq := lt_of_block Jq
  have nq : w6.heap.size ≠ w9.heap.size := by omega
  have Kq := Lib.hid Jq
  clear Jq
  go_wp2_with fail
  refine (addrParse_any s _ (hE.below hbw) hs).mono ?_
  rintro e w10 ⟨rfl, hb⟩
  have Jp := blk_below hb Kp.out
  have Jq := blk_below hb Kq.out
  have hbw' := below_call hbw hb
  clear cp0 cp1 fp0 fp1 lp np Kp cq0 cq1 fq0 fq1 lq nq Kq hbw hb
  have hbw := hbw'
  clear hbw'
  obtain ⟨cp0, cp1, fp0, fp1⟩ := two_cells Jp
  have lp := lt_of_block Jp
  have np : w2.heap.size ≠ w10.heap.size := by omega
  have Kp := Lib.hid Jp
  clear Jp
  obtain ⟨cq0, cq1, fq0, fq1⟩ := two_cells Jq
  have lq := lt_of_block Jq
  have nq : w6.heap.size ≠ w10.heap.size := by omega
  have Kq := Lib.hid Jq
  clear Jq
  go_wp2_with fail
  refine (parsePrefix_any s _ (hE.below hbw) hs).mono ?_
  rintro e w11 ⟨rfl, hb⟩
  have Jp := blk_below hb Kp.out
  have Jq := blk_below hb Kq.out
  have hbw' := below_call hbw hb
  clear cp0 cp1 fp0 fp1 lp np Kp cq0 cq1 fq0 fq1 lq nq Kq hbw hb
  have hbw := hbw'
  clear hbw'
  obtain ⟨cp0, cp1, fp0, fp1⟩ := two_cells Jp
  have lp := lt_of_block Jp
  have np : w2.heap.size ≠ w11.heap.size := by omega
  have Kp := Lib.hid Jp
  clear Jp
  obtain ⟨cq0, cq1, fq0, fq1⟩ := two_cells Jq
  have lq := lt_of_block Jq
  have nq : w6.heap.size ≠ w11.heap.size := by omega
  have Kq := Lib.hid Jq
  clear Jq
  have hgq : w.heap.size ≤ w6.heap.size := hgq0
  have Ks : ((w11.setCell ⟨w6.heap.size, 0, none⟩ (.int .u32 (ppA s.data.toList))).setCell ⟨w6.heap.size, 1, none⟩ (.int .i64 (ppN s.data.toList))).heap[w6.heap.size]? = some (.cells #[.int .u32 (ppA s.data.toList), .int .i64 (ppN s.data.toList)] 25 (0, 0)) := set_1 (set_0 Kq.out)
  have hbs := (hbw.setCell (p := ⟨w6.heap.size, 0, none⟩) hgq (.int .u32 (ppA s.data.toList))).setCell (p := ⟨w6.heap.size, 1, none⟩) hgq (.int .i64 (ppN s.data.toList))
  go_upto_region 12 with fail
  generalize (w11.setCell ⟨w6.heap.size, 0, none⟩ (.int .u32 (ppA s.data.toList))).setCell ⟨w6.heap.size, 1, none⟩ (.int .i64 (ppN s.data.toList)) = ws at *
  obtain ⟨e0, e1, _, _⟩ := two_cells Ks
  have HKs := Lib.hid Ks
  have hEs := hE.below hbs
  clear Ks hbw hgq hgq0 cp0 cp1 fp0 fp1 lp np Kp cq0 cq1 fq0 fq1 lq nq Kq
  have hA2 := pa_cases s.data.toList
  have hP2 := pp_cases s.data.toList
  generalize adE (parseB s.data.toList) = ea at *
  generalize adV (parseB s.data.toList) = va at *
  generalize ppE s.data.toList = ep at *
  generalize ppA s.data.toList = xa at *
  generalize ppN s.data.toList = xn at *
  have fin : ∀ (c : Nat) (v : World), c < 4294967296 → (textA c).data.toList = s.data.toList → Env v → Calls Tryd.prog 17 #[.int .u32 c] v fun e w' => e = .returned (.string s) ∧ Below v.heap.size v w' :=
    fun c v hc ht he => by have h := addrText_any c hc v he; rw [byte_ext ht] at h; exact h
  have fip : ∀ (c k : Nat) (v : World), c < 4294967296 → k ≤ 32 → (textP c k).data.toList = s.data.toList → Env v → Calls Tryd.prog 19 #[.agg #[.int .u32 c, .int .i64 k]] v fun e w' => e = .returned (.string s) ∧ Below v.heap.size v w' :=
    fun c k v hc hk ht he => by have h := prefixText_any c k hc (by omega) (by omega) v he; rw [byte_ext ht] at h; exact h
  have FN := Lib.hid fin
  have FP := Lib.hid fip
  clear fin fip
  rcases hA2 with ⟨rfl, rfl⟩ | ⟨c, rfl, rfl, hc, ht⟩
  · rcases hP2 with hep | ⟨x, k, rfl, rfl, rfl, hx, hk, htp⟩
    · have hne : (ep != 0) = true := by simp [hep]
      clear hep
      go_wp2
      go_ret
      exact ⟨rfl, hbs⟩
    · have HT := Lib.hid htp
      clear htp
      go_wp2_with fail
      refine (FP.out x k _ hx hk HT.out hEs).mono ?_
      rintro e v1 ⟨rfl, hb1⟩
      go_wp2
      go_ret
      exact ⟨rfl, hbs.trans (hb1.mono hbs.size)⟩
  · have HT := Lib.hid ht
    clear ht
    rcases hP2 with hep | ⟨x, k, rfl, rfl, rfl, hx, hk, htp⟩
    · have hne : (ep != 0) = true := by simp [hep]
      clear hep
      go_wp2_with fail
      refine (FN.out c _ hc HT.out hEs).mono ?_
      rintro e v1 ⟨rfl, hb1⟩
      go_wp2
      go_ret
      exact ⟨rfl, hbs.trans (hb1.mono hbs.size)⟩
    · have HT2 := Lib.hid htp
      clear htp
      go_wp2_with fail
      refine (FN.out c _ hc HT.out hEs).mono ?_
      rintro e v1 ⟨rfl, hb1⟩
      obtain ⟨d0, d1, _, _⟩ := two_cells (blk_below hb1 HKs.out)
      have hb1' := hbs.trans (hb1.mono hbs.size)
      go_wp2_with fail
      refine (FP.out x k _ hx hk HT2.out (hE.below hb1')).mono ?_
      rintro e v2 ⟨rfl, hb2⟩
      go_wp2
      go_ret
      exact ⟨rfl, hb1'.trans (hb2.mono hb1'.size)⟩
theorem lawBack_int (a n : Int) (s : ByteArray) (w : World) (hE : Env w) (h0 : 0 ≤ a) (h1 : a < 4294967296) (hs : s.size < 4294967281) :
    Calls Tryd.prog 6 #[.int .u32 a, .int .i64 n, .string s] w fun e w' => e = .returned (.bool true) ∧ Below w.heap.size w w' := by
  obtain ⟨a, rfl⟩ := Int.eq_ofNat_of_zero_le h0
  exact lawBack_any a n s w hE (by omega) hs
end Go.Proofs.YtdlhpiknifcehaaDoor
