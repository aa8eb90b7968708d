/-
  The walk of the law AddrTexts (written by wip/gen/gentexts.py).
-/
import Derived.Test.YtdlhpiknifcehaaDoorAt5
import Derived.Test.YtdlhpiknifcehaaDoorLawBack
namespace Go.Proofs.YtdlhpiknifcehaaDoor
open Go Go.RowKit Go.Sort

@[reducible] def StrC (f : FuncId) (args : Array Value) (t : ByteArray) (W : World) : Prop := ∀ d os, Calls Tryd.prog f args (grow (redrawn W d) os) fun e w' => e = .returned (.string t) ∧ Below (grow (redrawn W d) os).heap.size (grow (redrawn W d) os) w'

set_option maxRecDepth 100000 in
set_option maxHeartbeats 4000000 in
theorem lawTexts_any (s : ByteArray) (a pa : Nat) (pn : Int) (w : World) (hE : Env w) (ha : a < 4294967296) (hp : pa < 4294967296) (h0 : -9223372036854775808 ≤ pn) (h1 : pn ≤ 9223372036854775807) (hs : s.size < 4294967281) :
    Calls Tryd.prog 3 #[.string s, .int .u32 a, .agg #[.int .u32 pa, .int .i64 pn]] w fun e w' => e = .returned (.bool true) ∧ Below w.heap.size w w' := by
  go_enter Tryd.func3, Tryd.ntmps3
  go_wp2_with fail
  refine (addrParse_any s _ (hE.below ((Below.refl _ _).alloc (Nat.le_refl _) _)) hs).mono ?_
  rintro e w1 ⟨rfl, hb⟩
  have Jt := blk_below hb (heap_alloc_new w (.cells #[.int .u32 pa, .int .i64 pn] 25))
  have hbw' := below_call ((Below.refl _ _).alloc (le_up (Below.refl _ _)) _) hb
  clear hb
  have hbw := hbw'
  clear hbw'
  obtain ⟨ct0, ct1, ft0, ft1⟩ := two_cells Jt
  have lt := lt_of_block Jt
  have nt : w.heap.size ≠ w1.heap.size := by omega
  have Kt := Lib.hid Jt
  clear Jt
  go_wp2_with fail
  refine (refParse_any s _ hs).mono ?_
  rintro e w2 ⟨rfl, hb⟩
  have Jt := blk_below hb Kt.out
  have hbw' := below_call hbw hb
  clear ct0 ct1 ft0 ft1 lt nt Kt hbw hb
  have hbw := hbw'
  clear hbw'
  obtain ⟨ct0, ct1, ft0, ft1⟩ := two_cells Jt
  have lt := lt_of_block Jt
  have nt : w.heap.size ≠ w2.heap.size := by omega
  have Kt := Lib.hid Jt
  clear Jt
  go_wp2_with fail
  refine (parsePrefix_any s _ (hE.below hbw) hs).mono ?_
  rintro e w3 ⟨rfl, hb⟩
  have Jt := blk_below hb Kt.out
  have hbw' := below_call hbw hb
  clear ct0 ct1 ft0 ft1 lt nt Kt hbw hb
  have hbw := hbw'
  clear hbw'
  obtain ⟨ct0, ct1, ft0, ft1⟩ := two_cells Jt
  have lt := lt_of_block Jt
  have nt : w.heap.size ≠ w3.heap.size := by omega
  have Kt := Lib.hid Jt
  clear Jt
  go_wp2_with fail
  refine (refParsePrefix_any s _ hs).mono ?_
  rintro e w4 ⟨rfl, hb⟩
  have Jt := blk_below hb ((Below.heap_alloc _ _ _ (by first | omega | (simp; omega))).trans Kt.out)
  have Jq := blk_below hb (heap_alloc_new w3 (.cells #[.int .u32 (ppA s.data.toList), .int .i64 (ppN s.data.toList)] 25))
  have hbw' := below_call (hbw.alloc (le_up hbw) _) hb
  clear ct0 ct1 ft0 ft1 lt nt Kt hbw hb
  have hbw := hbw'
  clear hbw'
  obtain ⟨ct0, ct1, ft0, ft1⟩ := two_cells Jt
  have lt := lt_of_block Jt
  have nt : w.heap.size ≠ w4.heap.size := by omega
  have Kt := Lib.hid Jt
  clear Jt
  obtain ⟨cq0, cq1, fq0, fq1⟩ := two_cells Jq
  have lq := lt_of_block Jq
  have nq : w3.heap.size ≠ w4.heap.size := by omega
  have Kq := Lib.hid Jq
  clear Jq
  generalize adE (parseB s.data.toList) = ea at *
  generalize adV (parseB s.data.toList) = va at *
  generalize ppE s.data.toList = ep at *
  generalize ppA s.data.toList = xa at *
  generalize ppN s.data.toList = xn at *
  have hk9 := heap_alloc_new w4 (.cells #[.int .u32 xa, .int .i64 xn] 25)
  have Kt9 := (Below.heap_alloc w4 (.cells #[.int .u32 xa, .int .i64 xn] 25) _ lt).trans Kt.out
  have Kq9 := (Below.heap_alloc w4 (.cells #[.int .u32 xa, .int .i64 xn] 25) _ lq).trans Kq.out
  have hb9 := hbw.alloc hbw.size (.cells #[.int .u32 xa, .int .i64 xn] 25)
  go_upto_region 5 with fail
  generalize w4.alloc (.cells #[.int .u32 xa, .int .i64 xn] 25) = w9 at *
  generalize w4.heap.size = g9 at *
  obtain ⟨z0, z1, _, _⟩ := two_cells hk9
  obtain ⟨y0, y1, _, _⟩ := two_cells Kq9
  obtain ⟨x0, x1, _, _⟩ := two_cells Kt9
  clear ct0 ct1 ft0 ft1 lt nt Kt cq0 cq1 fq0 fq1 lq nq Kq hbw hk9 Kq9 Kt9
  have F0 := cell_regrown z0
  have F1 := cell_regrown z1
  have F2 := cell_regrown y0
  have F3 := cell_regrown y1
  have F4 := cell_regrown x0
  have F5 := cell_regrown x1
  have hE9 := hE.below hb9
  have v1 : (va == va) = true := by simp
  have v2 : (ea == ea) = true := by simp
  have v3 : (ep == ep) = true := by simp
  have k1 := Lib.hid (show StrC 17 #[.int .u32 a] (textA a) w9 from fun d os => addrText_any a ha _ (hE9.below (below_regrown w9 d os)))
  have k2 := Lib.hid (show StrC 18 #[.int .u32 a] (textA a) w9 from fun d os => refText_any a ha _)
  have k3 := Lib.hid (show StrC 19 #[.agg #[.int .u32 pa, .int .i64 pn]] (textP pa pn) w9 from fun d os => prefixText_any pa pn hp h0 h1 _ (hE9.below (below_regrown w9 d os)))
  have k4 := Lib.hid (show StrC 20 #[.agg #[.int .u32 pa, .int .i64 pn]] (textP pa pn) w9 from fun d os => refPrefixText_any pa pn hp h0 h1 _)
  have k5 := Lib.hid (fun v => pb_5 xa xn v)
  have t1 : ((textA a).toList == (textA a).toList) = true := by simp
  have t2 : ((textP pa pn).toList == (textP pa pn).toList) = true := by simp
  clear hE9
  generalize textA a = ta at *
  generalize textP pa pn = tp at *
  refine wp_region_quiet_below (by kernel_rfl) (by kernel_rfl) ?_
  repeat (first | go_big_quiet_step ((first | (go_at_call 17; with_reducible exact Calls.regrown_of (k1.out _ _)) | (go_at_call 18; with_reducible exact Calls.regrown_of (k2.out _ _)) | (go_at_call 19; with_reducible exact Calls.regrown_of (k3.out _ _)) | (go_at_call 20; with_reducible exact Calls.regrown_of (k4.out _ _)) | (go_at_call 16; with_reducible exact Calls.regrown_of (k5.out _)))) | quiet_step ((first | (go_at_call 17; with_reducible exact Calls.regrown_of (k1.out _ _)) | (go_at_call 18; with_reducible exact Calls.regrown_of (k2.out _ _)) | (go_at_call 19; with_reducible exact Calls.regrown_of (k3.out _ _)) | (go_at_call 20; with_reducible exact Calls.regrown_of (k4.out _ _)) | (go_at_call 16; with_reducible exact Calls.regrown_of (k5.out _)))))
  refine wpQuiet_nil ?_
  intro _ hw'
  obtain ⟨⟨nq, osq⟩, hw''⟩ := hw'
  subst hw''
  go_wp2
  go_ret
  exact ⟨rfl, hb9.trans ((below_regrown w9 nq osq).mono hb9.size)⟩
theorem lawTexts_int (s : ByteArray) (a pa pn : Int) (w : World) (hE : Env w) (a0 : 0 ≤ a) (a1 : a < 4294967296) (p0 : 0 ≤ pa) (p1 : pa < 4294967296) (h0 : -9223372036854775808 ≤ pn) (h1 : pn ≤ 9223372036854775807) (hs : s.size < 4294967281) :
    Calls Tryd.prog 3 #[.string s, .int .u32 a, .agg #[.int .u32 pa, .int .i64 pn]] w fun e w' => e = .returned (.bool true) ∧ Below w.heap.size w w' := by
  obtain ⟨a, rfl⟩ := Int.eq_ofNat_of_zero_le a0
  obtain ⟨pa, rfl⟩ := Int.eq_ofNat_of_zero_le p0
  exact lawTexts_any s a pa pn w hE (by omega) (by omega) h0 h1 hs
end Go.Proofs.YtdlhpiknifcehaaDoor
