/-
  The walk of the law HeaderBack (written by wip/gen/genhback.py).
-/
import Derived.Test.YtdlhpiknifcehaaDoorHd10
import Derived.Deep.DeepCutAuto
namespace Go.Proofs.YtdlhpiknifcehaaDoor
open Go Go.RowKit Go.Sort

theorem of_raw (r0 r1 r2 r3 r4 r5 r6 r7 r8 r9 r10 r11 r12 : Int) (hr : ∀ x ∈ [r0, r1, r2, r3, r4, r5, r6, r7, r8, r9, r10, r11, r12], 0 ≤ x ∧ x < 256) (c : Hd) (hc : c = ofB [r0, r1, r2, r3, r4, r5, r6, r7, r8, r9, r10, r11, r12]) (w : World) :
    Calls Tryd.prog 32 #[.agg #[.int .u8 r0, .int .u8 r1, .int .u8 r2, .int .u8 r3, .int .u8 r4, .int .u8 r5, .int .u8 r6, .int .u8 r7, .int .u8 r8, .int .u8 r9, .int .u8 r10, .int .u8 r11, .int .u8 r12]] w fun e w' => e = .returned (.agg #[.int .u32 c.src, .int .u32 c.dst, .int .u8 c.proto, .int .u16 c.sp, .int .u16 c.dp]) ∧ Below w.heap.size w w' := by
  subst hc
  exact of_any r0 r1 r2 r3 r4 r5 r6 r7 r8 r9 r10 r11 r12 hr w
theorem parse_back (h : Hd) (ho : h.ok) (w : World) (hE : Env w) (hs : h.text.size < 4294967281) : Calls Tryd.prog 29 #[.string h.text] w fun e w' => e = .returned (.tuple #[.agg #[.int .u32 h.src, .int .u32 h.dst, .int .u8 h.proto, .int .u16 h.sp, .int .u16 h.dp], .int .i64 0]) ∧ Below w.heap.size w w' := by
  have hp := hdParse_any h.text w hE hs
  have e := hp_some (l := h.text.data.toList) (x := h) (by rw [text_list]; exact hpO_text ho)
  rw [e.1, e.2] at hp
  exact hp
theorem text_small {h : Hd} (ho : h.ok) : h.text.size < 4294967281 := by
  have k1 := endL_size h.src.toNat h.sp.toNat (by have := ho.a1; omega)
  have k2 := endL_size h.dst.toNat h.dp.toNat (by have := ho.b1; omega)
  have k3 := Lib.itoa_length_le h.proto.toNat (by omega) (by have := ho.p1; omega)
  rw [itoa_nat] at k3
  have e1 : (⟨(endL h.src.toNat h.sp.toNat).toArray⟩ : ByteArray).size = (endL h.src.toNat h.sp.toNat).length := rfl
  have e2 : (⟨(endL h.dst.toNat h.dp.toNat).toArray⟩ : ByteArray).size = (endL h.dst.toNat h.dp.toNat).length := rfl
  have e3 : h.text.size = h.textL.length := rfl
  rw [e3]
  unfold Hd.textL
  simp only [List.length_append, List.length_cons]
  omega
/-- What is kept from round to round. -/
structure HBk (h c : Hd) (gc : Nat) (k : Nat) (w W : World) : Prop where
  a : W.heap[w.heap.size]? = some h.cells
  r : W.heap[w.heap.size + 1]? = some (arr c.bytes)
  c : W.heap[gc]? = some (h.mix c k).cells
  n : Below w.heap.size w W
theorem HBk.below {h c : Hd} {gc k : Nat} {w W W' : World} (H : HBk h c gc k w W) (hb : Below W.heap.size W W') : HBk h c gc k w W' :=
  ⟨blk_below hb H.a, blk_below hb H.r, blk_below hb H.c, below_call H.n hb⟩
theorem hp_cases (s : ByteArray) : hpE s.data.toList = 4 ∨ (hpE s.data.toList = 0 ∧ (hpV s.data.toList).ok ∧ (hpV s.data.toList).text = s) := by
  cases hO : hpO s.data.toList with
  | none => exact Or.inl (hp_none hO).2
  | some x =>
    obtain ⟨h1, h2⟩ := hp_some hO
    obtain ⟨hxo, hxt⟩ := hpO_some hO
    rw [h1, h2]
    exact Or.inr ⟨rfl, hxo, byte_ext hxt⟩
structure HB0 (h : Hd) (l : List Int) (w W : World) : Prop where
  a : W.heap[w.heap.size]? = some h.cells
  r : W.heap[w.heap.size + 1]? = some (arr l)
  n : Below w.heap.size w W
set_option maxRecDepth 100000 in
set_option maxHeartbeats 4000000 in
theorem lawHBack_any (h : Hd) (ho : h.ok) (s : ByteArray) (r0 r1 r2 r3 r4 r5 r6 r7 r8 r9 r10 r11 r12 : Int) (hr : ∀ x ∈ [r0, r1, r2, r3, r4, r5, r6, r7, r8, r9, r10, r11, r12], 0 ≤ x ∧ x < 256) (w : World) (hE : Env w) (hls : s.size < 4294967281) :
    Calls Tryd.prog 5 #[.agg #[.int .u32 h.src, .int .u32 h.dst, .int .u8 h.proto, .int .u16 h.sp, .int .u16 h.dp], .string s, .agg #[.int .u8 r0, .int .u8 r1, .int .u8 r2, .int .u8 r3, .int .u8 r4, .int .u8 r5, .int .u8 r6, .int .u8 r7, .int .u8 r8, .int .u8 r9, .int .u8 r10, .int .u8 r11, .int .u8 r12]] w fun e w' => e = .returned (.bool true) ∧ Below w.heap.size w w' := by
  have hts := text_small ho
  obtain ⟨C, hC⟩ : ∃ C, C = ofB [r0, r1, r2, r3, r4, r5, r6, r7, r8, r9, r10, r11, r12] := ⟨_, rfl⟩
  have hCv := ofB_val (l := [r0, r1, r2, r3, r4, r5, r6, r7, r8, r9, r10, r11, r12]) rfl hr
  rw [← hC] at hCv
  obtain ⟨hCo, _, hCb⟩ := hCv
  have HC := Lib.hid hC
  have HCb := Lib.hid hCb
  clear hC hCb
  have hk := blk2 w h.cells (arr [r0, r1, r2, r3, r4, r5, r6, r7, r8, r9, r10, r11, r12])
  have hb0 := below2 w h.cells (arr [r0, r1, r2, r3, r4, r5, r6, r7, r8, r9, r10, r11, r12])
  go_enter Tryd.func5, Tryd.ntmps5
  go_wp2_with fail
  refine (hworks_any _ (hE.below hb0)).mono ?_
  rintro e w1 ⟨rfl, hb⟩
  have Ja := blk_below hb hk.1
  have Jr := blk_below hb hk.2
  have hbw := below_call hb0 hb
  clear hb hb0 hk
  obtain ⟨ca0, ca1, ca2, ca3, ca4⟩ := hd_cell (h := h) Ja
  have fa := hd_frozen (h := h) Ja
  have la := lt_of_block Ja
  have na : w.heap.size ≠ w1.heap.size := by omega
  have Ka := Lib.hid Ja
  clear Ja
  obtain ⟨cr0, cr1, cr2, cr3, cr4, cr5, cr6, cr7, cr8, cr9, cr10, cr11, cr12⟩ := arr13_cells Jr
  have lr := lt_of_block Jr
  have nr : w.heap.size + 1 ≠ w1.heap.size := by omega
  have Kr := Lib.hid Jr
  clear Jr
  go_wp2_with fail
  refine (hdText_any h ho _ (hE.below hbw)).mono ?_
  rintro e w2 ⟨rfl, hb⟩
  have Ja := blk_below hb Ka.out
  have Jr := blk_below hb Kr.out
  have hbw' := below_call hbw hb
  clear ca0 ca1 ca2 ca3 ca4 fa la na Ka cr0 cr1 cr2 cr3 cr4 cr5 cr6 cr7 cr8 cr9 cr10 cr11 cr12 lr nr Kr hbw hb
  have hbw := hbw'
  clear hbw'
  obtain ⟨ca0, ca1, ca2, ca3, ca4⟩ := hd_cell (h := h) Ja
  have fa := hd_frozen (h := h) Ja
  have la := lt_of_block Ja
  have na : w.heap.size ≠ w2.heap.size := by omega
  have Ka := Lib.hid Ja
  clear Ja
  obtain ⟨cr0, cr1, cr2, cr3, cr4, cr5, cr6, cr7, cr8, cr9, cr10, cr11, cr12⟩ := arr13_cells Jr
  have lr := lt_of_block Jr
  have nr : w.heap.size + 1 ≠ w2.heap.size := by omega
  have Kr := Lib.hid Jr
  clear Jr
  go_wp2_with fail
  refine (parse_back h ho _ (hE.below hbw) hts).mono ?_
  rintro e w3 ⟨rfl, hb⟩
  have Ja := blk_below hb Ka.out
  have Jr := blk_below hb Kr.out
  have hbw' := below_call hbw hb
  clear ca0 ca1 ca2 ca3 ca4 fa la na Ka cr0 cr1 cr2 cr3 cr4 cr5 cr6 cr7 cr8 cr9 cr10 cr11 cr12 lr nr Kr hbw hb
  have hbw := hbw'
  clear hbw'
  obtain ⟨ca0, ca1, ca2, ca3, ca4⟩ := hd_cell (h := h) Ja
  have fa := hd_frozen (h := h) Ja
  have la := lt_of_block Ja
  have na : w.heap.size ≠ w3.heap.size := by omega
  have Ka := Lib.hid Ja
  clear Ja
  obtain ⟨cr0, cr1, cr2, cr3, cr4, cr5, cr6, cr7, cr8, cr9, cr10, cr11, cr12⟩ := arr13_cells Jr
  have lr := lt_of_block Jr
  have nr : w.heap.size + 1 ≠ w3.heap.size := by omega
  have Kr := Lib.hid Jr
  clear Jr
  go_wp2_with fail
  refine (hdParse_any s _ (hE.below (hbw.alloc (le_up hbw) _)) hls).mono ?_
  rintro e w4 ⟨rfl, hb⟩
  have Ja := blk_below hb ((Below.heap_alloc _ _ _ (by first | omega | (simp; omega))).trans Ka.out)
  have Jr := blk_below hb ((Below.heap_alloc _ _ _ (by first | omega | (simp; omega))).trans Kr.out)
  have Jp := blk_below hb (heap_alloc_new w3 (.cells #[.int .u32 h.src, .int .u32 h.dst, .int .u8 h.proto, .int .u16 h.sp, .int .u16 h.dp] 48))
  have hbw' := below_call (hbw.alloc (le_up hbw) _) hb
  clear ca0 ca1 ca2 ca3 ca4 fa la na Ka cr0 cr1 cr2 cr3 cr4 cr5 cr6 cr7 cr8 cr9 cr10 cr11 cr12 lr nr Kr hbw hb
  have hbw := hbw'
  clear hbw'
  obtain ⟨ca0, ca1, ca2, ca3, ca4⟩ := hd_cell (h := h) Ja
  have fa := hd_frozen (h := h) Ja
  have la := lt_of_block Ja
  have na : w.heap.size ≠ w4.heap.size := by omega
  have Ka := Lib.hid Ja
  clear Ja
  obtain ⟨cr0, cr1, cr2, cr3, cr4, cr5, cr6, cr7, cr8, cr9, cr10, cr11, cr12⟩ := arr13_cells Jr
  have lr := lt_of_block Jr
  have nr : w.heap.size + 1 ≠ w4.heap.size := by omega
  have Kr := Lib.hid Jr
  clear Jr
  obtain ⟨cp0, cp1, cp2, cp3, cp4⟩ := hd_cell (h := h) Jp
  have fp := hd_frozen (h := h) Jp
  have lp := lt_of_block Jp
  have np : w3.heap.size ≠ w4.heap.size := by omega
  have Kp := Lib.hid Jp
  clear Jp
  go_upto_region 5 with fail
  have hcase := hp_cases s
  generalize hpV s.data.toList = x at *
  generalize hpE s.data.toList = ex at *
  have hx0 : w4.alloc (.cells #[.int .u32 x.src, .int .u32 x.dst, .int .u8 x.proto, .int .u16 x.sp, .int .u16 x.dp] 48) = w4.alloc x.cells := rfl
  rw [hx0]
  clear hx0
  have Ja := (Below.heap_alloc w4 x.cells _ la).trans Ka.out
  have Jr := (Below.heap_alloc w4 x.cells _ lr).trans Kr.out
  have Jp := (Below.heap_alloc w4 x.cells _ lp).trans Kp.out
  have Jb := heap_alloc_new w4 x.cells
  have hbW := hbw.alloc (le_up hbw) x.cells
  clear ca0 ca1 ca2 ca3 ca4 fa la na Ka cp0 cp1 cp2 cp3 cp4 fp lp np Kp cr0 cr1 cr2 cr3 cr4 cr5 cr6 cr7 cr8 cr9 cr10 cr11 cr12 lr nr Kr hbw
  generalize w4.alloc x.cells = W5 at *
  change World at w4
  generalize w4.heap.size = g4 at *
  generalize w3.heap.size = g3 at *
  have HA := Lib.hid Ja
  have HR := Lib.hid Jr
  have HW := Lib.hid hbW
  go_cut [55] (fun s55 wx => s55 = .bool false ∧ Hid (HB0 h [r0, r1, r2, r3, r4, r5, r6, r7, r8, r9, r10, r11, r12] w wx))
  case first =>
    obtain ⟨ca0, ca1, ca2, ca3, ca4⟩ := hd_cell Ja
    obtain ⟨cp0, cp1, cp2, cp3, cp4⟩ := hd_cell (h := h) Jp
    obtain ⟨cb0, cb1, cb2, cb3, cb4⟩ := hd_cell Jb
    have hEW := hE.below hbW
    clear Ja Jr Jp Jb hbW
  
    have Fa0 := cell_regrown ca0
    have Fa1 := cell_regrown ca1
    have Fa2 := cell_regrown ca2
    have Fa3 := cell_regrown ca3
    have Fa4 := cell_regrown ca4
    have Fp0 := cell_regrown cp0
    have Fp1 := cell_regrown cp1
    have Fp2 := cell_regrown cp2
    have Fp3 := cell_regrown cp3
    have Fp4 := cell_regrown cp4
    have Fb0 := cell_regrown cb0
    have Fb1 := cell_regrown cb1
    have Fb2 := cell_regrown cb2
    have Fb3 := cell_regrown cb3
    have Fb4 := cell_regrown cb4
    have hBy : Hid (∀ v : World, Calls Tryd.prog 33 #[.agg #[.int .u32 h.src, .int .u32 h.dst, .int .u8 h.proto, .int .u16 h.sp, .int .u16 h.dp]] v fun e w' => e = .returned (.agg #[.int .u8 (h.src / 16777216), .int .u8 (h.src / 65536 % 256), .int .u8 (h.src / 256 % 256), .int .u8 (h.src % 256), .int .u8 (h.dst / 16777216), .int .u8 (h.dst / 65536 % 256), .int .u8 (h.dst / 256 % 256), .int .u8 (h.dst % 256), .int .u8 (h.proto), .int .u8 (h.sp / 256), .int .u8 (h.sp % 256), .int .u8 (h.dp / 256), .int .u8 (h.dp % 256)]) ∧ Below v.heap.size v w') := Lib.hid (fun v => bytes_any h ho v)
    have hOf := Lib.hid (fun v => of_bytes h ho v)
    rcases hcase with rfl | ⟨rfl, hxo, hxt⟩
    · skip
      refine wp_region_quiet_below (by kernel_rfl) (by kernel_rfl) ?_
      repeat (first | go_big_quiet_step ((first | (go_at_call 31; with_reducible exact Calls.regrown_of (hdSame_any h _)) | (go_at_call 33; with_reducible exact Calls.regrown_of (hBy.out _)) | (go_at_call 32; with_reducible exact Calls.regrown_of (hOf.out _)))) | quiet_step ((first | (go_at_call 31; with_reducible exact Calls.regrown_of (hdSame_any h _)) | (go_at_call 33; with_reducible exact Calls.regrown_of (hBy.out _)) | (go_at_call 32; with_reducible exact Calls.regrown_of (hOf.out _)))))
      refine wpQuiet_nil ?_
      intro _ hw'
      obtain ⟨⟨nq, osq⟩, hw''⟩ := hw'
      subst hw''
      go_wp2
      go_meet
      exact ⟨rfl, Lib.hid ⟨blk_below (below_regrown _ nq osq) HA.out, blk_below (below_regrown _ nq osq) HR.out, below_call HW.out (below_regrown _ nq osq)⟩⟩
    · have hTx : Hid (∀ v : World, Env v → Calls Tryd.prog 30 #[.agg #[.int .u32 x.src, .int .u32 x.dst, .int .u8 x.proto, .int .u16 x.sp, .int .u16 x.dp]] v fun e w' => e = .returned (.string s) ∧ Below v.heap.size v w') := Lib.hid (fun v hv => by
        have e := hdText_any x hxo v hv
        rw [hxt] at e
        exact e)
      clear hxo hxt
      refine wp_region_quiet_below (by kernel_rfl) (by kernel_rfl) ?_
      repeat (first | go_big_quiet_step ((first | (go_at_call 31; with_reducible exact Calls.regrown_of (hdSame_any h _)) | (go_at_call 33; with_reducible exact Calls.regrown_of (hBy.out _)) | (go_at_call 32; with_reducible exact Calls.regrown_of (hOf.out _)) | (go_at_call 30; with_reducible exact Calls.regrown_of (hTx.out _ (hEW.below (below_regrown W5 _ _)))))) | quiet_step ((first | (go_at_call 31; with_reducible exact Calls.regrown_of (hdSame_any h _)) | (go_at_call 33; with_reducible exact Calls.regrown_of (hBy.out _)) | (go_at_call 32; with_reducible exact Calls.regrown_of (hOf.out _)) | (go_at_call 30; with_reducible exact Calls.regrown_of (hTx.out _ (hEW.below (below_regrown W5 _ _)))))))
      refine wpQuiet_nil ?_
      intro _ hw'
      obtain ⟨⟨nq, osq⟩, hw''⟩ := hw'
      subst hw''
      go_wp2
      go_meet
      exact ⟨rfl, Lib.hid ⟨blk_below (below_regrown _ nq osq) HA.out, blk_below (below_regrown _ nq osq) HR.out, below_call HW.out (below_regrown _ nq osq)⟩⟩
  case rest =>
    clear Ja Jr Jp Jb hbW HA HR HW
    obtain ⟨rfl, hS⟩ := hcut
    clear hcase
    obtain ⟨cr0, cr1, cr2, cr3, cr4, cr5, cr6, cr7, cr8, cr9, cr10, cr11, cr12⟩ := arr13_cells hS.out.r
    go_wp2_with fail
    refine (of_raw r0 r1 r2 r3 r4 r5 r6 r7 r8 r9 r10 r11 r12 hr C HC.out wc).mono ?_
    rintro e w6 ⟨rfl, hb⟩
    have J0 := blk_below hb hS.out.a
    have J1 := blk_below hb hS.out.r
    have hbw := below_call hS.out.n hb
    have hS0 : HBk h C w6.heap.size 0 w (w6.alloc C.cells) := by
      refine ⟨(Below.heap_alloc _ _ _ (lt_of_block J0)).trans J0, ?_, ?_, hbw.alloc hbw.size _⟩
      · rw [HCb.out]; exact (Below.heap_alloc _ _ _ (lt_of_block J1)).trans J1
      · rw [mix_zero ho hCo]; exact heap_alloc_new _ _
    have ng : w.heap.size + 1 < w6.heap.size := lt_of_block J1
    have HS0 := Lib.hid hS0
    clear hb hS hS0 J0 J1 hbw cr0 cr1 cr2 cr3 cr4 cr5 cr6 cr7 cr8 cr9 cr10 cr11 cr12
    go_wp2
    have hW7 : w6.alloc (.cells #[.int .u32 C.src, .int .u32 C.dst, .int .u8 C.proto, .int .u16 C.sp, .int .u16 C.dp] 48) = w6.alloc C.cells := rfl
    rw [hW7]
    clear hW7
    generalize w6.alloc C.cells = W7 at *
    change World at w6
    generalize w6.heap.size = gc at *
    go_loopw [12] (fun i wr => ∃ k : Nat, i = .int .i64 k ∧ k ≤ 104 ∧ Hid (HBk h C gc k w wr)) (fun i _ => 104 - (intOf i).toNat)
    case atStart => exact ⟨0, rfl, by omega, HS0⟩
    case round =>
      obtain ⟨k, rfl, hk, hS⟩ := hrel
      clear HS0
      obtain ⟨ca0, ca1, ca2, ca3, ca4⟩ := hd_cell hS.out.a
      obtain ⟨cc0, cc1, cc2, cc3, cc4⟩ := hd_cell hS.out.c
      by_cases hlt : k < 104
      · have hI : (k : Int) < 104 := by omega
        go_wp2_with fail
        refine (bit_yes h ho k wr hlt).mono ?_
        rintro e w8 ⟨rfl, hb⟩
        have hS8 := Lib.hid (hS.out.below hb)
        clear hS hb ca0 ca1 ca2 ca3 ca4 cc0 cc1 cc2 cc3 cc4
        obtain ⟨ca0, ca1, ca2, ca3, ca4⟩ := hd_cell hS8.out.a
        obtain ⟨cc0, cc1, cc2, cc3, cc4⟩ := hd_cell hS8.out.c
        have hM := Lib.hid (mix_at ho hCo hlt)
        have hMp := Lib.hid (mix_put ho hCo hlt)
        have hMo := Lib.hid (mix_ok (c := C) ho (Nat.le_of_lt hlt))
        generalize hmx : h.mix C k = mx at *
        go_wp2_with fail
        refine (bit_yes mx hMo.out k w8 hlt).mono ?_
        rintro e w9 ⟨rfl, hb⟩
        rw [hM.out]
        have hS9 := Lib.hid (hS8.out.below hb)
        clear hS8 hb ca0 ca1 ca2 ca3 ca4 cc0 cc1 cc2 cc3 cc4
        have Jc : w9.heap[gc]? = some mx.cells := by have e := hS9.out.c; rw [hmx] at e; exact e
        obtain ⟨cc0, cc1, cc2, cc3, cc4⟩ := hd_cell (h := mx) Jc
        have fc := hd_frozen (h := mx) Jc
        obtain ⟨v, hv⟩ : ∃ v, C.bytes[k / 8]? = some v := ⟨_, List.getElem?_eq_getElem (by rw [bytes_len]; omega)⟩
        have hrv := bytes_range C hCo v (List.mem_of_getElem? hv)
        have hcv := arr_cell hS9.out.r hv
        have hbit := Lib.hid (show C.bit k = (v / 2 ^ (7 - k % 8) % 2 == 1) by unfold Hd.bit; rw [List.getD, hv]; rfl)
        obtain ⟨q, hq⟩ : ∃ q, q = k / 8 := ⟨_, rfl⟩
        obtain ⟨r, hr8⟩ : ∃ r, r = k % 8 := ⟨_, rfl⟩
        have e1 : (k : Int).tdiv 8 = (q : Int) := by rw [Int.tdiv_eq_ediv_of_nonneg (by omega)]; omega
        have e2 : (k : Int).tmod 8 = (r : Int) := by rw [Int.tmod_eq_emod_of_nonneg (by omega)]; omega
        have e3 : (k : Int) / 8 = (q : Int) := by omega
        have e4 : (k : Int) % 8 = (r : Int) := by omega
        have e5 : wrap64 (7 - (r : Int)) = 7 - (r : Int) := by unfold wrap64; omega
        have e6 : (7 - (r : Int) < 0) = False := by simp; omega
        have e7 : (q : Int) < 13 := by omega
        have e8 : (0 : Int) ≤ (q : Int) := by omega
        rw [← hq] at hcv
        rw [← hr8] at hbit
        clear hq hr8 hv
        have hd := div_pow v (7 - r) hrv.1 hrv.2
        have hand := Lib.hid (and_1 _ hd.1 hd.2)
        have hWi := Lib.hid (with_yes mx hMo.out k (h.bit k) w9 hlt)
        rw [hMp.out] at hWi
        have hS10 : Hid (∀ W : World, Below w9.heap.size w9 W → ∀ n : Hd, n = h.mix C (k + 1) → HBk h C gc (k + 1) w (((((W.setCell ⟨gc, 0, none⟩ (.int .u32 n.src)).setCell ⟨gc, 1, none⟩ (.int .u32 n.dst)).setCell ⟨gc, 2, none⟩ (.int .u8 n.proto)).setCell ⟨gc, 3, none⟩ (.int .u16 n.sp)).setCell ⟨gc, 4, none⟩ (.int .u16 n.dp))) := Lib.hid (fun W hb n hn => by
          have H := hS9.out
          refine ⟨?_, ?_, ?_, ?_⟩
          · exact (set_far (set_far (set_far (set_far (set_far (blk_below hb H.a) (p := ⟨gc, 0, none⟩) (by show w.heap.size ≠ gc; omega)) (p := ⟨gc, 1, none⟩) (by show w.heap.size ≠ gc; omega)) (p := ⟨gc, 2, none⟩) (by show w.heap.size ≠ gc; omega)) (p := ⟨gc, 3, none⟩) (by show w.heap.size ≠ gc; omega)) (p := ⟨gc, 4, none⟩) (by show w.heap.size ≠ gc; omega))
          · exact (set_far (set_far (set_far (set_far (set_far (blk_below hb H.r) (p := ⟨gc, 0, none⟩) (by show w.heap.size + 1 ≠ gc; omega)) (p := ⟨gc, 1, none⟩) (by show w.heap.size + 1 ≠ gc; omega)) (p := ⟨gc, 2, none⟩) (by show w.heap.size + 1 ≠ gc; omega)) (p := ⟨gc, 3, none⟩) (by show w.heap.size + 1 ≠ gc; omega)) (p := ⟨gc, 4, none⟩) (by show w.heap.size + 1 ≠ gc; omega))
          · subst hn
            exact hd_set4 (hd_set3 (hd_set2 (hd_set1 (hd_set0 (blk_below hb H.c) _) _) _) _) _
          · exact (((((below_call H.n hb).setCell (p := ⟨gc, 0, none⟩) (by show w.heap.size ≤ gc; omega) _).setCell (p := ⟨gc, 1, none⟩) (by show w.heap.size ≤ gc; omega) _).setCell (p := ⟨gc, 2, none⟩) (by show w.heap.size ≤ gc; omega) _).setCell (p := ⟨gc, 3, none⟩) (by show w.heap.size ≤ gc; omega) _).setCell (p := ⟨gc, 4, none⟩) (by show w.heap.size ≤ gc; omega) _)
        obtain ⟨n, hn⟩ : ∃ n, n = h.mix C (k + 1) := ⟨_, rfl⟩
        rw [← hn] at hWi
        have HN := Lib.hid hn
        clear hn hMp hM hd
        generalize hy : C.bit k = y at *
        generalize hx : h.bit k = x at *
        clear hx hy
        have hz := hbit.out
        cases y
        · have ez : bits .and .u8 (v / 2 ^ (7 - r)) 1 = 0 := by
            rw [hand.out]
            have := Int.emod_two_eq (v / 2 ^ (7 - r))
            simp at hz
            omega
          clear hz hbit hand
          go_wp2_with fail
          refine hWi.out.mono ?_
          rintro e w11 ⟨rfl, hb⟩
          have hbc := blk_below hb Jc
          have hN10 := Lib.hid (hS10.out w11 hb n HN.out)
          clear hWi hb hS10 hS9 cc0 cc1 cc2 cc3 cc4 fc hcv Jc
          obtain ⟨cc0, cc1, cc2, cc3, cc4⟩ := hd_cell (h := mx) hbc
          have fc := hd_frozen (h := mx) hbc
          clear hbc hmx hMo HN
          go_wp2
          exact ⟨⟨k + 1, by go_num, by omega, hN10⟩, by simp only [intOf]; omega⟩
        · have ez : bits .and .u8 (v / 2 ^ (7 - r)) 1 = 1 := by
            rw [hand.out]
            simp at hz
            omega
          clear hz hbit hand
          go_wp2_with fail
          refine hWi.out.mono ?_
          rintro e w11 ⟨rfl, hb⟩
          have hbc := blk_below hb Jc
          have hN10 := Lib.hid (hS10.out w11 hb n HN.out)
          clear hWi hb hS10 hS9 cc0 cc1 cc2 cc3 cc4 fc hcv Jc
          obtain ⟨cc0, cc1, cc2, cc3, cc4⟩ := hd_cell (h := mx) hbc
          have fc := hd_frozen (h := mx) hbc
          clear hbc hmx hMo HN
          go_wp2
          exact ⟨⟨k + 1, by go_num, by omega, hN10⟩, by simp only [intOf]; omega⟩
      · obtain rfl : k = 104 := by omega
        rw [mix_full ho hCo] at cc0 cc1 cc2 cc3 cc4
        go_wp2_with fail
        refine (hdSame_any h wr).mono ?_
        rintro e w8 ⟨rfl, hb⟩
        have hS8 := hS.out.below hb
        go_wp2
        go_ret
        exact ⟨rfl, hS8.n⟩
end Go.Proofs.YtdlhpiknifcehaaDoor
