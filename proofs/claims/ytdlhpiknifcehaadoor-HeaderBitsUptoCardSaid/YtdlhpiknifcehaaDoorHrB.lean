import Derived.Test.YtdlhpiknifcehaaDoorHrA
import Derived.Deep.DeepCutAuto
import Derived.Test.YtdlhpiknifcehaaDoorHd6
/-
  Merged by merge.py: Hr4, Hr5, Hr6, Hr7.
-/
/-
  Walks over headers, the document's side: Of.
-/
namespace Go.Proofs.YtdlhpiknifcehaaDoor
open Go Go.RowKit Go.Sort

set_option maxRecDepth 100000 in
set_option maxHeartbeats 4000000 in
theorem hrOf_any (r0 r1 r2 r3 r4 r5 r6 r7 r8 r9 r10 r11 r12 : Int) (hr : ∀ x ∈ [r0, r1, r2, r3, r4, r5, r6, r7, r8, r9, r10, r11, r12], 0 ≤ x ∧ x < 256) (C : Hd) (hC : C = ofB [r0, r1, r2, r3, r4, r5, r6, r7, r8, r9, r10, r11, r12]) (w : World) :
    Calls Tryd.prog 48 #[.agg #[.int .u8 r0, .int .u8 r1, .int .u8 r2, .int .u8 r3, .int .u8 r4, .int .u8 r5, .int .u8 r6, .int .u8 r7, .int .u8 r8, .int .u8 r9, .int .u8 r10, .int .u8 r11, .int .u8 r12]] w fun e w' => e = .returned (.agg #[.int .u32 C.src, .int .u32 C.dst, .int .u8 C.proto, .int .u16 C.sp, .int .u16 C.dp]) ∧ Below w.heap.size w w' := by
  obtain ⟨i0, hi, hz0, hz1, hz2⟩ := info_parts Tryd.infoBool
  obtain ⟨hCo, _, hCb⟩ := ofB_val (l := [r0, r1, r2, r3, r4, r5, r6, r7, r8, r9, r10, r11, r12]) rfl hr
  rw [← hC] at hCo hCb
  have hk := blk2 w (arr C.bytes) (Hd.cells ⟨0, 0, 0, 0, 0⟩)
  have hbw := below2 w (arr C.bytes) (Hd.cells ⟨0, 0, 0, 0, 0⟩)
  have hW : (w.alloc (.cells #[.int .u8 r0, .int .u8 r1, .int .u8 r2, .int .u8 r3, .int .u8 r4, .int .u8 r5, .int .u8 r6, .int .u8 r7, .int .u8 r8, .int .u8 r9, .int .u8 r10, .int .u8 r11, .int .u8 r12] 49)).alloc (.cells #[.int .u32 0, .int .u32 0, .int .u8 0, .int .u16 0, .int .u16 0] 48) = (w.alloc (arr C.bytes)).alloc (Hd.cells ⟨0, 0, 0, 0, 0⟩) := by rw [hCb]; rfl
  have HCo := Lib.hid hCo
  clear hC hr hCb hCo
  go_enter Tryd.func48, Tryd.ntmps48
  go_wp2
  have hsz : ((w.alloc (arr C.bytes)).alloc (Hd.cells ⟨0, 0, 0, 0, 0⟩)).heap.size = w.heap.size + 2 := by simp
  generalize (w.alloc (arr C.bytes)).alloc (Hd.cells ⟨0, 0, 0, 0, 0⟩) = W0 at *
  clear hW
  have HBW := Lib.hid hbw
  have HSZ := Lib.hid hsz
  have HK := Lib.hid hk
  have HI := Lib.hid (Below.refl W0.heap.size W0)
  clear hbw hsz hk
  go_loopw [3, 4] (fun v i wr => ∃ k : Nat, i = .int .i64 k ∧ k ≤ 104 ∧ Hid (wr.ownsRow W0.heap.size 4 1 v k ((C.bitL.take k).map Value.bool)) ∧ Hid (Below W0.heap.size W0 wr)) (fun _ i _ => 104 - (intOf i).toNat)
  case atStart => exact ⟨0, rfl, by omega, Lib.hid (World.ownsRow_nil _ _ _ _), HI⟩
  case round =>
    obtain ⟨k, rfl, hk, hown, hbr⟩ := hrel
    clear HI
    have hsz := HSZ.out
    have Jb : wr.heap[w.heap.size]? = some (arr C.bytes) := (hbr.out.block _ (by omega)).trans HK.out.1
    have J1 : wr.heap[w.heap.size + 1]? = some (Hd.cells ⟨0, 0, 0, 0, 0⟩) := (hbr.out.block _ (by omega)).trans HK.out.2
    clear hsz
    by_cases hlt : k < 104
    · have hI : (k : Int) < 104 := by omega
      obtain ⟨v, hv⟩ : ∃ v, C.bytes[k / 8]? = some v := ⟨_, List.getElem?_eq_getElem (by rw [bytes_len]; omega)⟩
      have hrv := bytes_range C HCo.out v (List.mem_of_getElem? hv)
      have hcv := arr_cell Jb hv
      have hbit : C.bit k = (v / 2 ^ (7 - k % 8) % 2 == 1) := by unfold Hd.bit; rw [List.getD, hv]; rfl
      obtain ⟨q, hq⟩ : ∃ q, q = k / 8 := ⟨_, rfl⟩
      obtain ⟨r, hr8⟩ : ∃ r, r = k % 8 := ⟨_, rfl⟩
      have e1 : (k : Int).tdiv 8 = (q : Int) := by rw [Int.tdiv_eq_ediv_of_nonneg (by omega)]; omega
      have e2 : (k : Int).tmod 8 = (r : Int) := by rw [Int.tmod_eq_emod_of_nonneg (by omega)]; omega
      have e3 : (k : Int) / 8 = (q : Int) := by omega
      have e4 : (k : Int) % 8 = (r : Int) := by omega
      have e5 : wrap64 (7 - (r : Int)) = 7 - (r : Int) := by unfold wrap64; omega
      have e6 : (7 - (r : Int) < 0) = False := by simp; omega
      have e7 : (q : Int) < 13 := by omega
      have e8 : (0 : Int) ≤ (q : Int) := by omega
      rw [← hq] at hcv
      rw [← hr8] at hbit
      have hd := div_pow v (7 - r) hrv.1 hrv.2
      have hval : (bits .and .u8 (v / 2 ^ (7 - r)) 1 == 1) = C.bit k := by rw [and_1 _ hd.1 hd.2, hbit]
      have htk := Lib.hid (bitL_take C hlt)
      have HO := hown.out
      have hbb := hbr.out
      have hn0 : k ≤ 1099511627776 := by omega
      clear hq hr8 hv hbit hd hown J1 Jb
      generalize C.bit k = x at *
      go_wp2_with (at_builtin; refine wpList_push rfl _ _ 97 rfl 4 i0 _ 1 1 Tryd.underlying97 hi hz0 hz1 hz2 rfl (by decide) (by decide) [.bool x] rfl rfl (by simp) HO rfl (one_bool _) hn0 hbb.size hbb (Nat.le_refl _) ?_; intro v2 w2 hown3 hb2)
      have hown4 : Hid (w2.ownsRow W0.heap.size 4 1 v2 (k + 1) ((C.bitL.take (k + 1)).map Value.bool)) := by
        rw [htk.out, List.map_append]
        exact hown3
      exact ⟨⟨k + 1, by go_num, by omega, hown4, hb2⟩, by simp only [intOf]; omega⟩
    · obtain rfl : k = 104 := by omega
      have hown2 : wr.ownsRow W0.heap.size 4 1 u3 104 (C.bitL.map Value.bool) := by
        have e := hown.out
        rw [List.take_of_length_le (by rw [bitL_len]; omega)] at e
        exact e
      have HRd := Lib.hid (Rd.of_own hown2)
      have K1 := Lib.hid J1
      have HBn := Lib.hid (HBW.out.trans (hbr.out.mono HBW.out.size))
      clear hown hown2 J1 Jb hbr
      go_wp2_with fail
      refine (hrOfBits_any C.bitL (bitL_len C) _ _ HRd.out).mono ?_
      rintro e w5 ⟨rfl, hb5⟩
      rw [ofBitL_bitL HCo.out]
      have J1 := blk_below hb5 K1.out
      have hbw5 := below_call HBn.out hb5
      clear hb5 HBn HRd K1
      obtain ⟨d0, d1, d2, d3, d4⟩ := hd_cell J1
      have f1 := hd_frozen J1
      have K1 := Lib.hid J1
      clear J1
      go_wp2
      exact bodyPost_ret (results_hd (t1 := 2) (g := w.heap.size + 1) Tryd.results48 rfl (hd_set4 (hd_set3 (hd_set2 (hd_set1 (hd_set0 K1.out _) _) _) _) _)) rfl ⟨rfl, (((((hbw5.setCell (p := ⟨w.heap.size + 1, 0, none⟩) (by first | exact Nat.le_refl _ | exact Nat.le_succ _) _).setCell (p := ⟨w.heap.size + 1, 1, none⟩) (by first | exact Nat.le_refl _ | exact Nat.le_succ _) _).setCell (p := ⟨w.heap.size + 1, 2, none⟩) (by first | exact Nat.le_refl _ | exact Nat.le_succ _) _).setCell (p := ⟨w.heap.size + 1, 3, none⟩) (by first | exact Nat.le_refl _ | exact Nat.le_succ _) _).setCell (p := ⟨w.heap.size + 1, 4, none⟩) (by first | exact Nat.le_refl _ | exact Nat.le_succ _) _)⟩
end Go.Proofs.YtdlhpiknifcehaaDoor

/-
  Walks over headers, the document's side: Cmp.
-/
namespace Go.Proofs.YtdlhpiknifcehaaDoor
open Go Go.RowKit Go.Sort

/-- Where the first bit that differs says which header is ahead. -/
theorem div_agree {u v i : Nat} (hi : i ≤ 104) (hu : u < hdAll) (hv : v < hdAll) (h : ∀ j, j < i → u.testBit (103 - j) = v.testBit (103 - j)) : u / 2 ^ (104 - i) = v / 2 ^ (104 - i) := by
  rw [hdAll_pow] at hu hv
  refine Nat.eq_of_testBit_eq fun j => ?_
  rw [Nat.testBit_div_two_pow, Nat.testBit_div_two_pow]
  by_cases hj : j < i
  · have e := h (i - 1 - j) (by omega)
    rw [show 103 - (i - 1 - j) = j + (104 - i) by omega] at e
    exact e
  · rw [Nat.testBit_lt_two_pow (Nat.lt_of_lt_of_le hu (Nat.pow_le_pow_right (by decide) (by omega))), Nat.testBit_lt_two_pow (Nat.lt_of_lt_of_le hv (Nat.pow_le_pow_right (by decide) (by omega)))]
theorem first_lt {u v i : Nat} (hi : i < 104) (hu : u < hdAll) (hv : v < hdAll) (h : ∀ j, j < i → u.testBit (103 - j) = v.testBit (103 - j)) (h0 : u.testBit (103 - i) = false) (h1 : v.testBit (103 - i) = true) : u < v := by
  have e := div_agree (by omega) hu hv h
  rw [Nat.testBit_eq_decide_div_mod_eq] at h0 h1
  have e0 : u / 2 ^ (103 - i) % 2 = 0 := by have := Nat.mod_two_eq_zero_or_one (u / 2 ^ (103 - i)); simp at h0; omega
  have e1 : v / 2 ^ (103 - i) % 2 = 1 := by simpa using h1
  have s : 104 - i = (103 - i) + 1 := by omega
  rw [s, Nat.pow_succ, ← Nat.div_div_eq_div_mul, ← Nat.div_div_eq_div_mul] at e
  have hq : u / 2 ^ (103 - i) < v / 2 ^ (103 - i) := by omega
  refine Nat.lt_of_not_le fun hle => ?_
  have := Nat.div_le_div_right (c := 2 ^ (103 - i)) hle
  omega
theorem bits_lt {a b : Hd} (ha : a.ok) (hb : b.ok) {i : Nat} (hi : i < 104) (h : ∀ j, j < i → a.bit j = b.bit j) (h0 : a.bit i = false) (h1 : b.bit i = true) : cmpN a.val b.val = -1 := by
  refine cmpN_lt (first_lt hi (val_lt ha) (val_lt hb) (fun j hj => ?_) ?_ ?_)
  · have e := h j hj
    rwa [bit_val ha (by omega), bit_val hb (by omega)] at e
  · rwa [bit_val ha hi] at h0
  · rwa [bit_val hb hi] at h1
theorem bits_gt {a b : Hd} (ha : a.ok) (hb : b.ok) {i : Nat} (hi : i < 104) (h : ∀ j, j < i → a.bit j = b.bit j) (h0 : a.bit i = true) (h1 : b.bit i = false) : cmpN a.val b.val = 1 := by
  rw [cmpN_neg, bits_lt hb ha hi (fun j hj => (h j hj).symm) h1 h0]
  rfl
set_option maxRecDepth 100000 in
set_option maxHeartbeats 4000000 in
theorem hrCmp_any (a b : Hd) (ha : a.ok) (hb : b.ok) (w : World) :
    Calls Tryd.prog 43 #[.agg #[.int .u32 a.src, .int .u32 a.dst, .int .u8 a.proto, .int .u16 a.sp, .int .u16 a.dp], .agg #[.int .u32 b.src, .int .u32 b.dst, .int .u8 b.proto, .int .u16 b.sp, .int .u16 b.dp]] w fun e w' => e = .returned (.int .i64 (cmpN a.val b.val)) ∧ Below w.heap.size w w' := by
  have hA := Lib.hid (fun v => hrBits_any a ha v)
  have hB := Lib.hid (fun v => hrBits_any b hb v)
  have HA := Lib.hid ha
  have HB := Lib.hid hb
  have hk := blk2 w a.cells b.cells
  have hbw0 := below2 w a.cells b.cells
  clear ha hb
  go_enter Tryd.func43, Tryd.ntmps43
  go_wp2_with fail
  refine (hA.out _).mono ?_
  rintro e w1 ⟨⟨v, rfl, hown⟩, hb1⟩
  obtain ⟨g, c, rfl, hc, hbg, hgl, hcell, _⟩ := own_bit hown
  have Jb := blk_below hb1 hk.2
  have hbw1 := below_call hbw0 hb1
  clear hown hb1 hk hbw0
  obtain ⟨cb0, cb1, cb2, cb3, cb4⟩ := hd_cell Jb
  have HC := Lib.hid hcell
  clear hcell
  go_wp2_with fail
  refine (hB.out _).mono ?_
  rintro e w2 ⟨⟨v, rfl, hown⟩, hb2⟩
  obtain ⟨g2, c2, rfl, hc2, hbg2, hgl2, hcell2, _⟩ := own_bit hown
  have hcell : ∀ j x, a.bitL[j]? = some x → w2.cell? ⟨g, j, none⟩ = some (.bool x) := fun j x hj => (hb2.cell (p := ⟨g, j, none⟩) hgl).trans (HC.out j x hj)
  have hbw2 := below_call hbw1 hb2
  have HC1 := Lib.hid hcell
  have HC2 := Lib.hid hcell2
  have HBW := Lib.hid hbw2
  clear hown hb2 hbw1 hcell hcell2 hbw2 cb0 cb1 cb2 cb3 cb4 Jb HC hA hB
  go_wp2
  go_loopw [7] (fun i wr => ∃ k : Nat, i = .int .i64 k ∧ k ≤ 104 ∧ Hid (∀ j x, a.bitL[j]? = some x → wr.cell? ⟨g, j, none⟩ = some (.bool x)) ∧ Hid (∀ j x, b.bitL[j]? = some x → wr.cell? ⟨g2, j, none⟩ = some (.bool x)) ∧ Hid (Below w.heap.size w wr) ∧ Hid (∀ j, j < k → a.bit j = b.bit j)) (fun i _ => 104 - (intOf i).toNat)
  case atStart => exact ⟨0, rfl, by omega, HC1, HC2, HBW, Lib.hid (fun j hj => by omega)⟩
  case round =>
    clear HC1 HC2 HBW
    obtain ⟨k, rfl, hk, HC1, HC2, HBW, hag⟩ := hrel
    by_cases hlt : k < 104
    · have hI : (k : Int) < 104 := by omega
      have hI0 : (0 : Int) ≤ k := by omega
      have ca := HC1.out k _ (bitL_get a hlt)
      have cb := HC2.out k _ (bitL_get b hlt)
      have hL := Lib.hid (fun h0 h1 => bits_lt HA.out HB.out hlt hag.out h0 h1)
      have hG := Lib.hid (fun h0 h1 => bits_gt HA.out HB.out hlt hag.out h0 h1)
      have hnext : Hid (a.bit k = b.bit k → ∀ j, j < k + 1 → a.bit j = b.bit j) := Lib.hid (fun e j hj => by
        rcases Nat.lt_or_ge j k with h | h
        · exact hag.out j h
        · obtain rfl : j = k := by omega
          exact e)
      have HD1 : Hid (∀ j x, a.bitL[j]? = some x → wr.drew.cell? ⟨g, j, none⟩ = some (.bool x)) := Lib.hid (fun j x hj => by simpa using HC1.out j x hj)
      have HD2 : Hid (∀ j x, b.bitL[j]? = some x → wr.drew.cell? ⟨g2, j, none⟩ = some (.bool x)) := Lib.hid (fun j x hj => by simpa using HC2.out j x hj)
      have HDB := Lib.hid (HBW.out.drew)
      clear hag HC1 HC2 HBW
      generalize a.bit k = x at *
      generalize b.bit k = y at *
      cases x <;> cases y
      · have hn := Lib.hid (hnext.out rfl)
        clear hL hG hnext
        go_upto_region 6 with fail
        go_region
        all_goals
          go_wp2
          exact ⟨⟨k + 1, by go_num, by omega, HD1, HD2, HDB, hn⟩, by simp only [intOf]; omega⟩
      · have hr := Lib.hid (hL.out rfl rfl)
        clear hL hG hnext
        go_upto_region 6 with fail
        go_region
        all_goals
          go_wp2
          go_ret
          exact ⟨by rw [hr.out]; rfl, HDB.out⟩
      · have hr := Lib.hid (hG.out rfl rfl)
        clear hL hG hnext
        go_upto_region 6 with fail
        go_region
        all_goals
          go_wp2
          go_ret
          exact ⟨by rw [hr.out]; rfl, HDB.out⟩
      · have hn := Lib.hid (hnext.out rfl)
        clear hL hG hnext
        go_upto_region 6 with fail
        go_region
        all_goals
          go_wp2
          exact ⟨⟨k + 1, by go_num, by omega, HD1, HD2, HDB, hn⟩, by simp only [intOf]; omega⟩
    · obtain rfl : k = 104 := by omega
      have hr : Hid (cmpN a.val b.val = 0) := Lib.hid (by rw [hd_bits HA.out HB.out hag.out]; exact cmpN_eq _)
      clear hag
      go_wp2
      go_ret
      exact ⟨by rw [hr.out]; rfl, HBW.out⟩
end Go.Proofs.YtdlhpiknifcehaaDoor

/-
  Walks over headers, the document's side: Next.
-/
namespace Go.Proofs.YtdlhpiknifcehaaDoor
open Go Go.RowKit Go.Sort

theorem valB_set : ∀ (l : List Bool) (i : Nat) (x y : Bool), l[i]? = some x → valB (l.set i y) + x.toNat * 2 ^ (l.length - 1 - i) = valB l + y.toNat * 2 ^ (l.length - 1 - i)
  | [], i, x, y, h => by simp at h
  | a :: l, 0, x, y, h => by
    simp at h; subst h
    rw [List.set_cons_zero, valB_cons, valB_cons, List.length_cons, Nat.add_sub_cancel, Nat.sub_zero, Nat.mul_comm (2 ^ l.length), Nat.mul_comm (2 ^ l.length)]
    omega
  | a :: l, i + 1, x, y, h => by
    simp only [List.getElem?_cons_succ] at h
    have ih := valB_set l i x y h
    rw [List.set_cons_succ, valB_cons, valB_cons, List.length_set, List.length_cons, show l.length + 1 - 1 - (i + 1) = l.length - 1 - i by omega]
    omega
/-- The bits while the last ones are set: m bits are still to be looked at. -/
structure NbI (h : Hd) (l : List Bool) (m : Nat) : Prop where
  len : l.length = 104
  val : valB l + (2 ^ (104 - m) - 1) = h.val
theorem nbi_start {h : Hd} (ho : h.ok) : NbI h h.bitL 104 := ⟨bitL_len h, by
  have e : (ofBitL h.bitL).val = h.val := by rw [ofBitL_bitL ho]
  unfold ofBitL at e
  rw [val_hdOf (ofBitL_lt (bitL_len h))] at e
  rw [e]
  simp⟩
theorem nbi_full {h : Hd} {l : List Bool} {i : Nat} (H : NbI h l (i + 1)) (hi : i < 104) (hx : l[i]? = some true) : NbI h (l.set i false) i := by
  refine ⟨by rw [List.length_set]; exact H.len, ?_⟩
  have hv := H.val
  have hs := valB_set l i true false hx
  rw [H.len, show 104 - 1 - i = 103 - i by omega] at hs
  rw [show 104 - (i + 1) = 103 - i by omega] at hv
  rw [show 104 - i = (103 - i) + 1 by omega, Nat.pow_succ]
  simp only [Bool.toNat_true, Bool.toNat_false, Nat.one_mul, Nat.zero_mul, Nat.add_zero] at hs
  have := Nat.two_pow_pos (103 - i)
  omega
theorem nbi_stop {h : Hd} {l : List Bool} {i : Nat} (H : NbI h l (i + 1)) (hi : i < 104) (hx : l[i]? = some false) : h.nextV = ofBitL (l.set i true) ∧ h.nextE = 0 := by
  have hl : (l.set i true).length = 104 := by rw [List.length_set]; exact H.len
  have hv := H.val
  have hs := valB_set l i false true hx
  rw [H.len, show 104 - 1 - i = 103 - i by omega] at hs
  rw [show 104 - (i + 1) = 103 - i by omega] at hv
  simp only [Bool.toNat_true, Bool.toNat_false, Nat.one_mul, Nat.zero_mul, Nat.add_zero] at hs
  have := Nat.two_pow_pos (103 - i)
  have e : valB (l.set i true) = h.val + 1 := by omega
  have hlt := ofBitL_lt hl
  rw [e] at hlt
  unfold Hd.nextV Hd.nextE ofBitL
  rw [if_pos hlt, if_pos hlt, e]
  exact ⟨rfl, rfl⟩
theorem nbi_end {h : Hd} {l : List Bool} (H : NbI h l 0) : h.nextV = ⟨0, 0, 0, 0, 0⟩ ∧ h.nextE = 5 := by
  have hv := H.val
  have hlt : ¬ h.val + 1 < hdAll := by
    rw [hdAll_pow]
    have := Nat.two_pow_pos 104
    rw [Nat.sub_zero] at hv
    omega
  unfold Hd.nextV Hd.nextE
  rw [if_neg hlt, if_neg hlt]
  exact ⟨rfl, rfl⟩
theorem cells_set {w : World} {g i : Nat} {L : List Bool} (hcell : ∀ j x, L[j]? = some x → w.cell? ⟨g, j, none⟩ = some (.bool x)) (hl : L.length = 104) (hi : i < 104) (b : Bool) : ∀ j x, (L.set i b)[j]? = some x → (w.setCell ⟨g, i, none⟩ (.bool b)).cell? ⟨g, j, none⟩ = some (.bool x) := by
  intro j x hx
  rw [List.getElem?_set] at hx
  by_cases e : i = j
  · subst e
    rw [if_pos rfl, if_pos (by omega)] at hx
    injection hx with hx
    subst hx
    obtain ⟨y, hy⟩ : ∃ y, L[i]? = some y := ⟨_, List.getElem?_eq_getElem (by omega)⟩
    exact World.cell?_setCell_same _ _ _ (hcell i y hy)
  · rw [if_neg e] at hx
    rw [World.cell?_setCell_other _ _ _ _ (by intro h; injection h with _ h2; exact e h2)]
    exact hcell j x hx
set_option maxRecDepth 100000 in
set_option maxHeartbeats 4000000 in
theorem hrNext_any (h : Hd) (ho : h.ok) (w : World) :
    Calls Tryd.prog 44 #[.agg #[.int .u32 h.src, .int .u32 h.dst, .int .u8 h.proto, .int .u16 h.sp, .int .u16 h.dp]] w fun e w' => e = .returned (.tuple #[.agg #[.int .u32 h.nextV.src, .int .u32 h.nextV.dst, .int .u8 h.nextV.proto, .int .u16 h.nextV.sp, .int .u16 h.nextV.dp], .int .i64 h.nextE]) ∧ Below w.heap.size w w' := by
  have hB := Lib.hid (fun v => hrBits_any h ho v)
  have hN0 := Lib.hid (nbi_start ho)
  have hk := blk2 w h.cells (Hd.cells ⟨0, 0, 0, 0, 0⟩)
  have hw2 := below2 w h.cells (Hd.cells ⟨0, 0, 0, 0, 0⟩)
  go_enter Tryd.func44, Tryd.ntmps44
  go_wp2_with fail
  refine (hB.out _).mono ?_
  rintro e w1 ⟨⟨v, rfl, hown⟩, hb1⟩
  have J1 := blk_below hb1 hk.2
  have hbw := below_call hw2 hb1
  obtain ⟨g, c, rfl, hc, hbg, hgl, hcell, hfz⟩ := own_bit hown
  have hbg' : w.heap.size + 2 ≤ g := by simpa using hbg
  clear hown hbg hb1 hk hw2
  have HC := Lib.hid hcell
  have HF := Lib.hid hfz
  have HJ := Lib.hid J1
  have HW := Lib.hid hbw
  clear hcell hfz J1 hbw
  go_wp2
  go_loopw [5] (fun i wr => ∃ (m : Nat) (L : List Bool), i = .int .i64 ((m : Int) - 1) ∧ m ≤ 104 ∧ Hid (NbI h L m) ∧ Hid (∀ j x, L[j]? = some x → wr.cell? ⟨g, j, none⟩ = some (.bool x)) ∧ Hid (∀ j, wr.frozen? ⟨g, j, none⟩ = false) ∧ Hid (g < wr.heap.size) ∧ Hid (wr.heap[w.heap.size + 1]? = some (Hd.cells ⟨0, 0, 0, 0, 0⟩)) ∧ Hid (Below w.heap.size w wr)) (fun i _ => (intOf i + 1).toNat)
  case atStart => exact ⟨104, h.bitL, rfl, by omega, hN0, HC, HF, hgl, HJ, HW⟩
  case round =>
    obtain ⟨m, L, rfl, hm, hN, hC, hF, hG, hJ, hB2⟩ := hrel
    clear HC HF HJ HW hN0
    cases m with
    | zero =>
      obtain ⟨v1, v2⟩ := nbi_end hN.out
      obtain ⟨d0, d1, d2, d3, d4⟩ := hd_cell hJ.out
      have f1 := hd_frozen hJ.out
      have e0 : ((0 : Nat) : Int) - 1 = -1 := by omega
      have V1 := Lib.hid v1
      have V2 := Lib.hid v2
      clear v1 v2
      go_wp2
      rw [V1.out, V2.out]
      have hbn := hB2.out
      exact bodyPost_ret (results_hd2 (t1 := 2) (t3 := 3) (g := w.heap.size + 1) Tryd.results44 rfl rfl (hd_set4 (hd_set3 (hd_set2 (hd_set1 (hd_set0 hJ.out _) _) _) _) _)) rfl ⟨rfl, (((((hbn.setCell (p := ⟨w.heap.size + 1, 0, none⟩) (by first | exact Nat.le_refl _ | exact Nat.le_succ _) _).setCell (p := ⟨w.heap.size + 1, 1, none⟩) (by first | exact Nat.le_refl _ | exact Nat.le_succ _) _).setCell (p := ⟨w.heap.size + 1, 2, none⟩) (by first | exact Nat.le_refl _ | exact Nat.le_succ _) _).setCell (p := ⟨w.heap.size + 1, 3, none⟩) (by first | exact Nat.le_refl _ | exact Nat.le_succ _) _).setCell (p := ⟨w.heap.size + 1, 4, none⟩) (by first | exact Nat.le_refl _ | exact Nat.le_succ _) _)⟩
    | succ i =>
      have e0 : ((i + 1 : Nat) : Int) - 1 = i := by omega
      have hI0 : (0 : Int) ≤ i := by omega
      have hI1 : (i : Int) < 104 := by omega
      have hlen := hN.out.len
      obtain ⟨x, hx⟩ : ∃ x, L[i]? = some x := ⟨_, List.getElem?_eq_getElem (by omega)⟩
      have cx := hC.out i x hx
      have fx := hF.out i
      have y2 : wrap64 ((i : Int) - 1) = (i : Int) - 1 := by unfold wrap64; omega
      cases x with
      | true =>
        have hM := Lib.hid (nbi_full hN.out (by omega) hx)
        have hC2 : Hid (∀ j x, (L.set i false)[j]? = some x → (wr.setCell ⟨g, i, none⟩ (.bool false)).cell? ⟨g, j, none⟩ = some (.bool x)) := Lib.hid (cells_set hC.out hlen (by omega) false)
        have hF2 : Hid (∀ j, (wr.setCell ⟨g, i, none⟩ (.bool false)).frozen? ⟨g, j, none⟩ = false) := Lib.hid (fun j => by simpa using hF.out j)
        have hG2 : Hid (g < (wr.setCell ⟨g, i, none⟩ (.bool false)).heap.size) := Lib.hid (by simpa using hG.out)
        have hJ2 := Lib.hid ((set_heap wr g i (.bool false) _ (by omega)).trans hJ.out)
        have hW2 := Lib.hid (hB2.out.setCell (p := ⟨g, i, none⟩) (by show w.heap.size ≤ g; omega) (.bool false))
        clear hN hC hF hG hJ hB2 hlen hx
        go_wp2
        exact ⟨⟨i, L.set i false, by go_num, by omega, hM, hC2, hF2, hG2, hJ2, hW2⟩, by simp only [intOf]; omega⟩
      | false =>
        obtain ⟨v1, v2⟩ := nbi_stop hN.out (by omega) hx
        have V1 := Lib.hid v1
        have V2 := Lib.hid v2
        have hRd := Lib.hid (set_own (by omega) hG.out hc hlen hC.out true (i := i))
        have J2 := (set_heap wr g i (.bool true) _ (by omega)).trans hJ.out
        have hW2 := Lib.hid (hB2.out.setCell (p := ⟨g, i, none⟩) (by show w.heap.size ≤ g; omega) (.bool true))
        have K1 := Lib.hid J2
        have hl2 := Lib.hid (show (L.set i true).length = 104 by rw [List.length_set]; exact hlen)
        clear hN hC hF hG hJ hB2 hlen hx v1 v2 J2
        go_wp2_with fail
        refine (hrOfBits_any _ hl2.out _ _ hRd.out).mono ?_
        rintro e w5 ⟨rfl, hb5⟩
        have J1 := blk_below hb5 K1.out
        have hbw5 := below_call hW2.out hb5
        clear hb5 hW2 hRd cx fx K1
        obtain ⟨d0, d1, d2, d3, d4⟩ := hd_cell J1
        have f1 := hd_frozen J1
        have K1 := Lib.hid J1
        clear J1
        go_wp2
        rw [V1.out, V2.out]
        exact bodyPost_ret (results_hd2 (t1 := 2) (t3 := 3) (g := w.heap.size + 1) Tryd.results44 rfl rfl (hd_set4 (hd_set3 (hd_set2 (hd_set1 (hd_set0 K1.out _) _) _) _) _)) rfl ⟨rfl, (((((hbw5.setCell (p := ⟨w.heap.size + 1, 0, none⟩) (by first | exact Nat.le_refl _ | exact Nat.le_succ _) _).setCell (p := ⟨w.heap.size + 1, 1, none⟩) (by first | exact Nat.le_refl _ | exact Nat.le_succ _) _).setCell (p := ⟨w.heap.size + 1, 2, none⟩) (by first | exact Nat.le_refl _ | exact Nat.le_succ _) _).setCell (p := ⟨w.heap.size + 1, 3, none⟩) (by first | exact Nat.le_refl _ | exact Nat.le_succ _) _).setCell (p := ⟨w.heap.size + 1, 4, none⟩) (by first | exact Nat.le_refl _ | exact Nat.le_succ _) _)⟩
end Go.Proofs.YtdlhpiknifcehaaDoor

/-
  Walks over headers, the document's side: Bytes.
-/
namespace Go.Proofs.YtdlhpiknifcehaaDoor
open Go Go.RowKit Go.Sort

theorem valB_mid (l : List Bool) (a n : Nat) (h : a + n ≤ l.length) : valB ((l.drop a).take n) = valB l / 2 ^ (l.length - a - n) % 2 ^ n := by
  have e : l = l.take a ++ ((l.drop a).take n ++ (l.drop a).drop n) := by rw [List.take_append_drop, List.take_append_drop]
  have hr : ((l.drop a).drop n).length = l.length - a - n := by rw [List.length_drop, List.length_drop]
  have hm : ((l.drop a).take n).length = n := by rw [List.length_take, List.length_drop]; omega
  have hv := congrArg valB e
  rw [valB_append, valB_append, List.length_append, hm, hr, Nat.pow_add, ← Nat.mul_assoc] at hv
  have h1 := valB_lt ((l.drop a).drop n)
  have h2 := valB_lt ((l.drop a).take n)
  rw [hr] at h1
  rw [hm] at h2
  generalize valB ((l.drop a).drop n) = R at *
  generalize valB ((l.drop a).take n) = M at *
  generalize valB (l.take a) = A at *
  have hp := Nat.two_pow_pos (l.length - a - n)
  generalize 2 ^ (l.length - a - n) = P at *
  rw [hv, show A * 2 ^ n * P + (M * P + R) = R + (A * 2 ^ n + M) * P by rw [Nat.add_mul]; omega, Nat.add_mul_div_right _ _ hp, Nat.div_eq_of_lt h1, Nat.zero_add, Nat.mul_comm A, Nat.mul_add_mod, Nat.mod_eq_of_lt h2]
/-- The bytes while they are made of the first i bits. -/
def bpL (l : List Bool) (i : Nat) : List Int := (List.range 13).map fun j => ((valB ((l.drop (8 * j)).take (min 8 (i - 8 * j))) : Nat) : Int)
theorem bpL_zero (l : List Bool) : bpL l 0 = List.replicate 13 0 := by
  unfold bpL
  refine List.ext_getElem? fun j => ?_
  by_cases hj : j < 13
  · rw [List.getElem?_map, List.getElem?_range hj, List.getElem?_replicate, if_pos hj, Option.map_some, Nat.zero_sub, Nat.min_zero, List.take_zero]
    rfl
  · rw [List.getElem?_eq_none (by simp; omega), List.getElem?_eq_none (by simp; omega)]
theorem bpL_get (l : List Bool) {i : Nat} (hi : i < 104) : (bpL l i)[i / 8]? = some ((valB ((l.drop (8 * (i / 8))).take (i % 8)) : Nat) : Int) := by
  unfold bpL
  rw [List.getElem?_map, List.getElem?_range (by omega), Option.map_some, show min 8 (i - 8 * (i / 8)) = i % 8 by omega]
theorem bpL_set (l : List Bool) {i : Nat} (hi : i < 104) : (bpL l i).set (i / 8) ((valB ((l.drop (8 * (i / 8))).take (i % 8 + 1)) : Nat) : Int) = bpL l (i + 1) := by
  refine List.ext_getElem? fun j => ?_
  rw [List.getElem?_set]
  unfold bpL
  by_cases hj : j < 13
  · rw [List.getElem?_map, List.getElem?_map, List.getElem?_range hj, Option.map_some, Option.map_some]
    by_cases e : i / 8 = j
    · subst e
      rw [if_pos rfl, if_pos (by simp; omega), show min 8 (i + 1 - 8 * (i / 8)) = i % 8 + 1 by omega]
    · rw [if_neg e, show min 8 (i + 1 - 8 * j) = min 8 (i - 8 * j) by omega]
  · rw [if_neg (by omega), List.getElem?_eq_none (by simp; omega), List.getElem?_eq_none (by simp; omega)]
theorem bpL_step {l : List Bool} {i : Nat} {x : Bool} (hx : l[i]? = some x) : valB ((l.drop (8 * (i / 8))).take (i % 8 + 1)) = 2 * valB ((l.drop (8 * (i / 8))).take (i % 8)) + x.toNat := by
  rw [List.take_add_one, List.getElem?_drop, show 8 * (i / 8) + i % 8 = i by omega, hx, Option.toList_some, valB_snoc]
theorem bpL_small (l : List Bool) (i : Nat) : valB ((l.drop (8 * (i / 8))).take (i % 8)) < 128 := by
  have h := valB_lt ((l.drop (8 * (i / 8))).take (i % 8))
  have hl : ((l.drop (8 * (i / 8))).take (i % 8)).length ≤ 7 := by rw [List.length_take]; omega
  have := Nat.pow_le_pow_right (n := 2) (by decide) hl
  omega
theorem bitL_val {h : Hd} (ho : h.ok) : valB h.bitL = h.val := by
  have e : (ofBitL h.bitL).val = h.val := by rw [ofBitL_bitL ho]
  unfold ofBitL at e
  rwa [val_hdOf (ofBitL_lt (bitL_len h))] at e
theorem bpL_full {h : Hd} (ho : h.ok) : bpL h.bitL 104 = h.bytes := by
  refine List.ext_getElem? fun j => ?_
  by_cases hj : j < 13
  · rw [bytes_val ho hj]
    unfold bpL
    rw [List.getElem?_map, List.getElem?_range hj, Option.map_some, show min 8 (104 - 8 * j) = 8 by omega, valB_mid _ _ _ (by rw [bitL_len]; omega), bitL_len, bitL_val ho, show 104 - 8 * j - 8 = 8 * (12 - j) by omega, Nat.pow_mul]
  · rw [List.getElem?_eq_none (by unfold bpL; simp; omega), List.getElem?_eq_none (by rw [bytes_len]; omega)]
theorem bpL_len (l : List Bool) (i : Nat) : (bpL l i).length = 13 := by simp [bpL]
structure BbSt (l : List Bool) (k g gb : Nat) (w W : World) : Prop where
  c : ∀ j x, l[j]? = some x → W.cell? ⟨g, j, none⟩ = some (.bool x)
  r : W.heap[w.heap.size + 1]? = some (arr (List.replicate 13 0))
  b : W.heap[gb]? = some (arr (bpL l k))
  e : Below w.heap.size w W
theorem bbst_one {l : List Bool} {k g gb : Nat} {w W : World} (H : BbSt l k g gb w W) (hk : k < 104) (h1 : g ≠ gb) (h2 : w.heap.size + 1 ≠ gb) (h3 : w.heap.size ≤ gb) : BbSt l (k + 1) g gb w (W.setCell ⟨gb, k / 8, none⟩ (.int .u8 (valB ((l.drop (8 * (k / 8))).take (k % 8 + 1))))) := by
  refine ⟨fun j x hj => ?_, (set_heap _ _ _ _ _ h2).trans H.r, ?_, H.e.setCell (p := ⟨gb, k / 8, none⟩) h3 _⟩
  · rw [World.cell?_setCell_other _ _ _ _ (by intro h; injection h with h4; exact h1 h4.symm)]; exact H.c j x hj
  · rw [arr_set H.b, bpL_set l hk]
theorem bbst_two {l : List Bool} {k g gb : Nat} {w W : World} (H : BbSt l k g gb w W) (hk : k < 104) (h1 : g ≠ gb) (h2 : w.heap.size + 1 ≠ gb) (h3 : w.heap.size ≤ gb) (u : Int) : BbSt l (k + 1) g gb w ((W.setCell ⟨gb, k / 8, none⟩ (.int .u8 u)).setCell ⟨gb, k / 8, none⟩ (.int .u8 (valB ((l.drop (8 * (k / 8))).take (k % 8 + 1))))) := by
  refine ⟨fun j x hj => ?_, (set_heap _ _ _ _ _ h2).trans ((set_heap _ _ _ _ _ h2).trans H.r), ?_, (H.e.setCell (p := ⟨gb, k / 8, none⟩) h3 _).setCell (p := ⟨gb, k / 8, none⟩) h3 _⟩
  · rw [World.cell?_setCell_other _ _ _ _ (by intro h; injection h with h4; exact h1 h4.symm), World.cell?_setCell_other _ _ _ _ (by intro h; injection h with h4; exact h1 h4.symm)]; exact H.c j x hj
  · rw [arr_set (arr_set H.b _ _), List.set_set, bpL_set l hk]
theorem zero13 {w : World} {g : Nat} (H : w.heap[g]? = some (arr (List.replicate 13 0))) : w.cell? ⟨g, 0, none⟩ = some (.int .u8 0) ∧ w.cell? ⟨g, 1, none⟩ = some (.int .u8 0) ∧ w.cell? ⟨g, 2, none⟩ = some (.int .u8 0) ∧ w.cell? ⟨g, 3, none⟩ = some (.int .u8 0) ∧ w.cell? ⟨g, 4, none⟩ = some (.int .u8 0) ∧ w.cell? ⟨g, 5, none⟩ = some (.int .u8 0) ∧ w.cell? ⟨g, 6, none⟩ = some (.int .u8 0) ∧ w.cell? ⟨g, 7, none⟩ = some (.int .u8 0) ∧ w.cell? ⟨g, 8, none⟩ = some (.int .u8 0) ∧ w.cell? ⟨g, 9, none⟩ = some (.int .u8 0) ∧ w.cell? ⟨g, 10, none⟩ = some (.int .u8 0) ∧ w.cell? ⟨g, 11, none⟩ = some (.int .u8 0) ∧ w.cell? ⟨g, 12, none⟩ = some (.int .u8 0) :=
  ⟨arr_cell H (k := 0) rfl, arr_cell H (k := 1) rfl, arr_cell H (k := 2) rfl, arr_cell H (k := 3) rfl, arr_cell H (k := 4) rfl, arr_cell H (k := 5) rfl, arr_cell H (k := 6) rfl, arr_cell H (k := 7) rfl, arr_cell H (k := 8) rfl, arr_cell H (k := 9) rfl, arr_cell H (k := 10) rfl, arr_cell H (k := 11) rfl, arr_cell H (k := 12) rfl⟩
set_option maxRecDepth 100000 in
set_option maxHeartbeats 4000000 in
theorem hrBytes_any (h : Hd) (ho : h.ok) (w : World) :
    Calls Tryd.prog 47 #[.agg #[.int .u32 h.src, .int .u32 h.dst, .int .u8 h.proto, .int .u16 h.sp, .int .u16 h.dp]] w fun e w' => e = .returned (.agg (h.bytes.map (Value.int .u8)).toArray) ∧ Below w.heap.size w w' := by
  have hB := Lib.hid (fun v => hrBits_any h ho v)
  have HO := Lib.hid ho
  have hk := blk2 w h.cells (arr (List.replicate 13 0))
  have hw2 := below2 w h.cells (arr (List.replicate 13 0))
  clear ho
  go_enter Tryd.func47, Tryd.ntmps47
  go_wp2_with fail
  refine (hB.out _).mono ?_
  rintro e w1 ⟨⟨v, rfl, hown⟩, hb1⟩
  have J1 : w1.heap[w.heap.size + 1]? = some (arr (List.replicate 13 0)) := blk_below hb1 hk.2
  have hbw := below_call hw2 hb1
  obtain ⟨g, c, rfl, hc, hbg, hgl, hcell, _⟩ := own_bit hown
  have hbg' : w.heap.size + 2 ≤ g := by simpa using hbg
  clear hown hbg hb1 hk hw2
  have HC := Lib.hid hcell
  have HJ := Lib.hid J1
  have HW := Lib.hid hbw
  clear hcell J1 hbw
  go_wp2
  have hW : w1.alloc (.cells #[.int .u8 0, .int .u8 0, .int .u8 0, .int .u8 0, .int .u8 0, .int .u8 0, .int .u8 0, .int .u8 0, .int .u8 0, .int .u8 0, .int .u8 0, .int .u8 0, .int .u8 0] 49) = w1.alloc (arr (bpL h.bitL 0)) := by rw [bpL_zero]; rfl
  rw [hW]
  clear hW
  have hg1 : w.heap.size + 1 < w1.heap.size := lt_of_block HJ.out
  have hS0 : BbSt h.bitL 0 g w1.heap.size w (w1.alloc (arr (bpL h.bitL 0))) :=
    ⟨fun j x hj => ((below1 w1 _).cell (p := ⟨g, j, none⟩) hgl).trans (HC.out j x hj), (Below.heap_alloc _ _ _ hg1).trans HJ.out, heap_alloc_new _ _, HW.out.alloc HW.out.size _⟩
  have HS0 := Lib.hid hS0
  generalize w1.alloc (arr (bpL h.bitL 0)) = W3 at *
  change World at w1
  generalize w1.heap.size = gb at *
  clear hS0 HC HJ HW
  go_loopw [5] (fun i wr => ∃ k : Nat, i = .int .i64 k ∧ k ≤ 104 ∧ Hid (BbSt h.bitL k g gb w wr)) (fun i _ => 104 - (intOf i).toNat)
  case atStart => exact ⟨0, rfl, by omega, HS0⟩
  case round =>
    obtain ⟨k, rfl, hk, hSt⟩ := hrel
    clear HS0
    by_cases hlt : k < 104
    · have hI : (k : Int) < 104 := by omega
      have hI0 : (0 : Int) ≤ k := by omega
      have hx := bitL_get h hlt
      have cx := hSt.out.c _ _ hx
      have cb := arr_cell hSt.out.b (bpL_get h.bitL hlt)
      have fb := frozen_row hSt.out.b (k / 8)
      have hstep := bpL_step hx
      have hsm := bpL_small h.bitL k
      have hone := Lib.hid (bbst_one hSt.out hlt (by omega) (by omega) (by omega))
      have htwo := Lib.hid (fun u => bbst_two hSt.out hlt (by omega) (by omega) (by omega) u)
      rw [hstep] at hone htwo
      generalize valB ((h.bitL.drop (8 * (k / 8))).take (k % 8)) = V at *
      obtain ⟨q, hq⟩ : ∃ q, q = k / 8 := ⟨_, rfl⟩
      have e1 : (k : Int).tdiv 8 = (q : Int) := by rw [Int.tdiv_eq_ediv_of_nonneg (by omega)]; omega
      have e3 : (k : Int) / 8 = (q : Int) := by omega
      have e7 : (q : Int) < 13 := by omega
      have e8 : (0 : Int) ≤ (q : Int) := by omega
      rw [← hq] at cb fb hone htwo
      have y1 : IntKind.u8.wrap (2 * (V : Int)) = 2 * (V : Int) := by rw [u8_wrap]; omega
      have y2 : IntKind.u8.wrap (2 * (V : Int) + 1) = 2 * (V : Int) + 1 := by rw [u8_wrap]; omega
      have ngb : g ≠ gb := by omega
      have ngb2 : gb ≠ g := by omega
      clear hx hSt hq hstep
      generalize h.bit k = x at *
      cases x
      · have hone2 : Hid (BbSt h.bitL (k + 1) g gb w (wr.setCell ⟨gb, q, none⟩ (.int .u8 (2 * (V : Int))))) := Lib.hid (by have e := hone.out; simpa using e)
        clear hone htwo
        go_wp2
        exact ⟨⟨k + 1, by go_num, by omega, hone2⟩, by simp only [intOf]; omega⟩
      · have htwo2 : Hid (BbSt h.bitL (k + 1) g gb w ((wr.setCell ⟨gb, q, none⟩ (.int .u8 (2 * (V : Int)))).setCell ⟨gb, q, none⟩ (.int .u8 (2 * (V : Int) + 1)))) := Lib.hid (by have e := htwo.out (2 * (V : Int)); simpa using e)
        clear hone htwo
        go_wp2
        exact ⟨⟨k + 1, by go_num, by omega, htwo2⟩, by simp only [intOf]; omega⟩
    · obtain rfl : k = 104 := by omega
      have Jb := hSt.out.b
      rw [bpL_full HO.out] at Jb
      have Jr := hSt.out.r
      have hn := hSt.out.e
      obtain ⟨q0, q1, q2, q3, q4, q5, q6, q7, q8, q9, q10, q11, q12⟩ := bytes_cells Jb
      obtain ⟨z0, z1, z2, z3, z4, z5, z6, z7, z8, z9, z10, z11, z12⟩ := zero13 Jr
      have fr := frozen_row Jr
      have HR := Lib.hid Jr
      have HN := Lib.hid hn
      clear Jb Jr hn hSt
      go_wp2
      have hr := HR.out
      have hn := HN.out
      exact bodyPost_ret (results_arr (t1 := 2) (g := w.heap.size + 1) Tryd.results47 rfl (arr_set (arr_set (arr_set (arr_set (arr_set (arr_set (arr_set (arr_set (arr_set (arr_set (arr_set (arr_set (arr_set hr 0 (h.src / 16777216)) 1 (h.src / 65536 % 256)) 2 (h.src / 256 % 256)) 3 (h.src % 256)) 4 (h.dst / 16777216)) 5 (h.dst / 65536 % 256)) 6 (h.dst / 256 % 256)) 7 (h.dst % 256)) 8 (h.proto)) 9 (h.sp / 256)) 10 (h.sp % 256)) 11 (h.dp / 256)) 12 (h.dp % 256))) rfl ⟨rfl, (((((((((((((hn.setCell (p := ⟨w.heap.size + 1, 0, none⟩) (by first | exact Nat.le_refl _ | exact Nat.le_succ _) _).setCell (p := ⟨w.heap.size + 1, 1, none⟩) (by first | exact Nat.le_refl _ | exact Nat.le_succ _) _).setCell (p := ⟨w.heap.size + 1, 2, none⟩) (by first | exact Nat.le_refl _ | exact Nat.le_succ _) _).setCell (p := ⟨w.heap.size + 1, 3, none⟩) (by first | exact Nat.le_refl _ | exact Nat.le_succ _) _).setCell (p := ⟨w.heap.size + 1, 4, none⟩) (by first | exact Nat.le_refl _ | exact Nat.le_succ _) _).setCell (p := ⟨w.heap.size + 1, 5, none⟩) (by first | exact Nat.le_refl _ | exact Nat.le_succ _) _).setCell (p := ⟨w.heap.size + 1, 6, none⟩) (by first | exact Nat.le_refl _ | exact Nat.le_succ _) _).setCell (p := ⟨w.heap.size + 1, 7, none⟩) (by first | exact Nat.le_refl _ | exact Nat.le_succ _) _).setCell (p := ⟨w.heap.size + 1, 8, none⟩) (by first | exact Nat.le_refl _ | exact Nat.le_succ _) _).setCell (p := ⟨w.heap.size + 1, 9, none⟩) (by first | exact Nat.le_refl _ | exact Nat.le_succ _) _).setCell (p := ⟨w.heap.size + 1, 10, none⟩) (by first | exact Nat.le_refl _ | exact Nat.le_succ _) _).setCell (p := ⟨w.heap.size + 1, 11, none⟩) (by first | exact Nat.le_refl _ | exact Nat.le_succ _) _).setCell (p := ⟨w.heap.size + 1, 12, none⟩) (by first | exact Nat.le_refl _ | exact Nat.le_succ _) _)⟩
end Go.Proofs.YtdlhpiknifcehaaDoor
