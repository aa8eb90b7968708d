/-
  Walks over headers: Next.
-/
import Derived.Test.YtdlhpiknifcehaaDoorHd5
namespace Go.Proofs.YtdlhpiknifcehaaDoor
open Go Go.RowKit Go.Sort

/-- The header right behind. -/
def Hd.nextV (h : Hd) : Hd := if h.val + 1 < hdAll then hdOf (h.val + 1) else ⟨0, 0, 0, 0, 0⟩
def Hd.nextE (h : Hd) : Int := if h.val + 1 < hdAll then 0 else 5
/-- The bytes while the last ones are full: i bytes are still to be looked at. -/
structure NxI (h : Hd) (l : List Int) (i : Nat) : Prop where
  len : l.length = 13
  rng : ∀ x ∈ l, 0 ≤ x ∧ x < 256
  val : valL l = (h.val : Int) - (256 ^ (13 - i) - 1)
theorem nxi_start {h : Hd} (ho : h.ok) : NxI h h.bytes 13 := ⟨rfl, bytes_range h ho, by rw [valL_bytes ho]; simp⟩
theorem set_range {l : List Int} (h : ∀ x ∈ l, 0 ≤ x ∧ x < 256) {i : Nat} {y : Int} (h0 : 0 ≤ y) (h1 : y < 256) : ∀ x ∈ l.set i y, 0 ≤ x ∧ x < 256 := fun x hx => by
  rcases List.mem_or_eq_of_mem_set hx with hx | rfl
  · exact h x hx
  · exact ⟨h0, h1⟩
theorem pow_pred {i : Nat} (hi : i < 13) : (256 : Int) ^ (13 - i) = 256 * 256 ^ (12 - i) := by
  rw [show 13 - i = 12 - i + 1 by omega, Int.pow_succ, Int.mul_comm]
theorem nxi_full {h : Hd} {l : List Int} {i : Nat} (H : NxI h l (i + 1)) (hi : i < 13) (hx : l[i]? = some 255) : NxI h (l.set i 0) i := by
  refine ⟨by rw [List.length_set]; exact H.len, set_range H.rng (by omega) (by omega), ?_⟩
  have hv := H.val
  rw [show 13 - (i + 1) = 12 - i by omega] at hv
  rw [valL_set l i 255 0 hx, H.len, hv, pow_pred hi, show 13 - 1 - i = 12 - i by omega, Int.sub_mul]
  omega
theorem nxi_stop {h : Hd} {l : List Int} {i : Nat} {x : Int} (H : NxI h l (i + 1)) (hi : i < 13) (hx : l[i]? = some x) (h1 : x < 255) : (ofB (l.set i (x + 1))).ok ∧ (ofB (l.set i (x + 1))).bytes = l.set i (x + 1) ∧ h.nextV = ofB (l.set i (x + 1)) ∧ h.nextE = 0 := by
  have hr := H.rng x (List.mem_of_getElem? hx)
  have hl : (l.set i (x + 1)).length = 13 := by rw [List.length_set]; exact H.len
  have hrg := set_range H.rng (i := i) (y := x + 1) (by omega) (by omega)
  have hv := H.val
  rw [show 13 - (i + 1) = 12 - i by omega] at hv
  have hn : valL (l.set i (x + 1)) = ((h.val + 1 : Nat) : Int) := by
    rw [valL_set l i x (x + 1) hx, H.len, hv]
    rw [show 13 - 1 - i = 12 - i by omega]
    have e : x + 1 - x = 1 := by omega
    rw [e, Int.one_mul]
    omega
  obtain ⟨o1, o2, o3⟩ := ofB_val hl hrg
  have hlt : h.val + 1 < hdAll := by
    have := val_lt o1
    omega
  refine ⟨o1, o3, ?_, ?_⟩
  · rw [ofB_is hl hrg hn]; unfold Hd.nextV; rw [if_pos hlt]
  · unfold Hd.nextE; rw [if_pos hlt]
theorem nxi_end {h : Hd} {l : List Int} (H : NxI h l 0) : h.nextV = ⟨0, 0, 0, 0, 0⟩ ∧ h.nextE = 5 := by
  have hv := H.val
  have h0 := (valL_range l H.rng).1
  have hlt : ¬ h.val + 1 < hdAll := by
    have e : (256 : Int) ^ (13 - 0) = (hdAll : Int) := by decide
    rw [e] at hv
    omega
  unfold Hd.nextV Hd.nextE
  rw [if_neg hlt, if_neg hlt]
  exact ⟨rfl, rfl⟩
set_option maxRecDepth 100000 in
set_option maxHeartbeats 4000000 in
theorem hdNext_any (h : Hd) (ho : h.ok) (w : World) :
    Calls Tryd.prog 38 #[.agg #[.int .u32 h.src, .int .u32 h.dst, .int .u8 h.proto, .int .u16 h.sp, .int .u16 h.dp]] w fun e w' => e = .returned (.tuple #[.agg #[.int .u32 h.nextV.src, .int .u32 h.nextV.dst, .int .u8 h.nextV.proto, .int .u16 h.nextV.sp, .int .u16 h.nextV.dp], .int .i64 h.nextE]) ∧ Below w.heap.size w w' := by
  have hB : Hid (∀ v : World, Calls Tryd.prog 33 #[.agg #[.int .u32 h.src, .int .u32 h.dst, .int .u8 h.proto, .int .u16 h.sp, .int .u16 h.dp]] v fun e w' => e = .returned (.agg #[.int .u8 (h.src / 16777216), .int .u8 (h.src / 65536 % 256), .int .u8 (h.src / 256 % 256), .int .u8 (h.src % 256), .int .u8 (h.dst / 16777216), .int .u8 (h.dst / 65536 % 256), .int .u8 (h.dst / 256 % 256), .int .u8 (h.dst % 256), .int .u8 (h.proto), .int .u8 (h.sp / 256), .int .u8 (h.sp % 256), .int .u8 (h.dp / 256), .int .u8 (h.dp % 256)]) ∧ Below v.heap.size v w') := Lib.hid (fun v => bytes_any h ho v)
  have hO := Lib.hid of_bytes
  have hk := blk2 w h.cells (Hd.cells ⟨0, 0, 0, 0, 0⟩)
  have hw2 := below2 w h.cells (Hd.cells ⟨0, 0, 0, 0, 0⟩)
  go_enter Tryd.func38, Tryd.ntmps38
  go_wp2_with fail
  refine (hB.out _).mono ?_
  rintro e w1 ⟨rfl, hb1⟩
  have J1 : w1.heap[w.heap.size + 1]? = some (Hd.cells ⟨0, 0, 0, 0, 0⟩) := blk_below hb1 hk.2
  have hbw := below_call hw2 hb1
  clear hb1 hk hw2
  go_upto_region 4 with fail
  have Jb := heap_alloc_new w1 (arr h.bytes)
  have J1' : (w1.alloc (arr h.bytes)).heap[w.heap.size + 1]? = some (Hd.cells ⟨0, 0, 0, 0, 0⟩) := (Below.heap_alloc _ _ _ (lt_of_block J1)).trans J1
  have hbw3 := hbw.alloc hbw.size (arr h.bytes)
  have lt1 := lt_of_block J1
  generalize hg3 : w1.heap.size = g3 at *
  change World at w1
  generalize hW3 : w1.alloc (arr h.bytes) = W3 at *
  have hW4 : (w1.alloc (.cells #[.int .u8 (h.src / 16777216), .int .u8 (h.src / 65536 % 256), .int .u8 (h.src / 256 % 256), .int .u8 (h.src % 256), .int .u8 (h.dst / 16777216), .int .u8 (h.dst / 65536 % 256), .int .u8 (h.dst / 256 % 256), .int .u8 (h.dst % 256), .int .u8 (h.proto), .int .u8 (h.sp / 256), .int .u8 (h.sp % 256), .int .u8 (h.dp / 256), .int .u8 (h.dp % 256)] 49)) = W3 := hW3
  try rw [hW4]
  clear hW3 hW4 J1 hbw
  have hN0 := nxi_start ho
  have HB0 := Lib.hid Jb
  have HJ0 := Lib.hid J1'
  have HBw := Lib.hid hbw3
  have HN0 := Lib.hid hN0
  clear hN0 Jb J1' hbw3
  go_loopw [5] (fun i wr => ∃ (m : Nat) (l : List Int), i = .int .i64 ((m : Int) - 1) ∧ m ≤ 13 ∧ Hid (NxI h l m) ∧ Hid (wr.heap[g3]? = some (arr l)) ∧ Hid (wr.heap[w.heap.size + 1]? = some (Hd.cells ⟨0, 0, 0, 0, 0⟩)) ∧ Hid (Below w.heap.size w wr)) (fun i _ => (intOf i + 1).toNat)
  case atStart => exact ⟨13, h.bytes, rfl, by omega, HN0, HB0, HJ0, HBw⟩
  case round =>
    obtain ⟨m, l, rfl, hm, hN, hBl, hJ, hBw⟩ := hrel
    clear HN0 HB0 HJ0 HBw
    cases m with
    | zero =>
      obtain ⟨v1, v2⟩ := nxi_end hN.out
      obtain ⟨d0, d1, d2, d3, d4⟩ := hd_cell hJ.out
      have f1 := hd_frozen hJ.out
      have e0 : ((0 : Nat) : Int) - 1 = -1 := by omega
      have V1 := Lib.hid v1
      have V2 := Lib.hid v2
      clear v1 v2
      go_wp2
      rw [V1.out, V2.out]
      exact bodyPost_ret (results_hd2 (t1 := 2) (t3 := 3) (g := w.heap.size + 1) Tryd.results38 rfl rfl (hd_set4 (hd_set3 (hd_set2 (hd_set1 (hd_set0 hJ.out _) _) _) _) _)) rfl ⟨rfl, (((((hBw.out.setCell (p := ⟨w.heap.size + 1, 0, none⟩) (by first | exact Nat.le_refl _ | exact Nat.le_succ _) _).setCell (p := ⟨w.heap.size + 1, 1, none⟩) (by first | exact Nat.le_refl _ | exact Nat.le_succ _) _).setCell (p := ⟨w.heap.size + 1, 2, none⟩) (by first | exact Nat.le_refl _ | exact Nat.le_succ _) _).setCell (p := ⟨w.heap.size + 1, 3, none⟩) (by first | exact Nat.le_refl _ | exact Nat.le_succ _) _).setCell (p := ⟨w.heap.size + 1, 4, none⟩) (by first | exact Nat.le_refl _ | exact Nat.le_succ _) _)⟩
    | succ i =>
      have e0 : ((i + 1 : Nat) : Int) - 1 = i := by omega
      have hI0 : (0 : Int) ≤ i := by omega
      have hI1 : (i : Int) < 13 := by omega
      have hlen := hN.out.len
      obtain ⟨x, hx⟩ : ∃ x, l[i]? = some x := ⟨_, List.getElem?_eq_getElem (by omega)⟩
      have hr := hN.out.rng x (List.mem_of_getElem? hx)
      have hc := arr_cell hBl.out hx
      have fz := frozen_row hBl.out i
      have ng : w.heap.size + 1 ≠ g3 := by omega
      by_cases h255 : x = 255
      · subst h255
        have hM := Lib.hid (nxi_full hN.out (by omega) hx)
        have HA := Lib.hid (arr_set hBl.out i 0)
        have HJ2 := Lib.hid ((set_heap wr g3 i (.int .u8 0) _ ng).trans hJ.out)
        have HW2 := Lib.hid (hBw.out.setCell (p := ⟨g3, i, none⟩) (by show w.heap.size ≤ g3; omega) (.int .u8 0))
        have y0 : IntKind.u8.wrap 256 = 0 := by decide
        have y1 : IntKind.u8.wrap (255 + 1) = 0 := by decide
        have y2 : wrap64 ((i : Int) - 1) = (i : Int) - 1 := by unfold wrap64; omega
        clear hN hBl hJ hBw hlen hx hr
        go_wp2
        first
          | exact ⟨⟨i, l.set i 0, by go_num, by omega, hM, HA, HJ2, HW2⟩, by simp only [intOf]; omega⟩
          | (refine ⟨i, l.set i 0, ?_, by omega, hM, HA, HJ2, HW2⟩; go_num)
      · have hlt : x < 255 := by omega
        obtain ⟨o1, o2, o3, o4⟩ := nxi_stop hN.out (by omega) hx hlt
        have HA : Hid ((wr.setCell ⟨g3, i, none⟩ (.int .u8 (x + 1))).heap[g3]? = some (arr (ofB (l.set i (x + 1))).bytes)) := Lib.hid (by rw [o2]; exact arr_set hBl.out i (x + 1))
        generalize ofB (l.set i (x + 1)) = p at *
        have J2 := (set_heap wr g3 i (.int .u8 (x + 1)) _ ng).trans hJ.out
        have hW2 := hBw.out.setCell (p := ⟨g3, i, none⟩) (by show w.heap.size ≤ g3; omega) (.int .u8 (x + 1))
        have y1 : IntKind.u8.wrap (x + 1) = x + 1 := by rw [u8_wrap]; omega
        have y3 : (x + 1) % 256 = x + 1 := by omega
        have y2 : (x + 1 != 0) = true := by simp; omega
        have y4 : ¬ (x + 1 = 0) := by omega
        obtain ⟨c0, c1, c2, c3, c4, c5, c6, c7, c8, c9, c10, c11, c12⟩ := bytes_cells HA.out
        obtain ⟨d0, d1, d2, d3, d4⟩ := hd_cell J2
        have f1 := hd_frozen J2
        have O1 := Lib.hid o1
        have V1 := Lib.hid o3
        have V2 := Lib.hid o4
        have K1 := Lib.hid J2
        have HW2 := Lib.hid hW2
        clear hN hBl hJ hBw hlen hx o1 o2 o3 o4 J2 hW2
        go_wp2_with fail
        refine (hO.out p O1.out _).mono ?_
        rintro e w5 ⟨rfl, hb5⟩
        have J1 := blk_below hb5 K1.out
        have hbw5 := below_call HW2.out hb5
        clear hb5 HW2 c0 c1 c2 c3 c4 c5 c6 c7 c8 c9 c10 c11 c12 d0 d1 d2 d3 d4 f1 K1 hc fz
        obtain ⟨d0, d1, d2, d3, d4⟩ := hd_cell J1
        have f1 := hd_frozen J1
        have K1 := Lib.hid J1
        clear J1
        go_wp2
        rw [V1.out, V2.out]
        exact bodyPost_ret (results_hd2 (t1 := 2) (t3 := 3) (g := w.heap.size + 1) Tryd.results38 rfl rfl (hd_set4 (hd_set3 (hd_set2 (hd_set1 (hd_set0 K1.out _) _) _) _) _)) rfl ⟨rfl, (((((hbw5.setCell (p := ⟨w.heap.size + 1, 0, none⟩) (by first | exact Nat.le_refl _ | exact Nat.le_succ _) _).setCell (p := ⟨w.heap.size + 1, 1, none⟩) (by first | exact Nat.le_refl _ | exact Nat.le_succ _) _).setCell (p := ⟨w.heap.size + 1, 2, none⟩) (by first | exact Nat.le_refl _ | exact Nat.le_succ _) _).setCell (p := ⟨w.heap.size + 1, 3, none⟩) (by first | exact Nat.le_refl _ | exact Nat.le_succ _) _).setCell (p := ⟨w.heap.size + 1, 4, none⟩) (by first | exact Nat.le_refl _ | exact Nat.le_succ _) _)⟩
end Go.Proofs.YtdlhpiknifcehaaDoor
