/-
  The walk of the law HeaderNames (written by wip/gen/genhnames.py).
-/
import Derived.Test.YtdlhpiknifcehaaDoorHd10
import Derived.Test.YtdlhpiknifcehaaDoorKit2
import Derived.BigFrame
import Derived.Deep.DeepCutAuto
namespace Go.Proofs.YtdlhpiknifcehaaDoor
open Go Go.RowKit Go.Sort

def badHL : List ByteArray := [⟨#[49, 48, 46, 48, 46, 48, 46, 49, 58, 48, 49, 48, 50, 52, 32, 49, 48, 46, 48, 46, 48, 46, 50, 58, 56, 48, 32, 54]⟩, ⟨#[49, 48, 46, 48, 46, 48, 46, 49, 58, 49, 48, 50, 52, 32, 49, 48, 46, 48, 46, 48, 46, 50, 58, 56, 48, 32, 48, 54]⟩, ⟨#[49, 48, 46, 48, 46, 48, 46, 49, 58, 49, 48, 50, 52, 32, 32, 49, 48, 46, 48, 46, 48, 46, 50, 58, 56, 48, 32, 54]⟩, ⟨#[49, 48, 46, 48, 46, 48, 46, 49, 58, 43, 49, 32, 49, 48, 46, 48, 46, 48, 46, 50, 58, 56, 48, 32, 54]⟩]
theorem badH_none : ∀ s ∈ badHL, hpO s.data.toList = none ∧ s.size < 100 := by decide +kernel
theorem badH_parse {s : ByteArray} (h : s ∈ badHL) (w : World) (hE : Env w) : Calls Tryd.prog 29 #[.string s] w fun e w' => e = .returned (.tuple #[.agg #[.int .u32 0, .int .u32 0, .int .u8 0, .int .u16 0, .int .u16 0], .int .i64 4]) ∧ Below w.heap.size w w' := by
  have hb := badH_none s h
  have h := hdParse_any s w hE (by omega)
  rw [(hp_none hb.1).1, (hp_none hb.1).2] at h
  exact h
structure RowH where
  at' : Nat
  hd : Hd
def RowH.enc (r : RowH) : List Value := [.int .i64 r.at', .int .u32 r.hd.src, .int .u32 r.hd.dst, .int .u8 r.hd.proto, .int .u16 r.hd.sp, .int .u16 r.hd.dp]
def rowsH : List RowH := [⟨0, ⟨2147483648, 0, 0, 0, 0⟩⟩, ⟨32, ⟨0, 2147483648, 0, 0, 0⟩⟩, ⟨64, ⟨0, 0, 128, 0, 0⟩⟩, ⟨72, ⟨0, 0, 0, 32768, 0⟩⟩, ⟨88, ⟨0, 0, 0, 0, 32768⟩⟩, ⟨103, ⟨0, 0, 0, 0, 1⟩⟩]
def z0 : Hd := ⟨0, 0, 0, 0, 0⟩
theorem z0_ok : z0.ok := ⟨by decide, by decide, by decide, by decide, by decide, by decide, by decide, by decide, by decide, by decide⟩
theorem rowsH_put : ∀ r ∈ rowsH, r.at' < 104 ∧ z0.put r.at' true = r.hd := by decide +kernel
theorem with_row {r : RowH} (h : r ∈ rowsH) (w : World) : Calls Tryd.prog 35 #[.agg #[.int .u32 0, .int .u32 0, .int .u8 0, .int .u16 0, .int .u16 0], .int .i64 r.at', .bool true] w fun e w' => e = .returned (.tuple #[.agg #[.int .u32 r.hd.src, .int .u32 r.hd.dst, .int .u8 r.hd.proto, .int .u16 r.hd.sp, .int .u16 r.hd.dp], .int .i64 0]) ∧ Below w.heap.size w w' := by
  obtain ⟨h1, h2⟩ := rowsH_put r h
  have e := with_yes z0 z0_ok r.at' true w h1
  rw [h2] at e
  exact e
theorem next_far (w : World) : Calls Tryd.prog 38 #[.agg #[.int .u32 16777215, .int .u32 4294967295, .int .u8 255, .int .u16 65535, .int .u16 65535]] w fun e w' => e = .returned (.tuple #[.agg #[.int .u32 16777216, .int .u32 0, .int .u8 0, .int .u16 0, .int .u16 0], .int .i64 0]) ∧ Below w.heap.size w w' := by
  have h := hdNext_any ⟨16777215, 4294967295, 255, 65535, 65535⟩ ⟨by decide, by decide, by decide, by decide, by decide, by decide, by decide, by decide, by decide, by decide⟩ w
  rw [show (Hd.nextV ⟨16777215, 4294967295, 255, 65535, 65535⟩) = ⟨16777216, 0, 0, 0, 0⟩ by decide +kernel, show (Hd.nextE ⟨16777215, 4294967295, 255, 65535, 65535⟩) = 0 by decide +kernel] at h
  exact h
theorem next_all (w : World) : Calls Tryd.prog 38 #[.agg #[.int .u32 4294967295, .int .u32 4294967295, .int .u8 255, .int .u16 65535, .int .u16 65535]] w fun e w' => e = .returned (.tuple #[.agg #[.int .u32 0, .int .u32 0, .int .u8 0, .int .u16 0, .int .u16 0], .int .i64 5]) ∧ Below w.heap.size w w' := by
  have h := hdNext_any ⟨4294967295, 4294967295, 255, 65535, 65535⟩ ⟨by decide, by decide, by decide, by decide, by decide, by decide, by decide, by decide, by decide, by decide⟩ w
  rw [show (Hd.nextV ⟨4294967295, 4294967295, 255, 65535, 65535⟩) = ⟨0, 0, 0, 0, 0⟩ by decide +kernel, show (Hd.nextE ⟨4294967295, 4294967295, 255, 65535, 65535⟩) = 5 by decide +kernel] at h
  exact h
theorem next_p7 (w : World) : Calls Tryd.prog 38 #[.agg #[.int .u32 0, .int .u32 0, .int .u8 0, .int .u16 7, .int .u16 65535]] w fun e w' => e = .returned (.tuple #[.agg #[.int .u32 0, .int .u32 0, .int .u8 0, .int .u16 8, .int .u16 0], .int .i64 0]) ∧ Below w.heap.size w w' := by
  have h := hdNext_any ⟨0, 0, 0, 7, 65535⟩ ⟨by decide, by decide, by decide, by decide, by decide, by decide, by decide, by decide, by decide, by decide⟩ w
  rw [show (Hd.nextV ⟨0, 0, 0, 7, 65535⟩) = ⟨0, 0, 0, 8, 0⟩ by decide +kernel, show (Hd.nextE ⟨0, 0, 0, 7, 65535⟩) = 0 by decide +kernel] at h
  exact h
theorem same_far (w : World) : Calls Tryd.prog 31 #[.agg #[.int .u32 16777216, .int .u32 0, .int .u8 0, .int .u16 0, .int .u16 0], .agg #[.int .u32 16777216, .int .u32 0, .int .u8 0, .int .u16 0, .int .u16 0]] w fun e w' => e = .returned (.bool true) ∧ Below w.heap.size w w' := hdSame_any ⟨16777216, 0, 0, 0, 0⟩ w
theorem same_p8 (w : World) : Calls Tryd.prog 31 #[.agg #[.int .u32 0, .int .u32 0, .int .u8 0, .int .u16 8, .int .u16 0], .agg #[.int .u32 0, .int .u32 0, .int .u8 0, .int .u16 8, .int .u16 0]] w fun e w' => e = .returned (.bool true) ∧ Below w.heap.size w w' := hdSame_any ⟨0, 0, 0, 8, 0⟩ w
theorem bit_lo (w : World) : Calls Tryd.prog 34 #[.agg #[.int .u32 4294967295, .int .u32 4294967295, .int .u8 255, .int .u16 65535, .int .u16 65535], .int .i64 (-1)] w fun e w' => e = .returned (.tuple #[.bool false, .int .i64 1]) ∧ Below w.heap.size w w' := bit_no ⟨4294967295, 4294967295, 255, 65535, 65535⟩ (-1) w (by omega)
theorem bit_hi (w : World) : Calls Tryd.prog 34 #[.agg #[.int .u32 4294967295, .int .u32 4294967295, .int .u8 255, .int .u16 65535, .int .u16 65535], .int .i64 104] w fun e w' => e = .returned (.tuple #[.bool false, .int .i64 1]) ∧ Below w.heap.size w w' := bit_no ⟨4294967295, 4294967295, 255, 65535, 65535⟩ 104 w (by omega)
theorem with_hi (w : World) : Calls Tryd.prog 35 #[.agg #[.int .u32 4294967295, .int .u32 4294967295, .int .u8 255, .int .u16 65535, .int .u16 65535], .int .i64 104, .bool true] w fun e w' => e = .returned (.tuple #[.agg #[.int .u32 0, .int .u32 0, .int .u8 0, .int .u16 0, .int .u16 0], .int .i64 1]) ∧ Below w.heap.size w w' := with_no ⟨4294967295, 4294967295, 255, 65535, 65535⟩ 104 true w (by omega)
set_option maxRecDepth 100000 in
set_option maxHeartbeats 4000000 in
theorem lawHNames_any (w : World) (hE : Env w) : Calls Tryd.prog 7 #[] w fun e w' => e = .returned (.bool true) ∧ Below w.heap.size w w' := by
  go_enter Tryd.func7, Tryd.ntmps7
  go_wp2_with fail
  refine (hworks_any _ hE).mono ?_
  rintro e w1 ⟨rfl, hb⟩
  have hbw := below_call (Below.refl _ _) hb
  clear hb
  go_wp2_with fail
  have hTW : w1.alloc (.cells #[.int .i64 0, .int .u32 2147483648, .int .u32 0, .int .u8 0, .int .u16 0, .int .u16 0, .int .i64 32, .int .u32 0, .int .u32 2147483648, .int .u8 0, .int .u16 0, .int .u16 0, .int .i64 64, .int .u32 0, .int .u32 0, .int .u8 128, .int .u16 0, .int .u16 0, .int .i64 72, .int .u32 0, .int .u32 0, .int .u8 0, .int .u16 32768, .int .u16 0, .int .i64 88, .int .u32 0, .int .u32 0, .int .u8 0, .int .u16 0, .int .u16 32768, .int .i64 103, .int .u32 0, .int .u32 0, .int .u8 0, .int .u16 0, .int .u16 1] 64) = w1.alloc (.cells (rowsH.flatMap RowH.enc).toArray 64) := rfl
  rw [hTW]
  clear hTW
  have hk := heap_alloc_new w1 (.cells (rowsH.flatMap RowH.enc).toArray 64)
  have hba := hbw.alloc hbw.size (.cells (rowsH.flatMap RowH.enc).toArray 64)
  generalize w1.alloc (.cells (rowsH.flatMap RowH.enc).toArray 64) = W at *
  change World at w1
  have hg : w.heap.size ≤ w1.heap.size := hbw.size
  generalize w1.heap.size = g at *
  go_loopw [56] (fun i wr => ∃ k : Nat, i = .int .i64 k ∧ k ≤ 6 ∧ Hid (wr.heap[g]? = some (.cells (rowsH.flatMap RowH.enc).toArray 64 (0, 0))) ∧ Hid (Below w.heap.size w wr)) (fun i _ => 6 - (intOf i).toNat)
  case atStart => exact ⟨0, rfl, by omega, hk, hba⟩
  case round =>
    obtain ⟨k, rfl, hk6, hB, hbr⟩ := hrel
    clear hk hba hbw
    by_cases hlt : k < 6
    · have hI : (k : Int) < 6 := by omega
      have hI0 : (0 : Int) ≤ k := by omega
      obtain ⟨r, hr⟩ : ∃ r, rowsH[k]? = some r := ⟨_, List.getElem?_eq_getElem (show k < rowsH.length from hlt)⟩
      have hm := Lib.hid (List.mem_of_getElem? hr)
      have get : ∀ j v, r.enc[j]? = some v → wr.cell? ⟨g, k * 6 + j, none⟩ = some v := fun j v hj => by
        rw [cell_of_row wr g _ _ _ _ hB.out]
        rw [List.getElem?_toArray]
        exact flat_get RowH.enc 6 (fun _ => rfl) rowsH k j r v hr hj
      have c0 : wr.cell? ⟨g, k * 6, none⟩ = some (.int .i64 r.at') := get 0 _ rfl
      have c1 : wr.cell? ⟨g, k * 6 + 1, none⟩ = some (.int .u32 r.hd.src) := get 1 _ rfl
      have c2 : wr.cell? ⟨g, k * 6 + 2, none⟩ = some (.int .u32 r.hd.dst) := get 2 _ rfl
      have c3 : wr.cell? ⟨g, k * 6 + 3, none⟩ = some (.int .u8 r.hd.proto) := get 3 _ rfl
      have c4 : wr.cell? ⟨g, k * 6 + 4, none⟩ = some (.int .u16 r.hd.sp) := get 4 _ rfl
      have c5 : wr.cell? ⟨g, k * 6 + 5, none⟩ = some (.int .u16 r.hd.dp) := get 5 _ rfl
      clear get hr
      have lt := lt_of_block hB.out
      go_wp2_with fail
      refine (with_row hm.out _).mono ?_
      rintro e w2 ⟨rfl, hb⟩
      have Jx : w2.heap[wr.heap.size]? = some (.cells r.enc.toArray 64 (0, 0)) := blk_below hb (heap_alloc_new wr (.cells r.enc.toArray 64))
      have Jg := blk_below hb ((Below.heap_alloc wr (.cells r.enc.toArray 64) _ lt).trans hB.out)
      have hbw := below_call (hbr.out.alloc hbr.out.size (.cells r.enc.toArray 64)) hb
      have hEr := hE.below hbw
      clear hb hB hbr c0 c1 c2 c3 c4 c5 lt
      go_upto_region 7 with fail
      have hW : w2.alloc (.cells #[.int .u32 r.hd.src, .int .u32 r.hd.dst, .int .u8 r.hd.proto, .int .u16 r.hd.sp, .int .u16 r.hd.dp] 48) = w2.alloc r.hd.cells := rfl
      rw [hW]
      clear hW
      have Jh := heap_alloc_new w2 r.hd.cells
      have Jx' := (Below.heap_alloc w2 r.hd.cells _ (lt_of_block Jx)).trans Jx
      have Jg' := (Below.heap_alloc w2 r.hd.cells _ (lt_of_block Jg)).trans Jg
      have hbw' := hbw.alloc hbw.size r.hd.cells
      generalize w2.alloc r.hd.cells = W3 at *
      change World at w2
      clear Jx Jg hbw
      generalize w2.heap.size = g2 at *
      obtain ⟨ch0, ch1, ch2, ch3, ch4⟩ := hd_cell Jh
      have cx1 : W3.cell? ⟨wr.heap.size, 1, none⟩ = some (.int .u32 r.hd.src) := by rw [cell_of_row W3 _ 1 _ _ _ Jx']; rfl
      have cx2 : W3.cell? ⟨wr.heap.size, 2, none⟩ = some (.int .u32 r.hd.dst) := by rw [cell_of_row W3 _ 2 _ _ _ Jx']; rfl
      have cx3 : W3.cell? ⟨wr.heap.size, 3, none⟩ = some (.int .u8 r.hd.proto) := by rw [cell_of_row W3 _ 3 _ _ _ Jx']; rfl
      have cx4 : W3.cell? ⟨wr.heap.size, 4, none⟩ = some (.int .u16 r.hd.sp) := by rw [cell_of_row W3 _ 4 _ _ _ Jx']; rfl
      have cx5 : W3.cell? ⟨wr.heap.size, 5, none⟩ = some (.int .u16 r.hd.dp) := by rw [cell_of_row W3 _ 5 _ _ _ Jx']; rfl
      have HG := Lib.hid Jg'
      have HW := Lib.hid hbw'
      clear Jg' hbw' Jx' Jh
      go_wp2_with fail
      refine (hdSame_any r.hd _).mono ?_
      rintro e w3 ⟨rfl, hb3⟩
      clear ch0 ch1 ch2 ch3 ch4 cx1 cx2 cx3 cx4 cx5
      have HG2 := Lib.hid (blk_below hb3 HG.out)
      have HW2 := Lib.hid (below_call HW.out hb3)
      clear HG HW hb3 hm
      go_wp2
      first
        | exact ⟨⟨k + 1, by go_num, by omega, HG2, HW2⟩, by simp only [intOf]; omega⟩
        | (go_roundw
           case rel => first | exact ⟨k + 1, by go_num, by omega, HG2, HW2⟩ | ((repeat apply Exists.intro); exact ⟨⟨k + 1, by go_num, by omega, HG2, HW2⟩, rfl⟩)
           case measure => change 6 - (intOf (Value.int .i64 ((k : Int) + 1))).toNat < 6 - (intOf (Value.int .i64 (k : Int))).toNat; simp only [intOf]; omega)
    · obtain rfl : k = 6 := by omega
      have hbw := hbr.out
      have hEr := hE.below hbw
      clear hB hbr
      have hk := heap_alloc_new wr (.cells (badHL.map Value.string).toArray 9)
      have hba := hbw.alloc hbw.size (.cells (badHL.map Value.string).toArray 9)
      have HK := Lib.hid hk
      have HBA := Lib.hid hba
      clear hk hba hbw
      go_wp2
      go_loopw [79] (fun i wq => ∃ k : Nat, i = .int .i64 k ∧ k ≤ 4 ∧ Hid (wq.heap[wr.heap.size]? = some (.cells (badHL.map Value.string).toArray 9 (0, 0))) ∧ Hid (Below w.heap.size w wq)) (fun i _ => 4 - (intOf i).toNat)
      case atStart => exact ⟨0, rfl, by omega, HK, HBA⟩
      case round =>
        obtain ⟨k, rfl, hk4, hB, hbr⟩ := hrel
        clear HK HBA
        by_cases hlt2 : k < 4
        · obtain ⟨s, hs⟩ : ∃ s, badHL[k]? = some s := ⟨_, List.getElem?_eq_getElem (show k < badHL.length from hlt2)⟩
          have hc := cells_str hB.out hs
          have hm := Lib.hid (List.mem_of_getElem? hs)
          have hI : (k : Int) < 4 := by omega
          have hI0 : (0 : Int) ≤ k := by omega
          clear hs
          go_wp2_with fail
          refine (badH_parse hm.out _ (hE.below hbr.out)).mono ?_
          rintro e w3 ⟨rfl, hb3⟩
          have hG2 := blk_below hb3 hB.out
          have hW2 := below_call hbr.out hb3
          have HG2 := Lib.hid ((Below.heap_alloc w3 (.cells #[.int .u32 0, .int .u32 0, .int .u8 0, .int .u16 0, .int .u16 0] 48) _ (lt_of_block hG2)).trans hG2)
          have HW2 := Lib.hid (hW2.alloc hW2.size (.cells #[.int .u32 0, .int .u32 0, .int .u8 0, .int .u16 0, .int .u16 0] 48))
          clear hG2 hW2
          clear hB hbr hb3 hm hc
          go_wp2
          first
            | exact ⟨⟨k + 1, by go_num, by omega, HG2, HW2⟩, by simp only [intOf]; omega⟩
            | (go_roundw
               case rel => first | exact ⟨k + 1, by go_num, by omega, HG2, HW2⟩ | ((repeat apply Exists.intro); exact ⟨⟨k + 1, by go_num, by omega, HG2, HW2⟩, rfl⟩)
               case measure => change 4 - (intOf (Value.int .i64 ((k : Int) + 1))).toNat < 4 - (intOf (Value.int .i64 (k : Int))).toNat; simp only [intOf]; omega)
        · obtain rfl : k = 4 := by omega
          have hbw := hbr.out
          clear hB hbr
          go_wp2_with fail
          refine (next_far _).mono ?_
          rintro e w11 ⟨rfl, hb⟩
          have hbw' := below_call hbw hb
          clear hbw hb
          have hbw := hbw'
          clear hbw'
          go_wp2_with fail
          refine (same_far _).mono ?_
          rintro e w12 ⟨rfl, hb⟩
          have Jf := blk_below hb (heap_alloc_new w11 (.cells #[.int .u32 16777216, .int .u32 0, .int .u8 0, .int .u16 0, .int .u16 0] 48))
          have hbw' := below_call (hbw.alloc (le_up hbw) _) hb
          clear hbw hb
          have hbw := hbw'
          clear hbw'
          have lf := lt_of_block Jf
          have nf : w11.heap.size ≠ w12.heap.size := by omega
          have Kf := Lib.hid Jf
          clear Jf
          go_wp2_with fail
          refine (next_all _).mono ?_
          rintro e w13 ⟨rfl, hb⟩
          have Ja := blk_below hb (heap_alloc_new w12 (.cells #[.int .u32 4294967295, .int .u32 4294967295, .int .u8 255, .int .u16 65535, .int .u16 65535] 48))
          have hbw' := below_call (hbw.alloc (le_up hbw) _) hb
          clear lf nf Kf hbw hb
          have hbw := hbw'
          clear hbw'
          obtain ⟨ca0, ca1, ca2, ca3, ca4⟩ := hd_cell (h := ⟨4294967295, 4294967295, 255, 65535, 65535⟩) Ja
          have fa := hd_frozen (h := ⟨4294967295, 4294967295, 255, 65535, 65535⟩) Ja
          dsimp only at ca0 ca1 ca2 ca3 ca4
          have la := lt_of_block Ja
          have na : w12.heap.size ≠ w13.heap.size := by omega
          have Ka := Lib.hid Ja
          clear Ja
          go_wp2_with fail
          refine (bit_lo _).mono ?_
          rintro e w14 ⟨rfl, hb⟩
          have Ja := blk_below hb ((Below.heap_alloc _ _ _ (by first | omega | (simp; omega))).trans Ka.out)
          have Ju := blk_below hb (heap_alloc_new w13 (.cells #[.int .u32 0, .int .u32 0, .int .u8 0, .int .u16 0, .int .u16 0] 48))
          have hbw' := below_call (hbw.alloc (le_up hbw) _) hb
          clear ca0 ca1 ca2 ca3 ca4 fa la na Ka hbw hb
          have hbw := hbw'
          clear hbw'
          obtain ⟨ca0, ca1, ca2, ca3, ca4⟩ := hd_cell (h := ⟨4294967295, 4294967295, 255, 65535, 65535⟩) Ja
          have fa := hd_frozen (h := ⟨4294967295, 4294967295, 255, 65535, 65535⟩) Ja
          dsimp only at ca0 ca1 ca2 ca3 ca4
          have la := lt_of_block Ja
          have na : w12.heap.size ≠ w14.heap.size := by omega
          have Ka := Lib.hid Ja
          clear Ja
          have lu := lt_of_block Ju
          have nu : w13.heap.size ≠ w14.heap.size := by omega
          have Ku := Lib.hid Ju
          clear Ju
          go_wp2_with fail
          refine (bit_hi _).mono ?_
          rintro e w15 ⟨rfl, hb⟩
          have Ja := blk_below hb Ka.out
          have hbw' := below_call hbw hb
          clear ca0 ca1 ca2 ca3 ca4 fa la na Ka lu nu Ku hbw hb
          have hbw := hbw'
          clear hbw'
          obtain ⟨ca0, ca1, ca2, ca3, ca4⟩ := hd_cell (h := ⟨4294967295, 4294967295, 255, 65535, 65535⟩) Ja
          have fa := hd_frozen (h := ⟨4294967295, 4294967295, 255, 65535, 65535⟩) Ja
          dsimp only at ca0 ca1 ca2 ca3 ca4
          have la := lt_of_block Ja
          have na : w12.heap.size ≠ w15.heap.size := by omega
          have Ka := Lib.hid Ja
          clear Ja
          go_wp2_with fail
          refine (with_hi _).mono ?_
          rintro e w16 ⟨rfl, hb⟩
          have Ja := blk_below hb Ka.out
          have hbw' := below_call hbw hb
          clear ca0 ca1 ca2 ca3 ca4 fa la na Ka hbw hb
          have hbw := hbw'
          clear hbw'
          obtain ⟨ca0, ca1, ca2, ca3, ca4⟩ := hd_cell (h := ⟨4294967295, 4294967295, 255, 65535, 65535⟩) Ja
          have fa := hd_frozen (h := ⟨4294967295, 4294967295, 255, 65535, 65535⟩) Ja
          dsimp only at ca0 ca1 ca2 ca3 ca4
          have la := lt_of_block Ja
          have na : w12.heap.size ≠ w16.heap.size := by omega
          have Ka := Lib.hid Ja
          clear Ja
          go_wp2_with fail
          refine (next_p7 _).mono ?_
          rintro e w17 ⟨rfl, hb⟩
          have Ja := blk_below hb ((Below.heap_alloc _ _ _ (by first | omega | (simp; omega))).trans Ka.out)
          have Jv := blk_below hb (heap_alloc_new w16 (.cells #[.int .u32 0, .int .u32 0, .int .u8 0, .int .u16 0, .int .u16 0] 48))
          have hbw' := below_call (hbw.alloc (le_up hbw) _) hb
          clear ca0 ca1 ca2 ca3 ca4 fa la na Ka hbw hb
          have hbw := hbw'
          clear hbw'
          obtain ⟨ca0, ca1, ca2, ca3, ca4⟩ := hd_cell (h := ⟨4294967295, 4294967295, 255, 65535, 65535⟩) Ja
          have fa := hd_frozen (h := ⟨4294967295, 4294967295, 255, 65535, 65535⟩) Ja
          dsimp only at ca0 ca1 ca2 ca3 ca4
          have la := lt_of_block Ja
          have na : w12.heap.size ≠ w17.heap.size := by omega
          have Ka := Lib.hid Ja
          clear Ja
          have lv := lt_of_block Jv
          have nv : w16.heap.size ≠ w17.heap.size := by omega
          have Kv := Lib.hid Jv
          clear Jv
          go_wp2_with fail
          refine (same_p8 _).mono ?_
          rintro e w18 ⟨rfl, hb⟩
          have Jn := blk_below hb (heap_alloc_new w17 (.cells #[.int .u32 0, .int .u32 0, .int .u8 0, .int .u16 8, .int .u16 0] 48))
          have hbw' := below_call (hbw.alloc (le_up hbw) _) hb
          clear ca0 ca1 ca2 ca3 ca4 fa la na Ka lv nv Kv hbw hb
          have hbw := hbw'
          clear hbw'
          have ln := lt_of_block Jn
          have nn : w17.heap.size ≠ w18.heap.size := by omega
          have Kn := Lib.hid Jn
          clear Jn
          go_wp2
          go_ret
          exact ⟨rfl, hbw⟩
end Go.Proofs.YtdlhpiknifcehaaDoor
