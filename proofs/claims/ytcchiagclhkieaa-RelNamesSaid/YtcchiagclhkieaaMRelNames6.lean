/-
  Joined texts: Rh3, Wid2, Rb3, Math, A1, Bits, Addr, Addr2, Rb4.
-/
import Derived.Test.YtcchiagclhkieaaMRelNames5
import Derived.Test.YtcchiagclhkieaaMRelNames3
import Derived.Test.YtcchiagclhkieaaMRelNames4
import Derived.Below
import Derived.Test.YtcchiagclhkieaaProg
import Derived.WalkKit
import Derived.WalkSpells
import Derived.WalkLawsBesides
import Derived.Lib.Hide
import Derived.Test.YtcchiagclhkieaaMRelNames1
import Derived.Test.YtcchiagclhkieaaShelf
/-
  For how many values the whole is true.
-/
namespace Go.Proofs.Ytcchiagclhkieaa
open Go Go.RowKit Go.ChangeMaps Go.MapKept Go.Maps Go.Lib Go.Sort

section
set_option maxRecDepth 100000
set_option maxHeartbeats 4000000
/-- What Count's map holds at first. -/
noncomputable def cnt0 : List (Value × Value) := putM (putM [] (.int .i32 0) (.agg #[.int .u64 0, .int .u64 0])) (.int .i32 1) (.agg #[.int .u64 0, .int .u64 1])
theorem cnt0_1 : getM cnt0 (.int .i32 1) = some (.agg #[.int .u64 0, .int .u64 1]) := by
  unfold cnt0 putM getM
  simp
theorem zero_cnt (w : World) : (zeroValue 37).run Try.prog w = .ok (.agg #[.int .u64 0, .int .u64 0]) w := by kernel_rfl
theorem place_low {w : World} (bo : Nat) (PL : Option Addr) (n c : Nat) (x : Value) (f : Nat) (hf : f < 2) (hb : w.cell? ⟨bo, 0, none⟩ = some (.slice PL n c)) :
    Calls Try.prog 53 #[.int .i32 f, .pointer (some ⟨bo, 0, none⟩), x] w fun e w' => e = .returned (.int .i64 n) ∧ Below w.heap.size w w' := by
  have h2 : (f : Int) < 2 := by omega
  go_enter Try.func53, Try.ntmps53
  go_wp2
  go_ret
  exact ⟨rfl, Below.refl _ _⟩
theorem walk_one {w : World} (bm km : Nat) (x y z : Value) (hb : w.cell? ⟨bm, 0, none⟩ = some (.map (some km))) (hm : MapAt Try.prog 21 w km cnt0) :
    Calls Try.prog 55 #[.int .i32 1, .pointer (some ⟨bm, 0, none⟩), x, y, z] w fun e w' => e = .returned (.agg #[.int .u64 0, .int .u64 1]) ∧ Below w.heap.size w w' := by
  have hk1 := key_i32 (a := 1) (by omega)
  have hb1 := below1 w (.cells #[.int .u64 0, .int .u64 0] 37)
  have hbk := blk1 w (.cells #[.int .u64 0, .int .u64 0] 37)
  have hl := (hm.same (hb1.block _ hm.lt)).look i32_keyed Try.underlying103 (zero_cnt (w.alloc (.cells #[.int .u64 0, .int .u64 0] 37))) true hk1
  rw [cnt0_1] at hl
  have L1 : (Instr.lookup 103 (.map (some km)) (.int .i32 1) true).run Try.prog (w.alloc (.cells #[.int .u64 0, .int .u64 0] 37)) = .ok (.tuple #[.agg #[.int .u64 0, .int .u64 1], .bool true]) (w.alloc (.cells #[.int .u64 0, .int .u64 0] 37)) := hl
  have c0 : (w.alloc (.cells #[.int .u64 0, .int .u64 0] 37)).cell? ⟨bm, 0, none⟩ = some (.map (some km)) := (hb1.cell (p := ⟨bm, 0, none⟩) (World.block_lt_of_cell? _ _ hb)).trans hb
  have HB := Lib.hid hb1
  have HK := Lib.hid hbk
  clear hl hb1 hbk hb hm hk1
  go_enter Try.func55, Try.ntmps55
  go_upto_region 1 with fail
  generalize w.alloc (.cells #[.int .u64 0, .int .u64 0] 37) = w1 at *
  go_upto_region 2 with fail
  have hb2 := below1 w1 (.cells #[.int .u64 0, .int .u64 1] 37)
  have k2 := blk1 w1 (.cells #[.int .u64 0, .int .u64 1] 37)
  have k1 := blk_below hb2 HK.out
  have HB2 := Lib.hid (HB.out.trans (hb2.mono HB.out.size))
  clear L1 c0 hb2
  generalize w1.alloc (.cells #[.int .u64 0, .int .u64 1] 37) = w2 at *
  have K1 := Lib.hid k1
  obtain ⟨c0, c1, _, _⟩ := two_cells k2
  obtain ⟨d0, d1, e0, e1⟩ := two_cells k1
  have z1 : (w2.setCell ⟨w.heap.size, 0, none⟩ (.int .u64 0)).heap[w.heap.size]? = some (.cells #[.int .u64 0, .int .u64 0] 37 (0, 0)) := heap_setCell_same _ _ _ _ _ _ K1.out
  have z2 : ((w2.setCell ⟨w.heap.size, 0, none⟩ (.int .u64 0)).setCell ⟨w.heap.size, 1, none⟩ (.int .u64 1)).heap[w.heap.size]? = some (.cells #[.int .u64 0, .int .u64 1] 37 (0, 0)) := heap_setCell_same _ _ _ _ _ _ z1
  have h1 := HB2.out.setCell (p := ⟨w.heap.size, 0, none⟩) (Nat.le_refl _) (.int .u64 0)
  have h2 := h1.setCell (p := ⟨w.heap.size, 1, none⟩) (Nat.le_refl _) (.int .u64 1)
  have Z2 := Lib.hid z2
  have H2 := Lib.hid h2
  clear z1 z2 h1 h2 k1 k2
  go_wp2
  exact bodyPost_ret (results_cnt1 (t1 := 6) (g := w.heap.size) Try.results55 rfl Z2.out) rfl ⟨rfl, H2.out⟩
variable {B : Nat} {A : Blks} {V Mo : Nat} {N : List Nd} {H G : List Nat}
theorem count_one {w : World} (hA : ArAt w B A V Mo N H G) (h1 : 1 ∈ G ∧ 1 < N.length) (L : List Int) (v : Value) (h : Rd w w.heap.size 1 v L.length (icells L)) (hL : ∀ x ∈ L, 0 ≤ x ∧ x < V) (hr : RiseL L) (hlen : L.length = 104) :
    Calls Try.prog 26 #[A.val, .int .i64 1, v] w fun e w' => e = .returned (.tuple #[.agg #[.int .u64 1099511627776, .int .u64 0], .int .i64 0]) ∧ Below w.heap.size w w' := by
  obtain ⟨PL, c, rfl, hc⟩ := h.form
  rw [hlen] at h
  rw [hlen]
  have hb := (below1 w (.cells #[.pointer (some ⟨A.a, 0, none⟩)] 64)).trans ((below2 (w.alloc (.cells #[.pointer (some ⟨A.a, 0, none⟩)] 64)) (.cells #[.slice PL 104 c] 52) (.cells #[.int .u64 0, .int .u64 0] 37)).mono (below1 w (.cells #[.pointer (some ⟨A.a, 0, none⟩)] 64)).size)
  obtain ⟨k1, k2⟩ := blk2 (w.alloc (.cells #[.pointer (some ⟨A.a, 0, none⟩)] 64)) (.cells #[.slice PL 104 c] 52) (.cells #[.int .u64 0, .int .u64 0] 37)
  have k0 := blk_below (below2 (w.alloc (.cells #[.pointer (some ⟨A.a, 0, none⟩)] 64)) (.cells #[.slice PL 104 c] 52) (.cells #[.int .u64 0, .int .u64 0] 37)) (blk1 w (.cells #[.pointer (some ⟨A.a, 0, none⟩)] 64))
  have hs1 : (w.alloc (.cells #[.pointer (some ⟨A.a, 0, none⟩)] 64)).heap.size = w.heap.size + 1 := by simp
  rw [hs1] at k1 k2
  have HA := Lib.hid (hA.below hb)
  have HR := Lib.hid ((h.below hb).mono hb.size)
  have HB := Lib.hid hb
  have HK := Lib.hid (And.intro k0 (And.intro k1 k2))
  have HL := Lib.hid hL
  have HRI := Lib.hid hr
  have H1 := Lib.hid h1
  clear hA h hb hs1 hL hr
  unfold Blks.val
  go_enter Try.func26, Try.ntmps26
  go_upto_region 1 with fail
  generalize ((w.alloc (.cells #[.pointer (some ⟨A.a, 0, none⟩)] 64)).alloc (.cells #[.slice PL 104 c] 52)).alloc (.cells #[.int .u64 0, .int .u64 0] 37) = w0 at *
  have c0 := cell0 k0
  have c1 := cell0 k1
  obtain ⟨d0, d1, _, _⟩ := two_cells k2
  clear k0 k1 k2
  have hch := (check_any (HA.out.below (below1 w0 (.cells #[.int .i64 1] 3))) [1] w0.heap.size 1 (fun i x hi => by
    have h0 : i = 0 := by
      have := (List.getElem?_eq_some_iff.1 hi).1
      simp at this
      omega
    subst h0
    injection hi with hi
    subst hi
    rw [cell_of_row _ _ 0 _ _ (0, 0) (blk1 w0 (.cells #[.int .i64 1] 3))]; rfl) (fun x hx => by rw [List.mem_singleton.1 hx]; exact ⟨H1.out.1, by omega⟩) (by simp))
  unfold Blks.val at hch
  rw [List.length_singleton] at hch
  have HCH := Lib.hid hch
  clear hch
  go_upto_region 2 with ((with_reducible refine HCH.out.mono ?_); rintro e w2 ⟨rfl, hb2⟩; have HB2 := Lib.hid ((below1 w0 (.cells #[.int .i64 1] 3)).trans (hb2.mono (below1 w0 (.cells #[.int .i64 1] 3)).size)); clear hb2)
  have k0 := blk_below HB2.out HK.out.1
  have k1 := blk_below HB2.out HK.out.2.1
  have hrs : Calls Try.prog 52 #[.pointer (some ⟨A.a, 0, none⟩), .int .i64 1, .slice PL 104 c] w2 (fun e w' => e = .returned (.bool true) ∧ Below w2.heap.size w2 w') := rises_yes (HA.out.below HB2.out) 1 H1.out (by omega) L (.slice PL 104 c) (by rw [hlen]; exact (HR.out.below HB2.out).mono HB2.out.size) HL.out HRI.out (by omega)
  have HRS := Lib.hid hrs
  clear hrs HCH c0 c1 d0 d1
  have c0 := cell0 k0
  have c1 := cell0 k1
  clear k0 k1
  go_upto_region 4 with fail
  go_upto_region 6 with ((with_reducible refine HRS.out.mono ?_); rintro e w3 ⟨rfl, hb3⟩; have HB3 := Lib.hid (HB2.out.trans (hb3.mono HB2.out.size)); have e1 := cell0 (blk_below hb3 (blk_below HB2.out HK.out.2.1)); clear hb3)
  have hrs := @run_store_fn Try.prog
  have hmm := @run_makeMap Try.prog
  clear HRS
  go_upto_region 7 with fail
  have hb4 := below1 w3 (.cells #[.func (.func 53) #[] #[.pointer (some ⟨w.heap.size + 1, 0, none⟩), .pointer (some ⟨w.heap.size, 0, none⟩)]] 102)
  have k4 := blk1 w3 (.cells #[.func (.func 53) #[] #[.pointer (some ⟨w.heap.size + 1, 0, none⟩), .pointer (some ⟨w.heap.size, 0, none⟩)]] 102)
  have hz3 := HB3.out.size
  have HB4 := Lib.hid (HB3.out.trans (hb4.mono HB3.out.size))
  have HK4 := Lib.hid k4
  have HZ : Hid (w.heap.size + 1 + 1 < w3.heap.size) := Lib.hid (by have := lt_of_block HK.out.2.2; omega)
  clear e1 c0 c1 hb4 k4 hz3
  generalize w3.alloc (.cells #[.func (.func 53) #[] #[.pointer (some ⟨w.heap.size + 1, 0, none⟩), .pointer (some ⟨w.heap.size, 0, none⟩)]] 102) = w4 at *
  have hM := MapAt.made Try.prog 21 w4
  have hk0 := key_i32 (a := 0) (by omega)
  have hk1 := key_i32 (a := 1) (by omega)
  go_upto_region 8 with (first
    | (refine wpList_mapIns rfl _ _ _ 103 37 rfl i32_keyed Try.underlying103 rfl hM (.int .i32 0) (.agg #[.int .u64 0, .int .u64 0]) _ rfl rfl hk0 ?_; intro w5 hm5 hg5)
    | (refine wpList_mapIns rfl _ _ _ 103 37 rfl i32_keyed Try.underlying103 rfl hm5 (.int .i32 1) (.agg #[.int .u64 0, .int .u64 1]) _ rfl rfl hk1 ?_; intro w6 hm6 hg6))
  have hb6 : Below w4.heap.size w4 w6 := (below1 w4 (.map #[] 0)).grown (hg5.trans hg6) (below1 w4 (.map #[] 0)).size (fun g hg => by injection hg with hg; omega)
  have hm : MapAt Try.prog 21 w6 w4.heap.size cnt0 := hm6
  obtain ⟨q0, q1⟩ := blk2 w6 (.cells #[.map (some w4.heap.size)] 103) (.cells #[.nilFunc] 104)
  have hb7 := below2 w6 (.cells #[.map (some w4.heap.size)] 103) (.cells #[.nilFunc] 104)
  have hb8 := hb7.setCell (p := ⟨w6.heap.size + 1, 0, none⟩) (Nat.le_succ _) (.func (.func 55) #[] #[.pointer (some ⟨w6.heap.size, 0, none⟩), .pointer (some ⟨w.heap.size, 0, none⟩), .pointer (some ⟨w6.heap.size + 1, 0, none⟩), .pointer (some ⟨w3.heap.size, 0, none⟩)])
  have p1 := heap_setCell_same _ _ 0 _ _ (.func (.func 55) #[] #[.pointer (some ⟨w6.heap.size, 0, none⟩), .pointer (some ⟨w.heap.size, 0, none⟩), .pointer (some ⟨w6.heap.size + 1, 0, none⟩), .pointer (some ⟨w3.heap.size, 0, none⟩)]) q1
  have p0 := (Below.heap_setCell ((w6.alloc (.cells #[.map (some w4.heap.size)] 103)).alloc (.cells #[.nilFunc] 104)) ⟨w6.heap.size + 1, 0, none⟩ (.func (.func 55) #[] #[.pointer (some ⟨w6.heap.size, 0, none⟩), .pointer (some ⟨w.heap.size, 0, none⟩), .pointer (some ⟨w6.heap.size + 1, 0, none⟩), .pointer (some ⟨w3.heap.size, 0, none⟩)]) w6.heap.size (show w6.heap.size ≠ w6.heap.size + 1 by omega)).trans q0
  have hcw := cell0 q1
  have hfw := frozen_of_row _ _ 0 _ _ q1
  have HM8 := Lib.hid (hm.same (hb8.block _ hm.lt))
  have HP := Lib.hid (And.intro p0 (And.intro p1 (And.intro (blk_below hb8 (blk_below hb6 HK4.out)) (And.intro (blk_below hb8 (blk_below hb6 (blk_below HB4.out HK.out.2.1))) (blk_below hb8 (blk_below hb6 (blk_below HB4.out HK.out.2.2)))))))
  have hsz := Nat.le_trans HB4.out.size hb6.size
  have HB8 := Lib.hid (HB.out.trans ((HB4.out.trans ((hb6.trans (hb8.mono hb6.size)).mono HB4.out.size)).mono HB.out.size))
  have HZ6 : Hid (w3.heap.size < w6.heap.size) := Lib.hid (Nat.lt_of_lt_of_le (lt_of_block HK4.out) hb6.size)
  clear hb6 hm q0 q1 hb7 hb8 p0 p1 hM hk0 hk1 hm5 hg5 hm6 hg6 hmm hsz
  go_upto_region 9 with fail
  generalize ((w6.alloc (.cells #[.map (some w4.heap.size)] 103)).alloc (.cells #[.nilFunc] 104)) = w7 at *
  go_upto_region 10 with fail
  clear hcw hfw hrs
  generalize w7.setCell ⟨w6.heap.size + 1, 0, none⟩ (.func (.func 55) #[] #[.pointer (some ⟨w6.heap.size, 0, none⟩), .pointer (some ⟨w.heap.size, 0, none⟩), .pointer (some ⟨w6.heap.size + 1, 0, none⟩), .pointer (some ⟨w3.heap.size, 0, none⟩)]) = w8 at *
  have hne : Nonempty (InW (fun x => w8.grownBy x (some (w.heap.size + 1 + 1)))) := ⟨⟨w8, World.grownBy.refl _ _⟩⟩
  refine wp_region_mixS (fun x => w8.grownBy x (some (w.heap.size + 1 + 1))) [(0, false), (1, false), (2, false), (4, false), (5, false), (6, false), (3, true), (7, true), (8, true), (9, true), (10, false)] (by kernel_rfl) (by kernel_rfl) ⟨rfl, rfl, rfl, Nat.le_refl _, fun _ _ _ => rfl⟩ ?_
  have L0 : ∀ p : InW (fun x => w8.grownBy x (some (w.heap.size + 1 + 1))), p.w.cell? ⟨w6.heap.size + 1, 0, none⟩ = some (.func (.func 55) #[] #[.pointer (some ⟨w6.heap.size, 0, none⟩), .pointer (some ⟨w.heap.size, 0, none⟩), .pointer (some ⟨w6.heap.size + 1, 0, none⟩), .pointer (some ⟨w3.heap.size, 0, none⟩)]) := fun p => cell0 ((p.h.block _ (lt_of_block HP.out.2.1) (fun e => by injection e with e; have := HZ.out; have := HZ6.out; omega)).trans HP.out.2.1)
  have L1 : ∀ p : InW (fun x => w8.grownBy x (some (w.heap.size + 1 + 1))), p.w.cell? ⟨w3.heap.size, 0, none⟩ = some (.func (.func 53) #[] #[.pointer (some ⟨w.heap.size + 1, 0, none⟩), .pointer (some ⟨w.heap.size, 0, none⟩)]) := fun p => cell0 ((p.h.block _ (lt_of_block HP.out.2.2.1) (fun e => by injection e with e; have := HZ.out; omega)).trans HP.out.2.2.1)
  have hdr : w8.grownBy { w8 with drawn := w8.drawn + 1 } (some (w.heap.size + 1 + 1)) := ⟨rfl, rfl, rfl, Nat.le_refl _, fun _ _ _ => rfl⟩
  have hdb : Below w8.heap.size w8 { w8 with drawn := w8.drawn + 1 } := ⟨rfl, rfl, rfl, Nat.le_refl _, fun _ _ => rfl⟩
  generalize { w8 with drawn := w8.drawn + 1 } = V0 at *
  refine mix_take [0, 1, 2, 4, 5, 6] [_, _, _, _, _, _] rfl rfl ?_
  simp only [List.getElem_toArray, List.getElem_cons_zero, List.getElem_cons_succ]
  repeat (go_big_quiet_step (fail))
  refine wpQuiet_nil ?_
  have HDR := Lib.hid hdr
  have HDB := Lib.hid hdb
  have HN := Lib.hid hne
  clear L0 L1 hdr hdb hne
  refine mix_barS rfl (by rfl) ?_
  simp only [List.getElem_toArray, List.getElem_cons_zero, List.getElem_cons_succ]
  go_simp
  refine (walk_one w6.heap.size w4.heap.size _ _ _ (cell0 (blk_below HDB.out HP.out.1)) (HM8.out.same (HDB.out.block _ HM8.out.lt))).mono ?_
  rintro e V1 ⟨rfl, hb1⟩
  have HD1 := Lib.hid (HDB.out.trans (hb1.mono HDB.out.size))
  have HG1 : Hid (w8.grownBy V1 (some (w.heap.size + 1 + 1))) := Lib.hid ⟨HD1.out.os, HD1.out.tape, HD1.out.output, HD1.out.size, fun i hi _ => HD1.out.block i hi⟩
  clear hb1
  refine ⟨(fun x => w8.grownBy x (some (w.heap.size + 1 + 1))), HG1.out, fun _ h => h, ?_⟩
  refine mix_barS rfl (by rfl) ?_
  simp only [List.getElem_toArray, List.getElem_cons_zero, List.getElem_cons_succ]
  go_simp
  have HPL := Lib.hid (show Calls Try.prog 53 #[.int .i32 1, .pointer (some ⟨w.heap.size + 1, 0, none⟩), .pointer (some ⟨w.heap.size, 0, none⟩)] V1 (fun e w' => e = .returned (.int .i64 104) ∧ Below V1.heap.size V1 w') from place_low (w.heap.size + 1) PL 104 c _ 1 (by omega) (cell0 (blk_below HD1.out HP.out.2.2.2.1)))
  refine HPL.out.mono ?_
  rintro e V2 ⟨rfl, hb2⟩
  have HD2 := Lib.hid (HD1.out.trans (hb2.mono HD1.out.size))
  have HG2 : Hid (w8.grownBy V2 (some (w.heap.size + 1 + 1))) := Lib.hid ⟨HD2.out.os, HD2.out.tape, HD2.out.output, HD2.out.size, fun i hi _ => HD2.out.block i hi⟩
  clear hb2 HPL
  refine ⟨(fun x => w8.grownBy x (some (w.heap.size + 1 + 1))), HG2.out, fun _ h => h, ?_⟩
  refine mix_barS rfl (by rfl) ?_
  simp only [List.getElem_toArray, List.getElem_cons_zero, List.getElem_cons_succ]
  go_simp
  refine (times_104 V2).mono ?_
  rintro e V3 ⟨rfl, hb3⟩
  have HD3 := Lib.hid (HD2.out.trans (hb3.mono HD2.out.size))
  have HG3 : Hid (w8.grownBy V3 (some (w.heap.size + 1 + 1))) := Lib.hid ⟨HD3.out.os, HD3.out.tape, HD3.out.output, HD3.out.size, fun i hi _ => HD3.out.block i hi⟩
  clear hb3
  refine ⟨(fun x => w8.grownBy x (some (w.heap.size + 1 + 1))), HG3.out, fun _ h => h, ?_⟩
  have kr := blk_below HD3.out HP.out.2.2.2.2
  obtain ⟨r0, r1, z0, z1⟩ := two_cells kr
  have y1 : (V3.setCell ⟨w.heap.size + 1 + 1, 0, none⟩ (.int .u64 1099511627776)).heap[w.heap.size + 1 + 1]? = some (.cells #[.int .u64 1099511627776, .int .u64 0] 37 (0, 0)) := heap_setCell_same _ _ _ _ _ _ kr
  have y2 : ((V3.setCell ⟨w.heap.size + 1 + 1, 0, none⟩ (.int .u64 1099511627776)).setCell ⟨w.heap.size + 1 + 1, 1, none⟩ (.int .u64 0)).heap[w.heap.size + 1 + 1]? = some (.cells #[.int .u64 1099511627776, .int .u64 0] 37 (0, 0)) := heap_setCell_same _ _ _ _ _ _ y1
  have h1 := (HB8.out.trans (HD3.out.mono HB8.out.size)).setCell (p := ⟨w.heap.size + 1 + 1, 0, none⟩) (show w.heap.size ≤ w.heap.size + 1 + 1 by omega) (.int .u64 1099511627776)
  have h2 := h1.setCell (p := ⟨w.heap.size + 1 + 1, 1, none⟩) (show w.heap.size ≤ w.heap.size + 1 + 1 by omega) (.int .u64 0)
  have HG4 : Hid (w8.grownBy ((V3.setCell ⟨w.heap.size + 1 + 1, 0, none⟩ (.int .u64 1099511627776)).setCell ⟨w.heap.size + 1 + 1, 1, none⟩ (.int .u64 0)) (some (w.heap.size + 1 + 1))) := Lib.hid (only_setCell (only_setCell HG3.out (.inl rfl) _) (.inl rfl) _)
  have HY := Lib.hid y2
  have HH := Lib.hid h2
  clear y1 y2 h1 h2 kr
  refine mix_barS rfl (by rfl) ?_
  simp only [List.getElem_toArray, List.getElem_cons_zero, List.getElem_cons_succ]
  go_simp
  refine ⟨(fun x => w8.grownBy x (some (w.heap.size + 1 + 1))), HG4.out, fun _ h => h, ?_⟩
  refine mix_take [10] [_] rfl rfl ?_
  simp only [List.getElem_toArray, List.getElem_cons_zero, List.getElem_cons_succ]
  repeat (go_big_quiet_step (fail))
  refine wpQuiet_nil ?_
  refine mix_end ?_
  go_wp2
  exact bodyPost_ret (results_cnt2 (t1 := 6) (t3 := 7) (g := w.heap.size + 1 + 1) Try.results26 rfl rfl HY.out) rfl ⟨rfl, HH.out⟩
end
end Go.Proofs.Ytcchiagclhkieaa

/-
  Diagrams, plain: how many nodes stand ahead of nodes that are held already. No program in sight.
-/
namespace Go.Proofs.Ytcchiagclhkieaa

/-- Between a node and one beneath it, behind the variable u: a node that is what is left there. -/
theorem Rch.cross {N : List Nd} (w : WF N) {u : Nat} {r i : Nat} (h : Rch N r i) (hr : r < N.length) (hu : u < (nd N i).v) : ∃ j s, Rch N r j ∧ Rch N j i ∧ ∀ t, ev N (mixS (u + 1) s t) r = ev N t j := by
  have here : ∀ r i, Rch N r i → r < N.length → u < (nd N r).v → ∃ j s, Rch N r j ∧ Rch N j i ∧ ∀ t, ev N (mixS (u + 1) s t) r = ev N t j := fun r i h hr hu =>
    ⟨r, fun _ => false, .refl r, h, fun t => ev_agree w r _ _ hr fun v hv => mixS_high _ _ (by omega)⟩
  induction h with
  | refl i => exact here i i (.refl i) hr hu
  | @lo r i a b h ih =>
    rcases Nat.lt_or_ge u (nd N r).v with hv | hv
    · exact here r i (.lo a b h) hr hv
    · have h1 := w.lo _ a b
      have h2 := w.vlo _ a b
      obtain ⟨j, s, j1, j2, hs⟩ := ih (by omega) hu
      refine ⟨j, put s (nd N r).v false, .lo a b j1, j2, fun t => ?_⟩
      rw [ev_node w _ a b, mixS_low _ _ (by omega), put_same, if_neg (by simp), ← hs t]
      refine ev_agree w _ _ _ (by omega) fun v hv => ?_
      unfold mixS
      split
      · exact put_other (by omega)
      · rfl
  | @hi r i a b h ih =>
    rcases Nat.lt_or_ge u (nd N r).v with hv | hv
    · exact here r i (.hi a b h) hr hv
    · have h1 := w.hi _ a b
      have h2 := w.vhi _ a b
      obtain ⟨j, s, j1, j2, hs⟩ := ih (by omega) hu
      refine ⟨j, put s (nd N r).v true, .hi a b j1, j2, fun t => ?_⟩
      rw [ev_node w _ a b, mixS_low _ _ (by omega), put_same, if_pos rfl, ← hs t]
      refine ev_agree w _ _ _ (by omega) fun v hv => ?_
      unfold mixS
      split
      · exact put_other (by omega)
      · rfl
/-- Behind u all that is left has nodes that are held: only the nodes up to u are new. -/
theorem Grow.top {N : List Nd} {H : List Nat} {F : Fun} {u : Nat} (w : WF N) (hH : Cl N H) (hHl : ∀ i ∈ H, i < N.length) (c : Nat → Nat) (hc : ∀ v, v ≤ u → Free F v ∨ CutLe F v (c v))
    (hu : ∀ s, ∃ g, g < N.length ∧ (g < 2 ∨ g ∈ H) ∧ ∀ t, F (mixS (u + 1) s t) = ev N t g) : Grow N H F (sumTo c (u + 1)) (sumTo c (u + 1)) := fun r N' e w' hr hs hn => by
  have hl := e.len
  have old : ∀ i, Rch N' r i → u < (nd N' i).v → i < N.length ∧ (i < 2 ∨ i ∈ H) := fun i hi hui => by
    obtain ⟨j, s, j1, j2, hj⟩ := hi.cross w' hr hui
    obtain ⟨g, g1, g2, g3⟩ := hu s
    have hjl := j1.lt w' hr
    have : j = g := w'.canon (j + g) j g (by omega) (by omega) hjl (by omega) fun t => by rw [← hj t, hs, g3, e.ev w w' t g1]
    subst this
    have hle := j2.le w' hjl
    refine ⟨by omega, ?_⟩
    rcases Nat.lt_or_ge i 2 with i2 | i2
    · exact .inl i2
    · rcases g2 with g2 | g2
      · omega
      · exact .inr ((hH.ext e hHl).rch j2 g2 i2)
  have bound : ∀ l : List Nat, l.Nodup → (∀ i ∈ l, 2 ≤ i ∧ Rch N' r i ∧ (nd N' i).v ≤ u) → l.length ≤ sumTo c (u + 1) := fun l hd hm => by
    refine by_label (fun i => (nd N' i).v) c (u + 1) l (fun i hi => by have := (hm i hi).2.2; show (nd N' i).v < u + 1; omega) fun v hv => ?_
    have hm' : ∀ i ∈ (l.filter fun i => decide ((nd N' i).v = v)), i ∈ l ∧ (nd N' i).v = v := fun i hi => by
      have := List.mem_filter.1 hi
      exact ⟨this.1, by simpa using this.2⟩
    rcases hc v (by omega) with hf | ⟨L, hL, hcc⟩
    · refine Nat.le_trans (Nat.le_of_eq ?_) (Nat.zero_le _)
      rw [List.length_eq_zero_iff, List.eq_nil_iff_forall_not_mem]
      intro i hi
      obtain ⟨h1, h2⟩ := hm' i hi
      refine not_free w' hr (hm i h1).2.1 (hm i h1).1 ?_
      rw [h2, show (fun s => ev N' s r) = F from funext hs]
      exact hf
    · refine Nat.le_trans (inj_len _ L (fun i s => ev N' s i) (hd.filter _) (fun i hi => ?_) fun i hi j hj e => ?_) hL
      · obtain ⟨h1, h2⟩ := hm' i hi
        obtain ⟨s, hs'⟩ := (hm i h1).2.1.path w' hr
        have := hcc s
        rw [show cof F v s = fun t => ev N' t i from funext fun t => by rw [← hs' t, h2]; exact (hs _).symm] at this
        exact this
      · have h1 := hm i (hm' i hi).1
        have h2 := hm j (hm' j hj).1
        have := h1.2.1.lt w' hr
        have := h2.2.1.lt w' hr
        exact w'.canon (i + j) i j (by omega) (by omega) (by omega) (by omega) fun s => congrFun e s
  constructor
  · have hd : ((List.range (N'.length - N.length)).map (· + N.length)).Nodup := by
      refine List.Pairwise.map _ (fun a b h => ?_) List.nodup_range
      omega
    have two := w.two
    have := bound _ hd (fun i hi => by
      simp only [List.mem_map, List.mem_range] at hi
      obtain ⟨a, ha, rfl⟩ := hi
      have hr' := hn (a + N.length) (by omega) (by omega)
      refine ⟨by omega, hr', ?_⟩
      rcases Nat.lt_or_ge u (nd N' (a + N.length)).v with h | h
      · have := (old _ hr' h).1
        omega
      · exact h)
    simp at this
    omega
  · refine bound _ (newL_ok w' H hr).1 fun i hi => ?_
    rcases dfs_rch w' H _ _ _ hr i hi with h | ⟨h2, h⟩
    · cases h
    · refine ⟨h2, h, ?_⟩
      rcases Nat.lt_or_ge u (nd N' i).v with h' | h'
      · rcases (old i h h').2 with h3 | h3
        · omega
        · exact absurd h3 (newL_off N' H r i hi)
      · exact h'
/-- All that is left is false, or one of k. -/
def CutF (F : Fun) (v k : Nat) : Prop := ∃ L : List Fun, L.length ≤ k ∧ ∀ s, cof F v s ∈ (fun _ => false) :: L
theorem CutF.le {F : Fun} {v k : Nat} (h : CutF F v k) : CutLe F v (k + 1) := by
  obtain ⟨L, a, b⟩ := h
  exact ⟨_, by simp; exact a, b⟩
theorem Hangs.aheadF {F : Fun} {a b v : Nat} (h : Hangs F a b) (hv : v ≤ a) : CutF F v 1 := by
  obtain ⟨L, h1, h2⟩ := h.ahead hv
  exact ⟨L, h1, fun s => List.mem_cons_of_mem _ (h2 s)⟩
/-- Two variables ahead of a function that has a node. -/
theorem sumTo_zero (c : Nat → Nat) : ∀ n, (∀ v, v < n → c v = 0) → sumTo c n = 0
  | 0, _ => rfl
  | n + 1, h => by
    show sumTo c n + c n = 0
    rw [sumTo_zero c n fun v hv => h v (by omega), h n (by omega)]
theorem cof_eq {F G : Fun} {v : Nat} {s : Nat → Bool} (h : ∀ t, F (mixS v s t) = G t) : cof F v s = G := funext h
end Go.Proofs.Ytcchiagclhkieaa

/-
  From each header to those with the same bits, but for those of a part (written by wip/gen/genrb3.py).
-/
namespace Go.Proofs.Ytcchiagclhkieaa
open Go Go.RowKit Go.ChangeMaps Go.MapKept Go.Maps Go.Lib Go.Sort

theorem sumTo_two (a p q : Nat) : ∀ n, sumTo (fun v => if v = a then p else if v = a + 1 then q else 0) n ≤ (if a < n then p else 0) + (if a + 1 < n then q else 0)
  | 0 => by simp [sumTo]
  | n + 1 => by
    have ih := sumTo_two a p q n
    show sumTo _ n + (if n = a then p else if n = a + 1 then q else 0) ≤ _
    by_cases h1 : n = a
    · subst h1
      rw [if_neg (by omega), if_neg (by omega)] at ih
      rw [if_pos rfl, if_pos (by omega), if_neg (by omega)]
      omega
    · rw [if_neg h1]
      by_cases h2 : n = a + 1
      · subst h2
        rw [if_pos (by omega), if_neg (by omega)] at ih
        rw [if_pos rfl, if_pos (by omega), if_pos (by omega)]
        omega
      · rw [if_neg h2]
        by_cases l1 : a < n
        · by_cases l2 : a + 1 < n
          · rw [if_pos l1, if_pos l2] at ih
            rw [if_pos (by omega), if_pos (by omega)]
            exact ih
          · omega
        · rw [if_neg l1, if_neg (by omega)] at ih
          rw [if_neg (by omega), if_neg (by omega)]
          exact ih
theorem Wid.two {F : Fun} {a p q : Nat} (ha : a + 1 < 256) (h : Hangs F a (a + 2)) (h1 : CutLe F a p) (h2 : CutLe F (a + 1) q) : Wid F (p + q) := by
  refine ⟨_, fun v hv => ?_, Nat.le_trans (sumTo_two a p q 256) (by rw [if_pos (by omega), if_pos ha]; exact Nat.le_refl _)⟩
  by_cases e1 : v = a
  · subst e1
    refine .inr ?_
    simp only [if_true]
    exact h1
  · by_cases e2 : v = a + 1
    · subst e2
      refine .inr ?_
      simp only [e1, if_false, if_true]
      exact h2
    · exact .inl (h.free (by omega))
/-- Two cofactors at the second of two variables. -/
theorem CutLe.second {F : Fun} {a b : Nat} (h : Hangs F a b) : CutLe F (a + 1) 2 := by
  refine ⟨[fun t => F (put t a false), fun t => F (put t a true)], Nat.le_refl _, fun s => ?_⟩
  have e : cof F (a + 1) s = fun t => F (put t a (s a)) := funext fun t => h _ _ fun u h1 h2 => by
    rcases Nat.eq_or_lt_of_le h1 with e | e
    · subst e
      rw [mixS_low _ _ (by omega), put_same]
    · rw [mixS_high _ _ (by omega), put_other (by omega)]
  rw [e]
  cases s a <;> simp
def xorF (a : Nat) : Fun := fun s => s a != s (a + 1)
theorem xorF_hangs (a : Nat) : Hangs (xorF a) a (a + 2) := fun s t e => by
  unfold xorF
  rw [e a (by omega) (by omega), e (a + 1) (by omega) (by omega)]
theorem xorF_wid {a : Nat} (ha : a + 1 < 256) : Wid (xorF a) 3 := Wid.two ha (xorF_hangs a) ((xorF_hangs a).ahead (Nat.le_refl _)) (CutLe.second (xorF_hangs a))
theorem not_wid {a : Nat} (ha : a + 1 < 256) : Wid (fun s => !s a) 1 := (Wid.two (p := 1) (q := 2) ha (((Hangs.var a).op1 (fun x => !x)).mono (by omega) (by omega)) (((Hangs.var a).op1 (fun x => !x)).ahead (by omega)) (((Hangs.var a).op1 (fun x => !x)).behind (by omega))) |> fun h => by
  refine ⟨fun v => if v = a then 1 else 0, fun v hv => ?_, ?_⟩
  · by_cases e : v = a
    · subst e
      refine .inr ?_
      simp only [if_true]
      exact ((Hangs.var v).op1 (fun x => !x)).ahead (Nat.le_refl _)
    · exact .inl (((Hangs.var a).op1 (fun x => !x)).free (by omega))
  · have := sumTo_two a 1 0 256
    simp at this
    split at this <;> omega
/-- The bits i of 2 i and 2 i + 1 are the same, and more. -/
def eqF (a : Nat) (F : Fun) : Fun := fun s => (s a == s (a + 1)) && F s
def sameF (a nb : Nat) : Nat → Fun
  | 0 => fun _ => true
  | m + 1 => if a ≤ 103 - m ∧ 103 - m < a + nb then sameF a nb m else eqF (2 * (103 - m)) (sameF a nb m)
theorem Hangs.eqF {F : Fun} {x a b : Nat} (h : Hangs F a b) (h1 : x + 2 ≤ a) (h2 : x + 2 ≤ b) : Hangs (eqF x F) x b := fun s t e => by
  unfold Go.Proofs.Ytcchiagclhkieaa.eqF
  rw [e x (by omega) (by omega), e (x + 1) (by omega) (by omega), h s t fun u h3 h4 => e u (by omega) h4]
theorem sameF_hangs (a nb : Nat) : ∀ m, m ≤ 104 → Hangs (sameF a nb m) (2 * (104 - m)) 208
  | 0, _ => Hangs.const true _ _
  | m + 1, hm => by
    have := sameF_hangs a nb m (by omega)
    unfold sameF
    split
    · exact this.mono (by omega) (Nat.le_refl _)
    · exact (this.eqF (x := 2 * (103 - m)) (by omega) (by omega)).mono (by omega) (Nat.le_refl _)
theorem sumTo_pair (a p q : Nat) : sumTo (fun v => if v = a then p else if v = a + 1 then q else 0) (a + 2) ≤ p + q := by
  have := sumTo_two a p q (a + 2)
  rw [if_pos (by omega), if_pos (by omega)] at this
  exact this
/-- Two variables ahead of a node that is held: three nodes more. -/
theorem Den.pair {Mo : Nat} {σ : Sg} {g a : Nat} {F G : Fun} (d : Den σ g F) (o : SgOk Mo σ) (ha : a + 2 ≤ 208) (hG : Hangs G a 208) (hc : ∀ s, (∀ t, G (mixS (a + 1 + 1) s t) = F t) ∨ (∀ t, G (mixS (a + 1 + 1) s t) = false)) : Grow σ.N σ.H G 3 3 := by
  refine (Grow.top (u := a + 1) o.wf o.cl (fun i hi => (o.hok.2 i hi).2) (fun v => if v = a then 1 else if v = a + 1 then 2 else 0) (fun v hv => ?_) fun s => ?_).mono (sumTo_pair a 1 2) (sumTo_pair a 1 2)
  · by_cases e1 : v = a
    · subst e1
      refine .inr ?_
      simp only [if_true]
      exact hG.ahead (Nat.le_refl _)
    · by_cases e2 : v = a + 1
      · subst e2
        refine .inr ?_
        simp only [e1, if_false, if_true]
        exact CutLe.second hG
      · exact .inl (hG.free (by omega))
  · rcases hc s with h | h
    · exact ⟨g, (o.g g d.1).1, (o.g g d.1).2.1, fun t => by rw [h t, d.2]⟩
    · exact ⟨0, by have := o.wf.two; omega, .inl (by omega), fun t => by rw [h t, ev_zero]⟩
theorem Den.eqG {Mo : Nat} {σ : Sg} {g a : Nat} {F : Fun} (d : Den σ g F) (o : SgOk Mo σ) (ha : a + 2 ≤ 208) (hF : Hangs F (a + 2) 208) : Grow σ.N σ.H (eqF a F) 3 3 := by
  refine d.pair o ha (hF.eqF (Nat.le_refl _) ha) fun s => ?_
  have e : ∀ t, eqF a F (mixS (a + 1 + 1) s t) = ((s a == s (a + 1)) && F t) := fun t => by
    unfold eqF
    rw [mixS_low _ _ (by omega), mixS_low _ _ (by omega), hF (mixS (a + 1 + 1) s t) t fun u h1 _ => mixS_high _ _ (by omega)]
  cases hs : (s a == s (a + 1))
  · exact .inr fun t => by rw [e, hs]; rfl
  · exact .inl fun t => by rw [e, hs]; rfl
end Go.Proofs.Ytcchiagclhkieaa

/-
  Plain lemmas on numbers that the walks of this seat use; no program in sight.
-/
namespace Go.Proofs.Ytcchiagclhkieaa
open Go.RowKit

/-- Two to the k, as an integer, behind a name. -/
def p2 (k : Nat) : Int := 2 ^ k
theorem p2_zero : p2 0 = 1 := rfl
theorem p2_succ (k : Nat) : p2 (k + 1) = 2 * p2 k := by unfold p2; rw [Int.pow_succ]; omega
theorem p2_pos (k : Nat) : 1 ≤ p2 k := by
  induction k with
  | zero => simp [p2_zero]
  | succ k ih => rw [p2_succ]; omega
theorem p2_mono {j k : Nat} (h : j ≤ k) : p2 j ≤ p2 k := by
  induction k with
  | zero => have : j = 0 := by omega
            subst this; exact Int.le_refl _
  | succ k ih =>
    rcases Nat.lt_or_ge j (k + 1) with h1 | h1
    · have := ih (by omega); have := p2_pos k; rw [p2_succ]; omega
    · have : j = k + 1 := by omega
      subst this; exact Int.le_refl _
theorem p2_32 : p2 32 = 4294967296 := by decide
theorem p2_le32 {k : Nat} (h : k ≤ 32) : p2 k ≤ 4294967296 := by have := p2_mono h; rw [p2_32] at this; exact this


/-- How many addresses are in a prefix of n bits. -/
def sz (n : Int) : Int := p2 (32 - n.toNat)
theorem sz_pos (n : Int) : 1 ≤ sz n := p2_pos _
theorem sz_le (n : Int) : sz n ≤ 4294967296 := p2_le32 (by omega)
theorem sz_dvd (n : Int) : sz n ∣ 4294967296 := by
  refine ⟨p2 (32 - (32 - n.toNat)), ?_⟩
  rw [← p2_32]; unfold sz p2
  rw [← Int.pow_add]; congr 1; omega
/-- The refusal of a prefix: 0, 1 (bits out of range), 10 (bits behind the mask). -/
def chk (a n : Int) : Int := if n < 0 ∨ 32 < n then 1 else if a % sz n = 0 then 0 else 10
theorem chk_range (a n : Int) (h : n < 0 ∨ 32 < n) : chk a n = 1 := by unfold chk; rw [if_pos h]
theorem chk_zero (a n : Int) (h0 : 0 ≤ n) (h1 : n ≤ 32) (h : a % sz n = 0) : chk a n = 0 := by unfold chk; rw [if_neg (by omega), if_pos h]
theorem chk_mask (a n : Int) (h0 : 0 ≤ n) (h1 : n ≤ 32) (h : ¬ a % sz n = 0) : chk a n = 10 := by unfold chk; rw [if_neg (by omega), if_neg h]
theorem chk_ok {a n : Int} (h : chk a n = 0) : 0 ≤ n ∧ n ≤ 32 ∧ a % sz n = 0 := by
  unfold chk at h
  split at h
  · simp at h
  · split at h
    · rename_i h1 h2; exact ⟨by omega, by omega, h2⟩
    · simp at h
/-- Is an address in a prefix? -/
def inB (x a n : Int) : Bool := decide (chk a n = 0 ∧ a ≤ x ∧ x < a + sz n)


/-- The exponent of the greatest power of two, at most 2^k, that divides the place and does not go beyond the end. -/
def pick (a e : Int) : Nat → Nat
  | 0 => 0
  | k + 1 => if a % p2 (k + 1) = 0 ∧ a + p2 (k + 1) ≤ e then k + 1 else pick a e k
theorem pick_le (a e : Int) (k : Nat) : pick a e k ≤ k := by
  induction k with
  | zero => exact Nat.le_refl _
  | succ k ih => unfold pick; split <;> omega
theorem pick_hit (a e : Int) (k : Nat) (h : a % p2 k = 0) (h' : a + p2 k ≤ e) : pick a e k = k := by
  cases k with
  | zero => rfl
  | succ k => unfold pick; rw [if_pos ⟨h, h'⟩]
theorem pick_miss (a e : Int) (k : Nat) (h : ¬ (a % p2 (k + 1) = 0 ∧ a + p2 (k + 1) ≤ e)) : pick a e (k + 1) = pick a e k := by
  conv => lhs; unfold pick
  rw [if_neg h]
theorem pick_ok (a e : Int) (k : Nat) (h : a < e) : a % p2 (pick a e k) = 0 ∧ a + p2 (pick a e k) ≤ e := by
  induction k with
  | zero => simp [pick, p2_zero]; omega
  | succ k ih =>
    unfold pick
    split
    · rename_i h; exact h
    · exact ih
/-- The prefixes of the places from a up to (not with) e. -/
def cutL (e : Int) : Nat → Int → List (Int × Int)
  | 0, _ => []
  | f + 1, a => if a < e then (a, 32 - (pick a e 32 : Int)) :: cutL e f (a + p2 (pick a e 32)) else []
theorem cutL_done (e a : Int) (f : Nat) (h : e ≤ a) : cutL e f a = [] := by
  cases f with
  | zero => rfl
  | succ f => unfold cutL; rw [if_neg (by omega)]
theorem cutL_step (e a : Int) (f : Nat) (h : a < e) : cutL e (f + 1) a = (a, 32 - (pick a e 32 : Int)) :: cutL e f (a + p2 (pick a e 32)) := by
  conv => lhs; unfold cutL
  rw [if_pos h]

end Go.Proofs.Ytcchiagclhkieaa

/-
  Walks over the leaves of the addresses' layer: the reference's size, the program's behind.
-/
namespace Go.Proofs.Ytcchiagclhkieaa
open Go.RowKit

end Go.Proofs.Ytcchiagclhkieaa

/-
  Plain lemmas on bits and powers of two, in the words of the model's operations on numbers; no program in sight.
-/
namespace Go.Proofs.Ytcchiagclhkieaa
open Go Go.RowKit

theorem p2_cast (k : Nat) : p2 k = ((2 ^ k : Nat) : Int) := by unfold p2; simp
theorem sz_nat (n : Int) : sz n = ((2 ^ (32 - n.toNat) : Nat) : Int) := p2_cast _

theorem nat_high (a k : Nat) (hk : k ≤ 32) (ha : a < 2 ^ 32) : a &&& (2 ^ 32 - 1 - (2 ^ k - 1)) = a - a % 2 ^ k := by
  have h1 : a - a % 2 ^ k = (a >>> k) <<< k := by
    rw [Nat.shiftLeft_eq, Nat.shiftRight_eq_div_pow]
    have := Nat.div_add_mod a (2 ^ k)
    rw [Nat.mul_comm] at this
    omega
  rw [h1]
  apply Nat.eq_of_testBit_eq
  intro i
  rw [Nat.testBit_and, Nat.testBit_shiftLeft, Nat.testBit_shiftRight]
  have hm : 2 ^ 32 - 1 - (2 ^ k - 1) = 2 ^ 32 - 2 ^ k := by
    have := Nat.two_pow_pos k; omega
  have hs : 2 ^ 32 - 2 ^ k = (2 ^ (32 - k) - 1) <<< k := by
    rw [Nat.shiftLeft_eq, Nat.sub_mul, ← Nat.pow_add]; congr 1
    · congr 1; omega
    · omega
  rw [hm, hs, Nat.testBit_shiftLeft, Nat.testBit_two_pow_sub_one]
  by_cases hi : k ≤ i
  · have e : k + (i - k) = i := by omega
    rw [e]
    by_cases h32 : i < 32
    · simp [hi]; omega
    · have : a.testBit i = false := Nat.testBit_lt_two_pow (Nat.lt_of_lt_of_le ha (Nat.pow_le_pow_right (by omega) (by omega)))
      simp [this]
  · simp [hi]

theorem and_sz (a n : Int) (ha : 0 ≤ a) (hb : a < 4294967296) : bits .and .u32 a (sz n - 1) = a % sz n := by
  obtain ⟨a, rfl⟩ := Int.eq_ofNat_of_zero_le ha
  have hp := sz_pos n
  have hq := sz_le n
  rw [u32_and _ _ ha hb (by omega) (by omega), sz_nat]
  have e : (((2 ^ (32 - n.toNat) : Nat) : Int) - 1).toNat = 2 ^ (32 - n.toNat) - 1 := by omega
  rw [e, Int.toNat_natCast, Nat.and_two_pow_sub_one_eq_mod]
  exact Int.natCast_emod _ _

theorem andNot_sz (a n : Int) (ha : 0 ≤ a) (hb : a < 4294967296) : bits .andNot .u32 a (sz n - 1) = a - a % sz n := by
  obtain ⟨a, rfl⟩ := Int.eq_ofNat_of_zero_le ha
  have hp := sz_pos n
  have hq := sz_le n
  rw [u32_andNot _ _ ha hb (by omega) (by omega), sz_nat]
  have e : (((2 ^ (32 - n.toNat) : Nat) : Int) - 1).toNat = 2 ^ (32 - n.toNat) - 1 := by omega
  rw [e, Int.toNat_natCast]
  have h := nat_high a (32 - n.toNat) (by omega) (by omega)
  rw [show (4294967295 : Nat) = 2 ^ 32 - 1 by decide, h, ← Int.natCast_emod]
  have := Nat.mod_le a (2 ^ (32 - n.toNat))
  omega


theorem not32 (x : Int) (h0 : 0 ≤ x) (h1 : x < 4294967296) : bits .xor .u32 IntKind.u32.max x = 4294967295 - x := by
  obtain ⟨x, rfl⟩ := Int.eq_ofNat_of_zero_le h0
  have e : IntKind.u32.max = 4294967295 := by decide
  rw [e, u32_xor _ _ (by omega) (by omega) h0 h1]
  have hx : x < 2 ^ 32 := by omega
  have e2 : (4294967295 : Int).toNat = 2 ^ 32 - 1 := by decide
  have e3 : (2 ^ 32 - 1) ^^^ x = 2 ^ 32 - (x + 1) := by
    apply Nat.eq_of_testBit_eq
    intro i
    rw [Nat.testBit_xor, Nat.testBit_two_pow_sub_one, Nat.testBit_two_pow_sub_succ hx]
    by_cases hi : i < 32
    · simp [hi]
    · have : x.testBit i = false := Nat.testBit_lt_two_pow (Nat.lt_of_lt_of_le hx (Nat.pow_le_pow_right (by omega) (by omega)))
      simp [hi, this]
  rw [e2, Int.toNat_natCast, e3]
  omega
theorem bitLen_pred (j : Nat) (h : j ≤ 63) : Lib.bitLen (2 ^ j - 1) = j := by
  induction j with
  | zero => decide
  | succ j ih =>
    have h2 : 2 ^ (j + 1) < 2 ^ 64 := Nat.pow_lt_pow_right (by omega) (by omega)
    have h3 := Nat.two_pow_pos j
    have h4 : 2 ^ (j + 1) = 2 * 2 ^ j := by rw [Nat.pow_succ]; omega
    rw [Lib.bitLen_half _ (by omega) (by omega)]
    have : (2 ^ (j + 1) - 1) / 2 = 2 ^ j - 1 := by omega
    rw [this, ih (by omega)]; omega
/-- The leading zeros of a number of 32 bits. -/
def lz32 (x : Int) : Int := 32 - (Lib.bitLen x.toNat : Int)
theorem lz32_range (x : Int) (h1 : x < 4294967296) : 0 ≤ lz32 x ∧ lz32 x ≤ 32 := by
  unfold lz32
  have := Lib.bitLen_le x.toNat 32 (by omega) (by have : (2 : Nat) ^ 32 = 4294967296 := by decide
                                                  omega)
  omega
theorem lz32_mask (n : Int) (h0 : 0 ≤ n) (h1 : n ≤ 32) : lz32 (sz n - 1) = n := by
  unfold lz32
  rw [sz_nat]
  have e : (((2 ^ (32 - n.toNat) : Nat) : Int) - 1).toNat = 2 ^ (32 - n.toNat) - 1 := by omega
  rw [e, bitLen_pred _ (by omega)]
  omega
theorem bitLen_p2 (j : Nat) (h : j ≤ 63) : Lib.bitLen (p2 j).toNat = j + 1 := by
  rw [p2_cast, Int.toNat_natCast]
  induction j with
  | zero => decide
  | succ j ih =>
    have h2 : 2 ^ (j + 1) < 2 ^ 64 := Nat.pow_lt_pow_right (by omega) (by omega)
    rw [Lib.bitLen_half _ (by have := Nat.two_pow_pos (j + 1); omega) h2]
    have : 2 ^ (j + 1) / 2 = 2 ^ j := by rw [Nat.pow_succ]; omega
    rw [this, ih (by omega)]; omega
theorem p2_lt64 {j : Nat} (h : j ≤ 63) : p2 j ≤ 18446744073709551615 := by
  rw [p2_cast]
  have h2 : 2 ^ j < 2 ^ 64 := Nat.pow_lt_pow_right (by omega) (by omega)
  have e : (2 : Nat) ^ 64 = 18446744073709551616 := by decide
  omega
end Go.Proofs.Ytcchiagclhkieaa

/-
  Walks over the addresses' layer: behind, Check, In, Within; the program's and the reference's.
-/
namespace Go.Proofs.Ytcchiagclhkieaa
open Go Go.RowKit Go.Sort

theorem behind_val (n : Int) (h0 : 0 ≤ n) (h1 : n ≤ 32) : IntKind.u64.wrap (IntKind.u64.wrap (2 ^ (32 - n).toNat) - 1) % 4294967296 = sz n - 1 := by
  have e : (32 - n).toNat = 32 - n.toNat := by omega
  have hp := p2_pos (32 - n.toNat)
  have hq := p2_le32 (k := 32 - n.toNat) (by omega)
  rw [e]
  show IntKind.u64.wrap (IntKind.u64.wrap (p2 (32 - n.toNat)) - 1) % 4294967296 = p2 (32 - n.toNat) - 1
  simp only [IntKind.wrap, IntKind.bits, IntKind.signed]
  omega
set_option maxHeartbeats 400000 in
theorem behind_any (n : Int) (w : World) (h0 : 0 ≤ n) (h1 : n ≤ 32) :
    Calls Try.prog 88 #[.int .i64 n] w fun e w' => e = .returned (.int .u32 (sz n - 1)) ∧ w = w' := by
  have hv := Lib.hid (behind_val n h0 h1)
  go_enter Try.func88, Try.ntmps88
  go_wp2
  go_ret
  exact ⟨ret_int hv.out, rfl⟩

set_option maxHeartbeats 400000 in
theorem addrCheck_any (a n : Int) (w : World) (ha : 0 ≤ a) (hb : a < 4294967296) :
    Calls Try.prog 68 #[.agg #[.int .u32 a, .int .i64 n]] w fun e w' => e = .returned (.int .i64 (chk a n)) ∧ Below w.heap.size w w' := by
  by_cases hr : n < 0 ∨ 32 < n
  · have hc := Lib.hid (chk_range a n hr)
    rcases hr with hr | hr
    · go_enter Try.func68, Try.ntmps68
      go_wp2
      go_ret
      exact ⟨ret_int hc.out.symm, (Below.refl _ _).alloc (Nat.le_refl _) _⟩
    · have hr' : ¬ n < 0 := by omega
      go_enter Try.func68, Try.ntmps68
      go_wp2
      go_ret
      exact ⟨ret_int hc.out.symm, (Below.refl _ _).alloc (Nat.le_refl _) _⟩
  · have h0 : 0 ≤ n := by omega
    have h1 : n ≤ 32 := by omega
    clear hr
    have ea := and_sz a n ha hb
    by_cases hm : a % sz n = 0
    · have hc := Lib.hid (chk_zero a n h0 h1 hm)
      have hd : (bits .and .u32 a (sz n - 1) != 0) = false := by rw [ea, hm]; rfl
      clear ea hm
      go_enter Try.func68, Try.ntmps68
      go_wp2
      go_quiet ((go_at_call 88; exact quiet_left (behind_any _ _ (by omega) (by omega))))
      go_wp2
      go_ret
      exact ⟨ret_int hc.out.symm, below_drewN ((Below.refl _ _).alloc (Nat.le_refl _) _) _⟩
    · have hc := Lib.hid (chk_mask a n h0 h1 hm)
      have hd : (bits .and .u32 a (sz n - 1) != 0) = true := by rw [ea]; simp [hm]
      clear ea hm
      go_enter Try.func68, Try.ntmps68
      go_wp2
      go_quiet ((go_at_call 88; exact quiet_left (behind_any _ _ (by omega) (by omega))))
      go_wp2
      go_ret
      exact ⟨ret_int hc.out.symm, below_drewN ((Below.refl _ _).alloc (Nat.le_refl _) _) _⟩

end Go.Proofs.Ytcchiagclhkieaa

/-
  Walks over the addresses' layer: In; the program's and the reference's.
-/
namespace Go.Proofs.Ytcchiagclhkieaa
open Go Go.RowKit Go.Sort

theorem in_no (x a n : Int) (h : ¬ chk a n = 0) : false = inB x a n := by unfold inB; simp [h]
theorem in_low (x a n : Int) (h : ¬ a ≤ x) : false = inB x a n := by unfold inB; simp [h]
theorem in_sub (x a n : Int) (hr : chk a n = 0) (h : a ≤ x) : decide (x - a < sz n) = inB x a n := by
  unfold inB
  rw [decide_eq_decide]
  constructor
  · intro h1; exact ⟨hr, h, by omega⟩
  · intro h1; omega
theorem in_andNot (x a n : Int) (hx : 0 ≤ x) (hx' : x < 4294967296) (hr : chk a n = 0) : (bits .andNot .u32 x (sz n - 1) == a) = inB x a n := by
  obtain ⟨_, _, h2⟩ := chk_ok hr
  rw [andNot_sz x n hx hx']
  unfold inB
  rw [Bool.eq_iff_iff, beq_iff_eq, decide_eq_true_iff]
  have hp := sz_pos n
  have e1 := Int.emod_add_mul_ediv x (sz n)
  have l1 := Int.emod_nonneg x (by omega : sz n ≠ 0)
  have l2 := Int.emod_lt_of_pos x (by omega : 0 < sz n)
  constructor
  · intro h
    exact ⟨hr, by omega, by omega⟩
  · intro ⟨_, h3, h4⟩
    have e2 := Int.emod_add_mul_ediv a (sz n)
    rw [h2] at e2
    have h5 : x % sz n = x - a := by
      have : (x - a + sz n * (a / sz n)) % sz n = (x - a) % sz n := Int.add_mul_emod_self_left ..
      rw [show x - a + sz n * (a / sz n) = x by omega, Int.emod_eq_of_lt (a := x - a) (by omega) (by omega)] at this
      exact this
    omega

set_option maxHeartbeats 400000 in
theorem addrIn_any (x a n : Int) (w : World) (hx : 0 ≤ x) (hx' : x < 4294967296) (ha : 0 ≤ a) (hb : a < 4294967296) :
    Calls Try.prog 69 #[.int .u32 x, .agg #[.int .u32 a, .int .i64 n]] w fun e w' => e = .returned (.bool (inB x a n)) ∧ Below w.heap.size w w' := by
  by_cases hr : chk a n = 0
  · obtain ⟨h0, h1, h2⟩ := chk_ok hr
    have hd : (chk a n == 0) = true := by simp [hr]
    have hE := Lib.hid (in_andNot x a n hx hx' hr)
    clear hr h2
    go_enter Try.func69, Try.ntmps69
    go_wp2
    have c0 : (w.alloc (.cells #[.int .u32 a, .int .i64 n] 45)).cell? ⟨w.heap.size, 0, none⟩ = some (.int .u32 a) := by simp
    have c1 : (w.alloc (.cells #[.int .u32 a, .int .i64 n] 45)).cell? ⟨w.heap.size, 1, none⟩ = some (.int .i64 n) := by simp
    have hbW : Below w.heap.size w (w.alloc (.cells #[.int .u32 a, .int .i64 n] 45)) := (Below.refl _ _).alloc (Nat.le_refl _) _
    generalize w.alloc (.cells #[.int .u32 a, .int .i64 n] 45) = W at *
    have F0 := cell_regrown c0
    have F1 := cell_regrown c1
    refine wp_region_quiet_below (by kernel_rfl) (by kernel_rfl) ?_
    repeat (first | go_big_quiet_step ((first | (go_at_call 68; exact Calls.regrown_of (addrCheck_any _ _ _ (by omega) (by omega))) | (go_at_call 88; exact regrown_left (behind_any _ _ (by omega) (by omega))))) | quiet_step ((first | (go_at_call 68; exact Calls.regrown_of (addrCheck_any _ _ _ (by omega) (by omega))) | (go_at_call 88; exact regrown_left (behind_any _ _ (by omega) (by omega))))))
    refine wpQuiet_nil ?_
    intro _ hw'
    obtain ⟨⟨nq, osq⟩, hw''⟩ := hw'
    subst hw''
    go_wp2
    go_ret
    exact ⟨ret_bool (hE.out), (hbW.trans ((below_regrown W nq osq).mono hbW.size))⟩
  · have hd : (chk a n == 0) = false := by simp [hr]
    have hE := Lib.hid (in_no x a n hr)
    clear hr
    go_enter Try.func69, Try.ntmps69
    go_wp2
    have c0 : (w.alloc (.cells #[.int .u32 a, .int .i64 n] 45)).cell? ⟨w.heap.size, 0, none⟩ = some (.int .u32 a) := by simp
    have c1 : (w.alloc (.cells #[.int .u32 a, .int .i64 n] 45)).cell? ⟨w.heap.size, 1, none⟩ = some (.int .i64 n) := by simp
    have hbW : Below w.heap.size w (w.alloc (.cells #[.int .u32 a, .int .i64 n] 45)) := (Below.refl _ _).alloc (Nat.le_refl _) _
    generalize w.alloc (.cells #[.int .u32 a, .int .i64 n] 45) = W at *
    have F0 := cell_regrown c0
    have F1 := cell_regrown c1
    refine wp_region_quiet_below (by kernel_rfl) (by kernel_rfl) ?_
    repeat (first | go_big_quiet_step (((go_at_call 68; exact Calls.regrown_of (addrCheck_any _ _ _ (by omega) (by omega))))) | quiet_step (((go_at_call 68; exact Calls.regrown_of (addrCheck_any _ _ _ (by omega) (by omega))))))
    refine wpQuiet_nil ?_
    intro _ hw'
    obtain ⟨⟨nq, osq⟩, hw''⟩ := hw'
    subst hw''
    go_wp2
    go_ret
    exact ⟨ret_bool (hE.out), (hbW.trans ((below_regrown W nq osq).mono hbW.size))⟩

end Go.Proofs.Ytcchiagclhkieaa

/-
  A space's fields' places; Keep, and Prefix.
-/
namespace Go.Proofs.Ytcchiagclhkieaa
open Go Go.RowKit Go.ChangeMaps Go.MapKept Go.Maps Go.Lib Go.Sort

instance (A : Blks) (km : Nat) (V : World) : Nonempty (InW (KeptS A km V)) := ⟨⟨V, KeptS.refl A km V⟩⟩
def partsObj : Obj := .cells #[.int .i64 0, .int .i64 32, .int .i64 32, .int .i64 32, .int .i64 64, .int .i64 8, .int .i64 72, .int .i64 16, .int .i64 88, .int .i64 16] 59
set_option maxHeartbeats 400000 in
theorem parts_any (w : World) : Calls Try.prog 15 #[] w fun e w' => e = .returned (.slice (some ⟨w.heap.size, 0, none⟩) 5 5) ∧ w' = w.alloc partsObj := by
  unfold partsObj
  go_enter Try.func15, Try.ntmps15
  go_wp2
  go_ret
  exact ⟨rfl, rfl⟩
/-- Where a field's bits begin; how many there are. -/
def fAt : Nat → Nat
  | 0 => 0
  | 1 => 32
  | 2 => 64
  | 3 => 72
  | _ => 88
def fBits : Nat → Nat
  | 0 => 32
  | 1 => 32
  | 2 => 8
  | _ => 16
theorem parts_at (w : World) (f : Nat) (hf : f < 5) : (w.alloc partsObj).cell? ⟨w.heap.size, f * 2, none⟩ = some (.int .i64 (fAt f)) ∧ (w.alloc partsObj).cell? ⟨w.heap.size, f * 2 + 1, none⟩ = some (.int .i64 (fBits f)) := by
  have hb := blk1 w (.cells #[.int .i64 0, .int .i64 32, .int .i64 32, .int .i64 32, .int .i64 64, .int .i64 8, .int .i64 72, .int .i64 16, .int .i64 88, .int .i64 16] 59)
  unfold partsObj
  obtain rfl | rfl | rfl | rfl | rfl : f = 0 ∨ f = 1 ∨ f = 2 ∨ f = 3 ∨ f = 4 := by omega
  all_goals exact ⟨by rw [cell_of_row _ _ _ _ _ (0, 0) hb]; rfl, by rw [cell_of_row _ _ _ _ _ (0, 0) hb]; rfl⟩
section
variable {w : World} {B S km : Nat} {A : Blks} {Mo : Nat} {σ : Sg}
set_option maxRecDepth 100000
set_option maxHeartbeats 2000000
theorem prefix_yes (h : SpOk w B S km A Mo σ) (f a n : Nat) (hf : f < 2) (ha : a < 4294967296) (hn : n ≤ 32) (hc : chk a n = 0) (hl : σ.N.length + 96 ≤ 2147483647) :
    Calls Try.prog 61 #[.pointer (some ⟨S, 0, none⟩), .int .i64 f, .agg #[.int .u32 a, .int .i64 n]] w (SpRes w B S km A Mo σ (bitsF (32 * f) 0 n (a / 2 ^ (32 - n)) n) (3 * n) (3 * n)) := by
  have hbw := below1 w (.cells #[.int .u32 a, .int .i64 n] 45)
  have hbk := blk1 w (.cells #[.int .u32 a, .int .i64 n] 45)
  have hfo := h.sp.ar.foreign_new hbw (Nat.le_refl _) (lt_of_block hbk)
  have HCK := Lib.hid (fun W => addrCheck_any (a : Int) (n : Int) W (by omega) (by omega))
  rw [hc] at HCK
  have HK0 := Lib.hid (h.kept hbw)
  have HS := Lib.hid (h.below hbw)
  have HBK := Lib.hid hbk
  have b0 : (w.alloc (.cells #[.int .u32 a, .int .i64 n] 45)).cell? ⟨w.heap.size, 0, none⟩ = some (.int .u32 a) := by rw [cell_of_row _ _ 0 _ _ (0, 0) hbk]; rfl
  have b1 : (w.alloc (.cells #[.int .u32 a, .int .i64 n] 45)).cell? ⟨w.heap.size, 1, none⟩ = some (.int .i64 n) := by rw [cell_of_row _ _ 1 _ _ (0, 0) hbk]; rfl
  have hn1 : (n : Int) ≤ 32 := by omega
  have HNE : Hid (w.heap.size ≠ km) := Lib.hid (by have := h.sp.fk.1; omega)
  have HFK : Hid (∀ W, Below (w.alloc (.cells #[.int .u32 a, .int .i64 n] 45)).heap.size (w.alloc (.cells #[.int .u32 a, .int .i64 n] 45)) W → Foreign A W w.heap.size ∧ w.heap.size ≠ km) := Lib.hid fun W hb => ⟨((HS.out.kept hb).same _ hfo HNE.out).2, HNE.out⟩
  have f1 : ¬ (f : Int) ≠ 0 ∨ (f : Int) ≠ 0 ∧ ¬ (f : Int) ≠ 1 := by omega
  clear h hbw hfo hbk hc
  go_enter Try.func61, Try.ntmps61
  go_upto_region 1 with fail
  generalize w.alloc (.cells #[.int .u32 a, .int .i64 n] 45) = w0 at *
  obtain rfl | rfl : f = 0 ∨ f = 1 := by omega
  · go_upto_region 8 with ((with_reducible refine (HCK.out _).mono ?_); rintro e W2 ⟨rfl, hb2⟩; have HS2 := Lib.hid (HS.out.below hb2); have HK2 := Lib.hid (HK0.out.trans (HS.out.kept hb2)); have HB2 := Lib.hid hb2; clear hb2)
    have hk2 := blk_below HB2.out HBK.out
    have hwd : Below W2.heap.size W2 { W2 with drawn := W2.drawn + 1 } := ⟨rfl, rfl, rfl, Nat.le_refl _, fun _ _ => rfl⟩
    have HSV := Lib.hid (HS2.out.below hwd)
    have HKV := Lib.hid (HK2.out.trans (HS2.out.kept hwd))
    have hk3 := blk_below hwd hk2
    have HFO := Lib.hid ((KeptS.same (HS2.out.kept hwd) _ (HFK.out W2 HB2.out).1 (HFK.out W2 HB2.out).2).2)
    clear hk2 hwd b0 b1
    refine wp_region_mixS (KeptS A km { W2 with drawn := W2.drawn + 1 }) [(0, false), (2, false), (6, false), (7, false), (8, false), (9, false), (10, false), (11, false), (12, false), (13, false), (14, false), (1, true), (3, false), (4, false), (5, false), (15, true), (16, false), (17, false), (18, false), (19, false)] (by kernel_rfl) (by kernel_rfl) (KeptS.refl _ _ _) ?_
    generalize { W2 with drawn := W2.drawn + 1 } = V0 at *
    have d0 : ∀ p : InW (KeptS A km V0), p.w.cell? ⟨w.heap.size, 0, none⟩ = some (.int .u32 a) := fun p => by rw [cell_of_row _ _ 0 _ _ (0, 0) ((p.h.same _ HFO.out HNE.out).1.trans hk3)]; rfl
    have d1 : ∀ p : InW (KeptS A km V0), p.w.cell? ⟨w.heap.size, 1, none⟩ = some (.int .i64 n) := fun p => by rw [cell_of_row _ _ 1 _ _ (0, 0) ((p.h.same _ HFO.out HNE.out).1.trans hk3)]; rfl
    refine mix_take [0, 2, 6, 7, 8, 9, 10, 11, 12, 13, 14] [_, _, _, _, _, _, _, _, _, _, _] rfl rfl ?_
    simp only [List.getElem_toArray, List.getElem_cons_zero, List.getElem_cons_succ]
    repeat (go_big_quiet_step (fail))
    refine wpQuiet_nil ?_
    refine mix_barS rfl (by rfl) ?_
    simp only [List.getElem_toArray, List.getElem_cons_zero, List.getElem_cons_succ]
    go_simp
    have hbp := below1 V0 partsObj
    have HSP := Lib.hid (HSV.out.below hbp)
    have HKP := Lib.hid (HSV.out.kept hbp)
    have hpk := blk1 V0 partsObj
    have hpf := HSV.out.sp.ar.foreign_new hbp (Nat.le_refl _) (lt_of_block hpk)
    have hpn : V0.heap.size ≠ km := by have := HSV.out.sp.fk.1; omega
    have hpp := (parts_at V0 0 (by omega)).1
    refine (parts_any _).mono ?_
    rintro e _ ⟨rfl, rfl⟩
    refine ⟨KeptS A km (V0.alloc partsObj), KeptS.refl _ _ _, fun v hv => HKP.out.trans hv, ?_⟩
    have p0 : ∀ p : InW (KeptS A km (V0.alloc partsObj)), p.w.cell? ⟨V0.heap.size, 0, none⟩ = some (.int .i64 0) := fun p => (World.cell?_of_block (p.h.same _ hpf hpn).1).trans hpp
    clear hbp hpk hpf hpn hpp d0 d1 hk3
    generalize V0.alloc partsObj = V1 at *
    refine mix_take [3, 4, 5] [_, _, _] rfl rfl ?_
    simp only [List.getElem_toArray, List.getElem_cons_zero, List.getElem_cons_succ]
    repeat (go_big_quiet_step (fail))
    refine wpQuiet_nil ?_
    refine mix_barS rfl (by rfl) ?_
    simp only [List.getElem_toArray, List.getElem_cons_zero, List.getElem_cons_succ]
    go_simp
    have hdl : a / 2 ^ (32 - n) ≤ a := Nat.div_le_self _ _
    have hdv : ((a / 2 ^ (32 - n) : Nat) : Int) = (a : Int) / 2 ^ (32 - n) := by simp
    have hbits := bits_any HSP.out nowF (32 * 0) n (a / 2 ^ (32 - n)) (by omega) hn (by omega) (by omega)
    rw [hdv] at hbits
    have HBITS := Lib.hid (show Calls Try.prog 16 #[.pointer (some ⟨S, 0, none⟩), .int .i64 0, .int .i64 n, .int .u64 ((a : Int) / 2 ^ (32 - n)), .func (.func 17) #[] #[]] V1 _ from hbits)
    clear hdl hdv hbits
    refine HBITS.out.mono ?_
    rintro e W5 hr5
    have HR5 := Lib.hid (hr5.after (To.refl σ) (HKV.out.trans HKP.out))
    obtain ⟨q5, c5, rfl⟩ := hr5.form
    refine ⟨KeptS A km V1, hr5.1, fun _ h => h, ?_⟩
    clear hr5
    refine mix_take [16, 17, 18, 19] [_, _, _, _] rfl rfl ?_
    simp only [List.getElem_toArray, List.getElem_cons_zero, List.getElem_cons_succ]
    repeat (go_big_quiet_step (fail))
    refine wpQuiet_nil ?_
    refine mix_end ?_
    go_wp2
    go_ret2
    simpa using HR5.out
  · go_upto_region 8 with ((with_reducible refine (HCK.out _).mono ?_); rintro e W2 ⟨rfl, hb2⟩; have HS2 := Lib.hid (HS.out.below hb2); have HK2 := Lib.hid (HK0.out.trans (HS.out.kept hb2)); have HB2 := Lib.hid hb2; clear hb2)
    have hk2 := blk_below HB2.out HBK.out
    have hwd : Below W2.heap.size W2 { W2 with drawn := W2.drawn + 1 } := ⟨rfl, rfl, rfl, Nat.le_refl _, fun _ _ => rfl⟩
    have HSV := Lib.hid (HS2.out.below hwd)
    have HKV := Lib.hid (HK2.out.trans (HS2.out.kept hwd))
    have hk3 := blk_below hwd hk2
    have HFO := Lib.hid ((KeptS.same (HS2.out.kept hwd) _ (HFK.out W2 HB2.out).1 (HFK.out W2 HB2.out).2).2)
    clear hk2 hwd b0 b1
    refine wp_region_mixS (KeptS A km { W2 with drawn := W2.drawn + 1 }) [(0, false), (2, false), (6, false), (7, false), (8, false), (9, false), (10, false), (11, false), (12, false), (13, false), (14, false), (1, true), (3, false), (4, false), (5, false), (15, true), (16, false), (17, false), (18, false), (19, false)] (by kernel_rfl) (by kernel_rfl) (KeptS.refl _ _ _) ?_
    generalize { W2 with drawn := W2.drawn + 1 } = V0 at *
    have d0 : ∀ p : InW (KeptS A km V0), p.w.cell? ⟨w.heap.size, 0, none⟩ = some (.int .u32 a) := fun p => by rw [cell_of_row _ _ 0 _ _ (0, 0) ((p.h.same _ HFO.out HNE.out).1.trans hk3)]; rfl
    have d1 : ∀ p : InW (KeptS A km V0), p.w.cell? ⟨w.heap.size, 1, none⟩ = some (.int .i64 n) := fun p => by rw [cell_of_row _ _ 1 _ _ (0, 0) ((p.h.same _ HFO.out HNE.out).1.trans hk3)]; rfl
    refine mix_take [0, 2, 6, 7, 8, 9, 10, 11, 12, 13, 14] [_, _, _, _, _, _, _, _, _, _, _] rfl rfl ?_
    simp only [List.getElem_toArray, List.getElem_cons_zero, List.getElem_cons_succ]
    repeat (go_big_quiet_step (fail))
    refine wpQuiet_nil ?_
    refine mix_barS rfl (by rfl) ?_
    simp only [List.getElem_toArray, List.getElem_cons_zero, List.getElem_cons_succ]
    go_simp
    have hbp := below1 V0 partsObj
    have HSP := Lib.hid (HSV.out.below hbp)
    have HKP := Lib.hid (HSV.out.kept hbp)
    have hpk := blk1 V0 partsObj
    have hpf := HSV.out.sp.ar.foreign_new hbp (Nat.le_refl _) (lt_of_block hpk)
    have hpn : V0.heap.size ≠ km := by have := HSV.out.sp.fk.1; omega
    have hpp := (parts_at V0 1 (by omega)).1
    refine (parts_any _).mono ?_
    rintro e _ ⟨rfl, rfl⟩
    refine ⟨KeptS A km (V0.alloc partsObj), KeptS.refl _ _ _, fun v hv => HKP.out.trans hv, ?_⟩
    have p0 : ∀ p : InW (KeptS A km (V0.alloc partsObj)), p.w.cell? ⟨V0.heap.size, 2, none⟩ = some (.int .i64 32) := fun p => (World.cell?_of_block (p.h.same _ hpf hpn).1).trans hpp
    clear hbp hpk hpf hpn hpp d0 d1 hk3
    generalize V0.alloc partsObj = V1 at *
    refine mix_take [3, 4, 5] [_, _, _] rfl rfl ?_
    simp only [List.getElem_toArray, List.getElem_cons_zero, List.getElem_cons_succ]
    repeat (go_big_quiet_step (fail))
    refine wpQuiet_nil ?_
    refine mix_barS rfl (by rfl) ?_
    simp only [List.getElem_toArray, List.getElem_cons_zero, List.getElem_cons_succ]
    go_simp
    have hdl : a / 2 ^ (32 - n) ≤ a := Nat.div_le_self _ _
    have hdv : ((a / 2 ^ (32 - n) : Nat) : Int) = (a : Int) / 2 ^ (32 - n) := by simp
    have hbits := bits_any HSP.out nowF (32 * 1) n (a / 2 ^ (32 - n)) (by omega) hn (by omega) (by omega)
    rw [hdv] at hbits
    have HBITS := Lib.hid (show Calls Try.prog 16 #[.pointer (some ⟨S, 0, none⟩), .int .i64 32, .int .i64 n, .int .u64 ((a : Int) / 2 ^ (32 - n)), .func (.func 17) #[] #[]] V1 _ from hbits)
    clear hdl hdv hbits
    refine HBITS.out.mono ?_
    rintro e W5 hr5
    have HR5 := Lib.hid (hr5.after (To.refl σ) (HKV.out.trans HKP.out))
    obtain ⟨q5, c5, rfl⟩ := hr5.form
    refine ⟨KeptS A km V1, hr5.1, fun _ h => h, ?_⟩
    clear hr5
    refine mix_take [16, 17, 18, 19] [_, _, _, _] rfl rfl ?_
    simp only [List.getElem_toArray, List.getElem_cons_zero, List.getElem_cons_succ]
    repeat (go_big_quiet_step (fail))
    refine wpQuiet_nil ?_
    refine mix_end ?_
    go_wp2
    go_ret2
    simpa using HR5.out
end
end Go.Proofs.Ytcchiagclhkieaa
