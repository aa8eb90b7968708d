/-
  The walk of the law HeaderBits (written by wip/gen/genhbits.py).
-/
import Derived.Test.YtdlhpiknifcehaaDoorHd10
import Derived.Test.YtdlhpiknifcehaaDoorHd7
import Derived.Test.YtdlhpiknifcehaaDoorHrB
import Derived.Test.YtdlhpiknifcehaaDoorHrC
import Derived.Deep.DeepCutAuto
namespace Go.Proofs.YtdlhpiknifcehaaDoor
open Go Go.RowKit Go.Sort

theorem bits_of_raw (r0 r1 r2 r3 r4 r5 r6 r7 r8 r9 r10 r11 r12 : Int) (hr : ∀ x ∈ [r0, r1, r2, r3, r4, r5, r6, r7, r8, r9, r10, r11, r12], 0 ≤ x ∧ x < 256) (c : Hd) (hc : c = ofB [r0, r1, r2, r3, r4, r5, r6, r7, r8, r9, r10, r11, r12]) (w : World) :
    Calls Tryd.prog 32 #[.agg #[.int .u8 r0, .int .u8 r1, .int .u8 r2, .int .u8 r3, .int .u8 r4, .int .u8 r5, .int .u8 r6, .int .u8 r7, .int .u8 r8, .int .u8 r9, .int .u8 r10, .int .u8 r11, .int .u8 r12]] w fun e w' => e = .returned (.agg #[.int .u32 c.src, .int .u32 c.dst, .int .u8 c.proto, .int .u16 c.sp, .int .u16 c.dp]) ∧ Below w.heap.size w w' := by
  subst hc
  exact of_any r0 r1 r2 r3 r4 r5 r6 r7 r8 r9 r10 r11 r12 hr w
theorem bit_both (h : Hd) (ho : h.ok) (i : Int) : ∃ (x : Bool) (e : Int), (∀ w : World, Calls Tryd.prog 34 #[.agg #[.int .u32 h.src, .int .u32 h.dst, .int .u8 h.proto, .int .u16 h.sp, .int .u16 h.dp], .int .i64 i] w fun k w' => k = .returned (.tuple #[.bool x, .int .i64 e]) ∧ Below w.heap.size w w') ∧ ∀ w : World, Calls Tryd.prog 39 #[.agg #[.int .u32 h.src, .int .u32 h.dst, .int .u8 h.proto, .int .u16 h.sp, .int .u16 h.dp], .int .i64 i] w fun k w' => k = .returned (.tuple #[.bool x, .int .i64 e]) ∧ Below w.heap.size w w' := by
  by_cases hi : i < 0 ∨ 104 ≤ i
  · exact ⟨_, _, fun w => bit_no h i w hi, fun w => hrBit_no h i w hi⟩
  · obtain ⟨n, rfl⟩ := Int.eq_ofNat_of_zero_le (show 0 ≤ i by omega)
    exact ⟨_, _, fun w => bit_yes h ho n w (by omega), fun w => hrBit_yes h ho n w (by omega)⟩
theorem with_both (h : Hd) (ho : h.ok) (i : Int) (b : Bool) : ∃ (c : Hd) (e : Int), (∀ w : World, Calls Tryd.prog 35 #[.agg #[.int .u32 h.src, .int .u32 h.dst, .int .u8 h.proto, .int .u16 h.sp, .int .u16 h.dp], .int .i64 i, .bool b] w fun k w' => k = .returned (.tuple #[.agg #[.int .u32 c.src, .int .u32 c.dst, .int .u8 c.proto, .int .u16 c.sp, .int .u16 c.dp], .int .i64 e]) ∧ Below w.heap.size w w') ∧ ∀ w : World, Calls Tryd.prog 40 #[.agg #[.int .u32 h.src, .int .u32 h.dst, .int .u8 h.proto, .int .u16 h.sp, .int .u16 h.dp], .int .i64 i, .bool b] w fun k w' => k = .returned (.tuple #[.agg #[.int .u32 c.src, .int .u32 c.dst, .int .u8 c.proto, .int .u16 c.sp, .int .u16 c.dp], .int .i64 e]) ∧ Below w.heap.size w w' := by
  by_cases hi : i < 0 ∨ 104 ≤ i
  · exact ⟨⟨0, 0, 0, 0, 0⟩, _, fun w => with_no h i b w hi, fun w => hrWith_no h i b w hi⟩
  · obtain ⟨n, rfl⟩ := Int.eq_ofNat_of_zero_le (show 0 ≤ i by omega)
    exact ⟨_, _, fun w => with_yes h ho n b w (by omega), fun w => hrWith_yes h ho n b w (by omega)⟩
theorem bits_same (h : Hd) (w : World) : Calls Tryd.prog 41 #[.agg #[.int .u32 h.src, .int .u32 h.dst, .int .u8 h.proto, .int .u16 h.sp, .int .u16 h.dp], .agg #[.int .u32 h.src, .int .u32 h.dst, .int .u8 h.proto, .int .u16 h.sp, .int .u16 h.dp]] w fun e w' => e = .returned (.bool true) ∧ Below w.heap.size w w' := by
  have e := hrSame_any h h w
  rw [decide_eq_true rfl] at e
  exact e
def set5 (W : World) (g : Nat) (n : Hd) : World := (((((W.setCell ⟨g, 0, none⟩ (.int .u32 n.src)).setCell ⟨g, 1, none⟩ (.int .u32 n.dst)).setCell ⟨g, 2, none⟩ (.int .u8 n.proto)).setCell ⟨g, 3, none⟩ (.int .u16 n.sp)).setCell ⟨g, 4, none⟩ (.int .u16 n.dp))
theorem set5_far {W : World} {g g' : Nat} {o : Obj} (h : W.heap[g']? = some o) (n : Hd) (hne : g' ≠ g) : (set5 W g n).heap[g']? = some o :=
  set_far (set_far (set_far (set_far (set_far h (p := ⟨g, 0, none⟩) hne) (p := ⟨g, 1, none⟩) hne) (p := ⟨g, 2, none⟩) hne) (p := ⟨g, 3, none⟩) hne) (p := ⟨g, 4, none⟩) hne
theorem set5_at {W : World} {g : Nat} {c : Hd} (h : W.heap[g]? = some c.cells) (n : Hd) : (set5 W g n).heap[g]? = some n.cells :=
  hd_set4 (hd_set3 (hd_set2 (hd_set1 (hd_set0 h _) _) _) _) _
theorem set5_below {w W : World} {g k : Nat} (h : Below k w W) (n : Hd) (hg : k ≤ g) : Below k w (set5 W g n) :=
  ((((h.setCell (p := ⟨g, 0, none⟩) hg _).setCell (p := ⟨g, 1, none⟩) hg _).setCell (p := ⟨g, 2, none⟩) hg _).setCell (p := ⟨g, 3, none⟩) hg _).setCell (p := ⟨g, 4, none⟩) hg _
structure HB3 (a b : Hd) (l : List Int) (gc gd : Nat) (c d : Hd) (w W : World) : Prop where
  pa : W.heap[w.heap.size]? = some a.cells
  pb : W.heap[w.heap.size + 1]? = some b.cells
  pr : W.heap[w.heap.size + 1 + 1]? = some (arr l)
  pc : W.heap[gc]? = some c.cells
  pd : W.heap[gd]? = some d.cells
  pn : Below w.heap.size w W
theorem HB3.below {a b : Hd} {l : List Int} {gc gd : Nat} {c d : Hd} {w W W' : World} (H : HB3 a b l gc gd c d w W) (hb : Below W.heap.size W W') : HB3 a b l gc gd c d w W' :=
  ⟨blk_below hb H.pa, blk_below hb H.pb, blk_below hb H.pr, blk_below hb H.pc, blk_below hb H.pd, below_call H.pn hb⟩
theorem HB3.alloc {a b : Hd} {l : List Int} {gc gd : Nat} {c d : Hd} {w W : World} (H : HB3 a b l gc gd c d w W) (o : Obj) : HB3 a b l gc gd c d w (W.alloc o) := H.below (below1 W o)
theorem HB3.setc {a b : Hd} {l : List Int} {gc gd : Nat} {c d : Hd} {w W : World} (H : HB3 a b l gc gd c d w W) (n : Hd) (h1 : w.heap.size + 1 + 1 < gc) (h2 : gc < gd) : HB3 a b l gc gd n d w (set5 W gc n) :=
  ⟨set5_far H.pa n (by omega), set5_far H.pb n (by omega), set5_far H.pr n (by omega), set5_at H.pc n, set5_far H.pd n (by omega), set5_below H.pn n (by omega)⟩
theorem HB3.setd {a b : Hd} {l : List Int} {gc gd : Nat} {c d : Hd} {w W : World} (H : HB3 a b l gc gd c d w W) (n : Hd) (h1 : w.heap.size + 1 + 1 < gc) (h2 : gc < gd) : HB3 a b l gc gd c n w (set5 W gd n) :=
  ⟨set5_far H.pa n (by omega), set5_far H.pb n (by omega), set5_far H.pr n (by omega), set5_far H.pc n (by omega), set5_at H.pd n, set5_below H.pn n (by omega)⟩
structure HBl (a : Hd) (l : List Int) (gm gn : Nat) (w W : World) : Prop where
  pr : W.heap[w.heap.size + 1 + 1]? = some (arr l)
  pm : W.heap[gm]? = some (arr a.bytes)
  pn : W.heap[gn]? = some (arr a.bytes)
  pw : Below w.heap.size w W
theorem HBl.below {a : Hd} {l : List Int} {gm gn : Nat} {w W W' : World} (H : HBl a l gm gn w W) (hb : Below W.heap.size W W') : HBl a l gm gn w W' :=
  ⟨blk_below hb H.pr, blk_below hb H.pm, blk_below hb H.pn, below_call H.pw hb⟩
set_option maxRecDepth 100000 in
set_option maxHeartbeats 4000000 in
theorem lawHBits_any (a b : Hd) (ha : a.ok) (hb : b.ok) (i : Int) (bit : Bool) (r0 r1 r2 r3 r4 r5 r6 r7 r8 r9 r10 r11 r12 : Int) (hr : ∀ x ∈ [r0, r1, r2, r3, r4, r5, r6, r7, r8, r9, r10, r11, r12], 0 ≤ x ∧ x < 256) (s : ByteArray) (w : World) (hE : Env w) (hls : s.size < 4294967281) :
    Calls Tryd.prog 8 #[.agg #[.int .u32 a.src, .int .u32 a.dst, .int .u8 a.proto, .int .u16 a.sp, .int .u16 a.dp], .agg #[.int .u32 b.src, .int .u32 b.dst, .int .u8 b.proto, .int .u16 b.sp, .int .u16 b.dp], .int .i64 i, .bool bit, .agg #[.int .u8 r0, .int .u8 r1, .int .u8 r2, .int .u8 r3, .int .u8 r4, .int .u8 r5, .int .u8 r6, .int .u8 r7, .int .u8 r8, .int .u8 r9, .int .u8 r10, .int .u8 r11, .int .u8 r12], .string s] w fun e w' => e = .returned (.bool true) ∧ Below w.heap.size w w' := by
  obtain ⟨D, hD⟩ : ∃ D, D = ofB [r0, r1, r2, r3, r4, r5, r6, r7, r8, r9, r10, r11, r12] := ⟨_, rfl⟩
  have HD := Lib.hid hD
  clear hD
  obtain ⟨xb, eb, HB1, HB2⟩ := bit_both a ha i
  obtain ⟨C, eg, HW1, HW2⟩ := with_both a ha i bit
  obtain ⟨S, HC1, HC2⟩ : ∃ S : Int, (∀ v : World, Calls Tryd.prog 42 #[.agg #[.int .u32 a.src, .int .u32 a.dst, .int .u8 a.proto, .int .u16 a.sp, .int .u16 a.dp], .agg #[.int .u32 b.src, .int .u32 b.dst, .int .u8 b.proto, .int .u16 b.sp, .int .u16 b.dp]] v fun k w' => k = .returned (.int .i64 S) ∧ Below v.heap.size v w') ∧ ∀ v : World, Calls Tryd.prog 43 #[.agg #[.int .u32 a.src, .int .u32 a.dst, .int .u8 a.proto, .int .u16 a.sp, .int .u16 a.dp], .agg #[.int .u32 b.src, .int .u32 b.dst, .int .u8 b.proto, .int .u16 b.sp, .int .u16 b.dp]] v fun k w' => k = .returned (.int .i64 S) ∧ Below v.heap.size v w' := ⟨_, fun v => cmp_any a b ha hb v, fun v => hrCmp_any a b ha hb v⟩
  obtain ⟨N, en, HN1, HN2⟩ : ∃ (N : Hd) (en : Int), (∀ v : World, Calls Tryd.prog 38 #[.agg #[.int .u32 a.src, .int .u32 a.dst, .int .u8 a.proto, .int .u16 a.sp, .int .u16 a.dp]] v fun k w' => k = .returned (.tuple #[.agg #[.int .u32 N.src, .int .u32 N.dst, .int .u8 N.proto, .int .u16 N.sp, .int .u16 N.dp], .int .i64 en]) ∧ Below v.heap.size v w') ∧ ∀ v : World, Calls Tryd.prog 44 #[.agg #[.int .u32 a.src, .int .u32 a.dst, .int .u8 a.proto, .int .u16 a.sp, .int .u16 a.dp]] v fun k w' => k = .returned (.tuple #[.agg #[.int .u32 N.src, .int .u32 N.dst, .int .u8 N.proto, .int .u16 N.sp, .int .u16 N.dp], .int .i64 en]) ∧ Below v.heap.size v w' := ⟨_, _, fun v => hdNext_any a ha v, fun v => hrNext_any a ha v⟩
  obtain ⟨P, ep, HP1, HP2⟩ : ∃ (P : Hd) (ep : Int), (∀ v : World, Env v → Calls Tryd.prog 29 #[.string s] v fun k w' => k = .returned (.tuple #[.agg #[.int .u32 P.src, .int .u32 P.dst, .int .u8 P.proto, .int .u16 P.sp, .int .u16 P.dp], .int .i64 ep]) ∧ Below v.heap.size v w') ∧ ∀ v : World, Calls Tryd.prog 45 #[.string s] v fun k w' => k = .returned (.tuple #[.agg #[.int .u32 P.src, .int .u32 P.dst, .int .u8 P.proto, .int .u16 P.sp, .int .u16 P.dp], .int .i64 ep]) ∧ Below v.heap.size v w' := ⟨_, _, fun v hv => hdParse_any s v hv hls, fun v => hrParse_any s v hls⟩
  obtain ⟨T, HT1, HT2⟩ : ∃ T : ByteArray, (∀ v : World, Env v → Calls Tryd.prog 30 #[.agg #[.int .u32 a.src, .int .u32 a.dst, .int .u8 a.proto, .int .u16 a.sp, .int .u16 a.dp]] v fun k w' => k = .returned (.string T) ∧ Below v.heap.size v w') ∧ ∀ v : World, Calls Tryd.prog 46 #[.agg #[.int .u32 a.src, .int .u32 a.dst, .int .u8 a.proto, .int .u16 a.sp, .int .u16 a.dp]] v fun k w' => k = .returned (.string T) ∧ Below v.heap.size v w' := ⟨_, fun v hv => hdText_any a ha v hv, fun v => hrText_any a ha v⟩
  have HM1 : Hid (∀ v : World, Calls Tryd.prog 33 #[.agg #[.int .u32 a.src, .int .u32 a.dst, .int .u8 a.proto, .int .u16 a.sp, .int .u16 a.dp]] v fun k w' => k = .returned (.agg #[.int .u8 (a.src / 16777216), .int .u8 (a.src / 65536 % 256), .int .u8 (a.src / 256 % 256), .int .u8 (a.src % 256), .int .u8 (a.dst / 16777216), .int .u8 (a.dst / 65536 % 256), .int .u8 (a.dst / 256 % 256), .int .u8 (a.dst % 256), .int .u8 (a.proto), .int .u8 (a.sp / 256), .int .u8 (a.sp % 256), .int .u8 (a.dp / 256), .int .u8 (a.dp % 256)]) ∧ Below v.heap.size v w') := Lib.hid (fun v => bytes_any a ha v)
  have HM2 : Hid (∀ v : World, Calls Tryd.prog 47 #[.agg #[.int .u32 a.src, .int .u32 a.dst, .int .u8 a.proto, .int .u16 a.sp, .int .u16 a.dp]] v fun k w' => k = .returned (.agg #[.int .u8 (a.src / 16777216), .int .u8 (a.src / 65536 % 256), .int .u8 (a.src / 256 % 256), .int .u8 (a.src % 256), .int .u8 (a.dst / 16777216), .int .u8 (a.dst / 65536 % 256), .int .u8 (a.dst / 256 % 256), .int .u8 (a.dst % 256), .int .u8 (a.proto), .int .u8 (a.sp / 256), .int .u8 (a.sp % 256), .int .u8 (a.dp / 256), .int .u8 (a.dp % 256)]) ∧ Below v.heap.size v w') := Lib.hid (fun v => hrBytes_any a ha v)
  have HN1 := Lib.hid HN1
  have HN2 := Lib.hid HN2
  have HP1 := Lib.hid HP1
  have HP2 := Lib.hid HP2
  have HT1 := Lib.hid HT1
  have HT2 := Lib.hid HT2
  have HC1 := Lib.hid HC1
  have HC2 := Lib.hid HC2
  have HB1 := Lib.hid HB1
  have HB2 := Lib.hid HB2
  have HW1 := Lib.hid HW1
  have HW2 := Lib.hid HW2
  have hk := blk3 w a.cells b.cells (arr [r0, r1, r2, r3, r4, r5, r6, r7, r8, r9, r10, r11, r12])
  have hb0 := below3 w a.cells b.cells (arr [r0, r1, r2, r3, r4, r5, r6, r7, r8, r9, r10, r11, r12])
  go_enter Tryd.func8, Tryd.ntmps8
  go_wp2_with fail
  refine (HB1.out _).mono ?_
  rintro e w1 ⟨rfl, hb⟩
  have Ja := blk_below hb hk.1
  have Jb := blk_below hb hk.2.1
  have Jr := blk_below hb hk.2.2
  have hbw := below_call hb0 hb
  clear hb hb0 hk
  obtain ⟨ca0, ca1, ca2, ca3, ca4⟩ := hd_cell (h := a) Ja
  have fa := hd_frozen (h := a) Ja
  have la := lt_of_block Ja
  have na : w.heap.size ≠ w1.heap.size := by omega
  have Ka := Lib.hid Ja
  clear Ja
  obtain ⟨cb0, cb1, cb2, cb3, cb4⟩ := hd_cell (h := b) Jb
  have fb := hd_frozen (h := b) Jb
  have lb := lt_of_block Jb
  have nb : w.heap.size + 1 ≠ w1.heap.size := by omega
  have Kb := Lib.hid Jb
  clear Jb
  obtain ⟨cr0, cr1, cr2, cr3, cr4, cr5, cr6, cr7, cr8, cr9, cr10, cr11, cr12⟩ := arr13_cells Jr
  have lr := lt_of_block Jr
  have nr : w.heap.size + 1 + 1 ≠ w1.heap.size := by omega
  have Kr := Lib.hid Jr
  clear Jr
  go_wp2_with fail
  refine (HB2.out _).mono ?_
  rintro e w2 ⟨rfl, hb⟩
  have Ja := blk_below hb Ka.out
  have Jb := blk_below hb Kb.out
  have Jr := blk_below hb Kr.out
  have hbw' := below_call hbw hb
  clear ca0 ca1 ca2 ca3 ca4 fa la na Ka cb0 cb1 cb2 cb3 cb4 fb lb nb Kb cr0 cr1 cr2 cr3 cr4 cr5 cr6 cr7 cr8 cr9 cr10 cr11 cr12 lr nr Kr hbw hb
  have hbw := hbw'
  clear hbw'
  obtain ⟨ca0, ca1, ca2, ca3, ca4⟩ := hd_cell (h := a) Ja
  have fa := hd_frozen (h := a) Ja
  have la := lt_of_block Ja
  have na : w.heap.size ≠ w2.heap.size := by omega
  have Ka := Lib.hid Ja
  clear Ja
  obtain ⟨cb0, cb1, cb2, cb3, cb4⟩ := hd_cell (h := b) Jb
  have fb := hd_frozen (h := b) Jb
  have lb := lt_of_block Jb
  have nb : w.heap.size + 1 ≠ w2.heap.size := by omega
  have Kb := Lib.hid Jb
  clear Jb
  obtain ⟨cr0, cr1, cr2, cr3, cr4, cr5, cr6, cr7, cr8, cr9, cr10, cr11, cr12⟩ := arr13_cells Jr
  have lr := lt_of_block Jr
  have nr : w.heap.size + 1 + 1 ≠ w2.heap.size := by omega
  have Kr := Lib.hid Jr
  clear Jr
  go_wp2_with fail
  refine (HW1.out _).mono ?_
  rintro e w3 ⟨rfl, hb⟩
  have Ja := blk_below hb Ka.out
  have Jb := blk_below hb Kb.out
  have Jr := blk_below hb Kr.out
  have hbw' := below_call hbw hb
  clear ca0 ca1 ca2 ca3 ca4 fa la na Ka cb0 cb1 cb2 cb3 cb4 fb lb nb Kb cr0 cr1 cr2 cr3 cr4 cr5 cr6 cr7 cr8 cr9 cr10 cr11 cr12 lr nr Kr hbw hb
  have hbw := hbw'
  clear hbw'
  obtain ⟨ca0, ca1, ca2, ca3, ca4⟩ := hd_cell (h := a) Ja
  have fa := hd_frozen (h := a) Ja
  have la := lt_of_block Ja
  have na : w.heap.size ≠ w3.heap.size := by omega
  have Ka := Lib.hid Ja
  clear Ja
  obtain ⟨cb0, cb1, cb2, cb3, cb4⟩ := hd_cell (h := b) Jb
  have fb := hd_frozen (h := b) Jb
  have lb := lt_of_block Jb
  have nb : w.heap.size + 1 ≠ w3.heap.size := by omega
  have Kb := Lib.hid Jb
  clear Jb
  obtain ⟨cr0, cr1, cr2, cr3, cr4, cr5, cr6, cr7, cr8, cr9, cr10, cr11, cr12⟩ := arr13_cells Jr
  have lr := lt_of_block Jr
  have nr : w.heap.size + 1 + 1 ≠ w3.heap.size := by omega
  have Kr := Lib.hid Jr
  clear Jr
  have L3 : w.heap.size + 1 + 1 < w3.heap.size := lr
  go_wp2_with fail
  refine (HW2.out _).mono ?_
  rintro e w4 ⟨rfl, hb⟩
  have Ja := blk_below hb ((Below.heap_alloc _ _ _ (by first | omega | (simp; omega))).trans Ka.out)
  have Jb := blk_below hb ((Below.heap_alloc _ _ _ (by first | omega | (simp; omega))).trans Kb.out)
  have Jr := blk_below hb ((Below.heap_alloc _ _ _ (by first | omega | (simp; omega))).trans Kr.out)
  have Jc := blk_below hb (heap_alloc_new w3 (.cells #[.int .u32 C.src, .int .u32 C.dst, .int .u8 C.proto, .int .u16 C.sp, .int .u16 C.dp] 48))
  have hbw' := below_call (hbw.alloc (le_up hbw) _) hb
  clear ca0 ca1 ca2 ca3 ca4 fa la na Ka cb0 cb1 cb2 cb3 cb4 fb lb nb Kb cr0 cr1 cr2 cr3 cr4 cr5 cr6 cr7 cr8 cr9 cr10 cr11 cr12 lr nr Kr hbw hb
  have hbw := hbw'
  clear hbw'
  obtain ⟨ca0, ca1, ca2, ca3, ca4⟩ := hd_cell (h := a) Ja
  have fa := hd_frozen (h := a) Ja
  have la := lt_of_block Ja
  have na : w.heap.size ≠ w4.heap.size := by omega
  have Ka := Lib.hid Ja
  clear Ja
  obtain ⟨cb0, cb1, cb2, cb3, cb4⟩ := hd_cell (h := b) Jb
  have fb := hd_frozen (h := b) Jb
  have lb := lt_of_block Jb
  have nb : w.heap.size + 1 ≠ w4.heap.size := by omega
  have Kb := Lib.hid Jb
  clear Jb
  obtain ⟨cr0, cr1, cr2, cr3, cr4, cr5, cr6, cr7, cr8, cr9, cr10, cr11, cr12⟩ := arr13_cells Jr
  have lr := lt_of_block Jr
  have nr : w.heap.size + 1 + 1 ≠ w4.heap.size := by omega
  have Kr := Lib.hid Jr
  clear Jr
  obtain ⟨cc0, cc1, cc2, cc3, cc4⟩ := hd_cell (h := C) Jc
  have fc := hd_frozen (h := C) Jc
  have lc := lt_of_block Jc
  have nc : w3.heap.size ≠ w4.heap.size := by omega
  have Kc := Lib.hid Jc
  clear Jc
  go_upto_region 9 with fail
  have hx0 : w4.alloc (.cells #[.int .u32 C.src, .int .u32 C.dst, .int .u8 C.proto, .int .u16 C.sp, .int .u16 C.dp] 48) = w4.alloc C.cells := rfl
  rw [hx0]
  clear hx0
  have HS : Hid (HB3 a b [r0, r1, r2, r3, r4, r5, r6, r7, r8, r9, r10, r11, r12] w3.heap.size w4.heap.size C C w (w4.alloc C.cells)) := Lib.hid ⟨(Below.heap_alloc w4 C.cells _ la).trans Ka.out, (Below.heap_alloc w4 C.cells _ lb).trans Kb.out, (Below.heap_alloc w4 C.cells _ lr).trans Kr.out, (Below.heap_alloc w4 C.cells _ lc).trans Kc.out, heap_alloc_new w4 C.cells, hbw.alloc (le_up hbw) C.cells⟩
  have h1g : w.heap.size + 1 + 1 < w3.heap.size := L3
  have h2g : w3.heap.size < w4.heap.size := lc
  clear L3
  clear ca0 ca1 ca2 ca3 ca4 fa la na Ka cb0 cb1 cb2 cb3 cb4 fb lb nb Kb cc0 cc1 cc2 cc3 cc4 fc lc nc Kc cr0 cr1 cr2 cr3 cr4 cr5 cr6 cr7 cr8 cr9 cr10 cr11 cr12 lr nr Kr hbw HB1 HB2 HW1 HW2
  generalize w4.alloc C.cells = W5 at *
  generalize w4.heap.size = gd at *
  generalize w3.heap.size = gc at *
  go_cut [79] (fun s79 wx => s79 = .bool false ∧ Hid (HB3 a b [r0, r1, r2, r3, r4, r5, r6, r7, r8, r9, r10, r11, r12] gc gd C C w wx))
  case first =>
    obtain ⟨ca0, ca1, ca2, ca3, ca4⟩ := hd_cell HS.out.pa
    obtain ⟨cb0, cb1, cb2, cb3, cb4⟩ := hd_cell HS.out.pb
    obtain ⟨cc0, cc1, cc2, cc3, cc4⟩ := hd_cell HS.out.pc
    obtain ⟨cd0, cd1, cd2, cd3, cd4⟩ := hd_cell HS.out.pd
    have Fa0 := cell_regrown ca0
    have Fa1 := cell_regrown ca1
    have Fa2 := cell_regrown ca2
    have Fa3 := cell_regrown ca3
    have Fa4 := cell_regrown ca4
    have Fb0 := cell_regrown cb0
    have Fb1 := cell_regrown cb1
    have Fb2 := cell_regrown cb2
    have Fb3 := cell_regrown cb3
    have Fb4 := cell_regrown cb4
    have Fc0 := cell_regrown cc0
    have Fc1 := cell_regrown cc1
    have Fc2 := cell_regrown cc2
    have Fc3 := cell_regrown cc3
    have Fc4 := cell_regrown cc4
    have Fd0 := cell_regrown cd0
    have Fd1 := cell_regrown cd1
    have Fd2 := cell_regrown cd2
    have Fd3 := cell_regrown cd3
    have Fd4 := cell_regrown cd4
    have q1 : (xb != xb) = false := bne_self_eq_false _
    have q2 : (eb != eb) = false := bne_self_eq_false _
    have q3 : (eg != eg) = false := bne_self_eq_false _
    have q4 : (S != S) = false := bne_self_eq_false _
    refine wp_region_quiet_below (by kernel_rfl) (by kernel_rfl) ?_
    repeat (first | go_big_quiet_step ((first | (go_at_call 41; with_reducible exact Calls.regrown_of (bits_same C _)) | (go_at_call 42; with_reducible exact Calls.regrown_of (HC1.out _)) | (go_at_call 43; with_reducible exact Calls.regrown_of (HC2.out _)))) | quiet_step ((first | (go_at_call 41; with_reducible exact Calls.regrown_of (bits_same C _)) | (go_at_call 42; with_reducible exact Calls.regrown_of (HC1.out _)) | (go_at_call 43; with_reducible exact Calls.regrown_of (HC2.out _)))))
    refine wpQuiet_nil ?_
    intro _ hw'
    obtain ⟨⟨nq, osq⟩, hw''⟩ := hw'
    subst hw''
    go_wp2
    go_meet
    exact ⟨rfl, Lib.hid (HS.out.below (below_regrown _ nq osq))⟩
  case rest =>
    obtain ⟨rfl, hS⟩ := hcut
    clear HS
    obtain ⟨ca0, ca1, ca2, ca3, ca4⟩ := hd_cell hS.out.pa
    go_wp2_with fail
    refine (HN1.out _).mono ?_
    rintro e w5 ⟨rfl, hb5⟩
    have hS5 := Lib.hid (hS.out.below hb5)
    clear hS hb5 HC1 HC2 ca0 ca1 ca2 ca3 ca4
    have n1 : w.heap.size ≠ gc := by omega
    have n2 : w.heap.size ≠ gd := by omega
    have n3 : gc ≠ gd := by omega
    have n4 : gd ≠ gc := by omega
    obtain ⟨ca0, ca1, ca2, ca3, ca4⟩ := hd_cell hS5.out.pa
    obtain ⟨cc0, cc1, cc2, cc3, cc4⟩ := hd_cell hS5.out.pc
    have fc := hd_frozen hS5.out.pc
    go_wp2_with fail
    have HS5 := Lib.hid (hS5.out.setc N h1g h2g)
    change Calls _ _ _ (set5 w5 gc N) _
    generalize set5 w5 gc N = W5 at *
    refine (HN2.out _).mono ?_
    rintro e w6 ⟨rfl, hb6⟩
    have hS6 := Lib.hid (HS5.out.below hb6)
    clear hS5 HS5 hb6 ca0 ca1 ca2 ca3 ca4 cc0 cc1 cc2 cc3 cc4 fc
    obtain ⟨cd0, cd1, cd2, cd3, cd4⟩ := hd_cell hS6.out.pd
    have fd := hd_frozen hS6.out.pd
    go_wp2_with fail
    have HS6 := Lib.hid (hS6.out.setd N h1g h2g)
    change Calls _ _ _ (set5 w6 gd N) _
    generalize set5 w6 gd N = W6 at *
    refine (HP1.out _ (hE.below HS6.out.pn)).mono ?_
    rintro e w7 ⟨rfl, hb7⟩
    have hS7 := Lib.hid (HS6.out.below hb7)
    clear hS6 HS6 hb7 cd0 cd1 cd2 cd3 cd4 fd HN1 HN2
    go_wp2_with fail
    have hx0 : w7.alloc (.cells #[.int .u32 P.src, .int .u32 P.dst, .int .u8 P.proto, .int .u16 P.sp, .int .u16 P.dp] 48) = w7.alloc P.cells := rfl
    rw [hx0]
    clear hx0
    have Jp := heap_alloc_new w7 P.cells
    have lp : gd < w7.heap.size := lt_of_block hS7.out.pd
    have HS7 := Lib.hid (hS7.out.alloc P.cells)
    generalize w7.alloc P.cells = W7 at *
    generalize w7.heap.size = gp at *
    refine (HP2.out _).mono ?_
    rintro e w8 ⟨rfl, hb8⟩
    have Jp8 := Lib.hid (blk_below hb8 Jp)
    have hS8 := Lib.hid (HS7.out.below hb8)
    clear Jp hS7 HS7 hb8
    go_upto_region 30 with fail
    have hx0 : w8.alloc (.cells #[.int .u32 P.src, .int .u32 P.dst, .int .u8 P.proto, .int .u16 P.sp, .int .u16 P.dp] 48) = w8.alloc P.cells := rfl
    rw [hx0]
    clear hx0
    have Jq := heap_alloc_new w8 P.cells
    have Jp := (Below.heap_alloc w8 P.cells _ (lt_of_block Jp8.out)).trans Jp8.out
    have HS := Lib.hid (hS8.out.alloc P.cells)
    clear hS8 Jp8 HP1 HP2
    generalize w8.alloc P.cells = W9 at *
    generalize w8.heap.size = gq at *
    go_cut [126] (fun s126 wx => s126 = .bool false ∧ Hid (HB3 a b [r0, r1, r2, r3, r4, r5, r6, r7, r8, r9, r10, r11, r12] gc gd N N w wx))
    case first =>
      obtain ⟨ca0, ca1, ca2, ca3, ca4⟩ := hd_cell HS.out.pa
      obtain ⟨cc0, cc1, cc2, cc3, cc4⟩ := hd_cell HS.out.pc
      obtain ⟨cd0, cd1, cd2, cd3, cd4⟩ := hd_cell HS.out.pd
      obtain ⟨cp0, cp1, cp2, cp3, cp4⟩ := hd_cell Jp
      obtain ⟨cq0, cq1, cq2, cq3, cq4⟩ := hd_cell Jq
      clear Jp Jq
      have Fa0 := cell_regrown ca0
      have Fa1 := cell_regrown ca1
      have Fa2 := cell_regrown ca2
      have Fa3 := cell_regrown ca3
      have Fa4 := cell_regrown ca4
      have Fc0 := cell_regrown cc0
      have Fc1 := cell_regrown cc1
      have Fc2 := cell_regrown cc2
      have Fc3 := cell_regrown cc3
      have Fc4 := cell_regrown cc4
      have Fd0 := cell_regrown cd0
      have Fd1 := cell_regrown cd1
      have Fd2 := cell_regrown cd2
      have Fd3 := cell_regrown cd3
      have Fd4 := cell_regrown cd4
      have Fp0 := cell_regrown cp0
      have Fp1 := cell_regrown cp1
      have Fp2 := cell_regrown cp2
      have Fp3 := cell_regrown cp3
      have Fp4 := cell_regrown cp4
      have Fq0 := cell_regrown cq0
      have Fq1 := cell_regrown cq1
      have Fq2 := cell_regrown cq2
      have Fq3 := cell_regrown cq3
      have Fq4 := cell_regrown cq4
      have q1 : (en != en) = false := bne_self_eq_false _
      have q2 : (ep != ep) = false := bne_self_eq_false _
      have hEW := hE.below HS.out.pn
      refine wp_region_quiet_below (by kernel_rfl) (by kernel_rfl) ?_
      repeat (first | go_big_quiet_step ((first | (go_at_call 41; with_reducible exact Calls.regrown_of (bits_same N _)) | (go_at_call 41; with_reducible exact Calls.regrown_of (bits_same P _)) | (go_at_call 30; with_reducible exact Calls.regrown_of (HT1.out _ (hEW.below (below_regrown W9 _ _)))) | (go_at_call 46; with_reducible exact Calls.regrown_of (HT2.out _)))) | quiet_step ((first | (go_at_call 41; with_reducible exact Calls.regrown_of (bits_same N _)) | (go_at_call 41; with_reducible exact Calls.regrown_of (bits_same P _)) | (go_at_call 30; with_reducible exact Calls.regrown_of (HT1.out _ (hEW.below (below_regrown W9 _ _)))) | (go_at_call 46; with_reducible exact Calls.regrown_of (HT2.out _)))))
      refine wpQuiet_nil ?_
      intro _ hw'
      obtain ⟨⟨nq, osq⟩, hw''⟩ := hw'
      subst hw''
      go_wp2
      go_meet
      exact ⟨rfl, Lib.hid (HS.out.below (below_regrown _ nq osq))⟩
    case rest =>
      obtain ⟨rfl, hS⟩ := hcut
      clear HS Jp Jq HT1 HT2
      obtain ⟨ca0, ca1, ca2, ca3, ca4⟩ := hd_cell hS.out.pa
      go_wp2_with fail
      refine (HM1.out _).mono ?_
      rintro e w10 ⟨rfl, hb⟩
      have HS := Lib.hid (hS.out.below hb)
      clear hS hb ca0 ca1 ca2 ca3 ca4
      obtain ⟨ca0, ca1, ca2, ca3, ca4⟩ := hd_cell HS.out.pa
      have la := lt_of_block HS.out.pa
      have na : w.heap.size ≠ w10.heap.size := by omega
      go_wp2_with fail
      have hx0 : w10.alloc (.cells #[.int .u8 (a.src / 16777216), .int .u8 (a.src / 65536 % 256), .int .u8 (a.src / 256 % 256), .int .u8 (a.src % 256), .int .u8 (a.dst / 16777216), .int .u8 (a.dst / 65536 % 256), .int .u8 (a.dst / 256 % 256), .int .u8 (a.dst % 256), .int .u8 (a.proto), .int .u8 (a.sp / 256), .int .u8 (a.sp % 256), .int .u8 (a.dp / 256), .int .u8 (a.dp % 256)] 49) = w10.alloc (arr a.bytes) := rfl
      rw [hx0]
      clear hx0
      have Jm := heap_alloc_new w10 (arr a.bytes)
      have HS2 := Lib.hid (HS.out.alloc (arr a.bytes))
      clear HS
      generalize w10.alloc (arr a.bytes) = W10 at *
      generalize w10.heap.size = gm at *
      refine (HM2.out _).mono ?_
      rintro e w11 ⟨rfl, hb⟩
      have Jm11 := Lib.hid (blk_below hb Jm)
      have HS := Lib.hid (HS2.out.below hb)
      clear HS2 Jm hb ca0 ca1 ca2 ca3 ca4 la na HM1 HM2
      go_wp2
      have hx0 : w11.alloc (.cells #[.int .u8 (a.src / 16777216), .int .u8 (a.src / 65536 % 256), .int .u8 (a.src / 256 % 256), .int .u8 (a.src % 256), .int .u8 (a.dst / 16777216), .int .u8 (a.dst / 65536 % 256), .int .u8 (a.dst / 256 % 256), .int .u8 (a.dst % 256), .int .u8 (a.proto), .int .u8 (a.sp / 256), .int .u8 (a.sp % 256), .int .u8 (a.dp / 256), .int .u8 (a.dp % 256)] 49) = w11.alloc (arr a.bytes) := rfl
      rw [hx0]
      clear hx0
      have hS0 : HBl a [r0, r1, r2, r3, r4, r5, r6, r7, r8, r9, r10, r11, r12] gm w11.heap.size w (w11.alloc (arr a.bytes)) := ⟨(HS.out.alloc (arr a.bytes)).pr, (Below.heap_alloc w11 (arr a.bytes) _ (lt_of_block Jm11.out)).trans Jm11.out, heap_alloc_new _ _, (HS.out.alloc (arr a.bytes)).pn⟩
      have HS0 := Lib.hid hS0
      clear HS Jm11 hS0
      generalize w11.alloc (arr a.bytes) = W11 at *
      generalize w11.heap.size = gn at *
      go_loopw [25] (fun i wr => ∃ k : Nat, i = .int .i64 k ∧ k ≤ 13 ∧ Hid (HBl a [r0, r1, r2, r3, r4, r5, r6, r7, r8, r9, r10, r11, r12] gm gn w wr)) (fun i _ => 13 - (intOf i).toNat)
      case atStart => exact ⟨0, rfl, by omega, HS0⟩
      case round =>
        obtain ⟨k, rfl, hk, hS⟩ := hrel
        clear HS0
        by_cases hlt : k < 13
        · have hI : (k : Int) < 13 := by omega
          have e8 : (0 : Int) ≤ (k : Int) := by omega
          obtain ⟨v, hv⟩ : ∃ v, a.bytes[k]? = some v := ⟨_, List.getElem?_eq_getElem (by rw [bytes_len]; omega)⟩
          have hcm := arr_cell hS.out.pm hv
          have hcn := arr_cell hS.out.pn hv
          have q : (v != v) = false := bne_self_eq_false _
          clear hv
          have G1 := cell_regrown hcm
          have G2 := cell_regrown hcn
          go_upto_region 9 with fail
          refine wp_region_quiet_below (by kernel_rfl) (by kernel_rfl) ?_
          repeat (first | go_big_quiet_step ((first | fail)) | quiet_step ((first | fail)))
          refine wpQuiet_nil ?_
          intro _ hw'
          obtain ⟨⟨nq, osq⟩, hw''⟩ := hw'
          subst hw''
          go_wp2
          exact ⟨⟨k + 1, by go_num, by omega, Lib.hid (hS.out.below (below_regrown _ nq osq))⟩, by simp only [intOf]; omega⟩
        · obtain rfl : k = 13 := by omega
          obtain ⟨cr0, cr1, cr2, cr3, cr4, cr5, cr6, cr7, cr8, cr9, cr10, cr11, cr12⟩ := arr13_cells hS.out.pr
          go_upto_region 9 with fail
  
          have G0 := cell_regrown cr0
          have G1 := cell_regrown cr1
          have G2 := cell_regrown cr2
          have G3 := cell_regrown cr3
          have G4 := cell_regrown cr4
          have G5 := cell_regrown cr5
          have G6 := cell_regrown cr6
          have G7 := cell_regrown cr7
          have G8 := cell_regrown cr8
          have G9 := cell_regrown cr9
          have G10 := cell_regrown cr10
          have G11 := cell_regrown cr11
          have G12 := cell_regrown cr12
          refine wp_region_quiet_below (by kernel_rfl) (by kernel_rfl) ?_
          repeat (first | go_big_quiet_step ((first | (go_at_call 32; with_reducible exact Calls.regrown_of (bits_of_raw r0 r1 r2 r3 r4 r5 r6 r7 r8 r9 r10 r11 r12 hr D HD.out _)) | (go_at_call 48; with_reducible exact Calls.regrown_of (hrOf_any r0 r1 r2 r3 r4 r5 r6 r7 r8 r9 r10 r11 r12 hr D HD.out _)) | (go_at_call 41; with_reducible exact Calls.regrown_of (bits_same D _)))) | quiet_step ((first | (go_at_call 32; with_reducible exact Calls.regrown_of (bits_of_raw r0 r1 r2 r3 r4 r5 r6 r7 r8 r9 r10 r11 r12 hr D HD.out _)) | (go_at_call 48; with_reducible exact Calls.regrown_of (hrOf_any r0 r1 r2 r3 r4 r5 r6 r7 r8 r9 r10 r11 r12 hr D HD.out _)) | (go_at_call 41; with_reducible exact Calls.regrown_of (bits_same D _)))))
          refine wpQuiet_nil ?_
          intro _ hw'
          obtain ⟨⟨nq, osq⟩, hw''⟩ := hw'
          subst hw''
          go_wp2
          go_ret
          exact ⟨rfl, below_call hS.out.pw (below_regrown _ nq osq)⟩
end Go.Proofs.YtdlhpiknifcehaaDoor
