import Derived.Test.YtdlhpiknifcehaaDoorHdMath
import Derived.Test.YtdlhpiknifcehaaDoorKit3
import Derived.Deep.DeepCutAuto
import Derived.Test.YtdlhpiknifcehaaDoorHd5
/-
  Merged by merge.py: Hr1, Hr2, Hr3.
-/
/-
  Walks over headers, the document's side: Bits.
-/
namespace Go.Proofs.YtdlhpiknifcehaaDoor
open Go Go.RowKit Go.Sort

/-- The bits of a header, in order. -/
def Hd.bitL (h : Hd) : List Bool := (List.range 104).map h.bit
theorem bitL_len (h : Hd) : h.bitL.length = 104 := by simp [Hd.bitL]
theorem bitL_get (h : Hd) {i : Nat} (hi : i < 104) : h.bitL[i]? = some (h.bit i) := by
  unfold Hd.bitL
  rw [List.getElem?_map, List.getElem?_range hi]
  rfl
theorem bitL_take (h : Hd) {i : Nat} (hi : i < 104) : h.bitL.take (i + 1) = h.bitL.take i ++ [h.bit i] := by
  rw [List.take_add_one, bitL_get h hi]
  rfl
theorem fbit_src {h : Hd} (ho : h.ok) {k : Nat} (hk : k < 32) : h.bit (0 + (32 - 1 - k)) = h.src.toNat.testBit k := by
  rw [bit_val ho (by omega), show 103 - (0 + (32 - 1 - k)) = k + 72 by omega, ← Nat.testBit_div_two_pow]
  have e : h.src.toNat = h.val / 2 ^ 72 % 2 ^ 32 := by
    obtain ⟨s0, s1, d0, d1, p0, p1, a0, a1, b0, b1⟩ := ho
    unfold Hd.val
    simp only [Nat.reducePow]
    omega
  rw [e, Nat.testBit_mod_two_pow, decide_eq_true hk, Bool.true_and]
theorem fbit_dst {h : Hd} (ho : h.ok) {k : Nat} (hk : k < 32) : h.bit (32 + (32 - 1 - k)) = h.dst.toNat.testBit k := by
  rw [bit_val ho (by omega), show 103 - (32 + (32 - 1 - k)) = k + 40 by omega, ← Nat.testBit_div_two_pow]
  have e : h.dst.toNat = h.val / 2 ^ 40 % 2 ^ 32 := by
    obtain ⟨s0, s1, d0, d1, p0, p1, a0, a1, b0, b1⟩ := ho
    unfold Hd.val
    simp only [Nat.reducePow]
    omega
  rw [e, Nat.testBit_mod_two_pow, decide_eq_true hk, Bool.true_and]
theorem fbit_proto {h : Hd} (ho : h.ok) {k : Nat} (hk : k < 8) : h.bit (64 + (8 - 1 - k)) = h.proto.toNat.testBit k := by
  rw [bit_val ho (by omega), show 103 - (64 + (8 - 1 - k)) = k + 32 by omega, ← Nat.testBit_div_two_pow]
  have e : h.proto.toNat = h.val / 2 ^ 32 % 2 ^ 8 := by
    obtain ⟨s0, s1, d0, d1, p0, p1, a0, a1, b0, b1⟩ := ho
    unfold Hd.val
    simp only [Nat.reducePow]
    omega
  rw [e, Nat.testBit_mod_two_pow, decide_eq_true hk, Bool.true_and]
theorem fbit_sp {h : Hd} (ho : h.ok) {k : Nat} (hk : k < 16) : h.bit (72 + (16 - 1 - k)) = h.sp.toNat.testBit k := by
  rw [bit_val ho (by omega), show 103 - (72 + (16 - 1 - k)) = k + 16 by omega, ← Nat.testBit_div_two_pow]
  have e : h.sp.toNat = h.val / 2 ^ 16 % 2 ^ 16 := by
    obtain ⟨s0, s1, d0, d1, p0, p1, a0, a1, b0, b1⟩ := ho
    unfold Hd.val
    simp only [Nat.reducePow]
    omega
  rw [e, Nat.testBit_mod_two_pow, decide_eq_true hk, Bool.true_and]
theorem fbit_dp {h : Hd} (ho : h.ok) {k : Nat} (hk : k < 16) : h.bit (88 + (16 - 1 - k)) = h.dp.toNat.testBit k := by
  rw [bit_val ho (by omega), show 103 - (88 + (16 - 1 - k)) = k + 0 by omega, ← Nat.testBit_div_two_pow]
  have e : h.dp.toNat = h.val / 2 ^ 0 % 2 ^ 16 := by
    obtain ⟨s0, s1, d0, d1, p0, p1, a0, a1, b0, b1⟩ := ho
    unfold Hd.val
    simp only [Nat.reducePow]
    omega
  rw [e, Nat.testBit_mod_two_pow, decide_eq_true hk, Bool.true_and]
def fieldL (h : Hd) : List Int := [h.src, h.dst, h.proto, h.sp, h.dp]
def wideL : List Nat := [32, 32, 8, 16, 16]
def offL (i : Nat) : Nat := [0, 32, 64, 72, 88, 104].getD i 104
/-- A field: its number, how wide it is, where its bits begin. -/
theorem field_row {h : Hd} (ho : h.ok) {i : Nat} (hi : i < 5) : ∃ A wd : Nat, (fieldL h)[i]? = some (A : Int) ∧ wideL[i]? = some wd ∧ offL (i + 1) = offL i + wd ∧ offL i + wd ≤ 104 ∧ 1 ≤ wd ∧ wd ≤ 32 ∧ A < 4294967296 ∧ ∀ k, k < wd → h.bit (offL i + (wd - 1 - k)) = A.testBit k := by
  have hb := ho
  obtain ⟨s0, s1, d0, d1, p0, p1, a0, a1, b0, b1⟩ := hb
  match i, hi with
  | 0, _ => exact ⟨h.src.toNat, 32, by simp [fieldL]; omega, rfl, rfl, by decide, by omega, by omega, by omega, fun k hk => fbit_src ho hk⟩
  | 1, _ => exact ⟨h.dst.toNat, 32, by simp [fieldL]; omega, rfl, rfl, by decide, by omega, by omega, by omega, fun k hk => fbit_dst ho hk⟩
  | 2, _ => exact ⟨h.proto.toNat, 8, by simp [fieldL]; omega, rfl, rfl, by decide, by omega, by omega, by omega, fun k hk => fbit_proto ho hk⟩
  | 3, _ => exact ⟨h.sp.toNat, 16, by simp [fieldL]; omega, rfl, rfl, by decide, by omega, by omega, by omega, fun k hk => fbit_sp ho hk⟩
  | 4, _ => exact ⟨h.dp.toNat, 16, by simp [fieldL]; omega, rfl, rfl, by decide, by omega, by omega, by omega, fun k hk => fbit_dp ho hk⟩
theorem and64_1 (A k : Nat) (hA : A < 4294967296) : (bits .and .u64 ((A : Int) / 2 ^ k) 1 == 1) = A.testBit k := by
  have e : (A : Int) / 2 ^ k = ((A / 2 ^ k : Nat) : Int) := by simp
  have hl : A / 2 ^ k ≤ A := Nat.div_le_self _ _
  rw [e, Nat.testBit_eq_decide_div_mod_eq]
  generalize A / 2 ^ k = Q at *
  rw [u64_and _ _ (by omega) (by omega) (by omega) (by omega), Int.toNat_natCast, show (1 : Int).toNat = 1 from rfl, Nat.and_one_is_mod]
  rcases Nat.mod_two_eq_zero_or_one Q with h | h <;> rw [h] <;> rfl
theorem Tryd.infoBool : (Tryd.prog.info? 4).map (fun i => (i.zero, i.size, i.bytes)) = some (some (.bool false), 1, 1) := by kernel_rfl
theorem one_bool (x : Bool) : ∀ u ∈ [Value.bool x], u.oneCell' = true := by intro u hu; simp at hu; subst hu; rfl
structure BiSt (h : Hd) (g : Nat) (w0 W : World) : Prop where
  a : W.heap[g + 1]? = some (.cells ((fieldL h).map (Value.int .u64)).toArray 88)
  d : W.heap[g + 2]? = some (.cells (wideL.map fun n : Nat => Value.int .i64 n).toArray 3)
  n : Below w0.heap.size w0 W
theorem BiSt.of_below {h : Hd} {g : Nat} {W0 w2 : World} (H : BiSt h g W0 W0) (hs : W0.heap.size = g + 3) (hb : Below W0.heap.size W0 w2) : BiSt h g W0 w2 :=
  ⟨(hb.block _ (by omega)).trans H.a, (hb.block _ (by omega)).trans H.d, hb⟩
set_option maxRecDepth 100000 in
set_option maxHeartbeats 4000000 in
theorem hrBits_any (h : Hd) (ho : h.ok) (w : World) :
    Calls Tryd.prog 67 #[.agg #[.int .u32 h.src, .int .u32 h.dst, .int .u8 h.proto, .int .u16 h.sp, .int .u16 h.dp]] w fun e w' => (∃ v, e = .returned v ∧ w'.ownsRow w.heap.size 4 1 v 104 (h.bitL.map Value.bool)) ∧ Below w.heap.size w w' := by
  obtain ⟨i0, hi, hz0, hz1, hz2⟩ := info_parts Tryd.infoBool
  have hrow := Lib.hid (fun i => field_row (h := h) ho (i := i))
  obtain ⟨s0, s1, d0, d1, p0, p1, a0, a1, b0, b1⟩ := ho
  have y0 : IntKind.u64.wrap h.src = h.src := by simp [IntKind.wrap, IntKind.bits, IntKind.signed]; omega
  have y1 : IntKind.u64.wrap h.dst = h.dst := by simp [IntKind.wrap, IntKind.bits, IntKind.signed]; omega
  have y2 : IntKind.u64.wrap h.proto = h.proto := by simp [IntKind.wrap, IntKind.bits, IntKind.signed]; omega
  have y3 : IntKind.u64.wrap h.sp = h.sp := by simp [IntKind.wrap, IntKind.bits, IntKind.signed]; omega
  have y4 : IntKind.u64.wrap h.dp = h.dp := by simp [IntKind.wrap, IntKind.bits, IntKind.signed]; omega
  have hk := blk3 w h.cells (.cells ((fieldL h).map (Value.int .u64)).toArray 88) (.cells (wideL.map fun n : Nat => Value.int .i64 n).toArray 3)
  have hbw := below3 w h.cells (.cells ((fieldL h).map (Value.int .u64)).toArray 88) (.cells (wideL.map fun n : Nat => Value.int .i64 n).toArray 3)
  go_enter Tryd.func67, Tryd.ntmps67
  go_wp2
  have hW : (((w.alloc (.cells #[.int .u32 h.src, .int .u32 h.dst, .int .u8 h.proto, .int .u16 h.sp, .int .u16 h.dp] 48)).alloc (.cells #[.int .u64 h.src, .int .u64 h.dst, .int .u64 h.proto, .int .u64 h.sp, .int .u64 h.dp] 88)).alloc (.cells #[.int .i64 32, .int .i64 32, .int .i64 8, .int .i64 16, .int .i64 16] 3)) = (((w.alloc h.cells).alloc (.cells ((fieldL h).map (Value.int .u64)).toArray 88)).alloc (.cells (wideL.map fun n : Nat => Value.int .i64 n).toArray 3)) := rfl
  rw [hW]
  have hsz : (((w.alloc h.cells).alloc (.cells ((fieldL h).map (Value.int .u64)).toArray 88)).alloc (.cells (wideL.map fun n : Nat => Value.int .i64 n).toArray 3)).heap.size = w.heap.size + 3 := by simp
  generalize (((w.alloc h.cells).alloc (.cells ((fieldL h).map (Value.int .u64)).toArray 88)).alloc (.cells (wideL.map fun n : Nat => Value.int .i64 n).toArray 3)) = W0 at *
  clear hW y0 y1 y2 y3 y4 s0 s1 d0 d1 p0 p1 a0 a1 b0 b1
  have hS0 : BiSt h w.heap.size W0 W0 := ⟨hk.2.1, hk.2.2, Below.refl _ _⟩
  have HS0 := Lib.hid hS0
  have HI0 := Lib.hid hS0
  have HBW := Lib.hid hbw
  have HSZ := Lib.hid hsz
  clear hk hbw hsz hS0
  go_loopw [3, 6] (fun v i wr => ∃ k : Nat, i = .int .i64 k ∧ k ≤ 5 ∧ Hid (wr.ownsRow W0.heap.size 4 1 v (offL k) ((h.bitL.take (offL k)).map Value.bool)) ∧ Hid (BiSt h w.heap.size W0 wr)) (fun _ i _ => 5 - (intOf i).toNat)
  case atStart => exact ⟨0, rfl, by omega, Lib.hid (World.ownsRow_nil _ _ _ _), HS0⟩
  case round =>
    obtain ⟨i, rfl, hi5, hown, hSt⟩ := hrel
    clear HS0
    by_cases hlt : i < 5
    · obtain ⟨A, wd, hA, hWd, hof, hle, hw1, hw2, hA32, hbt⟩ := hrow.out i hlt
      have hI : (i : Int) < 5 := by omega
      have hI0 : (0 : Int) ≤ i := by omega
      have cA : wr.cell? ⟨w.heap.size + 1, i, none⟩ = some (.int .u64 A) := by rw [cell_of_row wr _ _ _ _ _ hSt.out.a]; simp [hA]
      have cW : wr.cell? ⟨w.heap.size + 1 + 1, i, none⟩ = some (.int .i64 wd) := by rw [cell_of_row wr _ _ _ _ _ hSt.out.d]; simp [hWd]
      have e0 : wrap64 ((wd : Int) - 1) = (wd : Int) - 1 := by unfold wrap64; omega
      have Hbt := Lib.hid hbt
      have Hof := Lib.hid hof
      have HA := Lib.hid hA
      clear hA hWd hbt hof
      have hmain := fun k (hk : k < wd) => and64_1 A k hA32
      go_wp2
      go_loopw [3, 7] (fun v j wq => ∃ m : Nat, j = .int .i64 ((m : Int) - 1) ∧ m ≤ wd ∧ Hid (wq.ownsRow W0.heap.size 4 1 v (offL i + (wd - m)) ((h.bitL.take (offL i + (wd - m))).map Value.bool)) ∧ Hid (BiSt h w.heap.size W0 wq)) (fun _ i _ => (intOf i + 1).toNat)
      case atStart => exact ⟨wd, rfl, by omega, by rw [Nat.sub_self]; exact hown, hSt⟩
      case round =>
        obtain ⟨m, rfl, hm, hown2, hSt2⟩ := hrel
        clear hown hSt cA cW
        cases m with
        | zero =>
          have e1 : ((0 : Nat) : Int) - 1 = -1 := by omega
          have hown3 : Hid (wr.ownsRow W0.heap.size 4 1 u3 (offL (i + 1)) ((h.bitL.take (offL (i + 1))).map Value.bool)) := by rw [Hof.out]; exact hown2
          clear hown2 hmain
          go_wp2
          exact ⟨⟨i + 1, by go_num, by omega, hown3, hSt2⟩, by simp only [intOf]; omega⟩
        | succ k =>
          have e1 : ((k + 1 : Nat) : Int) - 1 = k := by omega
          have hK0 : (0 : Int) ≤ k := by omega
          have hval := hmain k (by omega)
          rw [← Hbt.out k (by omega)] at hval
          have cA : wr.cell? ⟨w.heap.size + 1, i, none⟩ = some (.int .u64 A) := by rw [cell_of_row wr _ _ _ _ _ hSt2.out.a]; simp [HA.out]
          have e2 : wrap64 ((k : Int) - 1) = (k : Int) - 1 := by unfold wrap64; omega
          have hj : offL i + (wd - (k + 1)) = offL i + (wd - 1 - k) := by omega
          have htk := Lib.hid (bitL_take h (i := offL i + (wd - 1 - k)) (by omega))
          have hn0 : offL i + (wd - (k + 1)) ≤ 1099511627776 := by omega
          generalize h.bit (offL i + (wd - 1 - k)) = x at *
          have hbb := hSt2.out.n
          have HO := hown2.out
          have Hj := Lib.hid hj
          clear hmain hj hown2
          go_wp2_with (at_builtin; refine wpList_push rfl _ _ 97 rfl 4 i0 _ 1 1 Tryd.underlying97 hi hz0 hz1 hz2 rfl (by decide) (by decide) [.bool x] rfl rfl (by simp) HO rfl (one_bool _) hn0 hbb.size hbb (Nat.le_refl _) ?_; intro v2 w2 hown3 hb2)
          have hE : offL i + (wd - (k + 1)) + 1 = offL i + (wd - k) := by omega
          have hown4 : Hid (w2.ownsRow W0.heap.size 4 1 v2 (offL i + (wd - k)) ((h.bitL.take (offL i + (wd - k))).map Value.bool)) := by
            rw [← hE, Hj.out, htk.out, List.map_append, ← Hj.out]
            exact hown3
          have hSt3 : Hid (BiSt h w.heap.size W0 w2) := Lib.hid (HI0.out.of_below HSZ.out hb2)
          clear hown3 hb2 hE
          refine ⟨⟨k, ?_, by omega, hown4, hSt3⟩, by simp only [intOf]; omega⟩
          rfl
    · obtain rfl : i = 5 := by omega
      have hown2 : wr.ownsRow W0.heap.size 4 1 u3 104 (h.bitL.map Value.bool) := by
        have e := hown.out
        rw [show offL 5 = 104 from rfl, List.take_of_length_le (by rw [bitL_len]; omega)] at e
        exact e
      have hlast := hSt.out.n
      have HO := Lib.hid hown2
      clear hown hown2
      go_wp2
      go_ret
      exact ⟨⟨_, rfl, owns_base HO.out (by rw [HSZ.out]; omega)⟩, HBW.out.trans (hlast.mono HBW.out.size)⟩
end Go.Proofs.YtdlhpiknifcehaaDoor

/-
  Walks over headers, the document's side: OfBits.
-/
namespace Go.Proofs.YtdlhpiknifcehaaDoor
open Go Go.RowKit Go.Sort

/-- The number of a row of bits. -/
def valB (l : List Bool) : Nat := l.foldl (fun a b => 2 * a + b.toNat) 0
theorem valB_go : ∀ (l : List Bool) (a : Nat), l.foldl (fun a b => 2 * a + b.toNat) a = a * 2 ^ l.length + valB l
  | [], a => by simp [valB]
  | x :: l, a => by
    have h1 := valB_go l (2 * a + x.toNat)
    have h2 := valB_go l (2 * 0 + x.toNat)
    have h3 : valB (x :: l) = (2 * 0 + x.toNat) * 2 ^ l.length + valB l := h2
    rw [List.foldl_cons, h1, h3, List.length_cons, Nat.pow_succ, Nat.add_mul, Nat.add_mul, Nat.mul_comm 2 a, Nat.mul_assoc a 2, Nat.mul_comm 2 (2 ^ l.length)]
    simp [Nat.add_assoc]
theorem valB_append (a b : List Bool) : valB (a ++ b) = valB a * 2 ^ b.length + valB b := by
  show (a ++ b).foldl (fun a b => 2 * a + b.toNat) 0 = _
  rw [List.foldl_append, valB_go b]
  rfl
theorem valB_snoc (l : List Bool) (x : Bool) : valB (l ++ [x]) = 2 * valB l + x.toNat := by
  rw [valB_append]
  cases x <;> simp [valB] <;> omega
theorem valB_cons (x : Bool) (l : List Bool) : valB (x :: l) = 2 ^ l.length * x.toNat + valB l := by
  show (x :: l).foldl (fun a b => 2 * a + b.toNat) 0 = _
  rw [List.foldl_cons, valB_go l, Nat.mul_zero, Nat.zero_add, Nat.mul_comm]
theorem valB_lt : ∀ (l : List Bool), valB l < 2 ^ l.length
  | [] => by simp [valB]
  | x :: l => by
    have h := valB_lt l
    rw [valB_cons, List.length_cons, Nat.pow_succ]
    cases x <;> simp <;> omega
theorem valB_bit : ∀ (l : List Bool) (i : Nat) (x : Bool), l[i]? = some x → (valB l).testBit (l.length - 1 - i) = x
  | [], i, x, h => by simp at h
  | y :: l, 0, x, h => by
    simp at h
    subst h
    rw [valB_cons, Nat.testBit_two_pow_mul_add _ (valB_lt l), List.length_cons, Nat.add_sub_cancel, Nat.sub_zero, if_neg (by omega), Nat.sub_self]
    cases y <;> rfl
  | y :: l, i + 1, x, h => by
    simp only [List.getElem?_cons_succ] at h
    have hl := (List.getElem?_eq_some_iff.1 h).1
    rw [valB_cons, Nat.testBit_two_pow_mul_add _ (valB_lt l), List.length_cons, Nat.add_sub_cancel, if_pos (by omega), show l.length - (i + 1) = l.length - 1 - i by omega]
    exact valB_bit l i x h
/-- The header of a row of bits. -/
def ofBitL (l : List Bool) : Hd := hdOf (valB l)
theorem ofBitL_lt {l : List Bool} (h : l.length = 104) : valB l < hdAll := by rw [hdAll_pow, ← h]; exact valB_lt l
theorem ofBitL_ok {l : List Bool} (h : l.length = 104) : (ofBitL l).ok := hdOf_ok (ofBitL_lt h)
theorem ofBitL_bit {l : List Bool} (h : l.length = 104) {i : Nat} {x : Bool} (hx : l[i]? = some x) : (ofBitL l).bit i = x := by
  have hi : i < 104 := by rw [← h]; exact (List.getElem?_eq_some_iff.1 hx).1
  rw [bit_val (ofBitL_ok h) hi]
  unfold ofBitL
  rw [val_hdOf (ofBitL_lt h)]
  have e := valB_bit l i x hx
  rw [h] at e
  exact e
theorem ofBitL_bitL {h : Hd} (ho : h.ok) : ofBitL h.bitL = h := hd_bits (ofBitL_ok (bitL_len h)) ho fun _ hi => ofBitL_bit (bitL_len h) (bitL_get h hi)
/-- A part of a row of bits. -/
def segL (l : List Bool) (i k : Nat) : List Bool := (l.drop (offL i)).take k
theorem seg_zero (l : List Bool) (i : Nat) : segL l i 0 = [] := by unfold segL; rw [List.take_zero]
theorem seg_snoc {l : List Bool} {i k : Nat} {x : Bool} (h : l[offL i + k]? = some x) : segL l i (k + 1) = segL l i k ++ [x] := by
  unfold segL
  rw [List.take_add_one, List.getElem?_drop, h]
  rfl
theorem seg_lt (l : List Bool) (i k : Nat) (hk : k ≤ 32) : valB (segL l i k) < 4294967296 := by
  have h := valB_lt (segL l i k)
  have hl : (segL l i k).length ≤ 32 := by
    unfold segL
    rw [List.length_take]
    omega
  have := Nat.pow_le_pow_right (n := 2) (by decide) hl
  omega
/-- The five numbers while they are made: the parts ahead of i are done, k bits of the part i. -/
def numL (l : List Bool) (i k : Nat) : List Nat := (List.range 5).map fun j => if j < i then valB (segL l j (wideL.getD j 0)) else if j = i then valB (segL l i k) else 0
theorem numL_at (l : List Bool) {i k : Nat} (hi : i < 5) : (numL l i k)[i]? = some (valB (segL l i k)) := by
  unfold numL
  rw [List.getElem?_map, List.getElem?_range hi, Option.map_some, if_neg (by omega), if_pos rfl]
theorem numL_set (l : List Bool) {i k : Nat} (hi : i < 5) : (numL l i k).set i (valB (segL l i (k + 1))) = numL l i (k + 1) := by
  refine List.ext_getElem? fun j => ?_
  rw [List.getElem?_set]
  unfold numL
  by_cases hj : j < 5
  · rw [List.getElem?_map, List.getElem?_map, List.getElem?_range hj, Option.map_some, Option.map_some]
    by_cases e : i = j
    · subst e
      rw [if_pos rfl, if_pos (by simp; exact hi), if_neg (by omega), if_pos rfl]
    · rw [if_neg e]
      by_cases h2 : j < i
      · rw [if_pos h2, if_pos h2]
      · rw [if_neg h2, if_neg h2, if_neg (fun h => e h.symm), if_neg (fun h => e h.symm)]
  · rw [if_neg (by omega), List.getElem?_eq_none (by simp; omega), List.getElem?_eq_none (by simp; omega)]
theorem numL_next (l : List Bool) {i wd : Nat} (hw : wideL[i]? = some wd) : numL l i wd = numL l (i + 1) 0 := by
  unfold numL
  refine List.map_congr_left fun j _ => ?_
  by_cases h1 : j < i
  · rw [if_pos h1, if_pos (by omega)]
  · rw [if_neg h1]
    by_cases h2 : j = i
    · subst h2
      rw [if_pos rfl, if_pos (by omega), List.getD, hw]
      rfl
    · rw [if_neg h2, if_neg (by omega)]
      by_cases h3 : j = i + 1
      · rw [if_pos h3, seg_zero]; rfl
      · rw [if_neg h3]
theorem wide_row {i : Nat} (hi : i < 5) : ∃ wd : Nat, wideL[i]? = some wd ∧ offL (i + 1) = offL i + wd ∧ offL i + wd ≤ 104 ∧ 1 ≤ wd ∧ wd ≤ 32 := by
  match i, hi with
  | 0, _ => exact ⟨32, rfl, rfl, by decide, by omega, by omega⟩
  | 1, _ => exact ⟨32, rfl, rfl, by decide, by omega, by omega⟩
  | 2, _ => exact ⟨8, rfl, rfl, by decide, by omega, by omega⟩
  | 3, _ => exact ⟨16, rfl, rfl, by decide, by omega, by omega⟩
  | 4, _ => exact ⟨16, rfl, rfl, by decide, by omega, by omega⟩
set_option maxRecDepth 100000 in
theorem ofBitL_parts {l : List Bool} (h : l.length = 104) : ofBitL l = ⟨(valB (segL l 0 32) : Nat), (valB (segL l 1 32) : Nat), (valB (segL l 2 8) : Nat), (valB (segL l 3 16) : Nat), (valB (segL l 4 16) : Nat)⟩ := by
  have hsplit : l = segL l 0 32 ++ (segL l 1 32 ++ (segL l 2 8 ++ (segL l 3 16 ++ segL l 4 16))) := by
    unfold segL
    simp only [show offL 0 = 0 from rfl, show offL 1 = 32 from rfl, show offL 2 = 64 from rfl, show offL 3 = 72 from rfl, show offL 4 = 88 from rfl, List.drop_zero]
    have e4 : (l.drop 88).take 16 = l.drop 88 := List.take_of_length_le (by rw [List.length_drop]; omega)
    have e3 : (l.drop 72).take 16 ++ l.drop 88 = l.drop 72 := by
      have := List.take_append_drop 16 (l.drop 72); rwa [List.drop_drop] at this
    have e2 : (l.drop 64).take 8 ++ l.drop 72 = l.drop 64 := by
      have := List.take_append_drop 8 (l.drop 64); rwa [List.drop_drop] at this
    have e1 : (l.drop 32).take 32 ++ l.drop 64 = l.drop 32 := by
      have := List.take_append_drop 32 (l.drop 32); rwa [List.drop_drop] at this
    rw [e4, e3, e2, e1, List.take_append_drop]
  have len : ∀ i k, offL i + k ≤ 104 → (segL l i k).length = k := fun i k hk => by
    unfold segL
    rw [List.length_take, List.length_drop]
    omega
  have l0 := len 0 32 (by decide)
  have l1 := len 1 32 (by decide)
  have l2 := len 2 8 (by decide)
  have l3 := len 3 16 (by decide)
  have l4 := len 4 16 (by decide)
  have hv : valB l = (((valB (segL l 0 32) * 4294967296 + valB (segL l 1 32)) * 256 + valB (segL l 2 8)) * 65536 + valB (segL l 3 16)) * 65536 + valB (segL l 4 16) := by
    have e := congrArg valB hsplit
    simp only [valB_append, List.length_append, l1, l2, l3, l4] at e
    simp only [Nat.reducePow, Nat.reduceAdd] at e
    clear len hsplit l0 l1 l2 l3 l4 h
    generalize valB (segL l 0 32) = a at *
    generalize valB (segL l 1 32) = b at *
    generalize valB (segL l 2 8) = c at *
    generalize valB (segL l 3 16) = d at *
    generalize valB (segL l 4 16) = f at *
    rw [e]
    simp only [Nat.add_mul, Nat.mul_assoc, Nat.reduceMul]
    omega
  have v0 := valB_lt (segL l 0 32)
  have v1 := valB_lt (segL l 1 32)
  have v2 := valB_lt (segL l 2 8)
  have v3 := valB_lt (segL l 3 16)
  have v4 := valB_lt (segL l 4 16)
  rw [l0] at v0
  rw [l1] at v1
  rw [l2] at v2
  rw [l3] at v3
  rw [l4] at v4
  simp only [Nat.reducePow] at v0 v1 v2 v3 v4
  unfold ofBitL hdOf
  rw [hv]
  generalize valB (segL l 0 32) = a at *
  generalize valB (segL l 1 32) = b at *
  generalize valB (segL l 2 8) = c at *
  generalize valB (segL l 3 16) = d at *
  generalize valB (segL l 4 16) = e at *
  apply hd_ext <;> dsimp only <;> omega
def numC (l : List Bool) (i k : Nat) : Array Value := ((numL l i k).map fun n : Nat => Value.int .u64 n).toArray
structure ObSt (l : List Bool) (i k : Nat) (b off : Nat) (w W : World) : Prop where
  c : ∀ j x, l[j]? = some x → W.cell? ⟨b, off + j, none⟩ = some (.bool x)
  r : W.heap[w.heap.size]? = some (Hd.cells ⟨0, 0, 0, 0, 0⟩)
  d : W.heap[w.heap.size + 1]? = some (.cells (wideL.map fun n : Nat => Value.int .i64 n).toArray 3)
  n : W.heap[w.heap.size + 1 + 1]? = some (.cells (numC l i k) 121)
  e : Below w.heap.size w W
theorem numC_get {l : List Bool} {i k j v : Nat} (h : (numL l i k)[j]? = some v) : (numC l i k)[j]? = some (.int .u64 v) := by
  unfold numC
  simp [h]
theorem numC_set (l : List Bool) {i k : Nat} (hi : i < 5) : (numC l i k).setIfInBounds i (.int .u64 (valB (segL l i (k + 1)))) = numC l i (k + 1) := by
  unfold numC
  rw [List.setIfInBounds_toArray, ← numL_set l hi, List.map_set]
theorem seg_below (l : List Bool) (i k : Nat) : valB (segL l i k) < 2 ^ k :=
  Nat.lt_of_lt_of_le (valB_lt _) (Nat.pow_le_pow_right (by decide) (by unfold segL; rw [List.length_take]; omega))
theorem obst_one {l : List Bool} {i k b off : Nat} {w W : World} (H : ObSt l i k b off w W) (hi : i < 5) (hb : b < w.heap.size) : ObSt l i (k + 1) b off w (W.setCell ⟨w.heap.size + 1 + 1, i, none⟩ (.int .u64 (valB (segL l i (k + 1))))) := by
  refine ⟨fun j x hj => ?_, ?_, ?_, ?_, ?_⟩
  · rw [World.cell?_setCell_other _ _ _ _ (by intro h; injection h with h1; omega)]; exact H.c j x hj
  · exact (set_heap _ _ _ _ _ (by omega)).trans H.r
  · exact (set_heap _ _ _ _ _ (by omega)).trans H.d
  · rw [set_at H.n, numC_set l hi]
  · exact H.e.setCell (p := ⟨w.heap.size + 1 + 1, i, none⟩) (by show w.heap.size ≤ w.heap.size + 1 + 1; omega) _
theorem obst_two {l : List Bool} {i k b off : Nat} {w W : World} (H : ObSt l i k b off w W) (hi : i < 5) (hb : b < w.heap.size) (u : Value) : ObSt l i (k + 1) b off w ((W.setCell ⟨w.heap.size + 1 + 1, i, none⟩ u).setCell ⟨w.heap.size + 1 + 1, i, none⟩ (.int .u64 (valB (segL l i (k + 1))))) := by
  refine ⟨fun j x hj => ?_, ?_, ?_, ?_, ?_⟩
  · rw [World.cell?_setCell_other _ _ _ _ (by intro h; injection h with h1; omega), World.cell?_setCell_other _ _ _ _ (by intro h; injection h with h1; omega)]; exact H.c j x hj
  · exact (set_heap _ _ _ _ _ (by omega)).trans ((set_heap _ _ _ _ _ (by omega)).trans H.r)
  · exact (set_heap _ _ _ _ _ (by omega)).trans ((set_heap _ _ _ _ _ (by omega)).trans H.d)
  · rw [set_at (set_at H.n), ← numC_set l hi]
    congr 2
    exact Array.setIfInBounds_setIfInBounds ..
  · exact (H.e.setCell (p := ⟨w.heap.size + 1 + 1, i, none⟩) (by show w.heap.size ≤ w.heap.size + 1 + 1; omega) _).setCell (p := ⟨w.heap.size + 1 + 1, i, none⟩) (by show w.heap.size ≤ w.heap.size + 1 + 1; omega) _
set_option maxRecDepth 100000 in
set_option maxHeartbeats 4000000 in
theorem hrOfBits_any (l : List Bool) (hl : l.length = 104) (v : Value) (w : World) (hv : Rd w w.heap.size 1 v 104 (l.map Value.bool)) :
    Calls Tryd.prog 68 #[v] w fun e w' => e = .returned (.agg #[.int .u32 (ofBitL l).src, .int .u32 (ofBitL l).dst, .int .u8 (ofBitL l).proto, .int .u16 (ofBitL l).sp, .int .u16 (ofBitL l).dp]) ∧ Below w.heap.size w w' := by
  obtain ⟨b, off, c, rfl, hc, hb, hcell⟩ := hv.pos (by omega)
  have hcl : ∀ j x, l[j]? = some x → w.cell? ⟨b, off + j, none⟩ = some (.bool x) := fun j x hj => hcell j _ (by rw [List.getElem?_map, hj]; rfl)
  clear hcell hv
  have hk := blk3 w (Hd.cells ⟨0, 0, 0, 0, 0⟩) (.cells (wideL.map fun n : Nat => Value.int .i64 n).toArray 3) (.cells (numC l 0 0) 121)
  have hbw := below3 w (Hd.cells ⟨0, 0, 0, 0, 0⟩) (.cells (wideL.map fun n : Nat => Value.int .i64 n).toArray 3) (.cells (numC l 0 0) 121)
  go_enter Tryd.func68, Tryd.ntmps68
  go_wp2
  have hW : (((w.alloc (.cells #[.int .u32 0, .int .u32 0, .int .u8 0, .int .u16 0, .int .u16 0] 48)).alloc (.cells #[.int .i64 32, .int .i64 32, .int .i64 8, .int .i64 16, .int .i64 16] 3)).alloc (.cells #[.int .u64 0, .int .u64 0, .int .u64 0, .int .u64 0, .int .u64 0] 121)) = (((w.alloc (Hd.cells ⟨0, 0, 0, 0, 0⟩)).alloc (.cells (wideL.map fun n : Nat => Value.int .i64 n).toArray 3)).alloc (.cells (numC l 0 0) 121)) := rfl
  rw [hW]
  clear hW
  have hS0 : ObSt l 0 0 b off w (((w.alloc (Hd.cells ⟨0, 0, 0, 0, 0⟩)).alloc (.cells (wideL.map fun n : Nat => Value.int .i64 n).toArray 3)).alloc (.cells (numC l 0 0) 121)) :=
    ⟨fun j x hj => (hbw.cell (p := ⟨b, off + j, none⟩) hb).trans (hcl j x hj), hk.1, hk.2.1, hk.2.2, hbw⟩
  have HS0 := Lib.hid hS0
  generalize (((w.alloc (Hd.cells ⟨0, 0, 0, 0, 0⟩)).alloc (.cells (wideL.map fun n : Nat => Value.int .i64 n).toArray 3)).alloc (.cells (numC l 0 0) 121)) = W0 at *
  clear hS0 hk hbw hcl
  go_loopw [5, 6] (fun a i wr => ∃ k : Nat, i = .int .i64 k ∧ a = .int .i64 (offL k) ∧ k ≤ 5 ∧ Hid (ObSt l k 0 b off w wr)) (fun _ i _ => 5 - (intOf i).toNat)
  case atStart => exact ⟨0, rfl, rfl, by omega, HS0⟩
  case round =>
    obtain ⟨i, rfl, rfl, hi5, hSt⟩ := hrel
    clear HS0
    by_cases hlt : i < 5
    · obtain ⟨wd, hWd, hof, hle, hw1, hw2⟩ := wide_row hlt
      have hI : (i : Int) < 5 := by omega
      have hI0 : (0 : Int) ≤ i := by omega
      have Hof := Lib.hid hof
      have HWd := Lib.hid hWd
      clear hof hWd
      go_wp2
      go_loopw [5, 7] (fun a j wq => ∃ m : Nat, j = .int .i64 m ∧ a = .int .i64 ((offL i + m : Nat) : Int) ∧ m ≤ wd ∧ Hid (ObSt l i m b off w wq)) (fun _ j _ => wd - (intOf j).toNat)
      case atStart => exact ⟨0, rfl, rfl, by omega, hSt⟩
      case round =>
        obtain ⟨m, rfl, rfl, hm, hSt2⟩ := hrel
        clear hSt
        have cW : wr.cell? ⟨w.heap.size + 1, i, none⟩ = some (.int .i64 wd) := by rw [cell_of_row wr _ _ _ _ _ hSt2.out.d]; simp [HWd.out]
        by_cases hmw : m < wd
        · have hM : (m : Int) < (wd : Int) := by omega
          obtain ⟨x, hx⟩ : ∃ x, l[offL i + m]? = some x := ⟨_, List.getElem?_eq_getElem (by omega)⟩
          have cx := hSt2.out.c _ _ hx
          obtain ⟨at0, hat⟩ : ∃ at0, at0 = offL i + m := ⟨_, rfl⟩
          rw [← hat] at cx ⊢
          have hA0 : (0 : Int) ≤ (at0 : Int) := by omega
          have hA1 : (at0 : Int) < 104 := by omega
          have hA2 : wrap64 ((at0 : Int) + 1) = (at0 : Int) + 1 := by unfold wrap64; omega
          have hvl := seg_lt l i m (by omega)
          have hsn := Lib.hid (show valB (segL l i (m + 1)) = 2 * valB (segL l i m) + x.toNat by rw [seg_snoc hx, valB_snoc])
          have cN : wr.cell? ⟨w.heap.size + 1 + 1, i, none⟩ = some (.int .u64 (valB (segL l i m))) := by rw [cell_of_row wr _ _ _ _ _ hSt2.out.n]; exact numC_get (numL_at l hlt)
          have fN := frozen_row hSt2.out.n i
          have hone := Lib.hid (obst_one hSt2.out hlt hb)
          have htwo := Lib.hid (fun u => obst_two hSt2.out hlt hb u)
          rw [hsn.out] at hone htwo
          generalize valB (segL l i m) = V at *
          have y1 : IntKind.u64.wrap (2 * (V : Int)) = 2 * (V : Int) := by simp [IntKind.wrap, IntKind.bits, IntKind.signed]; omega
          have y2 : IntKind.u64.wrap (2 * (V : Int) + 1) = 2 * (V : Int) + 1 := by simp [IntKind.wrap, IntKind.bits, IntKind.signed]; omega
          have hat1 := Lib.hid hat
          have hnb : b ≠ w.heap.size + 1 + 1 := by omega
          have hnb2 : w.heap.size + 1 + 1 ≠ b := by omega
          clear hx hSt2 hat hsn
          cases x
          · have hone2 : Hid (ObSt l i (m + 1) b off w (wr.setCell ⟨w.heap.size + 1 + 1, i, none⟩ (.int .u64 (2 * (V : Int))))) := Lib.hid (by have e := hone.out; simpa using e)
            clear hone htwo
            go_wp2
            exact ⟨⟨m + 1, by go_num, by rw [hat1.out]; go_num, by omega, hone2⟩, by simp only [intOf]; omega⟩
          · have htwo2 : Hid (ObSt l i (m + 1) b off w ((wr.setCell ⟨w.heap.size + 1 + 1, i, none⟩ (.int .u64 (2 * (V : Int)))).setCell ⟨w.heap.size + 1 + 1, i, none⟩ (.int .u64 (2 * (V : Int) + 1)))) := Lib.hid (by have e := htwo.out (.int .u64 (2 * (V : Int))); simpa using e)
            clear hone htwo
            go_wp2
            exact ⟨⟨m + 1, by go_num, by rw [hat1.out]; go_num, by omega, htwo2⟩, by simp only [intOf]; omega⟩
        · obtain rfl : m = wd := by omega
          have hM : ¬ (m : Int) < (m : Int) := by omega
          have hn2 : Hid (ObSt l (i + 1) 0 b off w wr) := Lib.hid ⟨hSt2.out.c, hSt2.out.r, hSt2.out.d, by
            have e := hSt2.out.n
            unfold numC at e ⊢
            rw [← numL_next l HWd.out]
            exact e, hSt2.out.e⟩
          clear hSt2
          go_wp2
          exact ⟨⟨i + 1, by go_num, by rw [Hof.out], by omega, hn2⟩, by simp only [intOf]; omega⟩
    · obtain rfl : i = 5 := by omega
      have hp := ofBitL_parts hl
      have u0 := seg_lt l 0 32 (by omega)
      have u1 := seg_lt l 1 32 (by omega)
      have u2 : valB (segL l 2 8) < 256 := seg_below l 2 8
      have u3 : valB (segL l 3 16) < 65536 := seg_below l 3 16
      have u4 : valB (segL l 4 16) < 65536 := seg_below l 4 16
      have c0 : wr.cell? ⟨w.heap.size + 1 + 1, 0, none⟩ = some (.int .u64 (valB (segL l 0 32) : Nat)) := by rw [cell_of_row wr _ _ _ _ _ hSt.out.n]; exact numC_get rfl
      have c1 : wr.cell? ⟨w.heap.size + 1 + 1, 1, none⟩ = some (.int .u64 (valB (segL l 1 32) : Nat)) := by rw [cell_of_row wr _ _ _ _ _ hSt.out.n]; exact numC_get rfl
      have c2 : wr.cell? ⟨w.heap.size + 1 + 1, 2, none⟩ = some (.int .u64 (valB (segL l 2 8) : Nat)) := by rw [cell_of_row wr _ _ _ _ _ hSt.out.n]; exact numC_get rfl
      have c3 : wr.cell? ⟨w.heap.size + 1 + 1, 3, none⟩ = some (.int .u64 (valB (segL l 3 16) : Nat)) := by rw [cell_of_row wr _ _ _ _ _ hSt.out.n]; exact numC_get rfl
      have c4 : wr.cell? ⟨w.heap.size + 1 + 1, 4, none⟩ = some (.int .u64 (valB (segL l 4 16) : Nat)) := by rw [cell_of_row wr _ _ _ _ _ hSt.out.n]; exact numC_get rfl
      have HP := Lib.hid hp
      clear hp
      generalize valB (segL l 0 32) = V0 at *
      generalize valB (segL l 1 32) = V1 at *
      generalize valB (segL l 2 8) = V2 at *
      generalize valB (segL l 3 16) = V3 at *
      generalize valB (segL l 4 16) = V4 at *
      have y0 : IntKind.u32.wrap (V0 : Int) = V0 := wrap32_s _ (by omega) (by omega)
      have y1 : IntKind.u32.wrap (V1 : Int) = V1 := wrap32_s _ (by omega) (by omega)
      have y2 : IntKind.u8.wrap (V2 : Int) = V2 := by rw [u8_wrap]; omega
      have y3 : IntKind.u16.wrap (V3 : Int) = V3 := wrap16_s _ (by omega) (by omega)
      have y4 : IntKind.u16.wrap (V4 : Int) = V4 := wrap16_s _ (by omega) (by omega)
      obtain ⟨d0, d1, d2, d3, d4⟩ := hd_cell hSt.out.r
      have fr := hd_frozen hSt.out.r
      go_wp2
      rw [HP.out]
      have hbn := hSt.out.e
      exact bodyPost_ret (results_hd (t1 := 2) (g := w.heap.size) Tryd.results68 rfl (hd_set4 (hd_set3 (hd_set2 (hd_set1 (hd_set0 hSt.out.r _) _) _) _) _)) rfl ⟨rfl, (((((hbn.setCell (p := ⟨w.heap.size, 0, none⟩) (by first | exact Nat.le_refl _ | exact Nat.le_succ _) _).setCell (p := ⟨w.heap.size, 1, none⟩) (by first | exact Nat.le_refl _ | exact Nat.le_succ _) _).setCell (p := ⟨w.heap.size, 2, none⟩) (by first | exact Nat.le_refl _ | exact Nat.le_succ _) _).setCell (p := ⟨w.heap.size, 3, none⟩) (by first | exact Nat.le_refl _ | exact Nat.le_succ _) _).setCell (p := ⟨w.heap.size, 4, none⟩) (by first | exact Nat.le_refl _ | exact Nat.le_succ _) _)⟩
end Go.Proofs.YtdlhpiknifcehaaDoor

/-
  Walks over headers, the document's side: Same, Bit, With.
-/
namespace Go.Proofs.YtdlhpiknifcehaaDoor
open Go Go.RowKit Go.Sort

set_option maxRecDepth 100000 in
set_option maxHeartbeats 4000000 in
theorem hrSame_any (a b : Hd) (w : World) :
    Calls Tryd.prog 41 #[.agg #[.int .u32 a.src, .int .u32 a.dst, .int .u8 a.proto, .int .u16 a.sp, .int .u16 a.dp], .agg #[.int .u32 b.src, .int .u32 b.dst, .int .u8 b.proto, .int .u16 b.sp, .int .u16 b.dp]] w fun e w' => e = .returned (.bool (decide (a = b))) ∧ Below w.heap.size w w' := by
  by_cases hab : a = b
  · subst hab
    rw [decide_eq_true rfl]
    go_enter Tryd.func41, Tryd.ntmps41
    go_wp2
    go_ret
    exact ⟨by simp, below2 w _ _⟩
  · rw [decide_eq_false hab]
    by_cases h0 : a.src = b.src
    · skip
      by_cases h1 : a.dst = b.dst
      · skip
        by_cases h2 : a.proto = b.proto
        · skip
          by_cases h3 : a.sp = b.sp
          · skip
            by_cases h4 : a.dp = b.dp
            · skip
              exact absurd (hd_ext h0 h1 h2 h3 h4) hab
            · have q : (a.dp == b.dp) = false := by simp [h4]
              clear hab h4
              go_enter Tryd.func41, Tryd.ntmps41
              go_wp2
              go_ret
              exact ⟨by simp, below2 w _ _⟩
          · have q : (a.sp == b.sp) = false := by simp [h3]
            clear hab h3
            go_enter Tryd.func41, Tryd.ntmps41
            go_wp2
            go_ret
            exact ⟨by simp, below2 w _ _⟩
        · have q : (a.proto == b.proto) = false := by simp [h2]
          clear hab h2
          go_enter Tryd.func41, Tryd.ntmps41
          go_wp2
          go_ret
          exact ⟨by simp, below2 w _ _⟩
      · have q : (a.dst == b.dst) = false := by simp [h1]
        clear hab h1
        go_enter Tryd.func41, Tryd.ntmps41
        go_wp2
        go_ret
        exact ⟨by simp, below2 w _ _⟩
    · have q : (a.src == b.src) = false := by simp [h0]
      clear hab h0
      go_enter Tryd.func41, Tryd.ntmps41
      go_wp2
      go_ret
      exact ⟨by simp, below2 w _ _⟩
set_option maxRecDepth 100000 in
set_option maxHeartbeats 4000000 in
theorem hrBit_no (h : Hd) (i : Int) (w : World) (hi : i < 0 ∨ 104 ≤ i) :
    Calls Tryd.prog 39 #[.agg #[.int .u32 h.src, .int .u32 h.dst, .int .u8 h.proto, .int .u16 h.sp, .int .u16 h.dp], .int .i64 i] w fun e w' => e = .returned (.tuple #[.bool false, .int .i64 1]) ∧ Below w.heap.size w w' := by
  rcases hi with hi | hi
  · go_enter Tryd.func39, Tryd.ntmps39
    go_wp2
    go_ret2
    exact ⟨rfl, (Below.refl _ _).alloc (Nat.le_refl _) _⟩
  · have h1 : ¬ i < 0 := by omega
    have h2 : i > 103 := by omega
    go_enter Tryd.func39, Tryd.ntmps39
    go_wp2
    go_ret2
    exact ⟨rfl, (Below.refl _ _).alloc (Nat.le_refl _) _⟩
theorem own_bit {w : World} {base : Nat} {v : Value} {L : List Bool} (h : w.ownsRow base 4 1 v 104 (L.map Value.bool)) : ∃ g c, v = .slice (some ⟨g, 0, none⟩) 104 c ∧ 104 ≤ c ∧ base ≤ g ∧ g < w.heap.size ∧ (∀ j x, L[j]? = some x → w.cell? ⟨g, j, none⟩ = some (.bool x)) ∧ ∀ j, w.frozen? ⟨g, j, none⟩ = false := by
  have hcells := fun (g : Nat) (hg : v.ownBlock = some g) => h.cells hg
  obtain ⟨h1, h2⟩ := h
  rcases h2 with ⟨_, h0⟩ | ⟨g, cap, cur, hv, hg, hh, hnc, hcm, hcs, ht⟩
  · exact absurd h0 (by decide)
  · subst hv
    refine ⟨g, cap, rfl, hnc, hg, lt_of_block hh, fun j x hx => ?_, fun j => frozen_row hh j⟩
    have e := hcells g rfl j (.bool x) (by rw [List.getElem?_map, hx]; rfl)
    have e2 : (⟨g, 0, none⟩ : Addr).add j = ⟨g, j, none⟩ := by rw [Addr.add_mid, Nat.zero_add]
    rw [← e2]
    exact e
set_option maxRecDepth 100000 in
set_option maxHeartbeats 4000000 in
theorem hrBit_yes (h : Hd) (ho : h.ok) (i : Nat) (w : World) (hi : i < 104) :
    Calls Tryd.prog 39 #[.agg #[.int .u32 h.src, .int .u32 h.dst, .int .u8 h.proto, .int .u16 h.sp, .int .u16 h.dp], .int .i64 i] w fun e w' => e = .returned (.tuple #[.bool (h.bit i), .int .i64 0]) ∧ Below w.heap.size w w' := by
  have h1 : ¬ (i : Int) < 0 := by omega
  have h2 : ¬ (i : Int) > 103 := by omega
  have h3 : (i : Int) < 104 := by omega
  have h4 : (0 : Int) ≤ (i : Int) := by omega
  have hB := Lib.hid (fun v => hrBits_any h ho v)
  go_enter Tryd.func39, Tryd.ntmps39
  go_wp2_with fail
  refine (hB.out _).mono ?_
  rintro e w1 ⟨⟨v, rfl, hown⟩, hb1⟩
  obtain ⟨g, c, rfl, hc, hbg, hgl, hcell, _⟩ := own_bit hown
  have cx := hcell i (h.bit i) (bitL_get h hi)
  have hbw := below_call (below1 w h.cells) hb1
  clear hown hcell hb1
  go_wp2
  go_ret2
  exact ⟨rfl, hbw⟩
set_option maxRecDepth 100000 in
set_option maxHeartbeats 4000000 in
theorem hrWith_no (h : Hd) (i : Int) (b : Bool) (w : World) (hi : i < 0 ∨ 104 ≤ i) :
    Calls Tryd.prog 40 #[.agg #[.int .u32 h.src, .int .u32 h.dst, .int .u8 h.proto, .int .u16 h.sp, .int .u16 h.dp], .int .i64 i, .bool b] w fun e w' => e = .returned (.tuple #[.agg #[.int .u32 0, .int .u32 0, .int .u8 0, .int .u16 0, .int .u16 0], .int .i64 1]) ∧ Below w.heap.size w w' := by
  rcases hi with hi | hi
  · go_enter Tryd.func40, Tryd.ntmps40
    go_wp2
    exact bodyPost_ret (results_hd2 (t1 := 6) (t3 := 7) (g := w.heap.size + 1) Tryd.results40 rfl rfl (h := ⟨0, 0, 0, 0, 0⟩) (blk2 w h.cells (Hd.cells ⟨0, 0, 0, 0, 0⟩)).2) rfl ⟨rfl, below2 w h.cells (Hd.cells ⟨0, 0, 0, 0, 0⟩)⟩
  · have h1 : ¬ i < 0 := by omega
    have h2 : i > 103 := by omega
    go_enter Tryd.func40, Tryd.ntmps40
    go_wp2
    exact bodyPost_ret (results_hd2 (t1 := 6) (t3 := 7) (g := w.heap.size + 1) Tryd.results40 rfl rfl (h := ⟨0, 0, 0, 0, 0⟩) (blk2 w h.cells (Hd.cells ⟨0, 0, 0, 0, 0⟩)).2) rfl ⟨rfl, below2 w h.cells (Hd.cells ⟨0, 0, 0, 0, 0⟩)⟩
theorem set_own {w : World} {g c i : Nat} {L : List Bool} (hi : i < 104) (hg : g < w.heap.size) (hc : 104 ≤ c) (hl : L.length = 104) (hcell : ∀ j x, L[j]? = some x → w.cell? ⟨g, j, none⟩ = some (.bool x)) (b : Bool) : Rd (w.setCell ⟨g, i, none⟩ (.bool b)) (w.setCell ⟨g, i, none⟩ (.bool b)).heap.size 1 (.slice (some ⟨g, 0, none⟩) 104 c) 104 ((L.set i b).map Value.bool) := by
  refine ⟨_, c, rfl, hc, by simp [hl], fun _ => ⟨g, 0, rfl, by simpa using hg, fun j u hu => ?_⟩⟩
  rw [Nat.zero_add]
  rw [List.getElem?_map, List.getElem?_set] at hu
  by_cases e : i = j
  · subst e
    rw [if_pos rfl, if_pos (by omega)] at hu
    simp at hu
    subst hu
    obtain ⟨x, hx⟩ : ∃ x, L[i]? = some x := ⟨_, List.getElem?_eq_getElem (by omega)⟩
    exact World.cell?_setCell_same _ _ _ (hcell i x hx)
  · rw [if_neg e] at hu
    rw [World.cell?_setCell_other _ _ _ _ (by intro h; injection h with _ h2; exact e h2)]
    cases hx : L[j]? with
    | none => rw [hx] at hu; simp at hu
    | some x =>
      rw [hx] at hu
      simp at hu
      subst hu
      exact hcell j x hx
theorem put_bitL {h : Hd} (ho : h.ok) {i : Nat} {b : Bool} (hi : i < 104) : ofBitL (h.bitL.set i b) = h.put i b :=
  hd_bits (ofBitL_ok (by rw [List.length_set, bitL_len])) (put_ok ho hi) fun j hj => by
    rw [put_bit ho hi hj]
    refine ofBitL_bit (by rw [List.length_set, bitL_len]) ?_
    rw [List.getElem?_set]
    by_cases e : i = j
    · subst e; rw [if_pos rfl, if_pos (by rw [bitL_len]; exact hi), if_pos rfl]
    · rw [if_neg e, if_neg (fun h => e h.symm), bitL_get h hj]
set_option maxRecDepth 100000 in
set_option maxHeartbeats 4000000 in
theorem hrWith_yes (h : Hd) (ho : h.ok) (i : Nat) (b : Bool) (w : World) (hi : i < 104) :
    Calls Tryd.prog 40 #[.agg #[.int .u32 h.src, .int .u32 h.dst, .int .u8 h.proto, .int .u16 h.sp, .int .u16 h.dp], .int .i64 i, .bool b] w fun e w' => e = .returned (.tuple #[.agg #[.int .u32 (h.put i b).src, .int .u32 (h.put i b).dst, .int .u8 (h.put i b).proto, .int .u16 (h.put i b).sp, .int .u16 (h.put i b).dp], .int .i64 0]) ∧ Below w.heap.size w w' := by
  have h1 : ¬ (i : Int) < 0 := by omega
  have h2 : ¬ (i : Int) > 103 := by omega
  have h3 : (i : Int) < 104 := by omega
  have h4 : (0 : Int) ≤ (i : Int) := by omega
  have hB := Lib.hid (fun v => hrBits_any h ho v)
  have hP := Lib.hid (put_bitL ho (b := b) hi)
  go_enter Tryd.func40, Tryd.ntmps40
  go_wp2_with fail
  refine (hB.out _).mono ?_
  rintro e w1 ⟨⟨v, rfl, hown⟩, hb1⟩
  obtain ⟨g, c, rfl, hc, hbg, hgl, hcell, hfz⟩ := own_bit hown
  have cx := hcell i (h.bit i) (bitL_get h hi)
  have fx := hfz i
  have hbg' : w.heap.size + 2 ≤ g := by simpa using hbg
  have hk := blk2 w h.cells (Hd.cells ⟨0, 0, 0, 0, 0⟩)
  have J1 : (w1.setCell ⟨g, i, none⟩ (.bool b)).heap[w.heap.size + 1]? = some (Hd.cells ⟨0, 0, 0, 0, 0⟩) := (set_heap _ _ _ _ _ (by omega)).trans (blk_below hb1 hk.2)
  have hbw := (below_call (below2 w h.cells (Hd.cells ⟨0, 0, 0, 0, 0⟩)) hb1).setCell (p := ⟨g, i, none⟩) (by show w.heap.size ≤ g; omega) (.bool b)
  have hRd := Lib.hid (set_own hi hgl hc (bitL_len h) hcell b)
  have K1 := Lib.hid J1
  have HW := Lib.hid hbw
  clear hown hbg hb1 hk J1 hbw hcell hfz
  go_wp2_with fail
  refine (hrOfBits_any _ (by rw [List.length_set, bitL_len]) _ _ hRd.out).mono ?_
  rintro e w5 ⟨rfl, hb5⟩
  rw [hP.out]
  have J1 := blk_below hb5 K1.out
  have hbw5 := below_call HW.out hb5
  clear hb5 HW hRd cx fx K1
  obtain ⟨d0, d1, d2, d3, d4⟩ := hd_cell J1
  have f1 := hd_frozen J1
  have K1 := Lib.hid J1
  clear J1
  go_wp2
  exact bodyPost_ret (results_hd2 (t1 := 6) (t3 := 7) (g := w.heap.size + 1) Tryd.results40 rfl rfl (hd_set4 (hd_set3 (hd_set2 (hd_set1 (hd_set0 K1.out _) _) _) _) _)) rfl ⟨rfl, (((((hbw5.setCell (p := ⟨w.heap.size + 1, 0, none⟩) (by first | exact Nat.le_refl _ | exact Nat.le_succ _) _).setCell (p := ⟨w.heap.size + 1, 1, none⟩) (by first | exact Nat.le_refl _ | exact Nat.le_succ _) _).setCell (p := ⟨w.heap.size + 1, 2, none⟩) (by first | exact Nat.le_refl _ | exact Nat.le_succ _) _).setCell (p := ⟨w.heap.size + 1, 3, none⟩) (by first | exact Nat.le_refl _ | exact Nat.le_succ _) _).setCell (p := ⟨w.heap.size + 1, 4, none⟩) (by first | exact Nat.le_refl _ | exact Nat.le_succ _) _)⟩
end Go.Proofs.YtdlhpiknifcehaaDoor
