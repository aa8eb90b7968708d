/-
  Walks over the addresses' layer: Common; the program's.
-/
import Derived.Test.YtdlhpiknifcehaaDoorAddr7
namespace Go.Proofs.YtdlhpiknifcehaaDoor
open Go Go.RowKit Go.Sort

/-- What two addresses have in common: the leading zeros of the bits in which they differ. -/
def xorI (a b : Int) : Int := ((a.toNat ^^^ b.toNat : Nat) : Int)
theorem xor_range (a b : Int) (h0 : 0 ≤ a) (h1 : a < 4294967296) (h2 : 0 ≤ b) (h3 : b < 4294967296) : 0 ≤ xorI a b ∧ xorI a b < 4294967296 := by
  unfold xorI
  have := Nat.xor_lt_two_pow (x := a.toNat) (y := b.toNat) (n := 32) (by omega) (by omega)
  omega
theorem xor_val (a b : Int) (h0 : 0 ≤ a) (h1 : a < 4294967296) (h2 : 0 ≤ b) (h3 : b < 4294967296) : bits .xor .u32 a b = xorI a b := u32_xor a b h0 h1 h2 h3
/-- The bits of what two prefixes have in common. -/
def comN (a n b m : Int) : Int := if lz32 (xorI a b) < (if m < n then m else n) then lz32 (xorI a b) else (if m < n then m else n)
theorem com_range {a b : Int} (n m : Int) (hn0 : 0 ≤ n) (hn1 : n ≤ 32) (hm0 : 0 ≤ m) (hm1 : m ≤ 32) (hl : 0 ≤ lz32 (xorI a b) ∧ lz32 (xorI a b) ≤ 32) : 0 ≤ comN a n b m ∧ comN a n b m ≤ 32 := by
  unfold comN
  split <;> split <;> omega
def comE (a n b m : Int) : Int := if chk a n = 0 then chk b m else chk a n
def comA (a n b m : Int) : Int := if comE a n b m = 0 then subA a (comN a n b m) else 0
def comB (a n b m : Int) : Int := if comE a n b m = 0 then comN a n b m else 0
theorem com_yes {a n b m : Int} (h : comE a n b m = 0) : comA a n b m = subA a (comN a n b m) ∧ comB a n b m = comN a n b m := ⟨if_pos h, if_pos h⟩
theorem com_no {a n b m : Int} (h : ¬ comE a n b m = 0) : comA a n b m = 0 ∧ comB a n b m = 0 := ⟨if_neg h, if_neg h⟩
theorem comE_1 {a n : Int} (b m : Int) (h : ¬ chk a n = 0) : comE a n b m = chk a n := if_neg h
theorem comE_2 {a n : Int} (b m : Int) (h : chk a n = 0) : comE a n b m = chk b m := if_pos h
theorem results_p {fn : Func} {tmps : Array Value} {w : World} {g : Nat} {a b e : Value} {t1 t3 : Nat} (hf : fn.results = #[.cell t1 25, .tmp t3]) (h1 : tmps.getD t1 undef = .pointer (some ⟨g, 0, none⟩)) (h3 : tmps.getD t3 undef = e)
    (k1 : w.heap[g]? = some (.cells #[a, b] 25 (0, 0))) :
    (results fn tmps).run Tryd.prog w = .ok (.tuple #[.agg #[a, b], e]) w := by
  obtain ⟨c0, c1, _, _⟩ := two_cells k1
  have h1' : tmps[t1]?.getD undef = .pointer (some ⟨g, 0, none⟩) := by simpa using h1
  have h3' : tmps[t3]?.getD undef = e := by simpa using h3
  simp [results, hf, h1', h3', go_sem, c0, c1]
def ComRes (a n b m : Int) (w : World) (en : Ending) (w' : World) : Prop :=
  en = .returned (.tuple #[.agg #[.int .u32 (comA a n b m), .int .i64 (comB a n b m)], .int .i64 (comE a n b m)]) ∧ Below w.heap.size w w'

set_option maxHeartbeats 1000000 in
theorem addrCommon_any (a n b m : Int) (w : World) (h0 : 0 ≤ a) (h1 : a < 4294967296) (h2 : 0 ≤ b) (h3 : b < 4294967296) :
    Calls Tryd.prog 49 #[.agg #[.int .u32 a, .int .i64 n], .agg #[.int .u32 b, .int .i64 m]] w (ComRes a n b m w) := by
  by_cases hr : chk a n = 0
  · have hd : (chk a n != 0) = false := by simp [hr]
    have hE := Lib.hid (comE_2 b m hr)
    by_cases hq : chk b m = 0
    · have hd2 : (chk b m != 0) = false := by simp [hq]
      have hE0 := Lib.hid (hE.out.trans hq)
      have hN := Lib.hid (com_yes hE0.out)
      obtain ⟨hn0, hn1, _⟩ := chk_ok hr
      obtain ⟨hm0, hm1, _⟩ := chk_ok hq
      have hx := xor_val a b h0 h1 h2 h3
      have hxr := xor_range a b h0 h1 h2 h3
      have hl := lz32_range (xorI a b) hxr.2
      clear hr hq
      go_enter Tryd.func49, Tryd.ntmps49
      go_wp2_with fail
      refine (addrCheck_any _ _ _ h0 h1).mono ?_
      rintro e w1 ⟨rfl, hb1⟩
      obtain ⟨k0, k1, k2⟩ := blk3 w (.cells #[.int .u32 a, .int .i64 n] 25) (.cells #[.int .u32 b, .int .i64 m] 25) (.cells #[.int .u32 0, .int .i64 0] 25)
      have K0 := blk_below hb1 k0
      have K1 := blk_below hb1 k1
      have K2 := blk_below hb1 k2
      obtain ⟨c0, c1, f0, f1⟩ := two_cells K0
      obtain ⟨c2, c3, f2, f3⟩ := two_cells K1
      obtain ⟨c4, c5, f4, f5⟩ := two_cells K2
      have hsz := lt_of_block K2
      have hbw1 := below_call (below3 w _ _ _) hb1
      have HK0 := Lib.hid K0
      have HK1 := Lib.hid K1
      have HK2 := Lib.hid K2
      clear k0 k1 k2 hb1 K0 K1 K2
      go_wp2_with fail
      refine (addrCheck_any _ _ _ h2 h3).mono ?_
      rintro e w2 ⟨rfl, hb2⟩
      clear c0 c1 c2 c3 c4 c5 f0 f1 f2 f3 f4 f5 hsz
      have K0 := blk_below hb2 HK0.out
      have K1 := blk_below hb2 HK1.out
      have K2 := blk_below hb2 HK2.out
      obtain ⟨c0, c1, f0, f1⟩ := two_cells K0
      obtain ⟨c2, c3, f2, f3⟩ := two_cells K1
      obtain ⟨c4, c5, f4, f5⟩ := two_cells K2
      have hsz := lt_of_block K2
      have hbw2 := hbw1.trans (hb2.mono hbw1.size)
      clear hb2 HK0 HK1 HK2
      have HK0 := Lib.hid K0
      have HK1 := Lib.hid K1
      have HK2 := Lib.hid K2
      clear K0 K1 K2
      go_wp2
      have hmin : (if lz32 (xorI a b) < (if m < n then m else n) then lz32 (xorI a b) else (if m < n then m else n)) = comN a n b m := rfl
      have hne1 : w.heap.size ≠ w.heap.size + 1 + 1 := by omega
      have hne2 : w.heap.size + 1 + 1 ≠ w.heap.size := by omega
      go_region_held3 (fun w' => w'.cell? ⟨w.heap.size, 0, none⟩ = some (.int .u32 a) ∧ w'.cell? ⟨w.heap.size, 1, none⟩ = some (.int .i64 n) ∧ w'.cell? ⟨w.heap.size + 1, 0, none⟩ = some (.int .u32 b) ∧ w'.cell? ⟨w.heap.size + 1, 1, none⟩ = some (.int .i64 m)) (go_keep)
        (first | (go_at_call 66; refine (lz32_any _ _ (by omega) (by omega)).mono ?_; rintro e w' ⟨rfl, rfl⟩) | (go_at_call 60; refine (addrSubnet_any _ _ _ h0 h1).mono ?_; rintro e w3 ⟨rfl, hb3⟩; obtain ⟨d0, d1, _, _⟩ := two_cells (blk_below hb3 HK0.out); obtain ⟨d2, d3, _, _⟩ := two_cells (blk_below hb3 HK1.out); obtain ⟨d4, d5, d6, d7⟩ := two_cells (blk_below hb3 HK2.out); have K3 := Lib.hid (blk_below hb3 HK2.out); have hb3' := Lib.hid hb3; clear hb3))
      go_wp2
      have hcr := com_range n m hn0 hn1 hm0 hm1 hl
      have hsy := sub_yes a hcr.1 hcr.2
      have hbw3 : Below w.heap.size w w3 := hbw2.drew.trans (hb3'.out.mono (by show _ ≤ w2.heap.size; exact hbw2.size))
      exact bodyPost_ret (results_p (t1 := 4) (t3 := 5) (g := w.heap.size + 1 + 1) Tryd.results49 rfl rfl (set_1 (set_0 K3.out))) rfl ⟨ret_p2 ⟨hN.out.1.symm, by rw [hN.out.2, hsy.2.1], by rw [hE0.out, hsy.2.2]⟩, (hbw3.setCell (by simp <;> omega) _).setCell (by simp <;> omega) _⟩
    · have hd2 : (chk b m != 0) = true := by simp [hq]
      have hN := Lib.hid (com_no (a := a) (n := n) (b := b) (m := m) (by rw [hE.out]; exact hq))
      clear hr hq
      go_enter Tryd.func49, Tryd.ntmps49
      go_wp2_with fail
      refine (addrCheck_any _ _ _ h0 h1).mono ?_
      rintro e w1 ⟨rfl, hb1⟩
      obtain ⟨k0, k1, k2⟩ := blk3 w (.cells #[.int .u32 a, .int .i64 n] 25) (.cells #[.int .u32 b, .int .i64 m] 25) (.cells #[.int .u32 0, .int .i64 0] 25)
      have K0 := blk_below hb1 k0
      have K1 := blk_below hb1 k1
      have K2 := blk_below hb1 k2
      obtain ⟨c0, c1, f0, f1⟩ := two_cells K0
      obtain ⟨c2, c3, f2, f3⟩ := two_cells K1
      obtain ⟨c4, c5, f4, f5⟩ := two_cells K2
      have hsz := lt_of_block K2
      have hbw1 := below_call (below3 w _ _ _) hb1
      have HK0 := Lib.hid K0
      have HK1 := Lib.hid K1
      have HK2 := Lib.hid K2
      clear k0 k1 k2 hb1 K0 K1 K2
      go_wp2_with fail
      refine (addrCheck_any _ _ _ h2 h3).mono ?_
      rintro e w2 ⟨rfl, hb2⟩
      clear c0 c1 c2 c3 c4 c5 f0 f1 f2 f3 f4 f5 hsz
      have K0 := blk_below hb2 HK0.out
      have K1 := blk_below hb2 HK1.out
      have K2 := blk_below hb2 HK2.out
      obtain ⟨c0, c1, f0, f1⟩ := two_cells K0
      obtain ⟨c2, c3, f2, f3⟩ := two_cells K1
      obtain ⟨c4, c5, f4, f5⟩ := two_cells K2
      have hsz := lt_of_block K2
      have hbw2 := hbw1.trans (hb2.mono hbw1.size)
      clear hb2 HK0 HK1 HK2
      have HK0 := Lib.hid K0
      have HK1 := Lib.hid K1
      have HK2 := Lib.hid K2
      clear K0 K1 K2
      go_wp2
      exact bodyPost_ret (results_p (t1 := 4) (t3 := 5) (g := w.heap.size + 1 + 1) Tryd.results49 rfl rfl (set_1 (set_0 HK2.out))) rfl ⟨ret_p2 ⟨hN.out.1.symm, hN.out.2.symm, hE.out.symm⟩, (hbw2.setCell (by simp <;> omega) _).setCell (by simp <;> omega) _⟩
  · have hd : (chk a n != 0) = true := by simp [hr]
    have hE := Lib.hid (comE_1 b m hr)
    have hN := Lib.hid (com_no (a := a) (n := n) (b := b) (m := m) (by rw [hE.out]; exact hr))
    clear hr
    go_enter Tryd.func49, Tryd.ntmps49
    go_wp2_with fail
    refine (addrCheck_any _ _ _ h0 h1).mono ?_
    rintro e w1 ⟨rfl, hb1⟩
    obtain ⟨k0, k1, k2⟩ := blk3 w (.cells #[.int .u32 a, .int .i64 n] 25) (.cells #[.int .u32 b, .int .i64 m] 25) (.cells #[.int .u32 0, .int .i64 0] 25)
    have K0 := blk_below hb1 k0
    have K1 := blk_below hb1 k1
    have K2 := blk_below hb1 k2
    obtain ⟨c0, c1, f0, f1⟩ := two_cells K0
    obtain ⟨c2, c3, f2, f3⟩ := two_cells K1
    obtain ⟨c4, c5, f4, f5⟩ := two_cells K2
    have hsz := lt_of_block K2
    have hbw1 := below_call (below3 w _ _ _) hb1
    have HK0 := Lib.hid K0
    have HK1 := Lib.hid K1
    have HK2 := Lib.hid K2
    clear k0 k1 k2 hb1 K0 K1 K2
    go_wp2
    exact bodyPost_ret (results_p (t1 := 4) (t3 := 5) (g := w.heap.size + 1 + 1) Tryd.results49 rfl rfl (set_1 (set_0 HK2.out))) rfl ⟨ret_p2 ⟨hN.out.1.symm, hN.out.2.symm, hE.out.symm⟩, (hbw1.setCell (by simp <;> omega) _).setCell (by simp <;> omega) _⟩

end Go.Proofs.YtdlhpiknifcehaaDoor
