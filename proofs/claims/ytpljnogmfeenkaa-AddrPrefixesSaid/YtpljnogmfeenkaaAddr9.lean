/-
  Walks over the addresses' layer: Common; the reference's.
-/
import Derived.Test.YtpljnogmfeenkaaAddr8
namespace Go.Proofs.Ytpljnogmfeenkaa
open Go Go.RowKit Go.Sort

theorem xor_zero (x y : Nat) : x = y ↔ x ^^^ y = 0 := by
  constructor
  · intro h; rw [h, Nat.xor_self]
  · intro h
    have : x ^^^ y ^^^ y = 0 ^^^ y := by rw [h]
    rwa [Nat.xor_assoc, Nat.xor_self, Nat.xor_zero, Nat.zero_xor] at this
theorem bitLen_up (x k : Nat) (hx : x < 2 ^ 64) (hk : k ≤ 64) (h : Lib.bitLen x ≤ k) : x < 2 ^ k := by
  induction k generalizing x with
  | zero =>
    rcases Nat.eq_zero_or_pos x with hz | hz
    · rw [hz]; decide
    · rw [Lib.bitLen_half x (by omega) hx] at h; omega
  | succ k ih =>
    rcases Nat.eq_zero_or_pos x with hz | hz
    · rw [hz]; exact Nat.two_pow_pos _
    · rw [Lib.bitLen_half x (by omega) hx] at h
      have := ih (x / 2) (by omega) (by omega) (by omega)
      rw [Nat.pow_succ]; omega
theorem sub_eq_iff (a b k : Int) (h0 : 0 ≤ a) (h1 : a < 4294967296) (h2 : 0 ≤ b) (h3 : b < 4294967296) (hk0 : 0 ≤ k) (hk : k ≤ 32) : a - a % sz k = b - b % sz k ↔ k ≤ lz32 (xorI a b) := by
  obtain ⟨a, rfl⟩ := Int.eq_ofNat_of_zero_le h0
  obtain ⟨b, rfl⟩ := Int.eq_ofNat_of_zero_le h2
  obtain ⟨k, rfl⟩ := Int.eq_ofNat_of_zero_le hk0
  have hp : 0 < 2 ^ (32 - k) := Nat.two_pow_pos _
  have e1 : sz ((k : Nat) : Int) = ((2 ^ (32 - k) : Nat) : Int) := by rw [sz_nat]; simp
  have hx : (a ^^^ b) < 2 ^ 32 := Nat.xor_lt_two_pow (by omega) (by omega)
  have s1 : (a - a % 2 ^ (32 - k) = b - b % 2 ^ (32 - k)) ↔ a / 2 ^ (32 - k) = b / 2 ^ (32 - k) := by
    have d1 := Nat.div_add_mod a (2 ^ (32 - k))
    have d2 := Nat.div_add_mod b (2 ^ (32 - k))
    constructor
    · intro h
      have : 2 ^ (32 - k) * (a / 2 ^ (32 - k)) = 2 ^ (32 - k) * (b / 2 ^ (32 - k)) := by omega
      exact Nat.eq_of_mul_eq_mul_left hp this
    · intro h
      have : 2 ^ (32 - k) * (a / 2 ^ (32 - k)) = 2 ^ (32 - k) * (b / 2 ^ (32 - k)) := by rw [h]
      omega
  have s2 : a / 2 ^ (32 - k) = b / 2 ^ (32 - k) ↔ (a ^^^ b) / 2 ^ (32 - k) = 0 := by
    rw [← Nat.shiftRight_eq_div_pow, ← Nat.shiftRight_eq_div_pow, ← Nat.shiftRight_eq_div_pow, Nat.shiftRight_xor_distrib, xor_zero]
  have s3 : (a ^^^ b) / 2 ^ (32 - k) = 0 ↔ a ^^^ b < 2 ^ (32 - k) := by
    rw [Nat.div_eq_zero_iff]
    constructor
    · intro h; rcases h with h | h
      · omega
      · exact h
    · intro h; exact .inr h
  have s4 : a ^^^ b < 2 ^ (32 - k) ↔ Lib.bitLen (a ^^^ b) ≤ 32 - k := by
    constructor
    · intro h; exact Lib.bitLen_le _ _ (by omega) h
    · intro h
      exact bitLen_up _ _ (Nat.lt_of_lt_of_le hx (Nat.pow_le_pow_right (by omega) (by omega))) (by omega) h
  have hm1 := Nat.mod_le a (2 ^ (32 - k))
  have hm2 := Nat.mod_le b (2 ^ (32 - k))
  unfold lz32 xorI
  rw [e1, Int.toNat_natCast, Int.toNat_natCast, Int.toNat_natCast, ← Int.natCast_emod, ← Int.natCast_emod]
  constructor
  · intro h
    have := s4.1 (s3.1 (s2.1 (s1.1 (by omega))))
    omega
  · intro h
    have := s1.2 (s2.2 (s3.2 (s4.2 (by omega))))
    omega
theorem dvd_sz (n k : Int) (hk0 : 0 ≤ k) (hkn : k ≤ n) (hn : n ≤ 32) : sz n ∣ sz k := by
  refine ⟨p2 ((n - k).toNat), ?_⟩
  unfold sz p2
  rw [← Int.pow_add]; congr 1; omega
theorem chk_sub (a k : Int) (hk0 : 0 ≤ k) (hk : k ≤ 32) : chk (subA a k) k = 0 := by
  refine chk_zero _ _ hk0 hk ?_
  rw [(sub_yes a hk0 hk).1, Int.sub_emod, Int.emod_emod_of_dvd _ (Int.dvd_refl _)]
  simp
/-- A prefix is in the subnet of so many bits of an address just if it has as many bits, and begins in it. -/
theorem within_sub (a b n k : Int) (h0 : 0 ≤ a) (h1 : a < 4294967296) (h2 : 0 ≤ b) (h3 : b < 4294967296) (hk0 : 0 ≤ k) (hk : k ≤ 32) (hc : chk b n = 0) :
    withinB b n (subA a k) k = decide (k ≤ n ∧ k ≤ lz32 (xorI a b)) := by
  have hp := sz_pos k
  have hi : inB b (subA a k) k = decide (k ≤ lz32 (xorI a b)) := by
    unfold inB
    rw [decide_eq_decide, ← sub_eq_iff a b k h0 h1 h2 h3 hk0 hk, (sub_yes a hk0 hk).1]
    obtain ⟨m1, m2, m3, m4, m5⟩ := mod_le a k h0
    obtain ⟨l1, l2, l3, l4, l5⟩ := mod_le b k h2
    constructor
    · intro ⟨_, h4, h5⟩
      have t1 : sz k * (a / sz k) ≤ b := by rw [Int.mul_comm]; omega
      have t2 : b < sz k * (a / sz k + 1) := by rw [Int.mul_add, Int.mul_comm]; omega
      have t3 : b / sz k = a / sz k := by
        have u1 : a / sz k ≤ b / sz k := Int.le_ediv_of_mul_le (by omega) (by rw [Int.mul_comm]; exact t1)
        have u2 : b / sz k < a / sz k + 1 := Int.ediv_lt_of_lt_mul (by omega) (by rw [Int.mul_comm]; exact t2)
        omega
      rw [← m4, ← l4, t3]
    · intro h
      have h6 := chk_sub a k hk0 hk
      rw [(sub_yes a hk0 hk).1] at h6
      exact ⟨h6, by omega, by omega⟩
  unfold withinB
  rw [hi, hc]
  simp
theorem xor_comm' (a b : Int) : xorI a b = xorI b a := by unfold xorI; rw [Nat.xor_comm]
theorem lz_self (a : Int) : lz32 (xorI a a) = 32 := by unfold xorI; rw [Nat.xor_self]; decide
/-- The search from above finds what the program reckons. -/
theorem com_hit (a n b m : Int) (k : Nat) (h0 : 0 ≤ a) (h1 : a < 4294967296) (h2 : 0 ≤ b) (h3 : b < 4294967296) (hk : k ≤ 32) (hc : chk a n = 0) (hc' : chk b m = 0) :
    (withinB a n (subA a k) k && withinB b m (subA a k) k) = decide ((k : Int) ≤ comN a n b m) := by
  obtain ⟨hn0, hn1, _⟩ := chk_ok hc
  obtain ⟨hm0, hm1, _⟩ := chk_ok hc'
  rw [within_sub a a n k h0 h1 h0 h1 (by omega) (by omega) hc, within_sub a b m k h0 h1 h2 h3 (by omega) (by omega) hc', lz_self]
  unfold comN
  rw [Bool.eq_iff_iff]
  simp only [Bool.and_eq_true, decide_eq_true_eq]
  split <;> split <;> omega
theorem sub_zero (a : Int) (h0 : 0 ≤ a) (h1 : a < 4294967296) : subA a 0 = 0 := by
  rw [(sub_yes a (n := 0) (by omega) (by omega)).1]
  have : sz 0 = 4294967296 := rfl
  rw [this]
  omega

set_option maxRecDepth 100000 in
set_option maxHeartbeats 1000000 in
theorem refCommon_any (a n b m : Int) (w : World) (h0 : 0 ≤ a) (h1 : a < 4294967296) (h2 : 0 ≤ b) (h3 : b < 4294967296) :
    Calls Try.prog 40 #[.agg #[.int .u32 a, .int .i64 n], .agg #[.int .u32 b, .int .i64 m]] w (ComRes a n b m w) := by
  by_cases hr : chk a n = 0
  · have hd : (chk a n == 0) = true := by simp [hr]
    have hd' : (chk a n != 0) = false := by simp [hr]
    have hE := Lib.hid (comE_2 b m hr)
    by_cases hq : chk b m = 0
    · have hd2 : (chk b m != 0) = false := by simp [hq]
      have hE0 := Lib.hid (hE.out.trans hq)
      have hN := Lib.hid (com_yes hE0.out)
      have HR := Lib.hid hr
      have HQ := Lib.hid hq
      obtain ⟨hn0, hn1, _⟩ := chk_ok hr
      obtain ⟨hm0, hm1, _⟩ := chk_ok hq
      have hxr := xor_range a b h0 h1 h2 h3
      have hl := lz32_range (xorI a b) hxr.2
      have hcr := com_range n m hn0 hn1 hm0 hm1 hl
      clear hr hq
      go_enter Try.func40, Try.ntmps40
      go_wp2_with fail
      refine (refCheck_any _ _ _ h0 h1).mono ?_
      rintro e w1 ⟨rfl, hb1⟩
      obtain ⟨k0, k1, k2⟩ := blk3 w (.cells #[.int .u32 a, .int .i64 n] 30) (.cells #[.int .u32 b, .int .i64 m] 30) (.cells #[.int .u32 0, .int .i64 0] 30)
      have K0 := blk_below hb1 k0
      have K1 := blk_below hb1 k1
      have K2 := blk_below hb1 k2
      obtain ⟨c0, c1, f0, f1⟩ := two_cells K0
      obtain ⟨c2, c3, f2, f3⟩ := two_cells K1
      obtain ⟨c4, c5, f4, f5⟩ := two_cells K2
      have hsz := lt_of_block K2
      have hbw1 := below_call (below3 w _ _ _) hb1
      have HK0 := Lib.hid K0
      have HK1 := Lib.hid K1
      have HK2 := Lib.hid K2
      clear k0 k1 k2 hb1 K0 K1 K2
      go_wp2_with fail
      refine (refCheck_any _ _ _ h2 h3).mono ?_
      rintro e w2 ⟨rfl, hb2⟩
      clear c0 c1 c2 c3 c4 c5 f0 f1 f2 f3 f4 f5 hsz
      have K0 := blk_below hb2 HK0.out
      have K1 := blk_below hb2 HK1.out
      have K2 := blk_below hb2 HK2.out
      obtain ⟨c0, c1, f0, f1⟩ := two_cells K0
      obtain ⟨c2, c3, f2, f3⟩ := two_cells K1
      obtain ⟨c4, c5, f4, f5⟩ := two_cells K2
      have hsz := lt_of_block K2
      have hbw2 := hbw1.trans (hb2.mono hbw1.size)
      clear hb2 HK0 HK1 HK2
      have HK0 := Lib.hid K0
      have HK1 := Lib.hid K1
      have HK2 := Lib.hid K2
      clear K0 K1 K2
      go_wp2
      clear c0 c1 c2 c3 c4 c5 f0 f1 f2 f3 f4 f5 hsz
      go_loopw [7, 8] (fun i _ wr => ∃ k : Nat, i = .int .i64 k ∧ k ≤ 32 ∧ comN a n b m ≤ k ∧ wr.heap[w.heap.size]? = some (.cells #[.int .u32 a, .int .i64 n] 30 (0, 0)) ∧ wr.heap[w.heap.size + 1]? = some (.cells #[.int .u32 b, .int .i64 m] 30 (0, 0)) ∧ wr.heap[w.heap.size + 1 + 1]? = some (.cells #[.int .u32 0, .int .i64 0] 30 (0, 0)) ∧ Below w.heap.size w wr) (fun i _ _ => (intOf i).toNat)
      case atStart => exact ⟨32, rfl, by omega, by omega, HK0.out, HK1.out, HK2.out, hbw2⟩
      case round =>
        obtain ⟨k, rfl, hk, hck, r0, r1, r2, hbr⟩ := hrel
        have hit := com_hit a n b m k h0 h1 h2 h3 hk HR.out HQ.out
        obtain ⟨c0, c1, f0, f1⟩ := two_cells r0
        obtain ⟨c2, c3, f2, f3⟩ := two_cells r1
        obtain ⟨c4, c5, f4, f5⟩ := two_cells r2
        have hsz := lt_of_block r2
        have R0 := Lib.hid r0
        have R1 := Lib.hid r1
        have R2 := Lib.hid r2
        clear r0 r1 r2
        have HIT := Lib.hid hit
        clear hit
        by_cases hpos : 0 < k
        · go_wp2_with fail
          refine (refSubnet_any a k _ h0 h1).mono ?_
          rintro e w3 ⟨rfl, hb3⟩
          have hsn := (sub_yes a (n := (k : Int)) (by omega) (by omega)).2.1
          have hsr := sub_range a k h0 h1
          have q0 := blk_below hb3 R0.out
          have q1 := blk_below hb3 R1.out
          have q2 := blk_below hb3 R2.out
          obtain ⟨c0', c1', _, _⟩ := two_cells q0
          obtain ⟨c2', c3', _, _⟩ := two_cells q1
          obtain ⟨c4', c5', _, _⟩ := two_cells q2
          have Q0 := Lib.hid q0
          have Q1 := Lib.hid q1
          have Q2 := Lib.hid q2
          have hsz3 := lt_of_block q2
          have hlt0 : w.heap.size < w3.heap.size := by omega
          have hlt1 : w.heap.size + 1 < w3.heap.size := by omega
          have hne0 : w.heap.size ≠ w3.heap.size := by omega
          have hne1 : w.heap.size + 1 ≠ w3.heap.size := by omega
          have hne2 : w.heap.size + 1 + 1 ≠ w3.heap.size := by omega
          have hbr3 := hbr.trans (hb3.mono hbr.size)
          clear q0 q1 q2 hb3 c0 c1 c2 c3 c4 c5 f0 f1 f2 f3 f4 f5 hsz R0 R1 R2 hbr
          by_cases g1 : withinB a n (subA a k) k = true
          · have g1' : withinB a n (subA a k) k = true := g1
            have G1 := Lib.hid g1
            clear g1
            by_cases g2 : withinB b m (subA a k) k = true
            · have G2 := Lib.hid g2
              have heq : comN a n b m = k := by
                have := HIT.out
                rw [G1.out, G2.out] at this
                simp at this
                omega
              have HEQ := Lib.hid heq
              clear heq
              go_wp2_with fail
              refine (refWithin_any a n (subA a k) k _ h0 h1 hsr.1 hsr.2).mono ?_
              rintro e w4 ⟨rfl, hb4⟩
              have j0 := blk_below hb4 ((Below.heap_alloc _ _ _ (by omega)).trans Q0.out)
              have j1 := blk_below hb4 ((Below.heap_alloc _ _ _ (by omega)).trans Q1.out)
              have j2 := blk_below hb4 ((Below.heap_alloc _ _ _ (by omega)).trans Q2.out)
              have j3 := blk_below hb4 (heap_alloc_new _ _)
              clear c0' c1' c2' c3' c4' c5'
              obtain ⟨c0', c1', _, _⟩ := two_cells j0
              obtain ⟨c2', c3', _, _⟩ := two_cells j1
              obtain ⟨c4', c5', f4', f5'⟩ := two_cells j2
              obtain ⟨c6', c7', _, _⟩ := two_cells j3
              have P0 := Lib.hid j0
              have P1 := Lib.hid j1
              have P2 := Lib.hid j2
              have P3 := Lib.hid j3
              have hsz4 := lt_of_block j2
              have hsz4' := lt_of_block j3
              have hbr4 := below_call (hbr3.alloc hbr3.size _) hb4
              clear j0 j1 j2 j3 hb4
              go_wp2_with fail
              refine (refWithin_any b m (subA a k) k _ h2 h3 hsr.1 hsr.2).mono ?_
              rintro e w5 ⟨rfl, hb5⟩
              have j0 := blk_below hb5 P0.out
              have j1 := blk_below hb5 P1.out
              have j2 := blk_below hb5 P2.out
              have j3 := blk_below hb5 P3.out
              clear c0' c1' c2' c3' c4' c5' c6' c7' f4' f5' P0 P1 P2 P3
              obtain ⟨c0', c1', _, _⟩ := two_cells j0
              obtain ⟨c2', c3', _, _⟩ := two_cells j1
              obtain ⟨c4', c5', f4', f5'⟩ := two_cells j2
              obtain ⟨c6', c7', _, _⟩ := two_cells j3
              have P0 := Lib.hid j0
              have P1 := Lib.hid j1
              have P2 := Lib.hid j2
              have hsz5 := lt_of_block j2
              have hbr5 := below_call hbr4 hb5
              clear j0 j1 j2 j3 hb5
              go_wp2
              have hsy := sub_yes a (n := (k : Int)) (by omega) (by omega)
              exact bodyPost_ret (results_p (t1 := 4) (t3 := 5) (g := w.heap.size + 1 + 1) Try.results40 rfl rfl (set_1 (set_0 P2.out))) rfl ⟨ret_p2 ⟨by rw [hN.out.1, HEQ.out], by rw [hN.out.2, HEQ.out], hE0.out.symm⟩, (hbr5.setCell (by simp <;> omega) _).setCell (by simp <;> omega) _⟩
            · have g2' : withinB b m (subA a k) k = false := by simpa using g2
              have G2 := Lib.hid g2'
              clear g2
              go_wp2_with fail
              refine (refWithin_any a n (subA a k) k _ h0 h1 hsr.1 hsr.2).mono ?_
              rintro e w4 ⟨rfl, hb4⟩
              have j0 := blk_below hb4 ((Below.heap_alloc _ _ _ (by omega)).trans Q0.out)
              have j1 := blk_below hb4 ((Below.heap_alloc _ _ _ (by omega)).trans Q1.out)
              have j2 := blk_below hb4 ((Below.heap_alloc _ _ _ (by omega)).trans Q2.out)
              have j3 := blk_below hb4 (heap_alloc_new _ _)
              clear c0' c1' c2' c3' c4' c5'
              obtain ⟨c0', c1', _, _⟩ := two_cells j0
              obtain ⟨c2', c3', _, _⟩ := two_cells j1
              obtain ⟨c4', c5', f4', f5'⟩ := two_cells j2
              obtain ⟨c6', c7', _, _⟩ := two_cells j3
              have P0 := Lib.hid j0
              have P1 := Lib.hid j1
              have P2 := Lib.hid j2
              have P3 := Lib.hid j3
              have hsz4 := lt_of_block j2
              have hsz4' := lt_of_block j3
              have hbr4 := below_call (hbr3.alloc hbr3.size _) hb4
              clear j0 j1 j2 j3 hb4
              go_wp2_with fail
              refine (refWithin_any b m (subA a k) k _ h2 h3 hsr.1 hsr.2).mono ?_
              rintro e w5 ⟨rfl, hb5⟩
              have j0 := blk_below hb5 P0.out
              have j1 := blk_below hb5 P1.out
              have j2 := blk_below hb5 P2.out
              have j3 := blk_below hb5 P3.out
              clear c0' c1' c2' c3' c4' c5' c6' c7' f4' f5' P0 P1 P2 P3
              obtain ⟨c0', c1', _, _⟩ := two_cells j0
              obtain ⟨c2', c3', _, _⟩ := two_cells j1
              obtain ⟨c4', c5', f4', f5'⟩ := two_cells j2
              obtain ⟨c6', c7', _, _⟩ := two_cells j3
              have P0 := Lib.hid j0
              have P1 := Lib.hid j1
              have P2 := Lib.hid j2
              have hsz5 := lt_of_block j2
              have hbr5 := below_call hbr4 hb5
              clear j0 j1 j2 j3 hb5
              go_wp2
              refine ⟨⟨k - 1, by go_num, by omega, ?_, P0.out, P1.out, P2.out, hbr5⟩, by simp only [intOf]; omega⟩
              have := HIT.out
              rw [G1.out, G2.out] at this
              simp at this
              omega
          · have g1' : withinB a n (subA a k) k = false := by simpa using g1
            have G1 := Lib.hid g1'
            clear g1
            go_wp2_with fail
            refine (refWithin_any a n (subA a k) k _ h0 h1 hsr.1 hsr.2).mono ?_
            rintro e w4 ⟨rfl, hb4⟩
            have j0 := blk_below hb4 ((Below.heap_alloc _ _ _ (by omega)).trans Q0.out)
            have j1 := blk_below hb4 ((Below.heap_alloc _ _ _ (by omega)).trans Q1.out)
            have j2 := blk_below hb4 ((Below.heap_alloc _ _ _ (by omega)).trans Q2.out)
            have j3 := blk_below hb4 (heap_alloc_new _ _)
            clear c0' c1' c2' c3' c4' c5'
            obtain ⟨c0', c1', _, _⟩ := two_cells j0
            obtain ⟨c2', c3', _, _⟩ := two_cells j1
            obtain ⟨c4', c5', f4', f5'⟩ := two_cells j2
            obtain ⟨c6', c7', _, _⟩ := two_cells j3
            have P0 := Lib.hid j0
            have P1 := Lib.hid j1
            have P2 := Lib.hid j2
            have P3 := Lib.hid j3
            have hsz4 := lt_of_block j2
            have hsz4' := lt_of_block j3
            have hbr4 := below_call (hbr3.alloc hbr3.size _) hb4
            clear j0 j1 j2 j3 hb4
            go_wp2
            refine ⟨⟨k - 1, by go_num, by omega, ?_, P0.out, P1.out, P2.out, hbr4⟩, by simp only [intOf]; omega⟩
            have := HIT.out
            rw [G1.out] at this
            simp at this
            omega
        · have hk0 : k = 0 := by omega
          subst hk0
          have hz : comN a n b m = 0 := by omega
          have HZ := Lib.hid hz
          clear hz
          go_wp2
          exact bodyPost_ret (results_p (t1 := 4) (t3 := 5) (g := w.heap.size + 1 + 1) Try.results40 rfl rfl (set_1 (set_0 R2.out))) rfl ⟨ret_p2 ⟨by rw [hN.out.1, HZ.out]; exact (sub_zero a h0 h1).symm, by rw [hN.out.2, HZ.out], hE0.out.symm⟩, (hbr.setCell (by simp <;> omega) _).setCell (by simp <;> omega) _⟩
    · have hd2 : (chk b m != 0) = true := by simp [hq]
      have hN := Lib.hid (com_no (a := a) (n := n) (b := b) (m := m) (by rw [hE.out]; exact hq))
      clear hr hq
      go_enter Try.func40, Try.ntmps40
      go_wp2_with fail
      refine (refCheck_any _ _ _ h0 h1).mono ?_
      rintro e w1 ⟨rfl, hb1⟩
      obtain ⟨k0, k1, k2⟩ := blk3 w (.cells #[.int .u32 a, .int .i64 n] 30) (.cells #[.int .u32 b, .int .i64 m] 30) (.cells #[.int .u32 0, .int .i64 0] 30)
      have K0 := blk_below hb1 k0
      have K1 := blk_below hb1 k1
      have K2 := blk_below hb1 k2
      obtain ⟨c0, c1, f0, f1⟩ := two_cells K0
      obtain ⟨c2, c3, f2, f3⟩ := two_cells K1
      obtain ⟨c4, c5, f4, f5⟩ := two_cells K2
      have hsz := lt_of_block K2
      have hbw1 := below_call (below3 w _ _ _) hb1
      have HK0 := Lib.hid K0
      have HK1 := Lib.hid K1
      have HK2 := Lib.hid K2
      clear k0 k1 k2 hb1 K0 K1 K2
      go_wp2_with fail
      refine (refCheck_any _ _ _ h2 h3).mono ?_
      rintro e w2 ⟨rfl, hb2⟩
      clear c0 c1 c2 c3 c4 c5 f0 f1 f2 f3 f4 f5 hsz
      have K0 := blk_below hb2 HK0.out
      have K1 := blk_below hb2 HK1.out
      have K2 := blk_below hb2 HK2.out
      obtain ⟨c0, c1, f0, f1⟩ := two_cells K0
      obtain ⟨c2, c3, f2, f3⟩ := two_cells K1
      obtain ⟨c4, c5, f4, f5⟩ := two_cells K2
      have hsz := lt_of_block K2
      have hbw2 := hbw1.trans (hb2.mono hbw1.size)
      clear hb2 HK0 HK1 HK2
      have HK0 := Lib.hid K0
      have HK1 := Lib.hid K1
      have HK2 := Lib.hid K2
      clear K0 K1 K2
      go_wp2
      exact bodyPost_ret (results_p (t1 := 4) (t3 := 5) (g := w.heap.size + 1 + 1) Try.results40 rfl rfl (set_1 (set_0 HK2.out))) rfl ⟨ret_p2 ⟨hN.out.1.symm, hN.out.2.symm, hE.out.symm⟩, (hbw2.setCell (by simp <;> omega) _).setCell (by simp <;> omega) _⟩
  · have hd : (chk a n == 0) = false := by simp [hr]
    have hd' : (chk a n != 0) = true := by simp [hr]
    have hE := Lib.hid (comE_1 b m hr)
    have hN := Lib.hid (com_no (a := a) (n := n) (b := b) (m := m) (by rw [hE.out]; exact hr))
    clear hr
    go_enter Try.func40, Try.ntmps40
    go_wp2_with fail
    refine (refCheck_any _ _ _ h0 h1).mono ?_
    rintro e w1 ⟨rfl, hb1⟩
    obtain ⟨k0, k1, k2⟩ := blk3 w (.cells #[.int .u32 a, .int .i64 n] 30) (.cells #[.int .u32 b, .int .i64 m] 30) (.cells #[.int .u32 0, .int .i64 0] 30)
    have K0 := blk_below hb1 k0
    have K1 := blk_below hb1 k1
    have K2 := blk_below hb1 k2
    obtain ⟨c0, c1, f0, f1⟩ := two_cells K0
    obtain ⟨c2, c3, f2, f3⟩ := two_cells K1
    obtain ⟨c4, c5, f4, f5⟩ := two_cells K2
    have hsz := lt_of_block K2
    have hbw1 := below_call (below3 w _ _ _) hb1
    have HK0 := Lib.hid K0
    have HK1 := Lib.hid K1
    have HK2 := Lib.hid K2
    clear k0 k1 k2 hb1 K0 K1 K2
    go_wp2
    exact bodyPost_ret (results_p (t1 := 4) (t3 := 5) (g := w.heap.size + 1 + 1) Try.results40 rfl rfl (set_1 (set_0 HK2.out))) rfl ⟨ret_p2 ⟨hN.out.1.symm, hN.out.2.symm, hE.out.symm⟩, (hbw1.setCell (by simp <;> omega) _).setCell (by simp <;> omega) _⟩

end Go.Proofs.Ytpljnogmfeenkaa
