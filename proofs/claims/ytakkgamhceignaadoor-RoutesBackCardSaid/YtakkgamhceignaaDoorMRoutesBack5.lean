/-
  Joined texts: Ad5, Addr9, InMath, CovMath, Ad6, Hd1, Hd2, Hd3, HdMath, BackMath.
-/
import Derived.Test.YtakkgamhceignaaDoorMRoutesBack4
import Derived.Deep.DeepCutAuto
import Derived.Deep.RegionHeld3
import Derived.StillTailTactics
/-
  Walks over the addresses' laws: works.
-/
namespace Go.Proofs.YtakkgamhceignaaDoor
open Go Go.RowKit Go.Sort

theorem le_up {w W : World} (h : Below w.heap.size w W) : w.heap.size ≤ W.heap.size := h.size
theorem sub_24 : subA 167838211 24 = 167838208 ∧ subN 24 = 24 ∧ argE 24 = 0 := by decide +kernel
theorem pp_8 : ppA [49, 48, 46, 48, 46, 48, 46, 48, 47, 56] = 167772160 ∧ ppN [49, 48, 46, 48, 46, 48, 46, 48, 47, 56] = 8 ∧ ppE [49, 48, 46, 48, 46, 48, 46, 48, 47, 56] = 0 := by decide +kernel
theorem pa_8 : parseB [49, 48, 46, 49, 46, 50, 46, 51] = some 167838211 := by decide +kernel
theorem cut_8 : (cutP 167838211 167838212).length = 2 := by decide +kernel
theorem text_8 : textA 167838211 = ⟨#[49, 48, 46, 49, 46, 50, 46, 51]⟩ := by rw [textA_eq]; decide +kernel
theorem textp_8 : textP 167838208 24 = ⟨#[49, 48, 46, 49, 46, 50, 46, 48, 47, 50, 52]⟩ := by
  unfold textP
  rw [textA_eq, show Lib.itoa 24 = Lib.decDigits 24 from rfl, dec3_eq (by omega)]
  decide +kernel
theorem works_parse (w : World) (hE : Env w) : Calls Tryd.prog 33 #[.string ⟨#[49, 48, 46, 49, 46, 50, 46, 51]⟩] w fun e w' => e = .returned (.tuple #[.int .u32 167838211, .int .i64 0]) ∧ Below w.heap.size w w' := by
  have h := addrParse_any ⟨#[49, 48, 46, 49, 46, 50, 46, 51]⟩ w hE (by decide)
  rw [show parseB (⟨#[49, 48, 46, 49, 46, 50, 46, 51]⟩ : ByteArray).data.toList = some 167838211 from pa_8] at h
  exact h
theorem works_prefix (w : World) (hE : Env w) : Calls Tryd.prog 30 #[.string ⟨#[49, 48, 46, 48, 46, 48, 46, 48, 47, 56]⟩] w fun e w' => e = .returned (.tuple #[.agg #[.int .u32 167772160, .int .i64 8], .int .i64 0]) ∧ Below w.heap.size w w' := by
  have h := parsePrefix_any ⟨#[49, 48, 46, 48, 46, 48, 46, 48, 47, 56]⟩ w hE (by decide)
  rw [show ppA (⟨#[49, 48, 46, 48, 46, 48, 46, 48, 47, 56]⟩ : ByteArray).data.toList = 167772160 from pp_8.1, show ppN (⟨#[49, 48, 46, 48, 46, 48, 46, 48, 47, 56]⟩ : ByteArray).data.toList = 8 from pp_8.2.1, show ppE (⟨#[49, 48, 46, 48, 46, 48, 46, 48, 47, 56]⟩ : ByteArray).data.toList = 0 from pp_8.2.2] at h
  exact h
theorem works_text (w : World) (hE : Env w) : Calls Tryd.prog 27 #[.int .u32 167838211] w fun e w' => e = .returned (.string ⟨#[49, 48, 46, 49, 46, 50, 46, 51]⟩) ∧ Below w.heap.size w w' := by
  have h := addrText_any 167838211 (by omega) w hE
  rw [text_8] at h
  exact h
theorem works_ptext (w : World) (hE : Env w) : Calls Tryd.prog 25 #[.agg #[.int .u32 167838208, .int .i64 24]] w fun e w' => e = .returned (.string ⟨#[49, 48, 46, 49, 46, 50, 46, 48, 47, 50, 52]⟩) ∧ Below w.heap.size w w' := by
  have h := prefixText_any 167838208 24 (by omega) (by omega) (by omega) w hE
  rw [textp_8] at h
  exact h
theorem in_8 : inB 167838211 167772160 8 = true ∧ withinB 167838208 24 167772160 8 = true ∧ withinB 167772160 8 167838208 24 = false := by decide +kernel
end Go.Proofs.YtakkgamhceignaaDoor

/-
  Walks over the addresses' layer: Common; the reference's.
-/
namespace Go.Proofs.YtakkgamhceignaaDoor
open Go Go.RowKit Go.Sort

theorem xor_zero (x y : Nat) : x = y ↔ x ^^^ y = 0 := by
  constructor
  · intro h; rw [h, Nat.xor_self]
  · intro h
    have : x ^^^ y ^^^ y = 0 ^^^ y := by rw [h]
    rwa [Nat.xor_assoc, Nat.xor_self, Nat.xor_zero, Nat.zero_xor] at this
theorem bitLen_up (x k : Nat) (hx : x < 2 ^ 64) (hk : k ≤ 64) (h : Lib.bitLen x ≤ k) : x < 2 ^ k := by
  induction k generalizing x with
  | zero =>
    rcases Nat.eq_zero_or_pos x with hz | hz
    · rw [hz]; decide
    · rw [Lib.bitLen_half x (by omega) hx] at h; omega
  | succ k ih =>
    rcases Nat.eq_zero_or_pos x with hz | hz
    · rw [hz]; exact Nat.two_pow_pos _
    · rw [Lib.bitLen_half x (by omega) hx] at h
      have := ih (x / 2) (by omega) (by omega) (by omega)
      rw [Nat.pow_succ]; omega
theorem sub_eq_iff (a b k : Int) (h0 : 0 ≤ a) (h1 : a < 4294967296) (h2 : 0 ≤ b) (h3 : b < 4294967296) (hk0 : 0 ≤ k) (hk : k ≤ 32) : a - a % sz k = b - b % sz k ↔ k ≤ lz32 (xorI a b) := by
  obtain ⟨a, rfl⟩ := Int.eq_ofNat_of_zero_le h0
  obtain ⟨b, rfl⟩ := Int.eq_ofNat_of_zero_le h2
  obtain ⟨k, rfl⟩ := Int.eq_ofNat_of_zero_le hk0
  have hp : 0 < 2 ^ (32 - k) := Nat.two_pow_pos _
  have e1 : sz ((k : Nat) : Int) = ((2 ^ (32 - k) : Nat) : Int) := by rw [sz_nat]; simp
  have hx : (a ^^^ b) < 2 ^ 32 := Nat.xor_lt_two_pow (by omega) (by omega)
  have s1 : (a - a % 2 ^ (32 - k) = b - b % 2 ^ (32 - k)) ↔ a / 2 ^ (32 - k) = b / 2 ^ (32 - k) := by
    have d1 := Nat.div_add_mod a (2 ^ (32 - k))
    have d2 := Nat.div_add_mod b (2 ^ (32 - k))
    constructor
    · intro h
      have : 2 ^ (32 - k) * (a / 2 ^ (32 - k)) = 2 ^ (32 - k) * (b / 2 ^ (32 - k)) := by omega
      exact Nat.eq_of_mul_eq_mul_left hp this
    · intro h
      have : 2 ^ (32 - k) * (a / 2 ^ (32 - k)) = 2 ^ (32 - k) * (b / 2 ^ (32 - k)) := by rw [h]
      omega
  have s2 : a / 2 ^ (32 - k) = b / 2 ^ (32 - k) ↔ (a ^^^ b) / 2 ^ (32 - k) = 0 := by
    rw [← Nat.shiftRight_eq_div_pow, ← Nat.shiftRight_eq_div_pow, ← Nat.shiftRight_eq_div_pow, Nat.shiftRight_xor_distrib, xor_zero]
  have s3 : (a ^^^ b) / 2 ^ (32 - k) = 0 ↔ a ^^^ b < 2 ^ (32 - k) := by
    rw [Nat.div_eq_zero_iff]
    constructor
    · intro h; rcases h with h | h
      · omega
      · exact h
    · intro h; exact .inr h
  have s4 : a ^^^ b < 2 ^ (32 - k) ↔ Lib.bitLen (a ^^^ b) ≤ 32 - k := by
    constructor
    · intro h; exact Lib.bitLen_le _ _ (by omega) h
    · intro h
      exact bitLen_up _ _ (Nat.lt_of_lt_of_le hx (Nat.pow_le_pow_right (by omega) (by omega))) (by omega) h
  have hm1 := Nat.mod_le a (2 ^ (32 - k))
  have hm2 := Nat.mod_le b (2 ^ (32 - k))
  unfold lz32 xorI
  rw [e1, Int.toNat_natCast, Int.toNat_natCast, Int.toNat_natCast, ← Int.natCast_emod, ← Int.natCast_emod]
  constructor
  · intro h
    have := s4.1 (s3.1 (s2.1 (s1.1 (by omega))))
    omega
  · intro h
    have := s1.2 (s2.2 (s3.2 (s4.2 (by omega))))
    omega
theorem dvd_sz (n k : Int) (hk0 : 0 ≤ k) (hkn : k ≤ n) (hn : n ≤ 32) : sz n ∣ sz k := by
  refine ⟨p2 ((n - k).toNat), ?_⟩
  unfold sz p2
  rw [← Int.pow_add]; congr 1; omega
theorem chk_sub (a k : Int) (hk0 : 0 ≤ k) (hk : k ≤ 32) : chk (subA a k) k = 0 := by
  refine chk_zero _ _ hk0 hk ?_
  rw [(sub_yes a hk0 hk).1, Int.sub_emod, Int.emod_emod_of_dvd _ (Int.dvd_refl _)]
  simp
/-- A prefix is in the subnet of so many bits of an address just if it has as many bits, and begins in it. -/
theorem within_sub (a b n k : Int) (h0 : 0 ≤ a) (h1 : a < 4294967296) (h2 : 0 ≤ b) (h3 : b < 4294967296) (hk0 : 0 ≤ k) (hk : k ≤ 32) (hc : chk b n = 0) :
    withinB b n (subA a k) k = decide (k ≤ n ∧ k ≤ lz32 (xorI a b)) := by
  have hp := sz_pos k
  have hi : inB b (subA a k) k = decide (k ≤ lz32 (xorI a b)) := by
    unfold inB
    rw [decide_eq_decide, ← sub_eq_iff a b k h0 h1 h2 h3 hk0 hk, (sub_yes a hk0 hk).1]
    obtain ⟨m1, m2, m3, m4, m5⟩ := mod_le a k h0
    obtain ⟨l1, l2, l3, l4, l5⟩ := mod_le b k h2
    constructor
    · intro ⟨_, h4, h5⟩
      have t1 : sz k * (a / sz k) ≤ b := by rw [Int.mul_comm]; omega
      have t2 : b < sz k * (a / sz k + 1) := by rw [Int.mul_add, Int.mul_comm]; omega
      have t3 : b / sz k = a / sz k := by
        have u1 : a / sz k ≤ b / sz k := Int.le_ediv_of_mul_le (by omega) (by rw [Int.mul_comm]; exact t1)
        have u2 : b / sz k < a / sz k + 1 := Int.ediv_lt_of_lt_mul (by omega) (by rw [Int.mul_comm]; exact t2)
        omega
      rw [← m4, ← l4, t3]
    · intro h
      have h6 := chk_sub a k hk0 hk
      rw [(sub_yes a hk0 hk).1] at h6
      exact ⟨h6, by omega, by omega⟩
  unfold withinB
  rw [hi, hc]
  simp
theorem xor_comm' (a b : Int) : xorI a b = xorI b a := by unfold xorI; rw [Nat.xor_comm]
theorem lz_self (a : Int) : lz32 (xorI a a) = 32 := by unfold xorI; rw [Nat.xor_self]; decide
/-- The search from above finds what the program reckons. -/
theorem com_hit (a n b m : Int) (k : Nat) (h0 : 0 ≤ a) (h1 : a < 4294967296) (h2 : 0 ≤ b) (h3 : b < 4294967296) (hk : k ≤ 32) (hc : chk a n = 0) (hc' : chk b m = 0) :
    (withinB a n (subA a k) k && withinB b m (subA a k) k) = decide ((k : Int) ≤ comN a n b m) := by
  obtain ⟨hn0, hn1, _⟩ := chk_ok hc
  obtain ⟨hm0, hm1, _⟩ := chk_ok hc'
  rw [within_sub a a n k h0 h1 h0 h1 (by omega) (by omega) hc, within_sub a b m k h0 h1 h2 h3 (by omega) (by omega) hc', lz_self]
  unfold comN
  rw [Bool.eq_iff_iff]
  simp only [Bool.and_eq_true, decide_eq_true_eq]
  split <;> split <;> omega
theorem sub_zero (a : Int) (h0 : 0 ≤ a) (h1 : a < 4294967296) : subA a 0 = 0 := by
  rw [(sub_yes a (n := 0) (by omega) (by omega)).1]
  have : sz 0 = 4294967296 := rfl
  rw [this]
  omega

end Go.Proofs.YtakkgamhceignaaDoor

/-
  Prefixes inside one another: plain laws; no program in sight.
-/
namespace Go.Proofs.YtakkgamhceignaaDoor
open Go Go.RowKit Go.Sort

/-- An address down to a multiple. -/
theorem floor_floor (x s t : Int) (hs : 0 < s) (ht : 0 < t) (h : s ∣ t) : (x - x % s) - (x - x % s) % t = x - x % t := by
  have e1 : x % t % s = x % s := Int.emod_emod_of_dvd x h
  have a1 := Int.emod_nonneg x (show t ≠ 0 by omega)
  have a2 := Int.emod_lt_of_pos x ht
  have b1 := Int.emod_nonneg x (show s ≠ 0 by omega)
  have b3 : x % s ≤ x % t := by
    have := Int.mul_ediv_add_emod (x % t) s
    have h0 : 0 ≤ x % t / s := Int.ediv_nonneg a1 (by omega)
    have h1 := Int.mul_nonneg (show 0 ≤ s by omega) h0
    rw [e1] at this
    omega
  have e2 := Int.mul_ediv_add_emod x t
  have e3 : (x - x % s) % t = x % t - x % s := by
    have : x - x % s = (x % t - x % s) + t * (x / t) := by omega
    rw [this, Int.add_mul_emod_self_left, Int.emod_eq_of_lt (by omega) (by omega)]
  rw [e3]; omega
/-- In a prefix: the address's first bits are the prefix's. -/
theorem in_iff {x a n : Int} (h : chk a n = 0) : inB x a n = true ↔ x - x % sz n = a := by
  obtain ⟨_, _, hm⟩ := chk_ok h
  have hp := sz_pos n
  unfold inB
  simp only [decide_eq_true_eq, h, true_and]
  have e := Int.mul_ediv_add_emod a (sz n)
  constructor
  · intro ⟨h1, h2⟩
    have : x = (x - a) + sz n * (a / sz n) := by omega
    have hx : x % sz n = x - a := by
      rw [this, Int.add_mul_emod_self_left, Int.emod_eq_of_lt (by omega) (by omega)]
      omega
    omega
  · intro h1
    have := Int.emod_nonneg x (show sz n ≠ 0 by omega)
    have := Int.emod_lt_of_pos x (show 0 < sz n by omega)
    omega
theorem within_iff {a n b m : Int} (ha : chk a n = 0) (hb : chk b m = 0) : withinB a n b m = true ↔ m ≤ n ∧ a - a % sz m = b := by
  unfold withinB
  rw [Bool.and_eq_true, in_iff hb]
  simp [ha]
theorem floor_self {a n : Int} (h : chk a n = 0) : a - a % sz n = a := by have := (chk_ok h).2.2; omega
theorem floor_two (x : Int) {n m : Int} (hm : 0 ≤ m) (hmn : m ≤ n) (hn : n ≤ 32) : (x - x % sz n) - (x - x % sz n) % sz m = x - x % sz m :=
  floor_floor x _ _ (by have := sz_pos n; omega) (by have := sz_pos m; omega) (dvd_sz n m hm hmn hn)
section
variable {a n b m c o x : Int} (hp : chk a n = 0) (hq : chk b m = 0) (hr : chk c o = 0)
include hp
theorem inside_self : withinB a n a n = true := (within_iff hp hp).2 ⟨Int.le_refl _, floor_self hp⟩
include hq
theorem inside_same : (withinB a n b m && withinB b m a n) = decide (a = b ∧ n = m) := by
  rw [Bool.eq_iff_iff, Bool.and_eq_true, within_iff hp hq, within_iff hq hp, decide_eq_true_eq]
  constructor
  · intro ⟨⟨h1, h2⟩, h3, h4⟩
    obtain rfl : n = m := by omega
    exact ⟨by rw [← h2, floor_self hp], rfl⟩
  · rintro ⟨rfl, rfl⟩
    exact ⟨⟨Int.le_refl _, floor_self hp⟩, Int.le_refl _, floor_self hp⟩
include hr in
theorem inside_trans (h1 : withinB a n b m = true) (h2 : withinB b m c o = true) : withinB a n c o = true := by
  rw [within_iff hp hq] at h1
  rw [within_iff hq hr] at h2
  rw [within_iff hp hr]
  refine ⟨by omega, ?_⟩
  rw [← floor_two a (chk_ok hr).1 h2.1 (chk_ok hq).2.1, h1.2, h2.2]
theorem inside_ends : withinB a n b m = (inB a b m && inB (a + sz n - 1) b m) := by
  have hl : inB (a + sz n - 1) a n = true := by unfold inB; have := sz_pos n; simp [hp]; omega
  rw [Bool.eq_iff_iff, Bool.and_eq_true, within_iff hp hq, in_iff hq, in_iff hq]
  constructor
  · intro ⟨h1, h2⟩
    refine ⟨h2, ?_⟩
    rw [← floor_two _ (chk_ok hq).1 h1 (chk_ok hp).2.1, (in_iff hp).1 hl, h2]
  · intro ⟨h1, h2⟩
    refine ⟨?_, h1⟩
    rcases (show n < m ∨ m ≤ n by omega) with h | h
    · exfalso
      have h3 := (in_iff hq).2 h1
      have h4 := (in_iff hq).2 h2
      unfold inB at h3 h4
      simp only [decide_eq_true_eq] at h3 h4
      have e : sz n = 2 * sz (n + 1) := by
        unfold sz
        rw [← p2_succ]
        have := (chk_ok hq).2.1
        have := (chk_ok hp).1
        congr 1; omega
      have := sz_pos m
      have hd3 := Int.le_of_dvd (by have := sz_pos (n+1); omega) (dvd_sz m (n + 1) (by have := (chk_ok hp).1; omega) (by omega) (chk_ok hq).2.1)
      omega
    · exact h
theorem inside_meet (h1 : inB x a n = true) (h2 : inB x b m = true) : withinB a n b m = true ∨ withinB b m a n = true := by
  rw [in_iff hp] at h1
  rw [in_iff hq] at h2
  rw [within_iff hp hq, within_iff hq hp]
  rcases Int.le_total m n with h | h
  · left
    exact ⟨h, by rw [← h1, floor_two x (chk_ok hq).1 h (chk_ok hp).2.1, h2]⟩
  · right
    exact ⟨h, by rw [← h2, floor_two x (chk_ok hp).1 h (chk_ok hq).2.1, h1]⟩
omit hq in
theorem inside_between : inB x a n = (decide (a ≤ x) && decide (x ≤ a + sz n - 1)) := by
  unfold inB
  rw [Bool.eq_iff_iff, Bool.and_eq_true, decide_eq_true_eq, decide_eq_true_eq, decide_eq_true_eq]
  constructor
  · intro ⟨_, _, _⟩; omega
  · intro ⟨_, _⟩; exact ⟨hp, by omega, by omega⟩
variable (h0 : 0 ≤ a) (h1 : a < 4294967296) (h2 : 0 ≤ b) (h3 : b < 4294967296)
include h0 h1 h2 h3
theorem common_ok : comE a n b m = 0 ∧ comA a n b m = subA a (comN a n b m) ∧ comB a n b m = comN a n b m ∧ 0 ≤ comN a n b m ∧ comN a n b m ≤ 32 ∧ comN a n b m ≤ n ∧ comN a n b m ≤ m ∧ comN a n b m ≤ lz32 (xorI a b) := by
  have he : comE a n b m = 0 := by unfold comE; rw [if_pos hp, hq]
  have hl := lz32_range (xorI a b) (xor_range a b h0 h1 h2 h3).2
  have hr := com_range n m (chk_ok hp).1 (chk_ok hp).2.1 (chk_ok hq).1 (chk_ok hq).2.1 hl
  refine ⟨he, (com_yes he).1, (com_yes he).2, hr.1, hr.2, ?_⟩
  unfold comN
  split <;> split <;> omega
theorem common_in : withinB a n (comA a n b m) (comB a n b m) = true ∧ withinB b m (comA a n b m) (comB a n b m) = true := by
  obtain ⟨_, e1, e2, k0, k1, k2, k3, k4⟩ := common_ok hp hq h0 h1 h2 h3
  rw [e1, e2]
  have hd := chk_sub a (comN a n b m) k0 k1
  rw [within_iff hp hd, within_iff hq hd]
  have := (sub_yes a k0 k1).1
  refine ⟨⟨k2, this.symm⟩, k3, ?_⟩
  rw [this]
  exact ((sub_eq_iff a b _ h0 h1 h2 h3 k0 k1).2 k4).symm
include hr in
theorem common_most (w1 : withinB a n c o = true) (w2 : withinB b m c o = true) : withinB (comA a n b m) (comB a n b m) c o = true := by
  obtain ⟨_, e1, e2, k0, k1, k2, k3, k4⟩ := common_ok hp hq h0 h1 h2 h3
  rw [within_iff hp hr] at w1
  rw [within_iff hq hr] at w2
  rw [e1, e2]
  have hd := chk_sub a (comN a n b m) k0 k1
  rw [within_iff hd hr, (sub_yes a k0 k1).1]
  have ho : o ≤ lz32 (xorI a b) := (sub_eq_iff a b o h0 h1 h2 h3 (chk_ok hr).1 (chk_ok hr).2.1).1 (w1.2.trans w2.2.symm)
  have hk : o ≤ comN a n b m := by unfold comN; split <;> split <;> omega
  exact ⟨hk, by rw [floor_two a (chk_ok hr).1 hk k1, w1.2]⟩
omit hq h0 h2 h3 in
theorem halves_ok (hn : n ≠ 32) : chk a (n + 1) = 0 ∧ chk (a + sz (n + 1)) (n + 1) = 0 ∧ a + sz (n + 1) < 4294967296 ∧ inB x a n = (inB x a (n + 1) != inB x (a + sz (n + 1)) (n + 1)) ∧ cmpP a (n + 1) (a + sz (n + 1)) (n + 1) = -1 ∧ withinB a (n + 1) a n = true ∧ withinB (a + sz (n + 1)) (n + 1) a n = true := by
  obtain ⟨g0, g1, g2⟩ := chk_ok hp
  obtain ⟨l1, l2⟩ := half_le a n h1 g0 (by omega) g2
  have hs := sz_pos (n + 1)
  have d : a % sz (n + 1) = 0 := by
    have := Int.emod_emod_of_dvd a (dvd_sz (n + 1) n g0 (by omega) (by omega))
    rw [g2] at this
    simpa using this.symm
  have c1 : chk a (n + 1) = 0 := chk_zero _ _ (by omega) (by omega) d
  have c2 : chk (a + sz (n + 1)) (n + 1) = 0 := chk_zero _ _ (by omega) (by omega) (by rw [Int.add_emod, d, Int.emod_self]; rfl)
  have i1 : inB a a n = true := by unfold inB; simp [hp]; omega
  have i2 : inB (a + sz (n + 1)) a n = true := by unfold inB; simp [hp]; omega
  refine ⟨c1, c2, l2, ?_, ?_, ?_, ?_⟩
  · unfold inB
    rw [hp, c1, c2]
    by_cases e1 : a ≤ x <;> by_cases e2 : x < a + sz (n + 1) <;> by_cases e3 : x < a + sz n <;> simp [e1, e2, e3] <;> omega
  · unfold cmpP
    rw [cmpI_lt (by omega)]
    rfl
  · unfold withinB; rw [i1, c1]; simp; omega
  · unfold withinB; rw [i2, c2]; simp; omega
end
end Go.Proofs.YtakkgamhceignaaDoor

/-
  The addresses between two, cut: as few prefixes as can be, each address in just one; plain laws, no program in sight.
-/
namespace Go.Proofs.YtakkgamhceignaaDoor
open Go Go.RowKit Go.Sort

theorem pick_max (a e : Int) : ∀ (k j : Nat), j ≤ k → a % p2 j = 0 → a + p2 j ≤ e → j ≤ pick a e k
  | 0, j, h, _, _ => by omega
  | k + 1, j, h, h1, h2 => by
    unfold pick
    split
    · exact h
    · rename_i hn
      rcases (show j = k + 1 ∨ j ≤ k by omega) with rfl | hj
      · exact absurd ⟨h1, h2⟩ hn
      · exact pick_max a e k j hj h1 h2
theorem sz_pick (k : Nat) (h : k ≤ 32) : sz (32 - (k : Int)) = p2 k := by unfold sz; congr 1; omega
theorem p2_dvd {j k : Nat} (h : j ≤ k) : p2 j ∣ p2 k := by
  refine ⟨p2 (k - j), ?_⟩
  unfold p2
  rw [← Int.pow_add]; congr 1; omega
theorem mod_up {a : Int} {j k : Nat} (h : j ≤ k) (ha : a % p2 k = 0) : a % p2 j = 0 := by
  have := Int.emod_emod_of_dvd a (p2_dvd h)
  rw [ha] at this
  simpa using this.symm
theorem mod_add {a : Int} {k : Nat} (ha : a % p2 k = 0) : (a + p2 k) % p2 k = 0 := by rw [Int.add_emod, ha, Int.emod_self]; rfl
/-- Two multiples together: the next one. -/
theorem mod_next {a : Int} {k : Nat} (ha : a % p2 k = 0) (h : ¬ a % p2 (k + 1) = 0) : (a + p2 k) % p2 (k + 1) = 0 := by
  have hp := p2_pos k
  have hs := p2_succ k
  have e := Int.emod_emod_of_dvd a (p2_dvd (Nat.le_succ k))
  rw [ha] at e
  have b1 := Int.emod_nonneg a (show p2 (k + 1) ≠ 0 by omega)
  have b2 := Int.emod_lt_of_pos a (show 0 < p2 (k + 1) by omega)
  have b3 : a % p2 (k + 1) = p2 k := by
    have e2 := Int.mul_ediv_add_emod (a % p2 (k + 1)) (p2 k)
    rw [e] at e2
    have q0 : a % p2 (k + 1) / p2 k < 2 := Int.ediv_lt_of_lt_mul (by omega) (by omega)
    have q1 : 0 ≤ a % p2 (k + 1) / p2 k := Int.ediv_nonneg b1 (by omega)
    rcases (show a % p2 (k + 1) / p2 k = 0 ∨ a % p2 (k + 1) / p2 k = 1 by omega) with h0 | h0
    · rw [h0] at e2; omega
    · rw [h0] at e2; omega
  have e4 : p2 k % p2 (k + 1) = p2 k := Int.emod_eq_of_lt (by omega) (by omega)
  rw [Int.add_emod, b3, e4, show p2 k + p2 k = p2 (k + 1) by omega, Int.emod_self]
/-- Behind the turn the pieces grow smaller. -/
theorem cut_down (e : Int) : ∀ (j f : Nat) (a : Int), j ≤ 32 → a % p2 j = 0 → e - a < p2 j → (cutL e f a).length ≤ j
  | j, 0, a, _, _, _ => by unfold cutL; simp
  | j, f + 1, a, hj, ha, he => by
    by_cases h : e ≤ a
    · rw [cutL_done e a (f + 1) h]; simp
    · rw [cutL_step e a f (by omega), List.length_cons]
      obtain ⟨o1, o2⟩ := pick_ok a e 32 (by omega)
      have hk : pick a e 32 < j := by
        rcases (show pick a e 32 < j ∨ j ≤ pick a e 32 by omega) with h1 | h1
        · exact h1
        · have := p2_mono h1; omega
      have hm := fun h1 h2 => pick_max a e 32 (pick a e 32 + 1) (by omega) h1 h2
      have h1 : a % p2 (pick a e 32 + 1) = 0 := mod_up (by omega) ha
      have h2 : ¬ a + p2 (pick a e 32 + 1) ≤ e := fun h2 => by have := hm h1 h2; omega
      have hs := p2_succ (pick a e 32)
      have := cut_down e (pick a e 32) f (a + p2 (pick a e 32)) (by omega) (mod_add o1) (by omega)
      omega
/-- Ahead of it they grow. -/
theorem cut_up (e : Int) (he : e ≤ 4294967296) : ∀ (f j : Nat) (a : Int), j ≤ 31 → 0 < a → a % p2 j = 0 → (cutL e f a).length ≤ 62 - j
  | 0, j, a, _, _, _ => by unfold cutL; simp
  | f + 1, j, a, hj, h0, ha => by
    by_cases h : e ≤ a
    · rw [cutL_done e a (f + 1) h]; simp
    · by_cases hfit : a + p2 j ≤ e
      · rw [cutL_step e a f (by omega), List.length_cons]
        obtain ⟨o1, o2⟩ := pick_ok a e 32 (by omega)
        have hjk := pick_max a e 32 j (by omega) ha hfit
        have hle := pick_le a e 32
        generalize hk : pick a e 32 = k at *
        have hs := p2_succ k
        have hge : p2 k ≤ a := Int.le_of_dvd h0 (Int.dvd_of_emod_eq_zero o1)
        have hk31 : k ≤ 31 := by
          rcases (show k ≤ 31 ∨ k = 32 by omega) with h1 | rfl
          · exact h1
          · rw [p2_32] at hge; omega
        by_cases h31 : k = 31
        · subst h31
          have e31 : p2 31 = 2147483648 := by decide
          rw [cutL_done e _ f (by omega)]
          simp; omega
        · by_cases hal : a % p2 (k + 1) = 0
          · have h2 : ¬ a + p2 (k + 1) ≤ e := fun h2 => by have := pick_max a e 32 (k + 1) (by omega) hal h2; omega
            have := cut_down e k f (a + p2 k) (by omega) (mod_add o1) (by omega)
            omega
          · have := cut_up e he f (k + 1) (a + p2 k) (by omega) (by have := p2_pos k; omega) (mod_next o1 hal)
            omega
      · have := cut_down e j (f + 1) a (by omega) ha (by omega)
        omega
theorem cut_most (e : Int) (he : e ≤ 4294967296) (f : Nat) (a : Int) (h0 : 0 ≤ a) : (cutL e f a).length ≤ 62 := by
  rcases (show a = 0 ∨ 0 < a by omega) with rfl | h1
  · rcases (show e < 4294967296 ∨ e = 4294967296 by omega) with h2 | rfl
    · have := cut_down e 32 f 0 (by omega) (by simp) (by rw [p2_32]; omega)
      omega
    · cases f with
      | zero => unfold cutL; simp
      | succ f =>
        have hp : pick 0 4294967296 32 = 32 := pick_hit 0 4294967296 32 (by simp) (by rw [p2_32]; omega)
        rw [cutL_step _ _ f (by omega), hp, cutL_done _ _ f (by rw [p2_32]; omega)]
        simp
  · exact cut_up e he f 0 a (by omega) h1 (by rw [p2_zero]; omega)
/-- How many of the prefixes an address is in. -/
def cntIn (y : Int) (L : List (Int × Int)) : Nat := (L.filter fun p => inB y p.1 p.2).length
theorem chk_pick (a e : Int) (h : a < e) : chk a (32 - (pick a e 32 : Int)) = 0 := by
  have hk := pick_le a e 32
  exact chk_zero _ _ (by omega) (by omega) (by rw [sz_pick _ hk]; exact (pick_ok a e 32 h).1)
theorem cut_once (e y : Int) : ∀ (f : Nat) (a : Int), e - a ≤ f → cntIn y (cutL e f a) = if a ≤ y ∧ y < e then 1 else 0
  | 0, a, hf => by
    rw [cutL_done e a 0 (by omega), if_neg (by omega)]; rfl
  | f + 1, a, hf => by
    by_cases h : e ≤ a
    · rw [cutL_done e a (f + 1) h, if_neg (by omega)]; rfl
    · have hk := pick_le a e 32
      have hp := p2_pos (pick a e 32)
      have ho := (pick_ok a e 32 (by omega)).2
      have ih := cut_once e y f (a + p2 (pick a e 32)) (by omega)
      rw [cutL_step e a f (by omega)]
      unfold cntIn at ih ⊢
      rw [List.filter_cons]
      have hc := chk_pick a e (by omega)
      have hi : inB y a (32 - (pick a e 32 : Int)) = decide (a ≤ y ∧ y < a + p2 (pick a e 32)) := by
        unfold inB; rw [sz_pick _ hk, hc]; simp
      simp only [hi]
      by_cases h1 : a ≤ y ∧ y < a + p2 (pick a e 32)
      · rw [if_pos (by simpa using h1), List.length_cons, ih, if_neg (by omega), if_pos (by omega)]
      · rw [if_neg (by simpa using h1), ih]
        by_cases h2 : a + p2 (pick a e 32) ≤ y ∧ y < e
        · rw [if_pos h2, if_pos (by omega)]
        · rw [if_neg h2, if_neg (by omega)]
/-- What is between one piece and the next. -/
def Next (p q : Int × Int) : Prop := q.1 = p.1 + sz p.2 ∧ (p.2 = q.2 → ¬ p.1 % (2 * sz p.2) = 0)
def AllOk (e : Int) (p : Int × Int) : Prop := chk p.1 p.2 = 0 ∧ 0 ≤ p.1 ∧ p.1 + sz p.2 ≤ e
theorem cut_allOk (e : Int) : ∀ (f : Nat) (a : Int), 0 ≤ a → ∀ p, p ∈ cutL e f a → AllOk e p
  | 0, a, _, p, h => by unfold cutL at h; simp at h
  | f + 1, a, h0, p, h => by
    by_cases he : e ≤ a
    · rw [cutL_done e a (f + 1) he] at h; simp at h
    · rw [cutL_step e a f (by omega)] at h
      have hk := pick_le a e 32
      have hp := p2_pos (pick a e 32)
      rcases List.mem_cons.1 h with rfl | h
      · exact ⟨chk_pick a e (by omega), h0, by show a + sz (32 - (pick a e 32 : Int)) ≤ e; rw [sz_pick _ hk]; exact (pick_ok a e 32 (by omega)).2⟩
      · exact cut_allOk e f _ (by omega) p h
theorem cut_next (e : Int) (hE : e ≤ 4294967296) : ∀ (f : Nat) (a : Int) (k : Nat) (p q : Int × Int), 0 ≤ a → (cutL e f a)[k]? = some p → (cutL e f a)[k + 1]? = some q → Next p q
  | 0, a, k, p, q, _, h, _ => by unfold cutL at h; simp at h
  | f + 1, a, k, p, q, h0, h, h' => by
    by_cases he : e ≤ a
    · rw [cutL_done e a (f + 1) he] at h; simp at h
    · rw [cutL_step e a f (by omega)] at h h'
      cases k with
      | succ k => exact cut_next e hE f (a + p2 (pick a e 32)) k p q (by have := p2_pos (pick a e 32); omega) (by simpa using h) (by simpa using h')
      | zero =>
        simp at h h'
        subst h
        have hk := pick_le a e 32
        have hp := p2_pos (pick a e 32)
        have hok := pick_ok a e 32 (by omega)
        have hm := pick_max a e 32 (pick a e 32 + 1)
        cases f with
        | zero => unfold cutL at h'; simp at h'
        | succ f =>
          by_cases h2 : e ≤ a + p2 (pick a e 32)
          · rw [cutL_done e _ (f + 1) h2] at h'; simp at h'
          · rw [cutL_step e _ f (by omega)] at h'
            simp at h'
            subst h'
            refine ⟨by show a + p2 (pick a e 32) = _; rw [sz_pick _ hk], ?_⟩
            have hok2 := pick_ok (a + p2 (pick a e 32)) e 32 (by omega)
            show 32 - (pick a e 32 : Int) = 32 - (pick (a + p2 (pick a e 32)) e 32 : Int) → ¬ a % (2 * sz (32 - (pick a e 32 : Int))) = 0
            rw [sz_pick _ hk, ← p2_succ]
            intro e1 e2
            have e3 : pick (a + p2 (pick a e 32)) e 32 = pick a e 32 := by omega
            rw [e3] at hok2
            have hs := p2_succ (pick a e 32)
            rcases (show pick a e 32 ≤ 31 ∨ pick a e 32 = 32 by omega) with h3 | h3
            · have := hm (by omega) e2 (by omega)
              omega
            · rw [h3, p2_32] at h2
              omega
end Go.Proofs.YtakkgamhceignaaDoor

/-
  Walks over the addresses' laws: fit, same.
-/
namespace Go.Proofs.YtakkgamhceignaaDoor
open Go Go.RowKit Go.Sort

/-- The bits that 'fit' makes of any int. -/
def fitN (k : Int) : Int := IntKind.u64.wrap k % 33
theorem fitN_range (k : Int) : 0 ≤ fitN k ∧ fitN k ≤ 32 := by unfold fitN; omega
theorem fit_chk (a k : Int) : chk (subA a (fitN k)) (fitN k) = 0 := chk_sub a (fitN k) (fitN_range k).1 (fitN_range k).2
theorem results_1 {fn : Func} {tmps : Array Value} {w : World} {g : Nat} {a b : Value} {t1 : Nat} (hf : fn.results = #[.cell t1 37]) (h1 : tmps.getD t1 undef = .pointer (some ⟨g, 0, none⟩))
    (k1 : w.heap[g]? = some (.cells #[a, b] 37 (0, 0))) :
    (results fn tmps).run Tryd.prog w = .ok (.agg #[a, b]) w := by
  obtain ⟨c0, c1, _, _⟩ := two_cells k1
  have h1' : tmps[t1]?.getD undef = .pointer (some ⟨g, 0, none⟩) := by simpa using h1
  simp [results, hf, h1', go_sem, c0, c1]
end Go.Proofs.YtakkgamhceignaaDoor

/-
  Walks over headers: Bytes.
-/
namespace Go.Proofs.YtakkgamhceignaaDoor
open Go Go.RowKit Go.Sort

/-- A header. -/
structure Hd where
  src : Int
  dst : Int
  proto : Int
  sp : Int
  dp : Int
  deriving DecidableEq
def Hd.enc (h : Hd) : List Value := [.int .u32 h.src, .int .u32 h.dst, .int .u8 h.proto, .int .u16 h.sp, .int .u16 h.dp]
structure Hd.ok (h : Hd) : Prop where
  s0 : 0 ≤ h.src
  s1 : h.src < 4294967296
  d0 : 0 ≤ h.dst
  d1 : h.dst < 4294967296
  p0 : 0 ≤ h.proto
  p1 : h.proto < 256
  a0 : 0 ≤ h.sp
  a1 : h.sp < 65536
  b0 : 0 ≤ h.dp
  b1 : h.dp < 65536
/-- Its bytes. -/
def Hd.bytes (h : Hd) : List Int := [h.src / 16777216, h.src / 65536 % 256, h.src / 256 % 256, h.src % 256, h.dst / 16777216, h.dst / 65536 % 256, h.dst / 256 % 256, h.dst % 256, h.proto, h.sp / 256, h.sp % 256, h.dp / 256, h.dp % 256]
/-- The array while the addresses are written. -/
def Hd.part (h : Hd) (k j : Nat) (p : Bool) : List Int := (List.range 13).map fun i => if (i < 4 ∧ i < k) ∨ (4 ≤ i ∧ i < 8 ∧ i - 4 < k) ∨ (i = 8 ∧ p = true) ∨ (9 ≤ i ∧ i < 11 ∧ i - 9 < j) ∨ (11 ≤ i ∧ i - 11 < j) then h.bytes.getD i 0 else 0
theorem part_start (h : Hd) : h.part 0 0 false = List.replicate 13 0 := rfl
theorem part_full (h : Hd) : h.part 4 2 true = h.bytes := rfl

theorem u8_wrap (x : Int) : IntKind.u8.wrap x = x % 256 := by simp [IntKind.wrap, IntKind.bits, IntKind.signed]
end Go.Proofs.YtakkgamhceignaaDoor

/-
  Walks over headers: Bit.
-/
namespace Go.Proofs.YtakkgamhceignaaDoor
open Go Go.RowKit Go.Sort

/-- Is a bit set? -/
def Hd.bit (h : Hd) (i : Nat) : Bool := h.bytes.getD (i / 8) 0 / 2 ^ (7 - i % 8) % 2 == 1
theorem bytes_range (h : Hd) (ho : h.ok) : ∀ x ∈ h.bytes, 0 ≤ x ∧ x < 256 := by
  obtain ⟨s0, s1, d0, d1, p0, p1, a0, a1, b0, b1⟩ := ho
  intro x hx
  simp only [Hd.bytes, List.mem_cons, List.mem_nil_iff, or_false] at hx
  rcases hx with rfl | rfl | rfl | rfl | rfl | rfl | rfl | rfl | rfl | rfl | rfl | rfl | rfl <;> omega
theorem and_1 (x : Int) (h0 : 0 ≤ x) (h1 : x < 256) : bits .and .u8 x 1 = x % 2 := by
  obtain ⟨x, rfl⟩ := Int.eq_ofNat_of_zero_le h0
  rw [u8_and _ _ h0 h1 (by omega) (by omega), Int.toNat_natCast, show (1 : Int).toNat = 1 from rfl, Nat.and_one_is_mod]
  rfl
theorem div_pow (v : Int) (k : Nat) (h0 : 0 ≤ v) (h1 : v < 256) : 0 ≤ v / 2 ^ k ∧ v / 2 ^ k < 256 := by
  have hp : (1 : Int) ≤ 2 ^ k := p2_pos k
  exact ⟨Int.ediv_nonneg h0 (by omega), Int.lt_of_le_of_lt (Int.ediv_le_self _ h0) h1⟩
theorem bytes_len (h : Hd) : h.bytes.length = 13 := rfl
end Go.Proofs.YtakkgamhceignaaDoor

/-
  Walks over headers: the law's same.
-/
namespace Go.Proofs.YtakkgamhceignaaDoor
open Go Go.RowKit Go.Sort

end Go.Proofs.YtakkgamhceignaaDoor

/-
  Headers as numbers: plain laws on their bytes and bits; no walk.
-/
namespace Go.Proofs.YtakkgamhceignaaDoor
open Go Go.RowKit Go.Sort

/-- A header as one number. -/
def Hd.val (h : Hd) : Nat := (((h.src.toNat * 4294967296 + h.dst.toNat) * 256 + h.proto.toNat) * 65536 + h.sp.toNat) * 65536 + h.dp.toNat
/-- The header of a number. -/
def hdOf (n : Nat) : Hd := ⟨((n / 4722366482869645213696 : Nat) : Int), ((n / 1099511627776 % 4294967296 : Nat) : Int), ((n / 4294967296 % 256 : Nat) : Int), ((n / 65536 % 65536 : Nat) : Int), ((n % 65536 : Nat) : Int)⟩
/-- How many headers there are. -/
def hdAll : Nat := 20282409603651670423947251286016
theorem hdAll_pow : hdAll = 2 ^ 104 := by decide
theorem hdOf_ok {n : Nat} (h : n < hdAll) : (hdOf n).ok := by
  unfold hdAll at h
  refine ⟨?_, ?_, ?_, ?_, ?_, ?_, ?_, ?_, ?_, ?_⟩ <;> dsimp only [hdOf] <;> omega
theorem val_lt {h : Hd} (ho : h.ok) : h.val < hdAll := by
  obtain ⟨s0, s1, d0, d1, p0, p1, a0, a1, b0, b1⟩ := ho
  unfold Hd.val hdAll
  omega
theorem hd_ext {a b : Hd} (h1 : a.src = b.src) (h2 : a.dst = b.dst) (h3 : a.proto = b.proto) (h4 : a.sp = b.sp) (h5 : a.dp = b.dp) : a = b := by
  cases a; cases b; simp at *; exact ⟨h1, h2, h3, h4, h5⟩
theorem hdOf_val {h : Hd} (ho : h.ok) : hdOf h.val = h := by
  obtain ⟨s0, s1, d0, d1, p0, p1, a0, a1, b0, b1⟩ := ho
  obtain ⟨s, d, p, a, b⟩ := h
  simp only at *
  obtain ⟨s, rfl⟩ := Int.eq_ofNat_of_zero_le s0
  obtain ⟨d, rfl⟩ := Int.eq_ofNat_of_zero_le d0
  obtain ⟨p, rfl⟩ := Int.eq_ofNat_of_zero_le p0
  obtain ⟨a, rfl⟩ := Int.eq_ofNat_of_zero_le a0
  obtain ⟨b, rfl⟩ := Int.eq_ofNat_of_zero_le b0
  apply hd_ext <;> dsimp only [hdOf, Hd.val, Int.toNat_natCast] <;> omega
theorem val_hdOf {n : Nat} (h : n < hdAll) : (hdOf n).val = n := by
  unfold hdAll at h
  dsimp only [hdOf, Hd.val, Int.toNat_natCast]
  omega
theorem val_inj {a b : Hd} (ha : a.ok) (hb : b.ok) (h : a.val = b.val) : a = b := by rw [← hdOf_val ha, h, hdOf_val hb]
theorem bytes_val {h : Hd} (ho : h.ok) {k : Nat} (hk : k < 13) : h.bytes[k]? = some ((h.val / 256 ^ (12 - k) % 256 : Nat) : Int) := by
  obtain ⟨s0, s1, d0, d1, p0, p1, a0, a1, b0, b1⟩ := ho
  obtain ⟨s, d, p, a, b⟩ := h
  simp only at *
  obtain ⟨s, rfl⟩ := Int.eq_ofNat_of_zero_le s0
  obtain ⟨d, rfl⟩ := Int.eq_ofNat_of_zero_le d0
  obtain ⟨p, rfl⟩ := Int.eq_ofNat_of_zero_le p0
  obtain ⟨a, rfl⟩ := Int.eq_ofNat_of_zero_le a0
  obtain ⟨b, rfl⟩ := Int.eq_ofNat_of_zero_le b0
  have e (x y : Int) (h : x = y) : some x = some y := by rw [h]
  match k, hk with
  | 0, _ => exact e _ _ (by dsimp only [Hd.val, Int.toNat_natCast, Nat.reduceSub, Nat.reducePow]; omega)
  | 1, _ => exact e _ _ (by dsimp only [Hd.val, Int.toNat_natCast, Nat.reduceSub, Nat.reducePow]; omega)
  | 2, _ => exact e _ _ (by dsimp only [Hd.val, Int.toNat_natCast, Nat.reduceSub, Nat.reducePow]; omega)
  | 3, _ => exact e _ _ (by dsimp only [Hd.val, Int.toNat_natCast, Nat.reduceSub, Nat.reducePow]; omega)
  | 4, _ => exact e _ _ (by dsimp only [Hd.val, Int.toNat_natCast, Nat.reduceSub, Nat.reducePow]; omega)
  | 5, _ => exact e _ _ (by dsimp only [Hd.val, Int.toNat_natCast, Nat.reduceSub, Nat.reducePow]; omega)
  | 6, _ => exact e _ _ (by dsimp only [Hd.val, Int.toNat_natCast, Nat.reduceSub, Nat.reducePow]; omega)
  | 7, _ => exact e _ _ (by dsimp only [Hd.val, Int.toNat_natCast, Nat.reduceSub, Nat.reducePow]; omega)
  | 8, _ => exact e _ _ (by dsimp only [Hd.val, Int.toNat_natCast, Nat.reduceSub, Nat.reducePow]; omega)
  | 9, _ => exact e _ _ (by dsimp only [Hd.val, Int.toNat_natCast, Nat.reduceSub, Nat.reducePow]; omega)
  | 10, _ => exact e _ _ (by dsimp only [Hd.val, Int.toNat_natCast, Nat.reduceSub, Nat.reducePow]; omega)
  | 11, _ => exact e _ _ (by dsimp only [Hd.val, Int.toNat_natCast, Nat.reduceSub, Nat.reducePow]; omega)
  | 12, _ => exact e _ _ (by dsimp only [Hd.val, Int.toNat_natCast, Nat.reduceSub, Nat.reducePow]; omega)
theorem bit_val {h : Hd} (ho : h.ok) {i : Nat} (hi : i < 104) : h.bit i = h.val.testBit (103 - i) := by
  unfold Hd.bit
  rw [List.getD, bytes_val ho (by omega), Option.getD_some, Nat.testBit_eq_decide_div_mod_eq]
  have e : (((h.val / 256 ^ (12 - i / 8) % 256 : Nat) : Int) / 2 ^ (7 - i % 8) % 2) = (((h.val / 256 ^ (12 - i / 8) % 256) / 2 ^ (7 - i % 8) % 2 : Nat) : Int) := by simp
  rw [e]
  have h2 : (h.val / 256 ^ (12 - i / 8) % 256) / 2 ^ (7 - i % 8) % 2 = h.val / 2 ^ (103 - i) % 2 := by
    rw [show (256 : Nat) = 2 ^ 8 from rfl, ← Nat.pow_mul]
    have a1 := Nat.testBit_mod_two_pow (h.val / 2 ^ (8 * (12 - i / 8))) 8 (7 - i % 8)
    rw [Nat.testBit_div_two_pow, Nat.testBit_eq_decide_div_mod_eq, Nat.testBit_eq_decide_div_mod_eq] at a1
    rw [show 7 - i % 8 + 8 * (12 - i / 8) = 103 - i by omega] at a1
    have a2 : (7 - i % 8 < 8) := by omega
    simp only [a2, decide_true, Bool.true_and, decide_eq_decide] at a1
    have b1 := Nat.mod_lt ((h.val / 2 ^ (8 * (12 - i / 8)) % 2 ^ 8) / 2 ^ (7 - i % 8)) (show 0 < 2 by decide)
    have b2 := Nat.mod_lt (h.val / 2 ^ (103 - i)) (show 0 < 2 by decide)
    omega
  rw [h2]
  rcases Nat.mod_two_eq_zero_or_one (h.val / 2 ^ (103 - i)) with h | h <;> rw [h] <;> rfl
/-- A number with a bit set so. -/
def setB (v k : Nat) (b : Bool) : Nat := if v.testBit k = b then v else v ^^^ 2 ^ k
theorem setB_same {v k : Nat} {b : Bool} (h : v.testBit k = b) : setB v k b = v := if_pos h
theorem setB_other {v k : Nat} {b : Bool} (h : v.testBit k ≠ b) : setB v k b = v ^^^ 2 ^ k := if_neg h
theorem setB_bit (v k j : Nat) (b : Bool) : (setB v k b).testBit j = if j = k then b else v.testBit j := by
  unfold setB
  split
  · rename_i h
    split
    · rename_i e; rw [e, h]
    · rfl
  · rename_i h
    rw [Nat.testBit_xor, Nat.testBit_two_pow]
    split
    · rename_i e; subst e; simp only [decide_true, Bool.xor_true]
      revert h; cases v.testBit j <;> cases b <;> simp
    · rename_i e
      rw [show decide (k = j) = false from decide_eq_false (fun h => e h.symm)]
      simp
theorem setB_lt {v k : Nat} {b : Bool} (h : v < hdAll) (hk : k < 104) : setB v k b < hdAll := by
  rw [hdAll_pow] at *
  unfold setB
  split
  · exact h
  · exact Nat.xor_lt_two_pow h (Nat.pow_lt_pow_right (by decide) hk)
/-- Numbers with the same bits. -/
theorem val_bits {u v : Nat} (hu : u < hdAll) (hv : v < hdAll) (h : ∀ j, j < 104 → u.testBit j = v.testBit j) : u = v := by
  rw [hdAll_pow] at *
  refine Nat.eq_of_testBit_eq fun j => ?_
  by_cases hj : j < 104
  · exact h j hj
  · rw [Nat.testBit_lt_two_pow (Nat.lt_of_lt_of_le hu (Nat.pow_le_pow_right (by decide) (by omega))), Nat.testBit_lt_two_pow (Nat.lt_of_lt_of_le hv (Nat.pow_le_pow_right (by decide) (by omega)))]
theorem hd_bits {a b : Hd} (ha : a.ok) (hb : b.ok) (h : ∀ i, i < 104 → a.bit i = b.bit i) : a = b :=
  val_inj ha hb (val_bits (val_lt ha) (val_lt hb) (fun j hj => by
    have := h (103 - j) (by omega)
    rw [bit_val ha (by omega), bit_val hb (by omega), show 103 - (103 - j) = j by omega] at this
    exact this))
/-- A header with a bit set so. -/
def Hd.put (h : Hd) (i : Nat) (b : Bool) : Hd := hdOf (setB h.val (103 - i) b)
theorem put_ok {h : Hd} (ho : h.ok) {i : Nat} {b : Bool} (hi : i < 104) : (h.put i b).ok := hdOf_ok (setB_lt (val_lt ho) (by omega))
theorem put_bit {h : Hd} (ho : h.ok) {i j : Nat} {b : Bool} (hi : i < 104) (hj : j < 104) : (h.put i b).bit j = if j = i then b else h.bit j := by
  rw [bit_val (put_ok ho hi) hj]
  unfold Hd.put
  rw [val_hdOf (setB_lt (val_lt ho) (by omega)), setB_bit, bit_val ho hj]
  by_cases h : j = i
  · rw [if_pos h, if_pos (by omega)]
  · rw [if_neg h, if_neg (by omega)]
theorem put_same {h : Hd} (ho : h.ok) {i : Nat} {b : Bool} (hi : i < 104) (hb : h.bit i = b) : h.put i b = h := by
  unfold Hd.put
  rw [bit_val ho hi] at hb
  rw [setB_same hb, hdOf_val ho]
theorem put_other {h : Hd} (ho : h.ok) {i : Nat} {b : Bool} (hi : i < 104) (hb : h.bit i ≠ b) : h.put i b = hdOf (h.val ^^^ 2 ^ (103 - i)) := by
  unfold Hd.put
  rw [bit_val ho hi] at hb
  rw [setB_other hb]
/-- The byte in which a bit is turned. -/
theorem byte_xor (v i k : Nat) (hk : k < 13) (hi : i < 104) : (v ^^^ 2 ^ (103 - i)) / 256 ^ (12 - k) % 256 = if k = i / 8 then (v / 256 ^ (12 - k) % 256) ^^^ 2 ^ (7 - i % 8) else v / 256 ^ (12 - k) % 256 := by
  rw [show (256 : Nat) ^ (12 - k) = 2 ^ (8 * (12 - k)) by rw [Nat.pow_mul], show (256 : Nat) = 2 ^ 8 from rfl]
  refine Nat.eq_of_testBit_eq fun j => ?_
  rw [Nat.testBit_mod_two_pow, Nat.testBit_div_two_pow, Nat.testBit_xor, Nat.testBit_two_pow]
  split
  · rename_i e
    rw [Nat.testBit_xor, Nat.testBit_mod_two_pow, Nat.testBit_div_two_pow, Nat.testBit_two_pow]
    by_cases hj : j < 8
    · simp only [hj, decide_true, Bool.true_and]
      congr 1
      rw [decide_eq_decide]
      omega
    · simp only [hj, decide_false, Bool.false_and]
      rw [show decide (7 - i % 8 = j) = false from decide_eq_false (by omega)]
      rfl
  · rename_i e
    rw [Nat.testBit_mod_two_pow, Nat.testBit_div_two_pow]
    by_cases hj : j < 8
    · simp only [hj, decide_true, Bool.true_and]
      rw [show decide (103 - i = j + 8 * (12 - k)) = false from decide_eq_false (by omega)]
      simp
    · simp only [hj, decide_false, Bool.false_and]
theorem xor_lt {v i : Nat} (h : v < hdAll) (hi : i < 104) : v ^^^ 2 ^ (103 - i) < hdAll := by
  rw [hdAll_pow] at *
  exact Nat.xor_lt_two_pow h (Nat.pow_lt_pow_right (by decide) (by omega))
/-- The bytes of a header of which a bit is turned. -/
theorem bytes_xor {h : Hd} (ho : h.ok) {i : Nat} (hi : i < 104) {x : Nat} (hx : h.bytes[i / 8]? = some (x : Int)) : (hdOf (h.val ^^^ 2 ^ (103 - i))).bytes = h.bytes.set (i / 8) ((x ^^^ 2 ^ (7 - i % 8) : Nat) : Int) := by
  have hl := xor_lt (val_lt ho) hi
  refine List.ext_getElem? fun k => ?_
  by_cases hk : k < 13
  · rw [bytes_val (hdOf_ok hl) hk, val_hdOf hl, byte_xor _ _ _ hk hi, List.getElem?_set]
    split
    · rename_i e
      subst e
      rw [bytes_val ho (by omega)] at hx
      rw [if_pos rfl, if_pos (show i / 8 < h.bytes.length from by show i / 8 < 13; omega)]
      have hx' : h.val / 256 ^ (12 - i / 8) % 256 = x := by injection hx with hx; omega
      rw [hx']
    · rename_i e
      rw [if_neg (fun h => e h.symm), bytes_val ho hk]
  · rw [List.getElem?_eq_none (by show 13 ≤ k; omega), List.getElem?_eq_none (by rw [List.length_set]; show 13 ≤ k; omega)]
/-- The header of bytes. -/
def ofB (l : List Int) : Hd := ⟨((l.getD 0 0 * 256 + l.getD 1 0) * 256 + l.getD 2 0) * 256 + l.getD 3 0, ((l.getD 4 0 * 256 + l.getD 5 0) * 256 + l.getD 6 0) * 256 + l.getD 7 0, l.getD 8 0, l.getD 9 0 * 256 + l.getD 10 0, l.getD 11 0 * 256 + l.getD 12 0⟩
theorem ofB_bytes {h : Hd} (ho : h.ok) : ofB h.bytes = h := by
  obtain ⟨s0, s1, d0, d1, p0, p1, a0, a1, b0, b1⟩ := ho
  apply hd_ext <;> simp only [ofB, Hd.bytes, List.getD, List.getElem?_cons_zero, List.getElem?_cons_succ, Option.getD_some] <;> omega
theorem ofB_ok {b0 b1 b2 b3 b4 b5 b6 b7 b8 b9 b10 b11 b12 : Int} (h : ∀ x ∈ [b0, b1, b2, b3, b4, b5, b6, b7, b8, b9, b10, b11, b12], 0 ≤ x ∧ x < 256) : (ofB [b0, b1, b2, b3, b4, b5, b6, b7, b8, b9, b10, b11, b12]).ok := by
  simp only [List.mem_cons, List.mem_nil_iff, or_false, forall_eq_or_imp, forall_eq] at h
  refine ⟨?_, ?_, ?_, ?_, ?_, ?_, ?_, ?_, ?_, ?_⟩ <;> simp only [ofB, List.getD, List.getElem?_cons_zero, List.getElem?_cons_succ, Option.getD_some] <;> omega
theorem bytes_ofB {b0 b1 b2 b3 b4 b5 b6 b7 b8 b9 b10 b11 b12 : Int} (h : ∀ x ∈ [b0, b1, b2, b3, b4, b5, b6, b7, b8, b9, b10, b11, b12], 0 ≤ x ∧ x < 256) : (ofB [b0, b1, b2, b3, b4, b5, b6, b7, b8, b9, b10, b11, b12]).bytes = [b0, b1, b2, b3, b4, b5, b6, b7, b8, b9, b10, b11, b12] := by
  simp only [List.mem_cons, List.mem_nil_iff, or_false, forall_eq_or_imp, forall_eq] at h
  simp only [Hd.bytes, ofB, List.getD, List.getElem?_cons_zero, List.getElem?_cons_succ, Option.getD_some, List.cons.injEq, and_true]
  refine ⟨?_, ?_, ?_, ?_, ?_, ?_, ?_, ?_, ?_, ?_, ?_, ?_, ?_⟩ <;> first | trivial | omega
/-- The order of numbers. -/
def cmpN (a b : Nat) : Int := if a < b then -1 else if b < a then 1 else 0
/-- The order of lists of numbers, byte for byte. -/
def cmpL : List Int → List Int → Int
  | x :: l, y :: r => if x < y then -1 else if y < x then 1 else cmpL l r
  | _, _ => 0
def valL (l : List Int) : Int := l.foldl (fun a b => a * 256 + b) 0
theorem foldl_val : ∀ (l : List Int) (a : Int), l.foldl (fun a b => a * 256 + b) a = a * 256 ^ l.length + valL l
  | [], a => by simp [valL]
  | x :: l, a => by
    have h1 := foldl_val l (a * 256 + x)
    have h2 := foldl_val l (0 * 256 + x)
    have h3 : valL (x :: l) = (0 * 256 + x) * 256 ^ l.length + valL l := h2
    rw [List.foldl_cons, h1, h3, List.length_cons, Int.pow_succ, Int.add_mul, Int.add_mul, Int.mul_assoc, Int.mul_comm 256]
    simp [Int.add_assoc]
theorem valL_cons (x : Int) (l : List Int) : valL (x :: l) = x * 256 ^ l.length + valL l := by
  rw [valL, List.foldl_cons, foldl_val]; simp
theorem valL_range : ∀ (l : List Int), (∀ x ∈ l, 0 ≤ x ∧ x < 256) → 0 ≤ valL l ∧ valL l < 256 ^ l.length
  | [], _ => by simp [valL]
  | x :: l, h => by
    have h1 := valL_range l (fun y hy => h y (List.mem_cons_of_mem _ hy))
    have hx := h x (List.mem_cons_self ..)
    rw [valL_cons, List.length_cons, Int.pow_succ]
    have h0 : (0 : Int) ≤ x * 256 ^ l.length := Int.mul_nonneg hx.1 (by omega)
    have h2 : x * 256 ^ l.length ≤ 255 * 256 ^ l.length := Int.mul_le_mul_of_nonneg_right (by omega) (by omega)
    omega
theorem cmpL_val : ∀ (l r : List Int), l.length = r.length → (∀ x ∈ l, 0 ≤ x ∧ x < 256) → (∀ x ∈ r, 0 ≤ x ∧ x < 256) → cmpL l r = if valL l < valL r then -1 else if valL r < valL l then 1 else 0
  | [], [], _, _, _ => by simp [cmpL, valL]
  | [], _ :: _, h, _, _ => by simp at h
  | _ :: _, [], h, _, _ => by simp at h
  | x :: l, y :: r, h, hl, hr => by
    have hlen : l.length = r.length := by simpa using h
    have hl' := fun z hz => hl z (List.mem_cons_of_mem x hz)
    have hr' := fun z hz => hr z (List.mem_cons_of_mem y hz)
    have ih := cmpL_val l r hlen hl' hr'
    have a := valL_range l hl'
    have b := valL_range r hr'
    rw [cmpL, valL_cons, valL_cons, ← hlen]
    rw [← hlen] at b
    generalize (256 : Int) ^ l.length = P at *
    have hP : 0 < P := by omega
    by_cases h1 : x < y
    · have h2 : (x + 1) * P ≤ y * P := Int.mul_le_mul_of_nonneg_right (by omega) (by omega)
      rw [Int.add_mul] at h2
      rw [if_pos h1, if_pos (by omega)]
    · by_cases h2 : y < x
      · have h3 : (y + 1) * P ≤ x * P := Int.mul_le_mul_of_nonneg_right (by omega) (by omega)
        rw [Int.add_mul] at h3
        rw [if_neg h1, if_pos h2, if_neg (by omega), if_pos (by omega)]
      · have e : x = y := by omega
        subst e
        rw [if_neg h1, if_neg h2, ih]
        generalize x * P = Q
        by_cases h3 : valL l < valL r
        · rw [if_pos h3, if_pos (show Q + valL l < Q + valL r by omega)]
        · rw [if_neg h3, if_neg (show ¬ Q + valL l < Q + valL r by omega)]
          by_cases h4 : valL r < valL l
          · rw [if_pos h4, if_pos (show Q + valL r < Q + valL l by omega)]
          · rw [if_neg h4, if_neg (show ¬ Q + valL r < Q + valL l by omega)]
theorem valL_bytes {h : Hd} (ho : h.ok) : valL h.bytes = h.val := by
  obtain ⟨s0, s1, d0, d1, p0, p1, a0, a1, b0, b1⟩ := ho
  unfold valL Hd.bytes Hd.val
  simp only [List.foldl_cons, List.foldl_nil]
  omega
theorem cmpL_bytes {a b : Hd} (ha : a.ok) (hb : b.ok) : cmpL a.bytes b.bytes = cmpN a.val b.val := by
  have h := cmpL_val a.bytes b.bytes rfl (bytes_range a ha) (bytes_range b hb)
  rw [valL_bytes ha, valL_bytes hb] at h
  rw [h]
  unfold cmpN
  by_cases h1 : a.val < b.val
  · rw [if_pos h1, if_pos (show (a.val : Int) < b.val by omega)]
  · rw [if_neg h1, if_neg (show ¬ (a.val : Int) < b.val by omega)]
    by_cases h2 : b.val < a.val
    · rw [if_pos h2, if_pos (show (b.val : Int) < a.val by omega)]
    · rw [if_neg h2, if_neg (show ¬ (b.val : Int) < a.val by omega)]
/-- A header whose first bits are another's. -/
def Hd.mix (a c : Hd) (i : Nat) : Hd := hdOf (a.val / 2 ^ (104 - i) * 2 ^ (104 - i) + c.val % 2 ^ (104 - i))
theorem mix_aux (A C P Q : Nat) (hA : A < Q * P) (hP : 0 < P) : A / P * P + C % P < Q * P := by
  have h1 : C % P < P := Nat.mod_lt _ hP
  have h2 : A / P + 1 ≤ Q := (Nat.div_lt_iff_lt_mul hP).2 hA
  have h3 := Nat.mul_le_mul_right P h2
  rw [Nat.add_mul, Nat.one_mul] at h3
  omega
theorem pow_split {i : Nat} (hi : i ≤ 104) : hdAll = 2 ^ i * 2 ^ (104 - i) := by
  rw [hdAll_pow, ← Nat.pow_add]
  congr 1
  omega
theorem mix_lt {a c : Hd} (ha : a.ok) {i : Nat} (hi : i ≤ 104) : a.val / 2 ^ (104 - i) * 2 ^ (104 - i) + c.val % 2 ^ (104 - i) < hdAll := by
  have h := val_lt ha
  rw [pow_split hi] at *
  exact mix_aux _ _ _ _ h (Nat.two_pow_pos _)
theorem mix_ok {a c : Hd} (ha : a.ok) {i : Nat} (hi : i ≤ 104) : (a.mix c i).ok := hdOf_ok (mix_lt ha hi)
theorem mix_aux2 (A C p k : Nat) : (A / 2 ^ p * 2 ^ p + C % 2 ^ p).testBit k = if k < p then C.testBit k else A.testBit k := by
  have h1 : C % 2 ^ p < 2 ^ p := Nat.mod_lt _ (Nat.two_pow_pos _)
  have h2 := Nat.testBit_two_pow_mul_add (A / 2 ^ p) h1 k
  rw [Nat.mul_comm (A / 2 ^ p), h2]
  by_cases h : k < p
  · rw [if_pos h, if_pos h, Nat.testBit_mod_two_pow, decide_eq_true h, Bool.true_and]
  · rw [if_neg h, if_neg h, Nat.testBit_div_two_pow, Nat.sub_add_cancel (by omega)]
theorem mix_val {a c : Hd} (ha : a.ok) {i : Nat} (hi : i ≤ 104) : (a.mix c i).val = a.val / 2 ^ (104 - i) * 2 ^ (104 - i) + c.val % 2 ^ (104 - i) := val_hdOf (mix_lt ha hi)
theorem mix_bit {a c : Hd} (ha : a.ok) (hc : c.ok) {i j : Nat} (hi : i ≤ 104) (hj : j < 104) : (a.mix c i).bit j = if j < i then a.bit j else c.bit j := by
  have h1 := bit_val (mix_ok (c := c) ha hi) hj
  have h2 := bit_val ha hj
  have h3 := bit_val hc hj
  rw [mix_val ha hi, mix_aux2] at h1
  rw [h1, h2, h3]
  by_cases h : j < i
  · rw [if_pos h, if_neg (show ¬ 103 - j < 104 - i by omega)]
  · rw [if_neg h, if_pos (show 103 - j < 104 - i by omega)]
theorem mix_zero {a c : Hd} (ha : a.ok) (hc : c.ok) : a.mix c 0 = c := hd_bits (mix_ok ha (by omega)) hc fun j hj => by rw [mix_bit ha hc (by omega) hj, if_neg (by omega)]
theorem mix_full {a c : Hd} (ha : a.ok) (hc : c.ok) : a.mix c 104 = a := hd_bits (mix_ok ha (by omega)) ha fun j hj => by rw [mix_bit ha hc (by omega) hj, if_pos (by omega)]
theorem mix_put {a c : Hd} (ha : a.ok) (hc : c.ok) {i : Nat} (hi : i < 104) : (a.mix c i).put i (a.bit i) = a.mix c (i + 1) := hd_bits (put_ok (mix_ok ha (by omega)) hi) (mix_ok ha (by omega)) fun j hj => by
  rw [put_bit (mix_ok ha (by omega)) hi hj, mix_bit ha hc (by omega) hj, mix_bit ha hc (by omega) hj]
  by_cases h : j = i
  · subst h; rw [if_pos rfl, if_pos (by omega)]
  · rw [if_neg h]
    by_cases h2 : j < i
    · rw [if_pos h2, if_pos (by omega)]
    · rw [if_neg h2, if_neg (by omega)]
theorem mix_at {a c : Hd} (ha : a.ok) (hc : c.ok) {i : Nat} (hi : i < 104) : (a.mix c i).bit i = c.bit i := by
  rw [mix_bit ha hc (by omega) hi, if_neg (by omega)]
theorem cmpN_lt {a b : Nat} (h : a < b) : cmpN a b = -1 := by unfold cmpN; rw [if_pos h]
theorem cmpN_gt {a b : Nat} (h : b < a) : cmpN a b = 1 := by unfold cmpN; rw [if_neg (by omega), if_pos h]
theorem cmpN_eq (a : Nat) : cmpN a a = 0 := by unfold cmpN; rw [if_neg (by omega), if_neg (by omega)]
theorem cmpN_zero {a b : Nat} : cmpN a b = 0 ↔ a = b := by
  unfold cmpN; split
  · constructor
    · intro h; omega
    · intro h; omega
  · split
    · constructor
      · intro h; omega
      · intro h; omega
    · constructor
      · intro _; omega
      · intro _; rfl
theorem cmpN_neg (a b : Nat) : cmpN a b = - cmpN b a := by
  unfold cmpN
  by_cases h1 : a < b
  · rw [if_pos h1, if_neg (by omega), if_pos h1]
  · by_cases h2 : b < a
    · rw [if_neg h1, if_pos h2, if_pos h2]; rfl
    · rw [if_neg h1, if_neg h2, if_neg h2, if_neg h1]; rfl
theorem cmpN_le {a b : Nat} : cmpN a b ≤ 0 ↔ a ≤ b := by
  unfold cmpN
  by_cases h1 : a < b
  · rw [if_pos h1]; constructor <;> intro <;> omega
  · by_cases h2 : b < a
    · rw [if_neg h1, if_pos h2]; constructor <;> intro <;> omega
    · rw [if_neg h1, if_neg h2]; constructor <;> intro <;> omega
theorem turn_bit (v k j : Nat) : (v ^^^ 2 ^ k).testBit j = if k = j then !v.testBit k else v.testBit j := by
  rw [Nat.testBit_xor, Nat.testBit_two_pow]
  by_cases h : k = j
  · subst h; rw [if_pos rfl, decide_eq_true rfl, Bool.xor_true]
  · rw [if_neg h, decide_eq_false h, Bool.xor_false]
/-- A bit that is turned moves the number as the bit says. -/
theorem turn_lt {v k : Nat} (h : v.testBit k = true) : v ^^^ 2 ^ k < v := by
  refine Nat.lt_of_le_of_ne (Nat.le_of_testBit fun j hj => ?_) (fun e => ?_)
  · rw [turn_bit] at hj
    split at hj
    · rw [h] at hj; cases hj
    · exact hj
  · have e2 := congrArg (fun x => x.testBit k) e
    simp only [turn_bit, if_pos, h] at e2
    cases e2
theorem turn_gt {v k : Nat} (h : v.testBit k = false) : v < v ^^^ 2 ^ k := by
  refine Nat.lt_of_le_of_ne (Nat.le_of_testBit fun j hj => ?_) (fun e => ?_)
  · rw [turn_bit]
    split
    · rename_i e; rw [h]; rfl
    · exact hj
  · have e2 := congrArg (fun x => x.testBit k) e
    simp only [turn_bit, if_pos, h] at e2
    cases e2
/-- A byte that is set anew. -/
theorem valL_set : ∀ (l : List Int) (i : Nat) (x y : Int), l[i]? = some x → valL (l.set i y) = valL l + (y - x) * 256 ^ (l.length - 1 - i)
  | [], i, x, y, h => by simp at h
  | a :: l, 0, x, y, h => by
    simp at h; subst h
    rw [List.set_cons_zero, valL_cons, valL_cons, List.length_cons, Nat.add_sub_cancel, Nat.sub_zero, Int.sub_mul]
    omega
  | a :: l, i + 1, x, y, h => by
    simp only [List.getElem?_cons_succ] at h
    rw [List.set_cons_succ, valL_cons, valL_cons, valL_set l i x y h, List.length_set, List.length_cons, show l.length + 1 - 1 - (i + 1) = l.length - 1 - i by omega]
    omega
theorem len13 {l : List Int} (h : l.length = 13) : ∃ b0 b1 b2 b3 b4 b5 b6 b7 b8 b9 b10 b11 b12, l = [b0, b1, b2, b3, b4, b5, b6, b7, b8, b9, b10, b11, b12] := by
  match l, h with
  | [b0, b1, b2, b3, b4, b5, b6, b7, b8, b9, b10, b11, b12], _ => exact ⟨_, _, _, _, _, _, _, _, _, _, _, _, _, rfl⟩
theorem ofB_val {l : List Int} (h : l.length = 13) (hr : ∀ x ∈ l, 0 ≤ x ∧ x < 256) : (ofB l).ok ∧ ((ofB l).val : Int) = valL l ∧ (ofB l).bytes = l := by
  obtain ⟨b0, b1, b2, b3, b4, b5, b6, b7, b8, b9, b10, b11, b12, rfl⟩ := len13 h
  have ho := ofB_ok hr
  exact ⟨ho, by rw [← valL_bytes ho, bytes_ofB hr], bytes_ofB hr⟩
theorem ofB_is {l : List Int} (h : l.length = 13) (hr : ∀ x ∈ l, 0 ≤ x ∧ x < 256) {n : Nat} (hn : valL l = n) : ofB l = hdOf n := by
  obtain ⟨ho, hv, _⟩ := ofB_val h hr
  rw [← hdOf_val ho]
  congr 1
  omega
end Go.Proofs.YtakkgamhceignaaDoor

/-
  What is written is read back, and no other text is read as it: plain laws; no program in sight.
-/
namespace Go.Proofs.YtakkgamhceignaaDoor
open Go Go.RowKit Go.Sort

theorem pieces_none {c : UInt8} : ∀ {l : List UInt8}, c ∉ l → pieces c l = [l]
  | [], _ => rfl
  | x :: r, h => by
    rw [pieces, if_neg (fun e => h (by simp [e])), pieces_none (fun hm => h (List.mem_cons_of_mem _ hm))]
    rfl
theorem pieces_cons {c : UInt8} : ∀ {l : List UInt8} (r : List UInt8), c ∉ l → pieces c (l ++ c :: r) = l :: pieces c r
  | [], r, _ => by simp [pieces]
  | x :: l, r, h => by
    rw [List.cons_append, pieces, if_neg (fun e => h (by simp [e])), pieces_cons r (fun hm => h (List.mem_cons_of_mem _ hm))]
    rfl
theorem not_dig {c : UInt8} {l : List UInt8} (hl : l.all isDig = true) (hc : isDig c = false) : c ∉ l := fun hm => by
  have := List.all_eq_true.1 hl c hm
  rw [hc] at this; cases this
theorem dot_dec (n : Nat) : (46 : UInt8) ∉ Lib.decDigits n := not_dig (decDigits_all n) (by decide)
theorem slash_dec (n : Nat) : (47 : UInt8) ∉ Lib.decDigits n := not_dig (decDigits_all n) (by decide)
theorem pieces_dec4 (a b c d : Nat) : pieces 46 (Lib.join [Lib.decDigits a, Lib.decDigits b, Lib.decDigits c, Lib.decDigits d] [46]) = [Lib.decDigits a, Lib.decDigits b, Lib.decDigits c, Lib.decDigits d] := by
  rw [join_four, pieces_cons _ (dot_dec a), pieces_cons _ (dot_dec b), pieces_cons _ (dot_dec c), pieces_none (dot_dec d)]
theorem octets (a : Nat) (h : a < 4294967296) : ((octet a 0 * 256 + octet a 1) * 256 + octet a 2) * 256 + octet a 3 = a := by
  unfold octet
  simp only [Nat.reduceSub, Nat.reducePow, Nat.pow_zero, Nat.div_one]
  omega
theorem parse_text (a : Nat) (h : a < 4294967296) : parseB (textA a).data.toList = some a := by
  show parseB (Lib.join [Lib.decDigits (octet a 0), Lib.decDigits (octet a 1), Lib.decDigits (octet a 2), Lib.decDigits (octet a 3)] [46]) = _
  unfold parseB
  rw [pieces_dec4]
  have r := fun k => (readB_some (l := Lib.decDigits (octet a k)) (m := 255)).2 ⟨rfl, by have := octet_lt a k; omega⟩
  simp only [r]
  rw [octets a h]
theorem join_pieces (c : UInt8) : ∀ (l : List UInt8), Lib.join (pieces c l) [c] = l
  | [] => by simp [pieces, Lib.join_one]
  | x :: r => by
    have ih := join_pieces c r
    cases hp : pieces c r with
    | nil => exact absurd hp (pieces_ne c r)
    | cons y ys =>
      rw [hp] at ih
      rw [pieces]
      split
      · rename_i hx
        subst hx
        rw [hp, Lib.join_cons, List.nil_append]
        rw [Lib.join_cons] at ih
        simp only [Lib.joinTail, List.map_cons, List.flatten_cons, List.append_assoc] at ih ⊢
        rw [ih]
        rfl
      · rw [hp]
        simp only [List.headD_cons, List.tail_cons]
        rw [Lib.join_cons] at ih ⊢
        rw [List.cons_append, ih]
theorem text_parse {l : List UInt8} {b : Nat} (h : parseB l = some b) : (textA b).data.toList = l := by
  unfold parseB at h
  split at h
  · rename_i p q r s hp
    split at h
    · rename_i a b' c d h1 h2 h3 h4
      injection h with h
      have e1 := readB_some.1 h1
      have e2 := readB_some.1 h2
      have e3 := readB_some.1 h3
      have e4 := readB_some.1 h4
      have o0 : octet b 0 = a := by unfold octet; simp only [Nat.reduceSub, Nat.reducePow]; omega
      have o1 : octet b 1 = b' := by unfold octet; simp only [Nat.reduceSub, Nat.reducePow]; omega
      have o2 : octet b 2 = c := by unfold octet; simp only [Nat.reduceSub, Nat.reducePow]; omega
      have o3 : octet b 3 = d := by unfold octet; simp only [Nat.reduceSub, Nat.pow_zero, Nat.div_one]; omega
      show Lib.join [Lib.decDigits (octet b 0), Lib.decDigits (octet b 1), Lib.decDigits (octet b 2), Lib.decDigits (octet b 3)] [46] = l
      rw [o0, o1, o2, o3, e1.1, e2.1, e3.1, e4.1, ← hp, join_pieces]
    · cases h
  · cases h
theorem slash_text (a : Nat) : (47 : UInt8) ∉ (textA a).data.toList := by
  show (47 : UInt8) ∉ Lib.join [Lib.decDigits (octet a 0), Lib.decDigits (octet a 1), Lib.decDigits (octet a 2), Lib.decDigits (octet a 3)] [46]
  rw [join_four]
  intro h
  simp only [List.mem_append, List.mem_cons] at h
  have h47 : (47 : UInt8) ≠ 46 := by decide
  rcases h with h | h | h | h | h | h | h
  · exact slash_dec _ h
  · exact h47 h
  · exact slash_dec _ h
  · exact h47 h
  · exact slash_dec _ h
  · exact h47 h
  · exact slash_dec _ h
theorem index_hit1 {c : UInt8} : ∀ {l : List UInt8} (r : List UInt8), c ∉ l → Lib.index (l ++ c :: r) [c] = l.length
  | [], r, _ => by rw [List.nil_append, index_one, if_pos rfl]; rfl
  | x :: l, r, h => by
    rw [List.cons_append, index_one, if_neg (fun e => h (by simp [e])), index_hit1 r (fun hm => h (List.mem_cons_of_mem _ hm)), if_neg (by omega)]
    simp
theorem cut_hit1 {c : UInt8} {l : List UInt8} (r : List UInt8) (h : c ∉ l) : Lib.cut (l ++ c :: r) [c] = (l, r, true) := by
  unfold Lib.cut
  rw [index_hit1 r h, if_pos (by omega)]
  simp
theorem cut_back {c : UInt8} {l x y : List UInt8} (h : Lib.cut l [c] = (x, y, true)) : l = x ++ c :: y := by
  unfold Lib.cut at h
  split at h
  · rename_i h0
    rcases Lib.index_spec l [c] with ⟨h1, _⟩ | ⟨i, h1, h2, h3, _⟩
    · omega
    · rw [h1] at h
      simp at h
      obtain ⟨rfl, rfl⟩ := h
      have h4 := Lib.occAt_head (c := c) (t := []) rfl h3
      have h5 : i < l.length := (List.getElem?_eq_some_iff.1 h4).1
      have h6 : l.drop i = c :: l.drop (i + 1) := by
        rw [List.drop_eq_getElem_cons h5]
        congr 1
        exact Option.some.inj ((List.getElem?_eq_getElem h5).symm.trans h4)
      rw [← h6, List.take_append_drop]
  · simp at h
theorem textP_list (a : Nat) (n : Nat) : (textP a n).data.toList = (textA a).data.toList ++ 47 :: Lib.decDigits n := by
  unfold textP
  have e : Lib.itoa (n : Int) = Lib.decDigits n := by unfold Lib.itoa; rw [if_neg (by omega), Int.toNat_natCast]
  rw [e]
  simp [ByteArray.data_append]
theorem prefix_text (a n : Nat) (h : a < 4294967296) (hn : n ≤ 32) : ppO (textP a n).data.toList = some (a, n) := by
  unfold ppO
  rw [textP_list, cut_hit1 _ (slash_text a), parse_text a h, (readB_some (m := 32)).2 ⟨rfl, hn⟩]
  rfl
theorem byte_ext {s t : ByteArray} (h : s.data.toList = t.data.toList) : s = t := by
  cases s; cases t
  congr 1
  exact Array.ext' h
theorem text_prefix {l : List UInt8} {a n : Nat} (h : ppO l = some (a, n)) : (textP a n).data.toList = l := by
  unfold ppO at h
  split at h
  · rename_i hc
    obtain ⟨x, hx, h⟩ := Option.bind_eq_some_iff.1 h
    obtain ⟨m, hm, h⟩ := Option.map_eq_some_iff.1 h
    injection h with h1 h2
    subst h1 h2
    have hcut : Lib.cut l [47] = ((Lib.cut l [47]).1, (Lib.cut l [47]).2.1, true) := by rw [← hc]
    rw [textP_list, text_parse hx, (readB_some.1 hm).1]
    exact (cut_back hcut).symm
  · cases h
theorem bits_mask (n : Int) (h0 : 0 ≤ n) (h1 : n ≤ 32) : bitsN (maskA n) = n ∧ bitsE (maskA n) = 0 := by
  have hl := mask_lz n h0 h1
  have h := bits_yes (m := maskA n) (by rw [hl])
  rw [hl] at h
  exact h
/-- How ParsePrefix ends, by cases. -/
theorem pp_cases (l : List UInt8) : (ppE l ≠ 0) ∨ (∃ a n : Nat, ppE l = 0 ∧ ppA l = a ∧ ppN l = n ∧ a < 4294967296 ∧ n ≤ 32 ∧ (textP a n).data.toList = l) := by
  cases h : ppO l with
  | none => left; rw [(pp_none h).1]; decide
  | some p =>
    obtain ⟨a, n⟩ := p
    by_cases hc : chk a n = 0
    · right
      have hy := pp_yes h hc
      have ht := text_prefix h
      unfold ppO at h
      split at h
      · obtain ⟨x, hx, h⟩ := Option.bind_eq_some_iff.1 h
        obtain ⟨m, hm, h⟩ := Option.map_eq_some_iff.1 h
        injection h with h1 h2
        subst h1 h2
        exact ⟨x, m, hy.1, hy.2.1, hy.2.2, parseB_lt hx, readB_le hm, ht⟩
      · cases h
    · left
      rw [(pp_no h hc).1]
      exact hc
theorem pa_cases (l : List UInt8) : (adE (parseB l) = 4 ∧ adV (parseB l) = 0) ∨ (∃ a : Nat, adE (parseB l) = 0 ∧ adV (parseB l) = a ∧ a < 4294967296 ∧ (textA a).data.toList = l) := by
  cases h : parseB l with
  | none => left; exact ⟨rfl, rfl⟩
  | some a => right; exact ⟨a, rfl, rfl, parseB_lt h, text_parse h⟩
end Go.Proofs.YtakkgamhceignaaDoor
