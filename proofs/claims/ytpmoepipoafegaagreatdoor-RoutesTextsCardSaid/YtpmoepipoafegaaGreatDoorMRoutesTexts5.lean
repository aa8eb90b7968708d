/-
  Joined texts: Addr9, InMath, CovMath, Ad6, Hd1, Hd2, Hd3, HdMath, BackMath, HdText, At3, FtText, Fu.
-/
import Derived.Test.YtpmoepipoafegaaGreatDoorMRoutesTexts4
import Derived.Deep.DeepCutAuto
import Derived.Deep.RegionHeld3
import Derived.StillTailTactics
import Derived.Lib.ParseIntBCases
import Derived.Test.YtpmoepipoafegaaGreatDoorMRoutesTexts1
import Derived.Lib.ItoaMem
import Derived.Lib.AppendIntMem
import Derived.Lib.Walk
import Derived.BigCall
import Derived.BigGuard
/-
  Walks over the addresses' layer: Common; the reference's.
-/
namespace Go.Proofs.YtpmoepipoafegaaGreatDoor
open Go Go.RowKit Go.Sort

theorem xor_zero (x y : Nat) : x = y ↔ x ^^^ y = 0 := by
  constructor
  · intro h; rw [h, Nat.xor_self]
  · intro h
    have : x ^^^ y ^^^ y = 0 ^^^ y := by rw [h]
    rwa [Nat.xor_assoc, Nat.xor_self, Nat.xor_zero, Nat.zero_xor] at this
theorem bitLen_up (x k : Nat) (hx : x < 2 ^ 64) (hk : k ≤ 64) (h : Lib.bitLen x ≤ k) : x < 2 ^ k := by
  induction k generalizing x with
  | zero =>
    rcases Nat.eq_zero_or_pos x with hz | hz
    · rw [hz]; decide
    · rw [Lib.bitLen_half x (by omega) hx] at h; omega
  | succ k ih =>
    rcases Nat.eq_zero_or_pos x with hz | hz
    · rw [hz]; exact Nat.two_pow_pos _
    · rw [Lib.bitLen_half x (by omega) hx] at h
      have := ih (x / 2) (by omega) (by omega) (by omega)
      rw [Nat.pow_succ]; omega
theorem sub_eq_iff (a b k : Int) (h0 : 0 ≤ a) (h1 : a < 4294967296) (h2 : 0 ≤ b) (h3 : b < 4294967296) (hk0 : 0 ≤ k) (hk : k ≤ 32) : a - a % sz k = b - b % sz k ↔ k ≤ lz32 (xorI a b) := by
  obtain ⟨a, rfl⟩ := Int.eq_ofNat_of_zero_le h0
  obtain ⟨b, rfl⟩ := Int.eq_ofNat_of_zero_le h2
  obtain ⟨k, rfl⟩ := Int.eq_ofNat_of_zero_le hk0
  have hp : 0 < 2 ^ (32 - k) := Nat.two_pow_pos _
  have e1 : sz ((k : Nat) : Int) = ((2 ^ (32 - k) : Nat) : Int) := by rw [sz_nat]; simp
  have hx : (a ^^^ b) < 2 ^ 32 := Nat.xor_lt_two_pow (by omega) (by omega)
  have s1 : (a - a % 2 ^ (32 - k) = b - b % 2 ^ (32 - k)) ↔ a / 2 ^ (32 - k) = b / 2 ^ (32 - k) := by
    have d1 := Nat.div_add_mod a (2 ^ (32 - k))
    have d2 := Nat.div_add_mod b (2 ^ (32 - k))
    constructor
    · intro h
      have : 2 ^ (32 - k) * (a / 2 ^ (32 - k)) = 2 ^ (32 - k) * (b / 2 ^ (32 - k)) := by omega
      exact Nat.eq_of_mul_eq_mul_left hp this
    · intro h
      have : 2 ^ (32 - k) * (a / 2 ^ (32 - k)) = 2 ^ (32 - k) * (b / 2 ^ (32 - k)) := by rw [h]
      omega
  have s2 : a / 2 ^ (32 - k) = b / 2 ^ (32 - k) ↔ (a ^^^ b) / 2 ^ (32 - k) = 0 := by
    rw [← Nat.shiftRight_eq_div_pow, ← Nat.shiftRight_eq_div_pow, ← Nat.shiftRight_eq_div_pow, Nat.shiftRight_xor_distrib, xor_zero]
  have s3 : (a ^^^ b) / 2 ^ (32 - k) = 0 ↔ a ^^^ b < 2 ^ (32 - k) := by
    rw [Nat.div_eq_zero_iff]
    constructor
    · intro h; rcases h with h | h
      · omega
      · exact h
    · intro h; exact .inr h
  have s4 : a ^^^ b < 2 ^ (32 - k) ↔ Lib.bitLen (a ^^^ b) ≤ 32 - k := by
    constructor
    · intro h; exact Lib.bitLen_le _ _ (by omega) h
    · intro h
      exact bitLen_up _ _ (Nat.lt_of_lt_of_le hx (Nat.pow_le_pow_right (by omega) (by omega))) (by omega) h
  have hm1 := Nat.mod_le a (2 ^ (32 - k))
  have hm2 := Nat.mod_le b (2 ^ (32 - k))
  unfold lz32 xorI
  rw [e1, Int.toNat_natCast, Int.toNat_natCast, Int.toNat_natCast, ← Int.natCast_emod, ← Int.natCast_emod]
  constructor
  · intro h
    have := s4.1 (s3.1 (s2.1 (s1.1 (by omega))))
    omega
  · intro h
    have := s1.2 (s2.2 (s3.2 (s4.2 (by omega))))
    omega
theorem dvd_sz (n k : Int) (hk0 : 0 ≤ k) (hkn : k ≤ n) (hn : n ≤ 32) : sz n ∣ sz k := by
  refine ⟨p2 ((n - k).toNat), ?_⟩
  unfold sz p2
  rw [← Int.pow_add]; congr 1; omega
theorem chk_sub (a k : Int) (hk0 : 0 ≤ k) (hk : k ≤ 32) : chk (subA a k) k = 0 := by
  refine chk_zero _ _ hk0 hk ?_
  rw [(sub_yes a hk0 hk).1, Int.sub_emod, Int.emod_emod_of_dvd _ (Int.dvd_refl _)]
  simp
/-- A prefix is in the subnet of so many bits of an address just if it has as many bits, and begins in it. -/
theorem within_sub (a b n k : Int) (h0 : 0 ≤ a) (h1 : a < 4294967296) (h2 : 0 ≤ b) (h3 : b < 4294967296) (hk0 : 0 ≤ k) (hk : k ≤ 32) (hc : chk b n = 0) :
    withinB b n (subA a k) k = decide (k ≤ n ∧ k ≤ lz32 (xorI a b)) := by
  have hp := sz_pos k
  have hi : inB b (subA a k) k = decide (k ≤ lz32 (xorI a b)) := by
    unfold inB
    rw [decide_eq_decide, ← sub_eq_iff a b k h0 h1 h2 h3 hk0 hk, (sub_yes a hk0 hk).1]
    obtain ⟨m1, m2, m3, m4, m5⟩ := mod_le a k h0
    obtain ⟨l1, l2, l3, l4, l5⟩ := mod_le b k h2
    constructor
    · intro ⟨_, h4, h5⟩
      have t1 : sz k * (a / sz k) ≤ b := by rw [Int.mul_comm]; omega
      have t2 : b < sz k * (a / sz k + 1) := by rw [Int.mul_add, Int.mul_comm]; omega
      have t3 : b / sz k = a / sz k := by
        have u1 : a / sz k ≤ b / sz k := Int.le_ediv_of_mul_le (by omega) (by rw [Int.mul_comm]; exact t1)
        have u2 : b / sz k < a / sz k + 1 := Int.ediv_lt_of_lt_mul (by omega) (by rw [Int.mul_comm]; exact t2)
        omega
      rw [← m4, ← l4, t3]
    · intro h
      have h6 := chk_sub a k hk0 hk
      rw [(sub_yes a hk0 hk).1] at h6
      exact ⟨h6, by omega, by omega⟩
  unfold withinB
  rw [hi, hc]
  simp
theorem xor_comm' (a b : Int) : xorI a b = xorI b a := by unfold xorI; rw [Nat.xor_comm]
theorem lz_self (a : Int) : lz32 (xorI a a) = 32 := by unfold xorI; rw [Nat.xor_self]; decide
/-- The search from above finds what the program reckons. -/
theorem com_hit (a n b m : Int) (k : Nat) (h0 : 0 ≤ a) (h1 : a < 4294967296) (h2 : 0 ≤ b) (h3 : b < 4294967296) (hk : k ≤ 32) (hc : chk a n = 0) (hc' : chk b m = 0) :
    (withinB a n (subA a k) k && withinB b m (subA a k) k) = decide ((k : Int) ≤ comN a n b m) := by
  obtain ⟨hn0, hn1, _⟩ := chk_ok hc
  obtain ⟨hm0, hm1, _⟩ := chk_ok hc'
  rw [within_sub a a n k h0 h1 h0 h1 (by omega) (by omega) hc, within_sub a b m k h0 h1 h2 h3 (by omega) (by omega) hc', lz_self]
  unfold comN
  rw [Bool.eq_iff_iff]
  simp only [Bool.and_eq_true, decide_eq_true_eq]
  split <;> split <;> omega
theorem sub_zero (a : Int) (h0 : 0 ≤ a) (h1 : a < 4294967296) : subA a 0 = 0 := by
  rw [(sub_yes a (n := 0) (by omega) (by omega)).1]
  have : sz 0 = 4294967296 := rfl
  rw [this]
  omega

end Go.Proofs.YtpmoepipoafegaaGreatDoor

/-
  Prefixes inside one another: plain laws; no program in sight.
-/
namespace Go.Proofs.YtpmoepipoafegaaGreatDoor
open Go Go.RowKit Go.Sort

/-- An address down to a multiple. -/
theorem floor_floor (x s t : Int) (hs : 0 < s) (ht : 0 < t) (h : s ∣ t) : (x - x % s) - (x - x % s) % t = x - x % t := by
  have e1 : x % t % s = x % s := Int.emod_emod_of_dvd x h
  have a1 := Int.emod_nonneg x (show t ≠ 0 by omega)
  have a2 := Int.emod_lt_of_pos x ht
  have b1 := Int.emod_nonneg x (show s ≠ 0 by omega)
  have b3 : x % s ≤ x % t := by
    have := Int.mul_ediv_add_emod (x % t) s
    have h0 : 0 ≤ x % t / s := Int.ediv_nonneg a1 (by omega)
    have h1 := Int.mul_nonneg (show 0 ≤ s by omega) h0
    rw [e1] at this
    omega
  have e2 := Int.mul_ediv_add_emod x t
  have e3 : (x - x % s) % t = x % t - x % s := by
    have : x - x % s = (x % t - x % s) + t * (x / t) := by omega
    rw [this, Int.add_mul_emod_self_left, Int.emod_eq_of_lt (by omega) (by omega)]
  rw [e3]; omega
/-- In a prefix: the address's first bits are the prefix's. -/
theorem in_iff {x a n : Int} (h : chk a n = 0) : inB x a n = true ↔ x - x % sz n = a := by
  obtain ⟨_, _, hm⟩ := chk_ok h
  have hp := sz_pos n
  unfold inB
  simp only [decide_eq_true_eq, h, true_and]
  have e := Int.mul_ediv_add_emod a (sz n)
  constructor
  · intro ⟨h1, h2⟩
    have : x = (x - a) + sz n * (a / sz n) := by omega
    have hx : x % sz n = x - a := by
      rw [this, Int.add_mul_emod_self_left, Int.emod_eq_of_lt (by omega) (by omega)]
      omega
    omega
  · intro h1
    have := Int.emod_nonneg x (show sz n ≠ 0 by omega)
    have := Int.emod_lt_of_pos x (show 0 < sz n by omega)
    omega
theorem within_iff {a n b m : Int} (ha : chk a n = 0) (hb : chk b m = 0) : withinB a n b m = true ↔ m ≤ n ∧ a - a % sz m = b := by
  unfold withinB
  rw [Bool.and_eq_true, in_iff hb]
  simp [ha]
theorem floor_self {a n : Int} (h : chk a n = 0) : a - a % sz n = a := by have := (chk_ok h).2.2; omega
theorem floor_two (x : Int) {n m : Int} (hm : 0 ≤ m) (hmn : m ≤ n) (hn : n ≤ 32) : (x - x % sz n) - (x - x % sz n) % sz m = x - x % sz m :=
  floor_floor x _ _ (by have := sz_pos n; omega) (by have := sz_pos m; omega) (dvd_sz n m hm hmn hn)
section
variable {a n b m c o x : Int} (hp : chk a n = 0) (hq : chk b m = 0) (hr : chk c o = 0)
include hp
theorem inside_self : withinB a n a n = true := (within_iff hp hp).2 ⟨Int.le_refl _, floor_self hp⟩
include hq
theorem inside_same : (withinB a n b m && withinB b m a n) = decide (a = b ∧ n = m) := by
  rw [Bool.eq_iff_iff, Bool.and_eq_true, within_iff hp hq, within_iff hq hp, decide_eq_true_eq]
  constructor
  · intro ⟨⟨h1, h2⟩, h3, h4⟩
    obtain rfl : n = m := by omega
    exact ⟨by rw [← h2, floor_self hp], rfl⟩
  · rintro ⟨rfl, rfl⟩
    exact ⟨⟨Int.le_refl _, floor_self hp⟩, Int.le_refl _, floor_self hp⟩
include hr in
theorem inside_trans (h1 : withinB a n b m = true) (h2 : withinB b m c o = true) : withinB a n c o = true := by
  rw [within_iff hp hq] at h1
  rw [within_iff hq hr] at h2
  rw [within_iff hp hr]
  refine ⟨by omega, ?_⟩
  rw [← floor_two a (chk_ok hr).1 h2.1 (chk_ok hq).2.1, h1.2, h2.2]
theorem inside_ends : withinB a n b m = (inB a b m && inB (a + sz n - 1) b m) := by
  have hl : inB (a + sz n - 1) a n = true := by unfold inB; have := sz_pos n; simp [hp]; omega
  rw [Bool.eq_iff_iff, Bool.and_eq_true, within_iff hp hq, in_iff hq, in_iff hq]
  constructor
  · intro ⟨h1, h2⟩
    refine ⟨h2, ?_⟩
    rw [← floor_two _ (chk_ok hq).1 h1 (chk_ok hp).2.1, (in_iff hp).1 hl, h2]
  · intro ⟨h1, h2⟩
    refine ⟨?_, h1⟩
    rcases (show n < m ∨ m ≤ n by omega) with h | h
    · exfalso
      have h3 := (in_iff hq).2 h1
      have h4 := (in_iff hq).2 h2
      unfold inB at h3 h4
      simp only [decide_eq_true_eq] at h3 h4
      have e : sz n = 2 * sz (n + 1) := by
        unfold sz
        rw [← p2_succ]
        have := (chk_ok hq).2.1
        have := (chk_ok hp).1
        congr 1; omega
      have := sz_pos m
      have hd3 := Int.le_of_dvd (by have := sz_pos (n+1); omega) (dvd_sz m (n + 1) (by have := (chk_ok hp).1; omega) (by omega) (chk_ok hq).2.1)
      omega
    · exact h
theorem inside_meet (h1 : inB x a n = true) (h2 : inB x b m = true) : withinB a n b m = true ∨ withinB b m a n = true := by
  rw [in_iff hp] at h1
  rw [in_iff hq] at h2
  rw [within_iff hp hq, within_iff hq hp]
  rcases Int.le_total m n with h | h
  · left
    exact ⟨h, by rw [← h1, floor_two x (chk_ok hq).1 h (chk_ok hp).2.1, h2]⟩
  · right
    exact ⟨h, by rw [← h2, floor_two x (chk_ok hp).1 h (chk_ok hq).2.1, h1]⟩
omit hq in
theorem inside_between : inB x a n = (decide (a ≤ x) && decide (x ≤ a + sz n - 1)) := by
  unfold inB
  rw [Bool.eq_iff_iff, Bool.and_eq_true, decide_eq_true_eq, decide_eq_true_eq, decide_eq_true_eq]
  constructor
  · intro ⟨_, _, _⟩; omega
  · intro ⟨_, _⟩; exact ⟨hp, by omega, by omega⟩
variable (h0 : 0 ≤ a) (h1 : a < 4294967296) (h2 : 0 ≤ b) (h3 : b < 4294967296)
include h0 h1 h2 h3
theorem common_ok : comE a n b m = 0 ∧ comA a n b m = subA a (comN a n b m) ∧ comB a n b m = comN a n b m ∧ 0 ≤ comN a n b m ∧ comN a n b m ≤ 32 ∧ comN a n b m ≤ n ∧ comN a n b m ≤ m ∧ comN a n b m ≤ lz32 (xorI a b) := by
  have he : comE a n b m = 0 := by unfold comE; rw [if_pos hp, hq]
  have hl := lz32_range (xorI a b) (xor_range a b h0 h1 h2 h3).2
  have hr := com_range n m (chk_ok hp).1 (chk_ok hp).2.1 (chk_ok hq).1 (chk_ok hq).2.1 hl
  refine ⟨he, (com_yes he).1, (com_yes he).2, hr.1, hr.2, ?_⟩
  unfold comN
  split <;> split <;> omega
theorem common_in : withinB a n (comA a n b m) (comB a n b m) = true ∧ withinB b m (comA a n b m) (comB a n b m) = true := by
  obtain ⟨_, e1, e2, k0, k1, k2, k3, k4⟩ := common_ok hp hq h0 h1 h2 h3
  rw [e1, e2]
  have hd := chk_sub a (comN a n b m) k0 k1
  rw [within_iff hp hd, within_iff hq hd]
  have := (sub_yes a k0 k1).1
  refine ⟨⟨k2, this.symm⟩, k3, ?_⟩
  rw [this]
  exact ((sub_eq_iff a b _ h0 h1 h2 h3 k0 k1).2 k4).symm
include hr in
theorem common_most (w1 : withinB a n c o = true) (w2 : withinB b m c o = true) : withinB (comA a n b m) (comB a n b m) c o = true := by
  obtain ⟨_, e1, e2, k0, k1, k2, k3, k4⟩ := common_ok hp hq h0 h1 h2 h3
  rw [within_iff hp hr] at w1
  rw [within_iff hq hr] at w2
  rw [e1, e2]
  have hd := chk_sub a (comN a n b m) k0 k1
  rw [within_iff hd hr, (sub_yes a k0 k1).1]
  have ho : o ≤ lz32 (xorI a b) := (sub_eq_iff a b o h0 h1 h2 h3 (chk_ok hr).1 (chk_ok hr).2.1).1 (w1.2.trans w2.2.symm)
  have hk : o ≤ comN a n b m := by unfold comN; split <;> split <;> omega
  exact ⟨hk, by rw [floor_two a (chk_ok hr).1 hk k1, w1.2]⟩
omit hq h0 h2 h3 in
theorem halves_ok (hn : n ≠ 32) : chk a (n + 1) = 0 ∧ chk (a + sz (n + 1)) (n + 1) = 0 ∧ a + sz (n + 1) < 4294967296 ∧ inB x a n = (inB x a (n + 1) != inB x (a + sz (n + 1)) (n + 1)) ∧ cmpP a (n + 1) (a + sz (n + 1)) (n + 1) = -1 ∧ withinB a (n + 1) a n = true ∧ withinB (a + sz (n + 1)) (n + 1) a n = true := by
  obtain ⟨g0, g1, g2⟩ := chk_ok hp
  obtain ⟨l1, l2⟩ := half_le a n h1 g0 (by omega) g2
  have hs := sz_pos (n + 1)
  have d : a % sz (n + 1) = 0 := by
    have := Int.emod_emod_of_dvd a (dvd_sz (n + 1) n g0 (by omega) (by omega))
    rw [g2] at this
    simpa using this.symm
  have c1 : chk a (n + 1) = 0 := chk_zero _ _ (by omega) (by omega) d
  have c2 : chk (a + sz (n + 1)) (n + 1) = 0 := chk_zero _ _ (by omega) (by omega) (by rw [Int.add_emod, d, Int.emod_self]; rfl)
  have i1 : inB a a n = true := by unfold inB; simp [hp]; omega
  have i2 : inB (a + sz (n + 1)) a n = true := by unfold inB; simp [hp]; omega
  refine ⟨c1, c2, l2, ?_, ?_, ?_, ?_⟩
  · unfold inB
    rw [hp, c1, c2]
    by_cases e1 : a ≤ x <;> by_cases e2 : x < a + sz (n + 1) <;> by_cases e3 : x < a + sz n <;> simp [e1, e2, e3] <;> omega
  · unfold cmpP
    rw [cmpI_lt (by omega)]
    rfl
  · unfold withinB; rw [i1, c1]; simp; omega
  · unfold withinB; rw [i2, c2]; simp; omega
end
end Go.Proofs.YtpmoepipoafegaaGreatDoor

/-
  The addresses between two, cut: as few prefixes as can be, each address in just one; plain laws, no program in sight.
-/
namespace Go.Proofs.YtpmoepipoafegaaGreatDoor
open Go Go.RowKit Go.Sort

theorem pick_max (a e : Int) : ∀ (k j : Nat), j ≤ k → a % p2 j = 0 → a + p2 j ≤ e → j ≤ pick a e k
  | 0, j, h, _, _ => by omega
  | k + 1, j, h, h1, h2 => by
    unfold pick
    split
    · exact h
    · rename_i hn
      rcases (show j = k + 1 ∨ j ≤ k by omega) with rfl | hj
      · exact absurd ⟨h1, h2⟩ hn
      · exact pick_max a e k j hj h1 h2
theorem sz_pick (k : Nat) (h : k ≤ 32) : sz (32 - (k : Int)) = p2 k := by unfold sz; congr 1; omega
theorem p2_dvd {j k : Nat} (h : j ≤ k) : p2 j ∣ p2 k := by
  refine ⟨p2 (k - j), ?_⟩
  unfold p2
  rw [← Int.pow_add]; congr 1; omega
theorem mod_up {a : Int} {j k : Nat} (h : j ≤ k) (ha : a % p2 k = 0) : a % p2 j = 0 := by
  have := Int.emod_emod_of_dvd a (p2_dvd h)
  rw [ha] at this
  simpa using this.symm
theorem mod_add {a : Int} {k : Nat} (ha : a % p2 k = 0) : (a + p2 k) % p2 k = 0 := by rw [Int.add_emod, ha, Int.emod_self]; rfl
/-- Two multiples together: the next one. -/
theorem mod_next {a : Int} {k : Nat} (ha : a % p2 k = 0) (h : ¬ a % p2 (k + 1) = 0) : (a + p2 k) % p2 (k + 1) = 0 := by
  have hp := p2_pos k
  have hs := p2_succ k
  have e := Int.emod_emod_of_dvd a (p2_dvd (Nat.le_succ k))
  rw [ha] at e
  have b1 := Int.emod_nonneg a (show p2 (k + 1) ≠ 0 by omega)
  have b2 := Int.emod_lt_of_pos a (show 0 < p2 (k + 1) by omega)
  have b3 : a % p2 (k + 1) = p2 k := by
    have e2 := Int.mul_ediv_add_emod (a % p2 (k + 1)) (p2 k)
    rw [e] at e2
    have q0 : a % p2 (k + 1) / p2 k < 2 := Int.ediv_lt_of_lt_mul (by omega) (by omega)
    have q1 : 0 ≤ a % p2 (k + 1) / p2 k := Int.ediv_nonneg b1 (by omega)
    rcases (show a % p2 (k + 1) / p2 k = 0 ∨ a % p2 (k + 1) / p2 k = 1 by omega) with h0 | h0
    · rw [h0] at e2; omega
    · rw [h0] at e2; omega
  have e4 : p2 k % p2 (k + 1) = p2 k := Int.emod_eq_of_lt (by omega) (by omega)
  rw [Int.add_emod, b3, e4, show p2 k + p2 k = p2 (k + 1) by omega, Int.emod_self]
/-- Behind the turn the pieces grow smaller. -/
theorem cut_down (e : Int) : ∀ (j f : Nat) (a : Int), j ≤ 32 → a % p2 j = 0 → e - a < p2 j → (cutL e f a).length ≤ j
  | j, 0, a, _, _, _ => by unfold cutL; simp
  | j, f + 1, a, hj, ha, he => by
    by_cases h : e ≤ a
    · rw [cutL_done e a (f + 1) h]; simp
    · rw [cutL_step e a f (by omega), List.length_cons]
      obtain ⟨o1, o2⟩ := pick_ok a e 32 (by omega)
      have hk : pick a e 32 < j := by
        rcases (show pick a e 32 < j ∨ j ≤ pick a e 32 by omega) with h1 | h1
        · exact h1
        · have := p2_mono h1; omega
      have hm := fun h1 h2 => pick_max a e 32 (pick a e 32 + 1) (by omega) h1 h2
      have h1 : a % p2 (pick a e 32 + 1) = 0 := mod_up (by omega) ha
      have h2 : ¬ a + p2 (pick a e 32 + 1) ≤ e := fun h2 => by have := hm h1 h2; omega
      have hs := p2_succ (pick a e 32)
      have := cut_down e (pick a e 32) f (a + p2 (pick a e 32)) (by omega) (mod_add o1) (by omega)
      omega
/-- Ahead of it they grow. -/
theorem cut_up (e : Int) (he : e ≤ 4294967296) : ∀ (f j : Nat) (a : Int), j ≤ 31 → 0 < a → a % p2 j = 0 → (cutL e f a).length ≤ 62 - j
  | 0, j, a, _, _, _ => by unfold cutL; simp
  | f + 1, j, a, hj, h0, ha => by
    by_cases h : e ≤ a
    · rw [cutL_done e a (f + 1) h]; simp
    · by_cases hfit : a + p2 j ≤ e
      · rw [cutL_step e a f (by omega), List.length_cons]
        obtain ⟨o1, o2⟩ := pick_ok a e 32 (by omega)
        have hjk := pick_max a e 32 j (by omega) ha hfit
        have hle := pick_le a e 32
        generalize hk : pick a e 32 = k at *
        have hs := p2_succ k
        have hge : p2 k ≤ a := Int.le_of_dvd h0 (Int.dvd_of_emod_eq_zero o1)
        have hk31 : k ≤ 31 := by
          rcases (show k ≤ 31 ∨ k = 32 by omega) with h1 | rfl
          · exact h1
          · rw [p2_32] at hge; omega
        by_cases h31 : k = 31
        · subst h31
          have e31 : p2 31 = 2147483648 := by decide
          rw [cutL_done e _ f (by omega)]
          simp; omega
        · by_cases hal : a % p2 (k + 1) = 0
          · have h2 : ¬ a + p2 (k + 1) ≤ e := fun h2 => by have := pick_max a e 32 (k + 1) (by omega) hal h2; omega
            have := cut_down e k f (a + p2 k) (by omega) (mod_add o1) (by omega)
            omega
          · have := cut_up e he f (k + 1) (a + p2 k) (by omega) (by have := p2_pos k; omega) (mod_next o1 hal)
            omega
      · have := cut_down e j (f + 1) a (by omega) ha (by omega)
        omega
theorem cut_most (e : Int) (he : e ≤ 4294967296) (f : Nat) (a : Int) (h0 : 0 ≤ a) : (cutL e f a).length ≤ 62 := by
  rcases (show a = 0 ∨ 0 < a by omega) with rfl | h1
  · rcases (show e < 4294967296 ∨ e = 4294967296 by omega) with h2 | rfl
    · have := cut_down e 32 f 0 (by omega) (by simp) (by rw [p2_32]; omega)
      omega
    · cases f with
      | zero => unfold cutL; simp
      | succ f =>
        have hp : pick 0 4294967296 32 = 32 := pick_hit 0 4294967296 32 (by simp) (by rw [p2_32]; omega)
        rw [cutL_step _ _ f (by omega), hp, cutL_done _ _ f (by rw [p2_32]; omega)]
        simp
  · exact cut_up e he f 0 a (by omega) h1 (by rw [p2_zero]; omega)
/-- How many of the prefixes an address is in. -/
def cntIn (y : Int) (L : List (Int × Int)) : Nat := (L.filter fun p => inB y p.1 p.2).length
theorem chk_pick (a e : Int) (h : a < e) : chk a (32 - (pick a e 32 : Int)) = 0 := by
  have hk := pick_le a e 32
  exact chk_zero _ _ (by omega) (by omega) (by rw [sz_pick _ hk]; exact (pick_ok a e 32 h).1)
theorem cut_once (e y : Int) : ∀ (f : Nat) (a : Int), e - a ≤ f → cntIn y (cutL e f a) = if a ≤ y ∧ y < e then 1 else 0
  | 0, a, hf => by
    rw [cutL_done e a 0 (by omega), if_neg (by omega)]; rfl
  | f + 1, a, hf => by
    by_cases h : e ≤ a
    · rw [cutL_done e a (f + 1) h, if_neg (by omega)]; rfl
    · have hk := pick_le a e 32
      have hp := p2_pos (pick a e 32)
      have ho := (pick_ok a e 32 (by omega)).2
      have ih := cut_once e y f (a + p2 (pick a e 32)) (by omega)
      rw [cutL_step e a f (by omega)]
      unfold cntIn at ih ⊢
      rw [List.filter_cons]
      have hc := chk_pick a e (by omega)
      have hi : inB y a (32 - (pick a e 32 : Int)) = decide (a ≤ y ∧ y < a + p2 (pick a e 32)) := by
        unfold inB; rw [sz_pick _ hk, hc]; simp
      simp only [hi]
      by_cases h1 : a ≤ y ∧ y < a + p2 (pick a e 32)
      · rw [if_pos (by simpa using h1), List.length_cons, ih, if_neg (by omega), if_pos (by omega)]
      · rw [if_neg (by simpa using h1), ih]
        by_cases h2 : a + p2 (pick a e 32) ≤ y ∧ y < e
        · rw [if_pos h2, if_pos (by omega)]
        · rw [if_neg h2, if_neg (by omega)]
/-- What is between one piece and the next. -/
def Next (p q : Int × Int) : Prop := q.1 = p.1 + sz p.2 ∧ (p.2 = q.2 → ¬ p.1 % (2 * sz p.2) = 0)
def AllOk (e : Int) (p : Int × Int) : Prop := chk p.1 p.2 = 0 ∧ 0 ≤ p.1 ∧ p.1 + sz p.2 ≤ e
theorem cut_allOk (e : Int) : ∀ (f : Nat) (a : Int), 0 ≤ a → ∀ p, p ∈ cutL e f a → AllOk e p
  | 0, a, _, p, h => by unfold cutL at h; simp at h
  | f + 1, a, h0, p, h => by
    by_cases he : e ≤ a
    · rw [cutL_done e a (f + 1) he] at h; simp at h
    · rw [cutL_step e a f (by omega)] at h
      have hk := pick_le a e 32
      have hp := p2_pos (pick a e 32)
      rcases List.mem_cons.1 h with rfl | h
      · exact ⟨chk_pick a e (by omega), h0, by show a + sz (32 - (pick a e 32 : Int)) ≤ e; rw [sz_pick _ hk]; exact (pick_ok a e 32 (by omega)).2⟩
      · exact cut_allOk e f _ (by omega) p h
theorem cut_next (e : Int) (hE : e ≤ 4294967296) : ∀ (f : Nat) (a : Int) (k : Nat) (p q : Int × Int), 0 ≤ a → (cutL e f a)[k]? = some p → (cutL e f a)[k + 1]? = some q → Next p q
  | 0, a, k, p, q, _, h, _ => by unfold cutL at h; simp at h
  | f + 1, a, k, p, q, h0, h, h' => by
    by_cases he : e ≤ a
    · rw [cutL_done e a (f + 1) he] at h; simp at h
    · rw [cutL_step e a f (by omega)] at h h'
      cases k with
      | succ k => exact cut_next e hE f (a + p2 (pick a e 32)) k p q (by have := p2_pos (pick a e 32); omega) (by simpa using h) (by simpa using h')
      | zero =>
        simp at h h'
        subst h
        have hk := pick_le a e 32
        have hp := p2_pos (pick a e 32)
        have hok := pick_ok a e 32 (by omega)
        have hm := pick_max a e 32 (pick a e 32 + 1)
        cases f with
        | zero => unfold cutL at h'; simp at h'
        | succ f =>
          by_cases h2 : e ≤ a + p2 (pick a e 32)
          · rw [cutL_done e _ (f + 1) h2] at h'; simp at h'
          · rw [cutL_step e _ f (by omega)] at h'
            simp at h'
            subst h'
            refine ⟨by show a + p2 (pick a e 32) = _; rw [sz_pick _ hk], ?_⟩
            have hok2 := pick_ok (a + p2 (pick a e 32)) e 32 (by omega)
            show 32 - (pick a e 32 : Int) = 32 - (pick (a + p2 (pick a e 32)) e 32 : Int) → ¬ a % (2 * sz (32 - (pick a e 32 : Int))) = 0
            rw [sz_pick _ hk, ← p2_succ]
            intro e1 e2
            have e3 : pick (a + p2 (pick a e 32)) e 32 = pick a e 32 := by omega
            rw [e3] at hok2
            have hs := p2_succ (pick a e 32)
            rcases (show pick a e 32 ≤ 31 ∨ pick a e 32 = 32 by omega) with h3 | h3
            · have := hm (by omega) e2 (by omega)
              omega
            · rw [h3, p2_32] at h2
              omega
end Go.Proofs.YtpmoepipoafegaaGreatDoor

/-
  Walks over the addresses' laws: fit, same.
-/
namespace Go.Proofs.YtpmoepipoafegaaGreatDoor
open Go Go.RowKit Go.Sort

/-- The bits that 'fit' makes of any int. -/
def fitN (k : Int) : Int := IntKind.u64.wrap k % 33
theorem fitN_range (k : Int) : 0 ≤ fitN k ∧ fitN k ≤ 32 := by unfold fitN; omega
theorem fit_chk (a k : Int) : chk (subA a (fitN k)) (fitN k) = 0 := chk_sub a (fitN k) (fitN_range k).1 (fitN_range k).2
theorem results_1 {fn : Func} {tmps : Array Value} {w : World} {g : Nat} {a b : Value} {t1 : Nat} (hf : fn.results = #[.cell t1 25]) (h1 : tmps.getD t1 undef = .pointer (some ⟨g, 0, none⟩))
    (k1 : w.heap[g]? = some (.cells #[a, b] 25 (0, 0))) :
    (results fn tmps).run Tryz.prog w = .ok (.agg #[a, b]) w := by
  obtain ⟨c0, c1, _, _⟩ := two_cells k1
  have h1' : tmps[t1]?.getD undef = .pointer (some ⟨g, 0, none⟩) := by simpa using h1
  simp [results, hf, h1', go_sem, c0, c1]
end Go.Proofs.YtpmoepipoafegaaGreatDoor

/-
  Walks over headers: Bytes.
-/
namespace Go.Proofs.YtpmoepipoafegaaGreatDoor
open Go Go.RowKit Go.Sort

/-- A header. -/
structure Hd where
  src : Int
  dst : Int
  proto : Int
  sp : Int
  dp : Int
  deriving DecidableEq
def Hd.enc (h : Hd) : List Value := [.int .u32 h.src, .int .u32 h.dst, .int .u8 h.proto, .int .u16 h.sp, .int .u16 h.dp]
structure Hd.ok (h : Hd) : Prop where
  s0 : 0 ≤ h.src
  s1 : h.src < 4294967296
  d0 : 0 ≤ h.dst
  d1 : h.dst < 4294967296
  p0 : 0 ≤ h.proto
  p1 : h.proto < 256
  a0 : 0 ≤ h.sp
  a1 : h.sp < 65536
  b0 : 0 ≤ h.dp
  b1 : h.dp < 65536
/-- Its bytes. -/
def Hd.bytes (h : Hd) : List Int := [h.src / 16777216, h.src / 65536 % 256, h.src / 256 % 256, h.src % 256, h.dst / 16777216, h.dst / 65536 % 256, h.dst / 256 % 256, h.dst % 256, h.proto, h.sp / 256, h.sp % 256, h.dp / 256, h.dp % 256]
/-- The array while the addresses are written. -/
def Hd.part (h : Hd) (k j : Nat) (p : Bool) : List Int := (List.range 13).map fun i => if (i < 4 ∧ i < k) ∨ (4 ≤ i ∧ i < 8 ∧ i - 4 < k) ∨ (i = 8 ∧ p = true) ∨ (9 ≤ i ∧ i < 11 ∧ i - 9 < j) ∨ (11 ≤ i ∧ i - 11 < j) then h.bytes.getD i 0 else 0
theorem part_start (h : Hd) : h.part 0 0 false = List.replicate 13 0 := rfl
theorem part_full (h : Hd) : h.part 4 2 true = h.bytes := rfl

theorem u8_wrap (x : Int) : IntKind.u8.wrap x = x % 256 := by simp [IntKind.wrap, IntKind.bits, IntKind.signed]
end Go.Proofs.YtpmoepipoafegaaGreatDoor

/-
  Walks over headers: Bit.
-/
namespace Go.Proofs.YtpmoepipoafegaaGreatDoor
open Go Go.RowKit Go.Sort

/-- Is a bit set? -/
def Hd.bit (h : Hd) (i : Nat) : Bool := h.bytes.getD (i / 8) 0 / 2 ^ (7 - i % 8) % 2 == 1
theorem bytes_range (h : Hd) (ho : h.ok) : ∀ x ∈ h.bytes, 0 ≤ x ∧ x < 256 := by
  obtain ⟨s0, s1, d0, d1, p0, p1, a0, a1, b0, b1⟩ := ho
  intro x hx
  simp only [Hd.bytes, List.mem_cons, List.mem_nil_iff, or_false] at hx
  rcases hx with rfl | rfl | rfl | rfl | rfl | rfl | rfl | rfl | rfl | rfl | rfl | rfl | rfl <;> omega
theorem and_1 (x : Int) (h0 : 0 ≤ x) (h1 : x < 256) : bits .and .u8 x 1 = x % 2 := by
  obtain ⟨x, rfl⟩ := Int.eq_ofNat_of_zero_le h0
  rw [u8_and _ _ h0 h1 (by omega) (by omega), Int.toNat_natCast, show (1 : Int).toNat = 1 from rfl, Nat.and_one_is_mod]
  rfl
theorem div_pow (v : Int) (k : Nat) (h0 : 0 ≤ v) (h1 : v < 256) : 0 ≤ v / 2 ^ k ∧ v / 2 ^ k < 256 := by
  have hp : (1 : Int) ≤ 2 ^ k := p2_pos k
  exact ⟨Int.ediv_nonneg h0 (by omega), Int.lt_of_le_of_lt (Int.ediv_le_self _ h0) h1⟩
theorem bytes_len (h : Hd) : h.bytes.length = 13 := rfl
end Go.Proofs.YtpmoepipoafegaaGreatDoor

/-
  Walks over headers: the law's same.
-/
namespace Go.Proofs.YtpmoepipoafegaaGreatDoor
open Go Go.RowKit Go.Sort

end Go.Proofs.YtpmoepipoafegaaGreatDoor

/-
  Headers as numbers: plain laws on their bytes and bits; no walk.
-/
namespace Go.Proofs.YtpmoepipoafegaaGreatDoor
open Go Go.RowKit Go.Sort

/-- A header as one number. -/
def Hd.val (h : Hd) : Nat := (((h.src.toNat * 4294967296 + h.dst.toNat) * 256 + h.proto.toNat) * 65536 + h.sp.toNat) * 65536 + h.dp.toNat
/-- The header of a number. -/
def hdOf (n : Nat) : Hd := ⟨((n / 4722366482869645213696 : Nat) : Int), ((n / 1099511627776 % 4294967296 : Nat) : Int), ((n / 4294967296 % 256 : Nat) : Int), ((n / 65536 % 65536 : Nat) : Int), ((n % 65536 : Nat) : Int)⟩
/-- How many headers there are. -/
def hdAll : Nat := 20282409603651670423947251286016
theorem hdAll_pow : hdAll = 2 ^ 104 := by decide
theorem hdOf_ok {n : Nat} (h : n < hdAll) : (hdOf n).ok := by
  unfold hdAll at h
  refine ⟨?_, ?_, ?_, ?_, ?_, ?_, ?_, ?_, ?_, ?_⟩ <;> dsimp only [hdOf] <;> omega
theorem val_lt {h : Hd} (ho : h.ok) : h.val < hdAll := by
  obtain ⟨s0, s1, d0, d1, p0, p1, a0, a1, b0, b1⟩ := ho
  unfold Hd.val hdAll
  omega
theorem hd_ext {a b : Hd} (h1 : a.src = b.src) (h2 : a.dst = b.dst) (h3 : a.proto = b.proto) (h4 : a.sp = b.sp) (h5 : a.dp = b.dp) : a = b := by
  cases a; cases b; simp at *; exact ⟨h1, h2, h3, h4, h5⟩
theorem hdOf_val {h : Hd} (ho : h.ok) : hdOf h.val = h := by
  obtain ⟨s0, s1, d0, d1, p0, p1, a0, a1, b0, b1⟩ := ho
  obtain ⟨s, d, p, a, b⟩ := h
  simp only at *
  obtain ⟨s, rfl⟩ := Int.eq_ofNat_of_zero_le s0
  obtain ⟨d, rfl⟩ := Int.eq_ofNat_of_zero_le d0
  obtain ⟨p, rfl⟩ := Int.eq_ofNat_of_zero_le p0
  obtain ⟨a, rfl⟩ := Int.eq_ofNat_of_zero_le a0
  obtain ⟨b, rfl⟩ := Int.eq_ofNat_of_zero_le b0
  apply hd_ext <;> dsimp only [hdOf, Hd.val, Int.toNat_natCast] <;> omega
theorem val_hdOf {n : Nat} (h : n < hdAll) : (hdOf n).val = n := by
  unfold hdAll at h
  dsimp only [hdOf, Hd.val, Int.toNat_natCast]
  omega
theorem val_inj {a b : Hd} (ha : a.ok) (hb : b.ok) (h : a.val = b.val) : a = b := by rw [← hdOf_val ha, h, hdOf_val hb]
theorem bytes_val {h : Hd} (ho : h.ok) {k : Nat} (hk : k < 13) : h.bytes[k]? = some ((h.val / 256 ^ (12 - k) % 256 : Nat) : Int) := by
  obtain ⟨s0, s1, d0, d1, p0, p1, a0, a1, b0, b1⟩ := ho
  obtain ⟨s, d, p, a, b⟩ := h
  simp only at *
  obtain ⟨s, rfl⟩ := Int.eq_ofNat_of_zero_le s0
  obtain ⟨d, rfl⟩ := Int.eq_ofNat_of_zero_le d0
  obtain ⟨p, rfl⟩ := Int.eq_ofNat_of_zero_le p0
  obtain ⟨a, rfl⟩ := Int.eq_ofNat_of_zero_le a0
  obtain ⟨b, rfl⟩ := Int.eq_ofNat_of_zero_le b0
  have e (x y : Int) (h : x = y) : some x = some y := by rw [h]
  match k, hk with
  | 0, _ => exact e _ _ (by dsimp only [Hd.val, Int.toNat_natCast, Nat.reduceSub, Nat.reducePow]; omega)
  | 1, _ => exact e _ _ (by dsimp only [Hd.val, Int.toNat_natCast, Nat.reduceSub, Nat.reducePow]; omega)
  | 2, _ => exact e _ _ (by dsimp only [Hd.val, Int.toNat_natCast, Nat.reduceSub, Nat.reducePow]; omega)
  | 3, _ => exact e _ _ (by dsimp only [Hd.val, Int.toNat_natCast, Nat.reduceSub, Nat.reducePow]; omega)
  | 4, _ => exact e _ _ (by dsimp only [Hd.val, Int.toNat_natCast, Nat.reduceSub, Nat.reducePow]; omega)
  | 5, _ => exact e _ _ (by dsimp only [Hd.val, Int.toNat_natCast, Nat.reduceSub, Nat.reducePow]; omega)
  | 6, _ => exact e _ _ (by dsimp only [Hd.val, Int.toNat_natCast, Nat.reduceSub, Nat.reducePow]; omega)
  | 7, _ => exact e _ _ (by dsimp only [Hd.val, Int.toNat_natCast, Nat.reduceSub, Nat.reducePow]; omega)
  | 8, _ => exact e _ _ (by dsimp only [Hd.val, Int.toNat_natCast, Nat.reduceSub, Nat.reducePow]; omega)
  | 9, _ => exact e _ _ (by dsimp only [Hd.val, Int.toNat_natCast, Nat.reduceSub, Nat.reducePow]; omega)
  | 10, _ => exact e _ _ (by dsimp only [Hd.val, Int.toNat_natCast, Nat.reduceSub, Nat.reducePow]; omega)
  | 11, _ => exact e _ _ (by dsimp only [Hd.val, Int.toNat_natCast, Nat.reduceSub, Nat.reducePow]; omega)
  | 12, _ => exact e _ _ (by dsimp only [Hd.val, Int.toNat_natCast, Nat.reduceSub, Nat.reducePow]; omega)
theorem bit_val {h : Hd} (ho : h.ok) {i : Nat} (hi : i < 104) : h.bit i = h.val.testBit (103 - i) := by
  unfold Hd.bit
  rw [List.getD, bytes_val ho (by omega), Option.getD_some, Nat.testBit_eq_decide_div_mod_eq]
  have e : (((h.val / 256 ^ (12 - i / 8) % 256 : Nat) : Int) / 2 ^ (7 - i % 8) % 2) = (((h.val / 256 ^ (12 - i / 8) % 256) / 2 ^ (7 - i % 8) % 2 : Nat) : Int) := by simp
  rw [e]
  have h2 : (h.val / 256 ^ (12 - i / 8) % 256) / 2 ^ (7 - i % 8) % 2 = h.val / 2 ^ (103 - i) % 2 := by
    rw [show (256 : Nat) = 2 ^ 8 from rfl, ← Nat.pow_mul]
    have a1 := Nat.testBit_mod_two_pow (h.val / 2 ^ (8 * (12 - i / 8))) 8 (7 - i % 8)
    rw [Nat.testBit_div_two_pow, Nat.testBit_eq_decide_div_mod_eq, Nat.testBit_eq_decide_div_mod_eq] at a1
    rw [show 7 - i % 8 + 8 * (12 - i / 8) = 103 - i by omega] at a1
    have a2 : (7 - i % 8 < 8) := by omega
    simp only [a2, decide_true, Bool.true_and, decide_eq_decide] at a1
    have b1 := Nat.mod_lt ((h.val / 2 ^ (8 * (12 - i / 8)) % 2 ^ 8) / 2 ^ (7 - i % 8)) (show 0 < 2 by decide)
    have b2 := Nat.mod_lt (h.val / 2 ^ (103 - i)) (show 0 < 2 by decide)
    omega
  rw [h2]
  rcases Nat.mod_two_eq_zero_or_one (h.val / 2 ^ (103 - i)) with h | h <;> rw [h] <;> rfl
/-- A number with a bit set so. -/
def setB (v k : Nat) (b : Bool) : Nat := if v.testBit k = b then v else v ^^^ 2 ^ k
theorem setB_same {v k : Nat} {b : Bool} (h : v.testBit k = b) : setB v k b = v := if_pos h
theorem setB_other {v k : Nat} {b : Bool} (h : v.testBit k ≠ b) : setB v k b = v ^^^ 2 ^ k := if_neg h
theorem setB_bit (v k j : Nat) (b : Bool) : (setB v k b).testBit j = if j = k then b else v.testBit j := by
  unfold setB
  split
  · rename_i h
    split
    · rename_i e; rw [e, h]
    · rfl
  · rename_i h
    rw [Nat.testBit_xor, Nat.testBit_two_pow]
    split
    · rename_i e; subst e; simp only [decide_true, Bool.xor_true]
      revert h; cases v.testBit j <;> cases b <;> simp
    · rename_i e
      rw [show decide (k = j) = false from decide_eq_false (fun h => e h.symm)]
      simp
theorem setB_lt {v k : Nat} {b : Bool} (h : v < hdAll) (hk : k < 104) : setB v k b < hdAll := by
  rw [hdAll_pow] at *
  unfold setB
  split
  · exact h
  · exact Nat.xor_lt_two_pow h (Nat.pow_lt_pow_right (by decide) hk)
/-- Numbers with the same bits. -/
theorem val_bits {u v : Nat} (hu : u < hdAll) (hv : v < hdAll) (h : ∀ j, j < 104 → u.testBit j = v.testBit j) : u = v := by
  rw [hdAll_pow] at *
  refine Nat.eq_of_testBit_eq fun j => ?_
  by_cases hj : j < 104
  · exact h j hj
  · rw [Nat.testBit_lt_two_pow (Nat.lt_of_lt_of_le hu (Nat.pow_le_pow_right (by decide) (by omega))), Nat.testBit_lt_two_pow (Nat.lt_of_lt_of_le hv (Nat.pow_le_pow_right (by decide) (by omega)))]
theorem hd_bits {a b : Hd} (ha : a.ok) (hb : b.ok) (h : ∀ i, i < 104 → a.bit i = b.bit i) : a = b :=
  val_inj ha hb (val_bits (val_lt ha) (val_lt hb) (fun j hj => by
    have := h (103 - j) (by omega)
    rw [bit_val ha (by omega), bit_val hb (by omega), show 103 - (103 - j) = j by omega] at this
    exact this))
/-- A header with a bit set so. -/
def Hd.put (h : Hd) (i : Nat) (b : Bool) : Hd := hdOf (setB h.val (103 - i) b)
theorem put_ok {h : Hd} (ho : h.ok) {i : Nat} {b : Bool} (hi : i < 104) : (h.put i b).ok := hdOf_ok (setB_lt (val_lt ho) (by omega))
theorem put_bit {h : Hd} (ho : h.ok) {i j : Nat} {b : Bool} (hi : i < 104) (hj : j < 104) : (h.put i b).bit j = if j = i then b else h.bit j := by
  rw [bit_val (put_ok ho hi) hj]
  unfold Hd.put
  rw [val_hdOf (setB_lt (val_lt ho) (by omega)), setB_bit, bit_val ho hj]
  by_cases h : j = i
  · rw [if_pos h, if_pos (by omega)]
  · rw [if_neg h, if_neg (by omega)]
theorem put_same {h : Hd} (ho : h.ok) {i : Nat} {b : Bool} (hi : i < 104) (hb : h.bit i = b) : h.put i b = h := by
  unfold Hd.put
  rw [bit_val ho hi] at hb
  rw [setB_same hb, hdOf_val ho]
theorem put_other {h : Hd} (ho : h.ok) {i : Nat} {b : Bool} (hi : i < 104) (hb : h.bit i ≠ b) : h.put i b = hdOf (h.val ^^^ 2 ^ (103 - i)) := by
  unfold Hd.put
  rw [bit_val ho hi] at hb
  rw [setB_other hb]
/-- The byte in which a bit is turned. -/
theorem byte_xor (v i k : Nat) (hk : k < 13) (hi : i < 104) : (v ^^^ 2 ^ (103 - i)) / 256 ^ (12 - k) % 256 = if k = i / 8 then (v / 256 ^ (12 - k) % 256) ^^^ 2 ^ (7 - i % 8) else v / 256 ^ (12 - k) % 256 := by
  rw [show (256 : Nat) ^ (12 - k) = 2 ^ (8 * (12 - k)) by rw [Nat.pow_mul], show (256 : Nat) = 2 ^ 8 from rfl]
  refine Nat.eq_of_testBit_eq fun j => ?_
  rw [Nat.testBit_mod_two_pow, Nat.testBit_div_two_pow, Nat.testBit_xor, Nat.testBit_two_pow]
  split
  · rename_i e
    rw [Nat.testBit_xor, Nat.testBit_mod_two_pow, Nat.testBit_div_two_pow, Nat.testBit_two_pow]
    by_cases hj : j < 8
    · simp only [hj, decide_true, Bool.true_and]
      congr 1
      rw [decide_eq_decide]
      omega
    · simp only [hj, decide_false, Bool.false_and]
      rw [show decide (7 - i % 8 = j) = false from decide_eq_false (by omega)]
      rfl
  · rename_i e
    rw [Nat.testBit_mod_two_pow, Nat.testBit_div_two_pow]
    by_cases hj : j < 8
    · simp only [hj, decide_true, Bool.true_and]
      rw [show decide (103 - i = j + 8 * (12 - k)) = false from decide_eq_false (by omega)]
      simp
    · simp only [hj, decide_false, Bool.false_and]
theorem xor_lt {v i : Nat} (h : v < hdAll) (hi : i < 104) : v ^^^ 2 ^ (103 - i) < hdAll := by
  rw [hdAll_pow] at *
  exact Nat.xor_lt_two_pow h (Nat.pow_lt_pow_right (by decide) (by omega))
/-- The bytes of a header of which a bit is turned. -/
theorem bytes_xor {h : Hd} (ho : h.ok) {i : Nat} (hi : i < 104) {x : Nat} (hx : h.bytes[i / 8]? = some (x : Int)) : (hdOf (h.val ^^^ 2 ^ (103 - i))).bytes = h.bytes.set (i / 8) ((x ^^^ 2 ^ (7 - i % 8) : Nat) : Int) := by
  have hl := xor_lt (val_lt ho) hi
  refine List.ext_getElem? fun k => ?_
  by_cases hk : k < 13
  · rw [bytes_val (hdOf_ok hl) hk, val_hdOf hl, byte_xor _ _ _ hk hi, List.getElem?_set]
    split
    · rename_i e
      subst e
      rw [bytes_val ho (by omega)] at hx
      rw [if_pos rfl, if_pos (show i / 8 < h.bytes.length from by show i / 8 < 13; omega)]
      have hx' : h.val / 256 ^ (12 - i / 8) % 256 = x := by injection hx with hx; omega
      rw [hx']
    · rename_i e
      rw [if_neg (fun h => e h.symm), bytes_val ho hk]
  · rw [List.getElem?_eq_none (by show 13 ≤ k; omega), List.getElem?_eq_none (by rw [List.length_set]; show 13 ≤ k; omega)]
/-- The header of bytes. -/
def ofB (l : List Int) : Hd := ⟨((l.getD 0 0 * 256 + l.getD 1 0) * 256 + l.getD 2 0) * 256 + l.getD 3 0, ((l.getD 4 0 * 256 + l.getD 5 0) * 256 + l.getD 6 0) * 256 + l.getD 7 0, l.getD 8 0, l.getD 9 0 * 256 + l.getD 10 0, l.getD 11 0 * 256 + l.getD 12 0⟩
theorem ofB_bytes {h : Hd} (ho : h.ok) : ofB h.bytes = h := by
  obtain ⟨s0, s1, d0, d1, p0, p1, a0, a1, b0, b1⟩ := ho
  apply hd_ext <;> simp only [ofB, Hd.bytes, List.getD, List.getElem?_cons_zero, List.getElem?_cons_succ, Option.getD_some] <;> omega
theorem ofB_ok {b0 b1 b2 b3 b4 b5 b6 b7 b8 b9 b10 b11 b12 : Int} (h : ∀ x ∈ [b0, b1, b2, b3, b4, b5, b6, b7, b8, b9, b10, b11, b12], 0 ≤ x ∧ x < 256) : (ofB [b0, b1, b2, b3, b4, b5, b6, b7, b8, b9, b10, b11, b12]).ok := by
  simp only [List.mem_cons, List.mem_nil_iff, or_false, forall_eq_or_imp, forall_eq] at h
  refine ⟨?_, ?_, ?_, ?_, ?_, ?_, ?_, ?_, ?_, ?_⟩ <;> simp only [ofB, List.getD, List.getElem?_cons_zero, List.getElem?_cons_succ, Option.getD_some] <;> omega
theorem bytes_ofB {b0 b1 b2 b3 b4 b5 b6 b7 b8 b9 b10 b11 b12 : Int} (h : ∀ x ∈ [b0, b1, b2, b3, b4, b5, b6, b7, b8, b9, b10, b11, b12], 0 ≤ x ∧ x < 256) : (ofB [b0, b1, b2, b3, b4, b5, b6, b7, b8, b9, b10, b11, b12]).bytes = [b0, b1, b2, b3, b4, b5, b6, b7, b8, b9, b10, b11, b12] := by
  simp only [List.mem_cons, List.mem_nil_iff, or_false, forall_eq_or_imp, forall_eq] at h
  simp only [Hd.bytes, ofB, List.getD, List.getElem?_cons_zero, List.getElem?_cons_succ, Option.getD_some, List.cons.injEq, and_true]
  refine ⟨?_, ?_, ?_, ?_, ?_, ?_, ?_, ?_, ?_, ?_, ?_, ?_, ?_⟩ <;> first | trivial | omega
/-- The order of numbers. -/
def cmpN (a b : Nat) : Int := if a < b then -1 else if b < a then 1 else 0
/-- The order of lists of numbers, byte for byte. -/
def cmpL : List Int → List Int → Int
  | x :: l, y :: r => if x < y then -1 else if y < x then 1 else cmpL l r
  | _, _ => 0
def valL (l : List Int) : Int := l.foldl (fun a b => a * 256 + b) 0
theorem foldl_val : ∀ (l : List Int) (a : Int), l.foldl (fun a b => a * 256 + b) a = a * 256 ^ l.length + valL l
  | [], a => by simp [valL]
  | x :: l, a => by
    have h1 := foldl_val l (a * 256 + x)
    have h2 := foldl_val l (0 * 256 + x)
    have h3 : valL (x :: l) = (0 * 256 + x) * 256 ^ l.length + valL l := h2
    rw [List.foldl_cons, h1, h3, List.length_cons, Int.pow_succ, Int.add_mul, Int.add_mul, Int.mul_assoc, Int.mul_comm 256]
    simp [Int.add_assoc]
theorem valL_cons (x : Int) (l : List Int) : valL (x :: l) = x * 256 ^ l.length + valL l := by
  rw [valL, List.foldl_cons, foldl_val]; simp
theorem valL_range : ∀ (l : List Int), (∀ x ∈ l, 0 ≤ x ∧ x < 256) → 0 ≤ valL l ∧ valL l < 256 ^ l.length
  | [], _ => by simp [valL]
  | x :: l, h => by
    have h1 := valL_range l (fun y hy => h y (List.mem_cons_of_mem _ hy))
    have hx := h x (List.mem_cons_self ..)
    rw [valL_cons, List.length_cons, Int.pow_succ]
    have h0 : (0 : Int) ≤ x * 256 ^ l.length := Int.mul_nonneg hx.1 (by omega)
    have h2 : x * 256 ^ l.length ≤ 255 * 256 ^ l.length := Int.mul_le_mul_of_nonneg_right (by omega) (by omega)
    omega
theorem cmpL_val : ∀ (l r : List Int), l.length = r.length → (∀ x ∈ l, 0 ≤ x ∧ x < 256) → (∀ x ∈ r, 0 ≤ x ∧ x < 256) → cmpL l r = if valL l < valL r then -1 else if valL r < valL l then 1 else 0
  | [], [], _, _, _ => by simp [cmpL, valL]
  | [], _ :: _, h, _, _ => by simp at h
  | _ :: _, [], h, _, _ => by simp at h
  | x :: l, y :: r, h, hl, hr => by
    have hlen : l.length = r.length := by simpa using h
    have hl' := fun z hz => hl z (List.mem_cons_of_mem x hz)
    have hr' := fun z hz => hr z (List.mem_cons_of_mem y hz)
    have ih := cmpL_val l r hlen hl' hr'
    have a := valL_range l hl'
    have b := valL_range r hr'
    rw [cmpL, valL_cons, valL_cons, ← hlen]
    rw [← hlen] at b
    generalize (256 : Int) ^ l.length = P at *
    have hP : 0 < P := by omega
    by_cases h1 : x < y
    · have h2 : (x + 1) * P ≤ y * P := Int.mul_le_mul_of_nonneg_right (by omega) (by omega)
      rw [Int.add_mul] at h2
      rw [if_pos h1, if_pos (by omega)]
    · by_cases h2 : y < x
      · have h3 : (y + 1) * P ≤ x * P := Int.mul_le_mul_of_nonneg_right (by omega) (by omega)
        rw [Int.add_mul] at h3
        rw [if_neg h1, if_pos h2, if_neg (by omega), if_pos (by omega)]
      · have e : x = y := by omega
        subst e
        rw [if_neg h1, if_neg h2, ih]
        generalize x * P = Q
        by_cases h3 : valL l < valL r
        · rw [if_pos h3, if_pos (show Q + valL l < Q + valL r by omega)]
        · rw [if_neg h3, if_neg (show ¬ Q + valL l < Q + valL r by omega)]
          by_cases h4 : valL r < valL l
          · rw [if_pos h4, if_pos (show Q + valL r < Q + valL l by omega)]
          · rw [if_neg h4, if_neg (show ¬ Q + valL r < Q + valL l by omega)]
theorem valL_bytes {h : Hd} (ho : h.ok) : valL h.bytes = h.val := by
  obtain ⟨s0, s1, d0, d1, p0, p1, a0, a1, b0, b1⟩ := ho
  unfold valL Hd.bytes Hd.val
  simp only [List.foldl_cons, List.foldl_nil]
  omega
theorem cmpL_bytes {a b : Hd} (ha : a.ok) (hb : b.ok) : cmpL a.bytes b.bytes = cmpN a.val b.val := by
  have h := cmpL_val a.bytes b.bytes rfl (bytes_range a ha) (bytes_range b hb)
  rw [valL_bytes ha, valL_bytes hb] at h
  rw [h]
  unfold cmpN
  by_cases h1 : a.val < b.val
  · rw [if_pos h1, if_pos (show (a.val : Int) < b.val by omega)]
  · rw [if_neg h1, if_neg (show ¬ (a.val : Int) < b.val by omega)]
    by_cases h2 : b.val < a.val
    · rw [if_pos h2, if_pos (show (b.val : Int) < a.val by omega)]
    · rw [if_neg h2, if_neg (show ¬ (b.val : Int) < a.val by omega)]
/-- A header whose first bits are another's. -/
def Hd.mix (a c : Hd) (i : Nat) : Hd := hdOf (a.val / 2 ^ (104 - i) * 2 ^ (104 - i) + c.val % 2 ^ (104 - i))
theorem mix_aux (A C P Q : Nat) (hA : A < Q * P) (hP : 0 < P) : A / P * P + C % P < Q * P := by
  have h1 : C % P < P := Nat.mod_lt _ hP
  have h2 : A / P + 1 ≤ Q := (Nat.div_lt_iff_lt_mul hP).2 hA
  have h3 := Nat.mul_le_mul_right P h2
  rw [Nat.add_mul, Nat.one_mul] at h3
  omega
theorem pow_split {i : Nat} (hi : i ≤ 104) : hdAll = 2 ^ i * 2 ^ (104 - i) := by
  rw [hdAll_pow, ← Nat.pow_add]
  congr 1
  omega
theorem mix_lt {a c : Hd} (ha : a.ok) {i : Nat} (hi : i ≤ 104) : a.val / 2 ^ (104 - i) * 2 ^ (104 - i) + c.val % 2 ^ (104 - i) < hdAll := by
  have h := val_lt ha
  rw [pow_split hi] at *
  exact mix_aux _ _ _ _ h (Nat.two_pow_pos _)
theorem mix_ok {a c : Hd} (ha : a.ok) {i : Nat} (hi : i ≤ 104) : (a.mix c i).ok := hdOf_ok (mix_lt ha hi)
theorem mix_aux2 (A C p k : Nat) : (A / 2 ^ p * 2 ^ p + C % 2 ^ p).testBit k = if k < p then C.testBit k else A.testBit k := by
  have h1 : C % 2 ^ p < 2 ^ p := Nat.mod_lt _ (Nat.two_pow_pos _)
  have h2 := Nat.testBit_two_pow_mul_add (A / 2 ^ p) h1 k
  rw [Nat.mul_comm (A / 2 ^ p), h2]
  by_cases h : k < p
  · rw [if_pos h, if_pos h, Nat.testBit_mod_two_pow, decide_eq_true h, Bool.true_and]
  · rw [if_neg h, if_neg h, Nat.testBit_div_two_pow, Nat.sub_add_cancel (by omega)]
theorem mix_val {a c : Hd} (ha : a.ok) {i : Nat} (hi : i ≤ 104) : (a.mix c i).val = a.val / 2 ^ (104 - i) * 2 ^ (104 - i) + c.val % 2 ^ (104 - i) := val_hdOf (mix_lt ha hi)
theorem mix_bit {a c : Hd} (ha : a.ok) (hc : c.ok) {i j : Nat} (hi : i ≤ 104) (hj : j < 104) : (a.mix c i).bit j = if j < i then a.bit j else c.bit j := by
  have h1 := bit_val (mix_ok (c := c) ha hi) hj
  have h2 := bit_val ha hj
  have h3 := bit_val hc hj
  rw [mix_val ha hi, mix_aux2] at h1
  rw [h1, h2, h3]
  by_cases h : j < i
  · rw [if_pos h, if_neg (show ¬ 103 - j < 104 - i by omega)]
  · rw [if_neg h, if_pos (show 103 - j < 104 - i by omega)]
theorem mix_zero {a c : Hd} (ha : a.ok) (hc : c.ok) : a.mix c 0 = c := hd_bits (mix_ok ha (by omega)) hc fun j hj => by rw [mix_bit ha hc (by omega) hj, if_neg (by omega)]
theorem mix_full {a c : Hd} (ha : a.ok) (hc : c.ok) : a.mix c 104 = a := hd_bits (mix_ok ha (by omega)) ha fun j hj => by rw [mix_bit ha hc (by omega) hj, if_pos (by omega)]
theorem mix_put {a c : Hd} (ha : a.ok) (hc : c.ok) {i : Nat} (hi : i < 104) : (a.mix c i).put i (a.bit i) = a.mix c (i + 1) := hd_bits (put_ok (mix_ok ha (by omega)) hi) (mix_ok ha (by omega)) fun j hj => by
  rw [put_bit (mix_ok ha (by omega)) hi hj, mix_bit ha hc (by omega) hj, mix_bit ha hc (by omega) hj]
  by_cases h : j = i
  · subst h; rw [if_pos rfl, if_pos (by omega)]
  · rw [if_neg h]
    by_cases h2 : j < i
    · rw [if_pos h2, if_pos (by omega)]
    · rw [if_neg h2, if_neg (by omega)]
theorem mix_at {a c : Hd} (ha : a.ok) (hc : c.ok) {i : Nat} (hi : i < 104) : (a.mix c i).bit i = c.bit i := by
  rw [mix_bit ha hc (by omega) hi, if_neg (by omega)]
theorem cmpN_lt {a b : Nat} (h : a < b) : cmpN a b = -1 := by unfold cmpN; rw [if_pos h]
theorem cmpN_gt {a b : Nat} (h : b < a) : cmpN a b = 1 := by unfold cmpN; rw [if_neg (by omega), if_pos h]
theorem cmpN_eq (a : Nat) : cmpN a a = 0 := by unfold cmpN; rw [if_neg (by omega), if_neg (by omega)]
theorem cmpN_zero {a b : Nat} : cmpN a b = 0 ↔ a = b := by
  unfold cmpN; split
  · constructor
    · intro h; omega
    · intro h; omega
  · split
    · constructor
      · intro h; omega
      · intro h; omega
    · constructor
      · intro _; omega
      · intro _; rfl
theorem cmpN_neg (a b : Nat) : cmpN a b = - cmpN b a := by
  unfold cmpN
  by_cases h1 : a < b
  · rw [if_pos h1, if_neg (by omega), if_pos h1]
  · by_cases h2 : b < a
    · rw [if_neg h1, if_pos h2, if_pos h2]; rfl
    · rw [if_neg h1, if_neg h2, if_neg h2, if_neg h1]; rfl
theorem cmpN_le {a b : Nat} : cmpN a b ≤ 0 ↔ a ≤ b := by
  unfold cmpN
  by_cases h1 : a < b
  · rw [if_pos h1]; constructor <;> intro <;> omega
  · by_cases h2 : b < a
    · rw [if_neg h1, if_pos h2]; constructor <;> intro <;> omega
    · rw [if_neg h1, if_neg h2]; constructor <;> intro <;> omega
theorem turn_bit (v k j : Nat) : (v ^^^ 2 ^ k).testBit j = if k = j then !v.testBit k else v.testBit j := by
  rw [Nat.testBit_xor, Nat.testBit_two_pow]
  by_cases h : k = j
  · subst h; rw [if_pos rfl, decide_eq_true rfl, Bool.xor_true]
  · rw [if_neg h, decide_eq_false h, Bool.xor_false]
/-- A bit that is turned moves the number as the bit says. -/
theorem turn_lt {v k : Nat} (h : v.testBit k = true) : v ^^^ 2 ^ k < v := by
  refine Nat.lt_of_le_of_ne (Nat.le_of_testBit fun j hj => ?_) (fun e => ?_)
  · rw [turn_bit] at hj
    split at hj
    · rw [h] at hj; cases hj
    · exact hj
  · have e2 := congrArg (fun x => x.testBit k) e
    simp only [turn_bit, if_pos, h] at e2
    cases e2
theorem turn_gt {v k : Nat} (h : v.testBit k = false) : v < v ^^^ 2 ^ k := by
  refine Nat.lt_of_le_of_ne (Nat.le_of_testBit fun j hj => ?_) (fun e => ?_)
  · rw [turn_bit]
    split
    · rename_i e; rw [h]; rfl
    · exact hj
  · have e2 := congrArg (fun x => x.testBit k) e
    simp only [turn_bit, if_pos, h] at e2
    cases e2
/-- A byte that is set anew. -/
theorem valL_set : ∀ (l : List Int) (i : Nat) (x y : Int), l[i]? = some x → valL (l.set i y) = valL l + (y - x) * 256 ^ (l.length - 1 - i)
  | [], i, x, y, h => by simp at h
  | a :: l, 0, x, y, h => by
    simp at h; subst h
    rw [List.set_cons_zero, valL_cons, valL_cons, List.length_cons, Nat.add_sub_cancel, Nat.sub_zero, Int.sub_mul]
    omega
  | a :: l, i + 1, x, y, h => by
    simp only [List.getElem?_cons_succ] at h
    rw [List.set_cons_succ, valL_cons, valL_cons, valL_set l i x y h, List.length_set, List.length_cons, show l.length + 1 - 1 - (i + 1) = l.length - 1 - i by omega]
    omega
theorem len13 {l : List Int} (h : l.length = 13) : ∃ b0 b1 b2 b3 b4 b5 b6 b7 b8 b9 b10 b11 b12, l = [b0, b1, b2, b3, b4, b5, b6, b7, b8, b9, b10, b11, b12] := by
  match l, h with
  | [b0, b1, b2, b3, b4, b5, b6, b7, b8, b9, b10, b11, b12], _ => exact ⟨_, _, _, _, _, _, _, _, _, _, _, _, _, rfl⟩
theorem ofB_val {l : List Int} (h : l.length = 13) (hr : ∀ x ∈ l, 0 ≤ x ∧ x < 256) : (ofB l).ok ∧ ((ofB l).val : Int) = valL l ∧ (ofB l).bytes = l := by
  obtain ⟨b0, b1, b2, b3, b4, b5, b6, b7, b8, b9, b10, b11, b12, rfl⟩ := len13 h
  have ho := ofB_ok hr
  exact ⟨ho, by rw [← valL_bytes ho, bytes_ofB hr], bytes_ofB hr⟩
theorem ofB_is {l : List Int} (h : l.length = 13) (hr : ∀ x ∈ l, 0 ≤ x ∧ x < 256) {n : Nat} (hn : valL l = n) : ofB l = hdOf n := by
  obtain ⟨ho, hv, _⟩ := ofB_val h hr
  rw [← hdOf_val ho]
  congr 1
  omega
end Go.Proofs.YtpmoepipoafegaaGreatDoor

/-
  What is written is read back, and no other text is read as it: plain laws; no program in sight.
-/
namespace Go.Proofs.YtpmoepipoafegaaGreatDoor
open Go Go.RowKit Go.Sort

theorem pieces_none {c : UInt8} : ∀ {l : List UInt8}, c ∉ l → pieces c l = [l]
  | [], _ => rfl
  | x :: r, h => by
    rw [pieces, if_neg (fun e => h (by simp [e])), pieces_none (fun hm => h (List.mem_cons_of_mem _ hm))]
    rfl
theorem pieces_cons {c : UInt8} : ∀ {l : List UInt8} (r : List UInt8), c ∉ l → pieces c (l ++ c :: r) = l :: pieces c r
  | [], r, _ => by simp [pieces]
  | x :: l, r, h => by
    rw [List.cons_append, pieces, if_neg (fun e => h (by simp [e])), pieces_cons r (fun hm => h (List.mem_cons_of_mem _ hm))]
    rfl
theorem not_dig {c : UInt8} {l : List UInt8} (hl : l.all isDig = true) (hc : isDig c = false) : c ∉ l := fun hm => by
  have := List.all_eq_true.1 hl c hm
  rw [hc] at this; cases this
theorem dot_dec (n : Nat) : (46 : UInt8) ∉ Lib.decDigits n := not_dig (decDigits_all n) (by decide)
theorem slash_dec (n : Nat) : (47 : UInt8) ∉ Lib.decDigits n := not_dig (decDigits_all n) (by decide)
theorem pieces_dec4 (a b c d : Nat) : pieces 46 (Lib.join [Lib.decDigits a, Lib.decDigits b, Lib.decDigits c, Lib.decDigits d] [46]) = [Lib.decDigits a, Lib.decDigits b, Lib.decDigits c, Lib.decDigits d] := by
  rw [join_four, pieces_cons _ (dot_dec a), pieces_cons _ (dot_dec b), pieces_cons _ (dot_dec c), pieces_none (dot_dec d)]
theorem octets (a : Nat) (h : a < 4294967296) : ((octet a 0 * 256 + octet a 1) * 256 + octet a 2) * 256 + octet a 3 = a := by
  unfold octet
  simp only [Nat.reduceSub, Nat.reducePow, Nat.pow_zero, Nat.div_one]
  omega
theorem parse_text (a : Nat) (h : a < 4294967296) : parseB (textA a).data.toList = some a := by
  show parseB (Lib.join [Lib.decDigits (octet a 0), Lib.decDigits (octet a 1), Lib.decDigits (octet a 2), Lib.decDigits (octet a 3)] [46]) = _
  unfold parseB
  rw [pieces_dec4]
  have r := fun k => (readB_some (l := Lib.decDigits (octet a k)) (m := 255)).2 ⟨rfl, by have := octet_lt a k; omega⟩
  simp only [r]
  rw [octets a h]
theorem join_pieces (c : UInt8) : ∀ (l : List UInt8), Lib.join (pieces c l) [c] = l
  | [] => by simp [pieces, Lib.join_one]
  | x :: r => by
    have ih := join_pieces c r
    cases hp : pieces c r with
    | nil => exact absurd hp (pieces_ne c r)
    | cons y ys =>
      rw [hp] at ih
      rw [pieces]
      split
      · rename_i hx
        subst hx
        rw [hp, Lib.join_cons, List.nil_append]
        rw [Lib.join_cons] at ih
        simp only [Lib.joinTail, List.map_cons, List.flatten_cons, List.append_assoc] at ih ⊢
        rw [ih]
        rfl
      · rw [hp]
        simp only [List.headD_cons, List.tail_cons]
        rw [Lib.join_cons] at ih ⊢
        rw [List.cons_append, ih]
theorem text_parse {l : List UInt8} {b : Nat} (h : parseB l = some b) : (textA b).data.toList = l := by
  unfold parseB at h
  split at h
  · rename_i p q r s hp
    split at h
    · rename_i a b' c d h1 h2 h3 h4
      injection h with h
      have e1 := readB_some.1 h1
      have e2 := readB_some.1 h2
      have e3 := readB_some.1 h3
      have e4 := readB_some.1 h4
      have o0 : octet b 0 = a := by unfold octet; simp only [Nat.reduceSub, Nat.reducePow]; omega
      have o1 : octet b 1 = b' := by unfold octet; simp only [Nat.reduceSub, Nat.reducePow]; omega
      have o2 : octet b 2 = c := by unfold octet; simp only [Nat.reduceSub, Nat.reducePow]; omega
      have o3 : octet b 3 = d := by unfold octet; simp only [Nat.reduceSub, Nat.pow_zero, Nat.div_one]; omega
      show Lib.join [Lib.decDigits (octet b 0), Lib.decDigits (octet b 1), Lib.decDigits (octet b 2), Lib.decDigits (octet b 3)] [46] = l
      rw [o0, o1, o2, o3, e1.1, e2.1, e3.1, e4.1, ← hp, join_pieces]
    · cases h
  · cases h
theorem slash_text (a : Nat) : (47 : UInt8) ∉ (textA a).data.toList := by
  show (47 : UInt8) ∉ Lib.join [Lib.decDigits (octet a 0), Lib.decDigits (octet a 1), Lib.decDigits (octet a 2), Lib.decDigits (octet a 3)] [46]
  rw [join_four]
  intro h
  simp only [List.mem_append, List.mem_cons] at h
  have h47 : (47 : UInt8) ≠ 46 := by decide
  rcases h with h | h | h | h | h | h | h
  · exact slash_dec _ h
  · exact h47 h
  · exact slash_dec _ h
  · exact h47 h
  · exact slash_dec _ h
  · exact h47 h
  · exact slash_dec _ h
theorem index_hit1 {c : UInt8} : ∀ {l : List UInt8} (r : List UInt8), c ∉ l → Lib.index (l ++ c :: r) [c] = l.length
  | [], r, _ => by rw [List.nil_append, index_one, if_pos rfl]; rfl
  | x :: l, r, h => by
    rw [List.cons_append, index_one, if_neg (fun e => h (by simp [e])), index_hit1 r (fun hm => h (List.mem_cons_of_mem _ hm)), if_neg (by omega)]
    simp
theorem cut_hit1 {c : UInt8} {l : List UInt8} (r : List UInt8) (h : c ∉ l) : Lib.cut (l ++ c :: r) [c] = (l, r, true) := by
  unfold Lib.cut
  rw [index_hit1 r h, if_pos (by omega)]
  simp
theorem cut_back {c : UInt8} {l x y : List UInt8} (h : Lib.cut l [c] = (x, y, true)) : l = x ++ c :: y := by
  unfold Lib.cut at h
  split at h
  · rename_i h0
    rcases Lib.index_spec l [c] with ⟨h1, _⟩ | ⟨i, h1, h2, h3, _⟩
    · omega
    · rw [h1] at h
      simp at h
      obtain ⟨rfl, rfl⟩ := h
      have h4 := Lib.occAt_head (c := c) (t := []) rfl h3
      have h5 : i < l.length := (List.getElem?_eq_some_iff.1 h4).1
      have h6 : l.drop i = c :: l.drop (i + 1) := by
        rw [List.drop_eq_getElem_cons h5]
        congr 1
        exact Option.some.inj ((List.getElem?_eq_getElem h5).symm.trans h4)
      rw [← h6, List.take_append_drop]
  · simp at h
theorem textP_list (a : Nat) (n : Nat) : (textP a n).data.toList = (textA a).data.toList ++ 47 :: Lib.decDigits n := by
  unfold textP
  have e : Lib.itoa (n : Int) = Lib.decDigits n := by unfold Lib.itoa; rw [if_neg (by omega), Int.toNat_natCast]
  rw [e]
  simp [ByteArray.data_append]
theorem prefix_text (a n : Nat) (h : a < 4294967296) (hn : n ≤ 32) : ppO (textP a n).data.toList = some (a, n) := by
  unfold ppO
  rw [textP_list, cut_hit1 _ (slash_text a), parse_text a h, (readB_some (m := 32)).2 ⟨rfl, hn⟩]
  rfl
theorem byte_ext {s t : ByteArray} (h : s.data.toList = t.data.toList) : s = t := by
  cases s; cases t
  congr 1
  exact Array.ext' h
theorem text_prefix {l : List UInt8} {a n : Nat} (h : ppO l = some (a, n)) : (textP a n).data.toList = l := by
  unfold ppO at h
  split at h
  · rename_i hc
    obtain ⟨x, hx, h⟩ := Option.bind_eq_some_iff.1 h
    obtain ⟨m, hm, h⟩ := Option.map_eq_some_iff.1 h
    injection h with h1 h2
    subst h1 h2
    have hcut : Lib.cut l [47] = ((Lib.cut l [47]).1, (Lib.cut l [47]).2.1, true) := by rw [← hc]
    rw [textP_list, text_parse hx, (readB_some.1 hm).1]
    exact (cut_back hcut).symm
  · cases h
theorem bits_mask (n : Int) (h0 : 0 ≤ n) (h1 : n ≤ 32) : bitsN (maskA n) = n ∧ bitsE (maskA n) = 0 := by
  have hl := mask_lz n h0 h1
  have h := bits_yes (m := maskA n) (by rw [hl])
  rw [hl] at h
  exact h
/-- How ParsePrefix ends, by cases. -/
theorem pp_cases (l : List UInt8) : (ppE l ≠ 0) ∨ (∃ a n : Nat, ppE l = 0 ∧ ppA l = a ∧ ppN l = n ∧ a < 4294967296 ∧ n ≤ 32 ∧ (textP a n).data.toList = l) := by
  cases h : ppO l with
  | none => left; rw [(pp_none h).1]; decide
  | some p =>
    obtain ⟨a, n⟩ := p
    by_cases hc : chk a n = 0
    · right
      have hy := pp_yes h hc
      have ht := text_prefix h
      unfold ppO at h
      split at h
      · obtain ⟨x, hx, h⟩ := Option.bind_eq_some_iff.1 h
        obtain ⟨m, hm, h⟩ := Option.map_eq_some_iff.1 h
        injection h with h1 h2
        subst h1 h2
        exact ⟨x, m, hy.1, hy.2.1, hy.2.2, parseB_lt hx, readB_le hm, ht⟩
      · cases h
    · left
      rw [(pp_no h hc).1]
      exact hc
theorem pa_cases (l : List UInt8) : (adE (parseB l) = 4 ∧ adV (parseB l) = 0) ∨ (∃ a : Nat, adE (parseB l) = 0 ∧ adV (parseB l) = a ∧ a < 4294967296 ∧ (textA a).data.toList = l) := by
  cases h : parseB l with
  | none => left; exact ⟨rfl, rfl⟩
  | some a => right; exact ⟨a, rfl, rfl, parseB_lt h, text_parse h⟩
end Go.Proofs.YtpmoepipoafegaaGreatDoor

/-
  The text of a header: plain laws; no walk.
-/
namespace Go.Proofs.YtpmoepipoafegaaGreatDoor
open Go Go.RowKit Go.Sort

theorem parseUintM_digits (M : Nat) (hM : M ≤ 18446744073709551615) : ∀ (l : List UInt8) (acc : Nat), l.all isDig = true → valD acc l ≤ M → Lib.parseUintM M acc l = .ok (valD acc l)
  | [], acc, _, _ => rfl
  | c :: r, acc, h, hv => by
    simp only [List.all_cons, Bool.and_eq_true] at h
    have hc := h.1
    unfold isDig at hc
    simp at hc
    have e : valD acc (c :: r) = valD (10 * acc + (c.toNat - 48)) r := rfl
    have hg := valD_ge r (10 * acc + (c.toNat - 48))
    rw [e] at hv
    unfold Lib.parseUintM
    rw [if_pos (by omega), if_neg (by omega), if_neg (by omega), e, show acc * 10 + (c.toNat - 48) = 10 * acc + (c.toNat - 48) by omega]
    exact parseUintM_digits M hM r _ h.2 hv
theorem uint_digits {B n : Nat} (hB : 2 ^ B - 1 ≤ 18446744073709551615) (hn : n ≤ 2 ^ B - 1) : Lib.parseUintB B (Lib.decDigits n) = .ok n := by
  unfold Lib.parseUintB
  rw [if_neg (decDigits_ne_nil n), parseUintM_digits _ hB _ _ (decDigits_all n) (by rw [decDigits_val]; exact hn), decDigits_val]
theorem uint16_digits {n : Nat} (h : n < 65536) : Lib.parseUintB 16 (Lib.decDigits n) = .ok n := uint_digits (by decide) (by rw [show (2 : Nat) ^ 16 - 1 = 65535 from rfl]; omega)
theorem uint8_digits {n : Nat} (h : n < 256) : Lib.parseUintB 8 (Lib.decDigits n) = .ok n := uint_digits (by decide) (by rw [show (2 : Nat) ^ 8 - 1 = 255 from rfl]; omega)
theorem uint16_le {l : List UInt8} {n : Nat} (h : Lib.parseUintB 16 l = .ok n) : n < 65536 := by
  have := Lib.parseUintB_le h
  have e : (2 : Nat) ^ 16 - 1 = 65535 := by decide
  omega
theorem uint8_le {l : List UInt8} {n : Nat} (h : Lib.parseUintB 8 l = .ok n) : n < 256 := by
  have := Lib.parseUintB_le h
  have e : (2 : Nat) ^ 8 - 1 = 255 := by decide
  omega
/-- An address and a port. -/
def endL (a p : Nat) : List UInt8 := (textA a).data.toList ++ 58 :: Lib.decDigits p
/-- A header's text. -/
def Hd.textL (h : Hd) : List UInt8 := endL h.src.toNat h.sp.toNat ++ 32 :: (endL h.dst.toNat h.dp.toNat ++ 32 :: Lib.decDigits h.proto.toNat)
def Hd.text (h : Hd) : ByteArray := ⟨h.textL.toArray⟩
theorem text_list (h : Hd) : h.text.data.toList = h.textL := rfl
theorem not_text {c : UInt8} (hc : isDig c = false) (h46 : c ≠ 46) (a : Nat) : c ∉ (textA a).data.toList := by
  show c ∉ Lib.join [Lib.decDigits (octet a 0), Lib.decDigits (octet a 1), Lib.decDigits (octet a 2), Lib.decDigits (octet a 3)] [46]
  rw [join_four]
  intro h
  simp only [List.mem_append, List.mem_cons] at h
  have hd := fun n => not_dig (decDigits_all n) hc
  rcases h with h | h | h | h | h | h | h
  · exact hd _ h
  · exact h46 h
  · exact hd _ h
  · exact h46 h
  · exact hd _ h
  · exact h46 h
  · exact hd _ h
theorem not_dec {c : UInt8} (hc : isDig c = false) (n : Nat) : c ∉ Lib.decDigits n := not_dig (decDigits_all n) hc
theorem not_end (a p : Nat) : (32 : UInt8) ∉ endL a p := by
  intro h
  unfold endL at h
  rw [List.mem_append, List.mem_cons] at h
  rcases h with h | h | h
  · exact not_text (by decide) (by decide) a h
  · exact absurd h (by decide)
  · exact not_dec (by decide) p h
theorem text_pieces (h : Hd) : pieces 32 h.textL = [endL h.src.toNat h.sp.toNat, endL h.dst.toNat h.dp.toNat, Lib.decDigits h.proto.toNat] := by
  unfold Hd.textL
  rw [pieces_cons _ (not_end _ _), pieces_cons _ (not_end _ _), pieces_none (not_dec (by decide) _)]
theorem end_cut (a p : Nat) : Lib.cut (endL a p) [58] = ((textA a).data.toList, Lib.decDigits p, true) := cut_hit1 _ (not_text (by decide) (by decide) a)
/-- An address and a port of a text. -/
def endO (l : List UInt8) : Option (Nat × Nat) :=
  match parseB (Lib.cut l [58]).1, Lib.parseUintB 16 (Lib.cut l [58]).2.1 with
  | some a, .ok p => some (a, p)
  | _, _ => none
/-- The header that a text is the text of. -/
def hpO (l : List UInt8) : Option Hd :=
  match pieces 32 l with
  | [p, q, r] =>
    match endO p, endO q, Lib.parseUintB 8 r with
    | some (a, m), some (b, n), .ok k => if (⟨a, b, k, m, n⟩ : Hd).textL = l then some ⟨a, b, k, m, n⟩ else none
    | _, _, _ => none
  | _ => none
theorem endO_end {a p : Nat} (ha : a < 4294967296) (hp : p < 65536) : endO (endL a p) = some (a, p) := by
  unfold endO
  rw [end_cut, parse_text a ha, uint16_digits hp]
theorem hpO_text {h : Hd} (ho : h.ok) : hpO h.textL = some h := by
  obtain ⟨s0, s1, d0, d1, p0, p1, a0, a1, b0, b1⟩ := ho
  unfold hpO
  rw [text_pieces]
  simp only [endO_end (a := h.src.toNat) (p := h.sp.toNat) (by omega) (by omega), endO_end (a := h.dst.toNat) (p := h.dp.toNat) (by omega) (by omega), uint8_digits (n := h.proto.toNat) (by omega)]
  have e : (⟨(h.src.toNat : Int), (h.dst.toNat : Int), (h.proto.toNat : Int), (h.sp.toNat : Int), (h.dp.toNat : Int)⟩ : Hd) = h := by
    apply hd_ext <;> simp only <;> omega
  rw [e, if_pos rfl]
theorem endO_lt {l : List UInt8} {a p : Nat} (h : endO l = some (a, p)) : a < 4294967296 ∧ p < 65536 := by
  unfold endO at h
  split at h
  · rename_i h1 h2
    injection h with h; injection h with h3 h4
    subst h3 h4
    exact ⟨parseB_lt h1, uint16_le h2⟩
  · cases h
theorem hpO_some {l : List UInt8} {h : Hd} (e : hpO l = some h) : h.ok ∧ h.textL = l := by
  unfold hpO at e
  split at e
  · split at e
    · rename_i a m b n k h1 h2 h3
      split at e
      · rename_i ht
        injection e with e
        subst e
        have l1 := endO_lt h1
        have l2 := endO_lt h2
        have l3 := uint8_le h3
        exact ⟨⟨by simp only; omega, by simp only; omega, by simp only; omega, by simp only; omega, by simp only; omega, by simp only; omega, by simp only; omega, by simp only; omega, by simp only; omega, by simp only; omega⟩, ht⟩
      · cases e
    · cases e
  · cases e
/-- What Parse answers. -/
def hpV (l : List UInt8) : Hd := (hpO l).getD ⟨0, 0, 0, 0, 0⟩
def hpE (l : List UInt8) : Int := match hpO l with | some _ => 0 | none => 4
theorem hp_none {l : List UInt8} (h : hpO l = none) : hpV l = ⟨0, 0, 0, 0, 0⟩ ∧ hpE l = 4 := by unfold hpV hpE; rw [h]; exact ⟨rfl, rfl⟩
theorem hp_some {l : List UInt8} {x : Hd} (h : hpO l = some x) : hpV l = x ∧ hpE l = 0 := by unfold hpV hpE; rw [h]; exact ⟨rfl, rfl⟩
end Go.Proofs.YtpmoepipoafegaaGreatDoor

/-
  Walks over the document's addresses: Read.
-/
namespace Go.Proofs.YtpmoepipoafegaaGreatDoor
open Go Go.RowKit Go.Sort

/-- What Read hands back. -/
def rdV (l : List UInt8) (m : Nat) : Int := match readB l m with | some n => n | none => -1
theorem rdV_none {l : List UInt8} {m : Nat} (h : readB l m = none) : rdV l m = -1 := by unfold rdV; rw [h]
theorem rdV_some {l : List UInt8} {m n : Nat} (h : readB l m = some n) : rdV l m = n := by unfold rdV; rw [h]
theorem dec_long : ∀ (k n : Nat), k + 1 < (Lib.decDigits n).length → 10 ^ (k + 1) ≤ n
  | 0, n, h => by
    rcases (show n < 10 ∨ 10 ≤ n by omega) with h1 | h1
    · rw [decDigits_small h1] at h; simp at h
    · simpa using h1
  | k + 1, n, h => by
    rcases (show n < 10 ∨ 10 ≤ n by omega) with h1 | h1
    · rw [decDigits_small h1] at h; simp at h
    · rw [decDigits_big (by omega), List.length_append] at h
      have := dec_long k (n / 10) (by simp at h; omega)
      rw [Nat.pow_succ]; omega
theorem readB_long {l : List UInt8} {m : Nat} (hm : m < 1000000000000) (h : 12 < l.length) : readB l m = none := by
  cases e : readB l m with
  | none => rfl
  | some n =>
    obtain ⟨h1, h2⟩ := readB_some.1 e
    have := dec_long 11 n (by rw [h1]; omega)
    omega
theorem readB_zero {l : List UInt8} {m : Nat} (h : 1 < l.length) (h0 : l.head? = some 48) : readB l m = none := by unfold readB; rw [if_pos (Or.inr (Or.inl ⟨h, h0⟩))]
theorem readB_nil (m : Nat) : readB [] m = none := by unfold readB; rw [if_pos (Or.inl rfl)]
theorem readB_bad {l : List UInt8} {m : Nat} {i : Nat} {c : UInt8} (h : l[i]? = some c) (hc : isDig c = false) : readB l m = none := by
  unfold readB
  rw [if_pos (Or.inr (Or.inr ?_))]
  cases e : l.all isDig with
  | false => rfl
  | true => have := List.all_eq_true.1 e c (List.mem_of_getElem? h); rw [hc] at this; cases this
theorem readB_good {l : List UInt8} {m : Nat} (h0 : l ≠ []) (hz : ¬ (1 < l.length ∧ l.head? = some 48)) (hall : l.all isDig = true) : readB l m = if valD 0 l ≤ m then some (valD 0 l) else none := by
  unfold readB
  rw [if_neg]
  rintro (h | h | h)
  · exact h0 h
  · exact hz h
  · rw [hall] at h; cases h
theorem valD_take {l : List UInt8} {i : Nat} {c : UInt8} (h : l[i]? = some c) : valD 0 (l.take (i + 1)) = 10 * valD 0 (l.take i) + (c.toNat - 48) := by
  rw [List.take_add_one, h, valD_append]
  rfl
theorem valD_lt : ∀ (k : Nat) (l : List UInt8), l.length ≤ k → l.all isDig = true → valD 0 l < 10 ^ k := by
  intro k
  induction k with
  | zero => intro l hl _; obtain rfl := List.length_eq_zero_iff.1 (Nat.le_zero.1 hl); decide
  | succ k ih =>
    intro l hl hall
    by_cases hne : l = []
    · subst hne; exact Nat.pow_pos (by decide)
    · obtain ⟨r, c, rfl⟩ : ∃ r c, l = r ++ [c] := ⟨l.dropLast, l.getLast hne, (List.dropLast_concat_getLast hne).symm⟩
      rw [valD_append]
      simp at hl hall
      have := ih r hl (by simpa using hall.1)
      have hc := (of_dig c hall.2).2
      simp only [valD, List.foldl_cons, List.foldl_nil] at this ⊢
      rw [Nat.pow_succ]; omega

set_option maxRecDepth 100000 in
set_option maxHeartbeats 2000000 in
theorem refRead_any (s : ByteArray) (m : Nat) (hm : m < 1000000) (w : World) :
    Calls Tryz.prog 60 #[.string s, .int .i64 m] w fun e w' => e = .returned (.int .i64 (rdV s.data.toList m)) ∧ w = w' := by
  have hs : s.size = s.data.toList.length := (Array.length_toList).symm
  have t9 := Tryz.underlying9
  have u9 := run_underlying t9
  have t5 := Tryz.underlying5
  by_cases h0 : s.data.toList = []
  · have hr := Lib.hid (rdV_none (by rw [h0]; exact readB_nil m) : rdV s.data.toList m = -1)
    have he : (s.toList == ([] : List UInt8)) = true := by rw [list_of, h0]; rfl
    go_enter Tryz.func60, Tryz.ntmps60
    go_wp2
    go_ret
    exact ⟨by rw [hr.out]; rfl, rfl⟩
  · have he : (s.toList == ([] : List UInt8)) = false := by rw [list_of]; simpa using h0
    by_cases h12 : 12 < s.size
    · have hr := Lib.hid (rdV_none (readB_long (m := m) (by omega) (by omega)) : rdV s.data.toList m = -1)
      have hI : (s.size : Int) > 12 := by omega
      clear h0 hs
      go_enter Tryz.func60, Tryz.ntmps60
      go_wp2
      go_ret
      exact ⟨by rw [hr.out]; rfl, rfl⟩
    · have hI : ¬ (s.size : Int) > 12 := by omega
      obtain ⟨c, r, hl⟩ : ∃ c r, s.data.toList = c :: r := by
        cases h : s.data.toList with
        | nil => exact absurd h h0
        | cons c r => exact ⟨c, r, rfl⟩
      have hc0 := Lib.hid (show s.data.toList[0]? = some c by rw [hl]; rfl)
      have hpos : 0 < s.size := by rw [hs, hl]; simp
      have hs0 : s[0]'hpos = c := by
        have h1 : s.data[0]? = some c := by rw [← Array.getElem?_toList, hl]; rfl
        exact Option.some.inj ((Array.getElem?_eq_getElem (xs := s.data) (i := 0) hpos).symm.trans h1)
      obtain ⟨v0, hv0⟩ : ∃ v : Int, ((s[0]'hpos).toNat : Int) = v := ⟨_, rfl⟩
      have hvc : v0 = c.toNat := by rw [← hv0, hs0]
      clear hs0
      by_cases hz : 1 < s.size ∧ c = 48
      · have hr := Lib.hid (rdV_none (readB_zero (m := m) (by omega) (by rw [hl, hz.2]; rfl)) : rdV s.data.toList m = -1)
        have hI2 : (s.size : Int) > 1 := by omega
        obtain rfl : v0 = 48 := by rw [hvc, hz.2]; rfl
        clear h0 hl hs hvc hz hc0
        go_enter Tryz.func60, Tryz.ntmps60
        go_wp2
        go_ret
        exact ⟨by rw [hr.out]; rfl, rfl⟩
      · have hz1 : ¬ (s.size : Int) > 1 ∨ ((s.size : Int) > 1 ∧ (v0 == 48) = false) := by
          by_cases h1 : 1 < s.size
          · right
            refine ⟨by omega, ?_⟩
            have h2 : c ≠ 48 := fun h => hz ⟨h1, h⟩
            simp
            intro h3
            apply h2
            apply UInt8.toNat_inj.1
            have : (48 : UInt8).toNat = 48 := rfl
            omega
          · left; omega
        have hG := Lib.hid (fun hall => readB_good (l := s.data.toList) (m := m) h0 (fun h => hz ⟨by omega, by rw [hl] at h; simpa using h.2⟩) hall)
        have HS := Lib.hid hs
        clear h0 hl hs hvc hz hc0
        have hq : ∀ (i : Nat) (h : i < s.size), Hid (s.data.toList[i]? = some (s[i]'h)) := fun i h => Lib.hid (by
          rw [Array.getElem?_toList]
          exact Array.getElem?_eq_getElem (xs := s.data) (i := i) h)
        have HQ := Lib.hid hq
        clear hq
        rcases hz1 with hz1 | ⟨hz1, hz2⟩
        all_goals
          go_enter Tryz.func60, Tryz.ntmps60
          go_wp2
          go_loop [5, 6] (fun n i => ∃ k a : Nat, i = .int .i64 k ∧ n = .int .i64 a ∧ k ≤ s.size ∧ Hid (a = valD 0 (s.data.toList.take k)) ∧ Hid ((s.data.toList.take k).all isDig = true)) (fun _ i => s.size - (intOf i).toNat)
          case atStart => exact ⟨0, 0, rfl, rfl, by omega, Lib.hid (by simp [valD]), Lib.hid (by simp)⟩
          case round =>
            obtain ⟨k, a, rfl, rfl, hk, ha, hall⟩ := hrel
            by_cases hlt : k < s.size
            · have hx := HQ.out k hlt
              have hI3 : (k : Int) < (s.size : Int) := by omega
              have hI4 : (0 : Int) ≤ k := by omega
              have ha12 : a < 1000000000000 := by
                rw [ha.out]
                exact valD_lt 12 _ (by rw [List.length_take]; omega) hall.out
              obtain ⟨v, hv⟩ : ∃ v : Int, ((s[k]'hlt).toNat : Int) = v := ⟨_, rfl⟩
              have hvn : 0 ≤ v := by omega
              have hxv := Lib.hid (show (s[k]'hlt).toNat = v.toNat by omega)
              rcases (show v < 48 ∨ (48 ≤ v ∧ 57 < v) ∨ (48 ≤ v ∧ v ≤ 57) by omega) with h1 | ⟨h1, h2⟩ | ⟨h1, h2⟩
              · have hr := Lib.hid (rdV_none (readB_bad (m := m) hx.out (by unfold isDig; rw [hxv.out]; simp; omega)) : rdV s.data.toList m = -1)
                have d1 : decide (v < 48) = true := by simp [h1]
                clear hx hxv ha12 hvn
                go_wp2
                go_ret
                exact ⟨by rw [hr.out]; rfl, rfl⟩
              · have hr := Lib.hid (rdV_none (readB_bad (m := m) hx.out (by unfold isDig; rw [hxv.out]; simp; omega)) : rdV s.data.toList m = -1)
                have d1 : decide (v < 48) = false := by simp; omega
                have d2 : decide (57 < v) = true := by simp [h2]
                clear hx hxv ha12 hvn
                go_wp2
                go_ret
                exact ⟨by rw [hr.out]; rfl, rfl⟩
              · have hdig : isDig (s[k]'hlt) = true := by unfold isDig; rw [hxv.out]; simp; omega
                have ha2 := Lib.hid (show 10 * a + (v.toNat - 48) = valD 0 (s.data.toList.take (k + 1)) by rw [valD_take hx.out, hxv.out, ← ha.out])
                have hall2 := Lib.hid (show (s.data.toList.take (k + 1)).all isDig = true by rw [List.take_add_one, hx.out, List.all_append, hall.out]; simp [hdig])
                have d1 : decide (v < 48) = false := by simp; omega
                have d2 : decide (57 < v) = false := by simp; omega
                have w1 : wrap64 (10 * (a : Int)) = 10 * (a : Int) := by unfold wrap64; omega
                have w2 : (v - 48) % 256 = v - 48 := by omega
                have w3 : wrap64 (10 * (a : Int) + (v - 48)) = 10 * (a : Int) + (v - 48) := by unfold wrap64; omega
                have hpos2 := Lib.hid (show (10 * (a : Int) + (v - 48)) = ((10 * a + (v.toNat - 48) : Nat) : Int) by omega)
                clear hx hxv hdig ha hall hvn
                go_wp2
                clear w1 w2 w3 d1 d2
                exact ⟨⟨k + 1, 10 * a + (v.toNat - 48), by go_num, vint hpos2.out, by omega, ha2, hall2⟩, by simp only [intOf]; omega⟩
            · obtain rfl : k = s.size := by omega
              have hall3 : s.data.toList.all isDig = true := by have h := hall.out; rw [HS.out, List.take_length] at h; exact h
              have ha3 : a = valD 0 s.data.toList := by have h := ha.out; rw [HS.out, List.take_length] at h; exact h
              have hg := hG.out hall3
              rw [← ha3] at hg
              by_cases hm2 : a ≤ m
              · have hr := Lib.hid (rdV_some (by rw [hg, if_pos hm2]) : rdV s.data.toList m = a)
                have d1 : ¬ (a : Int) > (m : Int) := by omega
                clear hg ha3 hall3 ha hall
                go_wp2
                go_ret
                exact ⟨by rw [hr.out]; rfl, rfl⟩
              · have hr := Lib.hid (rdV_none (by rw [hg, if_neg hm2]) : rdV s.data.toList m = -1)
                have d1 : (a : Int) > (m : Int) := by omega
                clear hg ha3 hall3 ha hall
                go_wp2
                go_ret
                exact ⟨by rw [hr.out]; rfl, rfl⟩
end Go.Proofs.YtpmoepipoafegaaGreatDoor

/-
  The text of a rule, and the rule of a text: plain laws; no walk.
-/
namespace Go.Proofs.YtpmoepipoafegaaGreatDoor
open Go Go.RowKit Go.Sort

theorem pieces_joinL (c : UInt8) : ∀ (L : List (List UInt8)), L ≠ [] → (∀ x ∈ L, c ∉ x) → pieces c (Lib.join L [c]) = L
  | [], h, _ => absurd rfl h
  | [x], _, h => by rw [Lib.join_one]; exact pieces_none (h x (by simp))
  | x :: y :: r, _, h => by
    have e : Lib.join (x :: y :: r) [c] = x ++ c :: Lib.join (y :: r) [c] := by
      rw [Lib.join_cons, Lib.join_cons]
      simp [Lib.joinTail]
    rw [e, pieces_cons _ (h x (by simp)), pieces_joinL c (y :: r) (by simp) (fun z hz => h z (List.mem_cons_of_mem _ hz))]
def portT (lo hi : Int) : List UInt8 := Lib.decDigits lo.toNat ++ 45 :: Lib.decDigits hi.toNat
def permitW : List UInt8 := [112, 101, 114, 109, 105, 116]
def denyW : List UInt8 := [100, 101, 110, 121]
def anyW : List UInt8 := [97, 110, 121]
def whatT (b : Bool) : List UInt8 := if b then permitW else denyW
def protoT (p : Int) : List UInt8 := if 0 ≤ p then Lib.decDigits p.toNat else anyW
def prefT (a n : Int) : List UInt8 := (textP a.toNat n).data.toList
/-- A rule's words. -/
def RuleV.words (r : RuleV) : List (List UInt8) := [whatT r.permit, protoT r.proto, prefT r.sa r.sn, prefT r.da r.dn, portT r.sl r.sh, portT r.dl r.dh]
/-- A rule's text. -/
def RuleV.text (r : RuleV) : List UInt8 := Lib.join r.words [32]
theorem mayB_ok {r : RuleV} (h : mayB r = true) : -1 ≤ r.proto ∧ r.proto ≤ 255 ∧ chk r.sa r.sn = 0 ∧ chk r.da r.dn = 0 ∧ r.sl ≤ r.sh ∧ r.sh ≤ 65535 ∧ r.dl ≤ r.dh ∧ r.dh ≤ 65535 := by
  simpa [mayB, portsB, and_assoc] using h
theorem prefT_nat {a n : Int} (h : 0 ≤ n) : prefT a n = (textA a.toNat).data.toList ++ 47 :: Lib.decDigits n.toNat := by
  obtain ⟨k, rfl⟩ := Int.eq_ofNat_of_zero_le h
  unfold prefT
  rw [textP_list, Int.toNat_natCast]
theorem prefT_no {a n : Int} (h : 0 ≤ n) : (32 : UInt8) ∉ prefT a n := by
  rw [prefT_nat h]
  intro hm
  rw [List.mem_append, List.mem_cons] at hm
  rcases hm with hm | hm | hm
  · exact not_text (by decide) (by decide) _ hm
  · exact absurd hm (by decide)
  · exact not_dec (by decide) _ hm
theorem portT_no (lo hi : Int) : (32 : UInt8) ∉ portT lo hi := by
  unfold portT
  intro hm
  rw [List.mem_append, List.mem_cons] at hm
  rcases hm with hm | hm | hm
  · exact not_dec (by decide) _ hm
  · exact absurd hm (by decide)
  · exact not_dec (by decide) _ hm
theorem words_no {r : RuleV} (h : mayB r = true) : ∀ x ∈ r.words, (32 : UInt8) ∉ x := by
  obtain ⟨_, _, h3, h4, _⟩ := mayB_ok h
  have k3 := chk_ok h3
  have k4 := chk_ok h4
  intro x hx
  simp only [RuleV.words, List.mem_cons, List.not_mem_nil, or_false] at hx
  rcases hx with rfl | rfl | rfl | rfl | rfl | rfl
  · unfold whatT; split <;> decide
  · unfold protoT; split
    · exact not_dec (by decide) _
    · decide
  · exact prefT_no k3.1
  · exact prefT_no k4.1
  · exact portT_no _ _
  · exact portT_no _ _
theorem text_words {r : RuleV} (h : mayB r = true) : pieces 32 r.text = r.words := pieces_joinL 32 _ (by simp [RuleV.words]) (words_no h)
/-- What is read of the words. -/
def permR (w : List UInt8) : Bool := decide (w = permitW)
def protoR (w : List UInt8) : Option Int := if w = anyW then some (-1) else match Lib.parseUintB 8 w with | .ok n => some n | _ => none
def protoD (w : List UInt8) : Option Int := if w = anyW then some (-1) else if rdV w 255 < 0 then none else some (rdV w 255)
def endsR (w : List UInt8) : Int × Int :=
  match Lib.parseUintB 16 (Lib.cut w [45]).1, Lib.parseUintB 16 (Lib.cut w [45]).2.1 with
  | .ok a, .ok b => (a, b)
  | _, _ => (1, 0)
theorem permR_what (b : Bool) : permR (whatT b) = b := by cases b <;> decide
theorem dec_any (n : Nat) : Lib.decDigits n ≠ anyW := by
  intro h
  have := decDigits_all n
  rw [h] at this
  exact absurd this (by decide)
theorem protoR_T {p : Int} (h0 : -1 ≤ p) (h1 : p ≤ 255) : protoR (protoT p) = some p := by
  unfold protoR protoT
  by_cases h : 0 ≤ p
  · rw [if_pos h, if_neg (dec_any _), uint8_digits (by omega)]
    simp; omega
  · rw [if_neg h, if_pos rfl]
    simp; omega
theorem protoD_T {p : Int} (h0 : -1 ≤ p) (h1 : p ≤ 255) : protoD (protoT p) = some p := by
  unfold protoD protoT
  by_cases h : 0 ≤ p
  · have e : rdV (Lib.decDigits p.toNat) 255 = p := by
      rw [rdV_some (readB_some.2 ⟨rfl, by omega⟩)]
      omega
    rw [if_pos h, if_neg (dec_any _), e, if_neg (by omega)]
  · rw [if_neg h, if_pos rfl]
    simp; omega
theorem endsR_T {lo hi : Int} (h0 : 0 ≤ lo) (h1 : lo ≤ hi) (h2 : hi ≤ 65535) : endsR (portT lo hi) = (lo, hi) := by
  unfold endsR portT
  rw [cut_hit1 _ (not_dec (by decide) _)]
  simp only [uint16_digits (n := lo.toNat) (by omega), uint16_digits (n := hi.toNat) (by omega)]
  rw [Int.toNat_of_nonneg h0, Int.toNat_of_nonneg (by omega)]
theorem endsR_lt (w : List UInt8) : 0 ≤ (endsR w).1 ∧ (endsR w).1 < 65536 ∧ 0 ≤ (endsR w).2 ∧ (endsR w).2 < 65536 := by
  unfold endsR
  split
  · rename_i a b h1 h2
    have := uint16_le h1
    have := uint16_le h2
    dsimp only
    omega
  · decide
/-- What the document's words read: the numbers, and whether they are any. -/
def portsD (w : List UInt8) : (Int × Int) × Bool :=
  if (Lib.cut w [45]).2.2 = true then ((rdV (Lib.cut w [45]).1 65535 % 4294967296, rdV (Lib.cut w [45]).2.1 65535 % 4294967296), decide (0 ≤ rdV (Lib.cut w [45]).1 65535) && decide (0 ≤ rdV (Lib.cut w [45]).2.1 65535)) else ((0, 0), false)
theorem portsD_T {lo hi : Int} (h0 : 0 ≤ lo) (h1 : lo ≤ hi) (h2 : hi ≤ 65535) : portsD (portT lo hi) = ((lo, hi), true) := by
  unfold portsD portT
  rw [cut_hit1 _ (not_dec (by decide) _)]
  have e1 : rdV (Lib.decDigits lo.toNat) 65535 = lo := by
    rw [rdV_some (readB_some.2 ⟨rfl, by omega⟩)]
    omega
  have e2 : rdV (Lib.decDigits hi.toNat) 65535 = hi := by
    rw [rdV_some (readB_some.2 ⟨rfl, by omega⟩)]
    omega
  simp only [e1, e2, if_true]
  rw [Int.emod_eq_of_lt h0 (by omega), Int.emod_eq_of_lt (by omega) (by omega)]
  simp
  omega
theorem rdV_le (l : List UInt8) (m : Nat) : -1 ≤ rdV l m ∧ rdV l m ≤ m := by
  unfold rdV
  split
  · rename_i n h
    have := readB_le h
    omega
  · omega
theorem portsD_lt (w : List UInt8) : 0 ≤ (portsD w).1.1 ∧ (portsD w).1.1 < 4294967296 ∧ 0 ≤ (portsD w).1.2 ∧ (portsD w).1.2 < 4294967296 := by
  unfold portsD
  split
  · dsimp only
    omega
  · decide
theorem ppO_T {a n : Int} (h0 : 0 ≤ a) (h1 : a < 4294967296) (h : chk a n = 0) : ppA (prefT a n) = a ∧ ppN (prefT a n) = n ∧ ppE (prefT a n) = 0 := by
  obtain ⟨k0, k1, _⟩ := chk_ok h
  have e := prefix_text a.toNat n.toNat (by omega) (by omega)
  rw [Int.toNat_of_nonneg k0] at e
  have hy := pp_yes (l := prefT a n) (a := a.toNat) (n := n.toNat) e (by rw [Int.toNat_of_nonneg k0, Int.toNat_of_nonneg h0]; exact h)
  rw [hy.1, hy.2.1, hy.2.2]
  omega
theorem ppA_lt (l : List UInt8) : 0 ≤ ppA l ∧ ppA l < 4294967296 := by
  rcases pp_cases l with h | ⟨a, n, _, h2, _, h4, _⟩
  · unfold ppA ppE at *
    split
    · omega
    · rename_i a n hO
      rw [hO] at h
      dsimp only at h
      rw [if_neg h]
      omega
  · rw [h2]; omega
theorem ppN_range (l : List UInt8) : 0 ≤ ppN l ∧ ppN l ≤ 32 := by
  rcases pp_cases l with h | ⟨a, n, _, _, h3, _, h5, _⟩
  · unfold ppN ppE at *
    split
    · omega
    · rename_i a n hO
      rw [hO] at h
      dsimp only at h
      rw [if_neg h]
      omega
  · rw [h3]; omega
theorem rule_ext {r q : RuleV} (h0 : r.permit = q.permit) (h1 : r.proto = q.proto) (h2 : r.sa = q.sa) (h3 : r.sn = q.sn) (h4 : r.da = q.da) (h5 : r.dn = q.dn) (h6 : r.sl = q.sl) (h7 : r.sh = q.sh) (h8 : r.dl = q.dl) (h9 : r.dh = q.dh) : r = q := by
  cases r; cases q; simp_all
/-- What the words of a rule's text are read to. -/
structure ReadsTo (r : RuleV) (p0 p1 p2 p3 p4 p5 : List UInt8) : Prop where
  permit : permR p0 = r.permit
  proto : protoR p1 = some r.proto
  protoD : protoD p1 = some r.proto
  sa : ppA p2 = r.sa
  sn : ppN p2 = r.sn
  se : ppE p2 = 0
  da : ppA p3 = r.da
  dn : ppN p3 = r.dn
  de : ppE p3 = 0
  sp : endsR p4 = (r.sl, r.sh)
  dp : endsR p5 = (r.dl, r.dh)
  spD : portsD p4 = ((r.sl, r.sh), true)
  dpD : portsD p5 = ((r.dl, r.dh), true)
theorem reads_to {r : RuleV} {l p0 p1 p2 p3 p4 p5 : List UInt8} (h : mayB r = true) (hl : r.text = l) (hp : pieces 32 l = [p0, p1, p2, p3, p4, p5]) : ReadsTo r p0 p1 p2 p3 p4 p5 := by
  have hw := text_words h
  rw [hl, hp] at hw
  unfold RuleV.words at hw
  injection hw with e0 hw
  injection hw with e1 hw
  injection hw with e2 hw
  injection hw with e3 hw
  injection hw with e4 hw
  injection hw with e5 hw
  subst e0 e1 e2 e3 e4 e5
  obtain ⟨k0, k1, k2, k3, k4, k5, k6, k7⟩ := mayB_ok h
  have a1 := ppO_T r.hsa.1 r.hsa.2 k2
  have a2 := ppO_T r.hda.1 r.hda.2 k3
  exact ⟨permR_what _, protoR_T k0 k1, protoD_T k0 k1, a1.1, a1.2.1, a1.2.2, a2.1, a2.2.1, a2.2.2, endsR_T r.hsl.1 k4 k5, endsR_T r.hdl.1 k6 k7, portsD_T r.hsl.1 k4 k5, portsD_T r.hdl.1 k6 k7⟩
theorem reads_len {r : RuleV} {l : List UInt8} (h : mayB r = true) (hl : r.text = l) : (pieces 32 l).length = 6 := by
  rw [← hl, text_words h]
  rfl
theorem six {α : Type} {L : List α} (h : L.length = 6) : ∃ a b c d e f, L = [a, b, c, d, e, f] := by
  match L, h with
  | [a, b, c, d, e, f], _ => exact ⟨a, b, c, d, e, f, rfl⟩
theorem rule_inj {r q : RuleV} (h : mayB r = true) (hq : mayB q = true) (e : r.text = q.text) : r = q := by
  obtain ⟨p0, p1, p2, p3, p4, p5, hp⟩ := six (reads_len h rfl)
  have a := reads_to h rfl hp
  have b := reads_to hq e.symm hp
  have s1 := a.sp.symm.trans b.sp
  have s2 := a.dp.symm.trans b.dp
  injection s1 with s1 s3
  injection s2 with s2 s4
  have e1 := a.proto.symm.trans b.proto
  injection e1 with e1
  exact rule_ext (a.permit.symm.trans b.permit) e1 (a.sa.symm.trans b.sa) (a.sn.symm.trans b.sn) (a.da.symm.trans b.da) (a.dn.symm.trans b.dn) s1 s3 s2 s4
open Classical in
/-- The rule that a text is the text of. -/
noncomputable def frO (l : List UInt8) : Option RuleV := if h : ∃ r : RuleV, mayB r = true ∧ r.text = l then some h.choose else none
theorem frO_text {r : RuleV} (h : mayB r = true) : frO r.text = some r := by
  have he : ∃ q : RuleV, mayB q = true ∧ q.text = r.text := ⟨r, h, rfl⟩
  unfold frO
  rw [dif_pos he, rule_inj he.choose_spec.1 h he.choose_spec.2]
theorem frO_some {l : List UInt8} {r : RuleV} (h : frO l = some r) : mayB r = true ∧ r.text = l := by
  unfold frO at h
  split at h
  · rename_i he
    injection h with h
    rw [← h]
    exact he.choose_spec
  · cases h
theorem frO_no {l : List UInt8} (h : ∀ r : RuleV, mayB r = true → r.text = l → False) : frO l = none := by
  cases e : frO l with
  | none => rfl
  | some r => exact (h r (frO_some e).1 (frO_some e).2).elim
theorem frO_len {l : List UInt8} (h : (pieces 32 l).length ≠ 6) : frO l = none := frO_no fun _ h1 h2 => h (reads_len h1 h2)
/-- A rule as the program's words, or the document's, were read to. -/
structure Cand (c : RuleV) (p0 p2 p3 : List UInt8) : Prop where
  permit : c.permit = permR p0
  sa : c.sa = ppA p2
  sn : c.sn = ppN p2
  da : c.da = ppA p3
  dn : c.dn = ppN p3
theorem frO_cand {l p0 p1 p2 p3 p4 p5 : List UInt8} {c : RuleV} (hp : pieces 32 l = [p0, p1, p2, p3, p4, p5]) (hc : Cand c p0 p2 p3) (h1 : protoR p1 = some c.proto) (h2 : endsR p4 = (c.sl, c.sh)) (h3 : endsR p5 = (c.dl, c.dh)) :
    frO l = if ppE p2 = 0 ∧ ppE p3 = 0 ∧ mayB c = true ∧ c.text = l then some c else none := by
  split
  · rename_i h
    rw [← h.2.2.2]
    exact frO_text h.2.2.1
  · rename_i h
    refine frO_no fun r hr ht => h ?_
    have a := reads_to hr ht hp
    have s1 := a.sp.symm.trans h2
    have s2 := a.dp.symm.trans h3
    injection s1 with s1 s3
    injection s2 with s2 s4
    have e1 := a.proto.symm.trans h1
    injection e1 with e1
    obtain rfl : r = c := rule_ext (a.permit.symm.trans hc.permit.symm) e1 (a.sa.symm.trans hc.sa.symm) (a.sn.symm.trans hc.sn.symm) (a.da.symm.trans hc.da.symm) (a.dn.symm.trans hc.dn.symm) s1 s3 s2 s4
    exact ⟨a.se, a.de, hr, ht⟩
theorem frO_candD {l p0 p1 p2 p3 p4 p5 : List UInt8} {c : RuleV} (hp : pieces 32 l = [p0, p1, p2, p3, p4, p5]) (hc : Cand c p0 p2 p3) (h1 : protoD p1 = some c.proto) {u v : Bool} (h2 : portsD p4 = ((c.sl, c.sh), u)) (h3 : portsD p5 = ((c.dl, c.dh), v)) :
    frO l = if ppE p2 = 0 ∧ ppE p3 = 0 ∧ u = true ∧ v = true ∧ mayB c = true ∧ c.text = l then some c else none := by
  split
  · rename_i h
    rw [← h.2.2.2.2.2]
    exact frO_text h.2.2.2.2.1
  · rename_i h
    refine frO_no fun r hr ht => h ?_
    have a := reads_to hr ht hp
    have s1 := a.spD.symm.trans h2
    have s2 := a.dpD.symm.trans h3
    injection s1 with s1 u1
    injection s1 with s1 s3
    injection s2 with s2 u2
    injection s2 with s2 s4
    have e1 := a.protoD.symm.trans h1
    injection e1 with e1
    obtain rfl : r = c := rule_ext (a.permit.symm.trans hc.permit.symm) e1 (a.sa.symm.trans hc.sa.symm) (a.sn.symm.trans hc.sn.symm) (a.da.symm.trans hc.da.symm) (a.dn.symm.trans hc.dn.symm) s1 s3 s2 s4
    exact ⟨a.se, a.de, u1.symm, u2.symm, hr, ht⟩
theorem frO_proto {l p0 p1 p2 p3 p4 p5 : List UInt8} (hp : pieces 32 l = [p0, p1, p2, p3, p4, p5]) (h1 : protoR p1 = none) : frO l = none := frO_no fun r hr ht => by
  have := (reads_to hr ht hp).proto
  rw [h1] at this
  cases this
theorem frO_protoD {l p0 p1 p2 p3 p4 p5 : List UInt8} (hp : pieces 32 l = [p0, p1, p2, p3, p4, p5]) (h1 : protoD p1 = none) : frO l = none := frO_no fun r hr ht => by
  have := (reads_to hr ht hp).protoD
  rw [h1] at this
  cases this
/-- What Parse answers. -/
noncomputable def frV (l : List UInt8) : RuleV := (frO l).getD default
noncomputable def frE (l : List UInt8) : Int := if (frO l).isSome then 0 else 4
theorem fr_none {l : List UInt8} (h : frO l = none) : frV l = default ∧ frE l = 4 := by unfold frV frE; rw [h]; exact ⟨rfl, rfl⟩
theorem fr_some {l : List UInt8} {r : RuleV} (h : frO l = some r) : frV l = r ∧ frE l = 0 := by unfold frV frE; rw [h]; exact ⟨rfl, rfl⟩
/-- What Text answers. -/
def RuleV.told (r : RuleV) : List UInt8 := if mayB r then r.text else []
def RuleV.toldE (r : RuleV) : Int := if mayB r then 0 else 121
theorem told_yes {r : RuleV} (h : mayB r = true) : r.told = r.text ∧ r.toldE = 0 := by unfold RuleV.told RuleV.toldE; rw [if_pos h, if_pos h]; exact ⟨rfl, rfl⟩
theorem told_no {r : RuleV} (h : mayB r = false) : r.told = [] ∧ r.toldE = 121 := by unfold RuleV.told RuleV.toldE; rw [h]; exact ⟨rfl, rfl⟩
def RuleV.agg (r : RuleV) : Value := .agg r.enc.toArray
end Go.Proofs.YtpmoepipoafegaaGreatDoor

/-
  strconv.FormatUint at base 10: the number's decimal digits.
-/
namespace Go.Proofs.YtpmoepipoafegaaGreatDoor
open Go Go.RowKit Go.Lib Go.Sort

set_option maxRecDepth 100000 in
set_option maxHeartbeats 4000000 in
theorem fmtInner_any (u : Nat) (hu64 : u < 18446744073709551616) (w : World) (htab : Lib.TabIs Tryz.prog w "internal/strconv.uint64pow10" .u64 Lib.pow10Tab) :
    Calls Tryz.prog 55 #[.int .u64 u, .int .i64 10] w fun e w' => e = .returned (.string ⟨(Lib.decDigits u).toArray⟩) ∧ ∃ k os, w' = grow (w.drewN k) os := by
  by_cases hs : u < 100
  · have hsm := Tryz.internal_strconv_small u hs w
    have hI : (u : Int) < 100 := by omega
    go_enter Tryz.func55, Tryz.ntmps55
    go_wp2_with fail
    refine hsm.mono ?_
    rintro e w' ⟨rfl, rfl⟩
    go_wp2
    go_ret
    exact ⟨rfl, 0, #[], by simp [World.drewN_zero]⟩
  · have hI : ¬ (u : Int) < 100 := by omega
    have hu1 : 1 ≤ u := by omega
    have hnd20 : Lib.nDigits u ≤ 20 := by have := Lib.numDigits_eq u hu1 hu64; split at this <;> omega
    have hal : Tryz.prog.arrayLen 102 = 24 := by kernel_rfl
    have hsl : ∀ W, (Instr.sliceAt 102 (.pointer (some ⟨w.heap.size, 0, none⟩)) none (some (.int .i64 (Lib.nDigits u : Int))) none).run Tryz.prog W = .ok (.slice (some ⟨w.heap.size, 0, none⟩) (Lib.nDigits u) 24) W := fun W => by
      rw [run_sliceAt_array_h W 102 ⟨w.heap.size, 0, none⟩ (by kernel_rfl) .i64 (Lib.nDigits u : Int) (by omega) (by rw [hal]; omega)]
      go_simp
    have hH0 := Lib.holds_zero0 w 102 (Lib.nDigits u) (by omega)
    have hfmt := Tryz.internal_strconv_formatBase10 w.heap.size 0 24 u (Array.replicate (Lib.nDigits u) 0) (w.alloc (.cells Lib.zeros24 102)) hH0 (by rw [Array.size_replicate]; exact Lib.lt_pow_nDigits u) hu64 (by rw [Array.size_replicate]; omega)
    rw [Array.size_replicate] at hfmt
    have HH0 := Lib.hid hH0
    have hnum := Tryz.internal_strconv_numDigits u hu1 hu64 (w.alloc (.cells Lib.zeros24 102)) (Lib.tabIs_alloc htab _)
    clear hH0 hal
    go_enter Tryz.func55, Tryz.ntmps55
    go_wp2_with fail
    refine hnum.mono ?_
    rintro e w' ⟨rfl, rfl⟩
    go_wp2_with fail
    refine hfmt.mono ?_
    rintro e w' ⟨rfl, k, v', dk, rfl, hF⟩
    have hcv : (convert 75 9 (.slice (some ⟨w.heap.size, 0, none⟩) (Lib.nDigits u) 24)).run Tryz.prog ((putRow (fun (b : UInt8) => Value.int .u8 (b.toNat : Int)) (w.alloc (.cells Lib.zeros24 102)) w.heap.size 0 dk).drewN k) = .ok (.string ⟨(Lib.decDigits u).toArray⟩) ((putRow (fun (b : UInt8) => Value.int .u8 (b.toNat : Int)) (w.alloc (.cells Lib.zeros24 102)) w.heap.size 0 dk).drewN k) := by
      have h := run_convert_bytes_back (P := Tryz.prog) ((putRow (fun (b : UInt8) => Value.int .u8 (b.toNat : Int)) (w.alloc (.cells Lib.zeros24 102)) w.heap.size 0 dk).drewN k) 75 9 5 ⟨w.heap.size, 0, none⟩ 24 (Lib.decDigits u) Tryz.underlying75 Tryz.underlying5 Tryz.underlying9 (fun j hj => by
        rw [Lib.row_is_numeral hF j hj, Lib.add_plain, World.cell?_drewN]
        exact cell?_putRow (fun (b : UInt8) => Value.int .u8 (b.toNat : Int)) _ w.heap.size 0 _ dk HH0.out (by rw [hF.size, Array.size_replicate]) j (by rw [hF.size]; rw [Lib.decDigits_length] at hj; exact hj))
      rw [Lib.decDigits_length] at h
      exact h
    go_wp2
    go_ret
    obtain ⟨os, eo⟩ := Lib.fin_at w (.cells Lib.zeros24 102) dk k 0
    exact ⟨rfl, k, os, eo⟩
set_option maxRecDepth 100000 in
set_option maxHeartbeats 1000000 in
theorem fmtUint_any (u : Nat) (hu64 : u < 18446744073709551616) (w : World) (hE : Env w) :
    Calls Tryz.prog 31 #[.int .u64 u, .int .i64 10] w fun e w' => e = .returned (.string ⟨(Lib.decDigits u).toArray⟩) ∧ Below w.heap.size w w' := by
  go_enter Tryz.func31, Tryz.ntmps31
  go_wp2_with fail
  refine (fmtInner_any u hu64 w hE.tab).mono ?_
  rintro e w' ⟨rfl, h⟩
  go_wp2
  go_ret
  exact ⟨rfl, below_of_grow h⟩
end Go.Proofs.YtpmoepipoafegaaGreatDoor
