/-
  Joined texts: Ad3, Addr5, Addr6, Addr7, Addr8, Ad4, Cut, Ad5, Addr9, InMath, CovMath, Ad6, Hd1, Hd2, Hd3.
-/
import Derived.Test.YtbahehmfhjkgeaaGreatMRelRefuses9
import Derived.Lib.JoinLaws
import Derived.RegionTactic
import Derived.BigRegion
import Derived.Deep.RegionHeld3
import Derived.Test.YtbahehmfhjkgeaaGreatMRelRefuses3
import Derived.Test.YtbahehmfhjkgeaaGreatMRelRefuses2
import Derived.Test.YtbahehmfhjkgeaaGreatMRelRefuses1
import Derived.Deep.DeepCutAuto
import Derived.StillTailTactics
/-
  Walks over the addresses' texts: Text, PrefixText, ParsePrefix.
-/
namespace Go.Proofs.YtbahehmfhjkgeaaGreat
open Go Go.RowKit Go.Sort

/-- The four numbers of an address. -/
def octet (a k : Nat) : Nat := a / 256 ^ (3 - k) % 256
/-- The cells of the array while it is filled. -/
def octs (a k : Nat) : List ByteArray := (List.range 4).map fun i => if i < k then ⟨(Lib.decDigits (octet a i)).toArray⟩ else ByteArray.empty
/-- An address's text. -/
def textA (a : Nat) : ByteArray := ⟨(Lib.join [Lib.decDigits (octet a 0), Lib.decDigits (octet a 1), Lib.decDigits (octet a 2), Lib.decDigits (octet a 3)] [46]).toArray⟩

theorem frozen_row {w : World} {g : Nat} {cs : Array Value} {t : TypeId} (h : w.heap[g]? = some (.cells cs t (0, 0))) (k : Nat) : w.frozen? ⟨g, k, none⟩ = false := by
  unfold World.frozen?
  simp [h]
/-- A numeral of a number below 1000, written out. -/
def dec3 (n : Nat) : List UInt8 := if n < 10 then [UInt8.ofNat (48 + n)] else if n < 100 then [UInt8.ofNat (48 + n / 10), UInt8.ofNat (48 + n % 10)] else [UInt8.ofNat (48 + n / 100), UInt8.ofNat (48 + n / 10 % 10), UInt8.ofNat (48 + n % 10)]
/-- A prefix's text. -/
def textP (a : Nat) (n : Int) : ByteArray := textA a ++ ⟨#[47]⟩ ++ ⟨(Lib.itoa n).toArray⟩
end Go.Proofs.YtbahehmfhjkgeaaGreat

/-
  Walks over the addresses' layer: Halves; the program's and the reference's.
-/
namespace Go.Proofs.YtbahehmfhjkgeaaGreat
open Go Go.RowKit Go.Sort

/-- The halves of a prefix: the refusal, where they begin, their bits. -/
def halfE (a n : Int) : Int := if chk a n = 0 then (if n = 32 then 5 else 0) else chk a n
def halfL (a n : Int) : Int := if halfE a n = 0 then a else 0
def halfH (a n : Int) : Int := if halfE a n = 0 then a + sz (n + 1) else 0
def halfN (a n : Int) : Int := if halfE a n = 0 then n + 1 else 0
theorem half_le (a n : Int) (hb : a < 4294967296) (hn0 : 0 ≤ n) (hn : n < 32) (h : a % sz n = 0) : sz n = 2 * sz (n + 1) ∧ a + sz (n + 1) < 4294967296 := by
  have e : sz n = 2 * sz (n + 1) := by
    unfold sz
    rw [← p2_succ]
    congr 1; omega
  have h1 := end_le a n hb h
  have := sz_pos (n + 1)
  omega
def HalfRes (a n : Int) (w : World) (en : Ending) (w' : World) : Prop :=
  en = .returned (.tuple #[.agg #[.int .u32 (halfL a n), .int .i64 (halfN a n)], .agg #[.int .u32 (halfH a n), .int .i64 (halfN a n)], .int .i64 (halfE a n)]) ∧ Below w.heap.size w w'

end Go.Proofs.YtbahehmfhjkgeaaGreat

/-
  Walks over the addresses' layer: Within, Cmp, and the law's same; the program's and the reference's.
-/
namespace Go.Proofs.YtbahehmfhjkgeaaGreat
open Go Go.RowKit Go.Sort

/-- Is a prefix in another one? -/
def withinB (a n b m : Int) : Bool := decide (chk a n = 0 ∧ m ≤ n) && inB a b m
end Go.Proofs.YtbahehmfhjkgeaaGreat

/-
  Walks over the addresses' layer: Cmp, and the law's same.
-/
namespace Go.Proofs.YtbahehmfhjkgeaaGreat
open Go Go.RowKit Go.Sort

/-- The order of prefixes. -/
def cmpP (a n b m : Int) : Int := firstNZ [cmpI a b, cmpI n m]

end Go.Proofs.YtbahehmfhjkgeaaGreat

/-
  Walks over the addresses' layer: Common; the program's.
-/
namespace Go.Proofs.YtbahehmfhjkgeaaGreat
open Go Go.RowKit Go.Sort

/-- What two addresses have in common: the leading zeros of the bits in which they differ. -/
def xorI (a b : Int) : Int := ((a.toNat ^^^ b.toNat : Nat) : Int)
theorem xor_range (a b : Int) (h0 : 0 ≤ a) (h1 : a < 4294967296) (h2 : 0 ≤ b) (h3 : b < 4294967296) : 0 ≤ xorI a b ∧ xorI a b < 4294967296 := by
  unfold xorI
  have := Nat.xor_lt_two_pow (x := a.toNat) (y := b.toNat) (n := 32) (by omega) (by omega)
  omega
/-- The bits of what two prefixes have in common. -/
def comN (a n b m : Int) : Int := if lz32 (xorI a b) < (if m < n then m else n) then lz32 (xorI a b) else (if m < n then m else n)
theorem com_range {a b : Int} (n m : Int) (hn0 : 0 ≤ n) (hn1 : n ≤ 32) (hm0 : 0 ≤ m) (hm1 : m ≤ 32) (hl : 0 ≤ lz32 (xorI a b) ∧ lz32 (xorI a b) ≤ 32) : 0 ≤ comN a n b m ∧ comN a n b m ≤ 32 := by
  unfold comN
  split <;> split <;> omega
def comE (a n b m : Int) : Int := if chk a n = 0 then chk b m else chk a n
def comA (a n b m : Int) : Int := if comE a n b m = 0 then subA a (comN a n b m) else 0
def comB (a n b m : Int) : Int := if comE a n b m = 0 then comN a n b m else 0
theorem com_yes {a n b m : Int} (h : comE a n b m = 0) : comA a n b m = subA a (comN a n b m) ∧ comB a n b m = comN a n b m := ⟨if_pos h, if_pos h⟩
def ComRes (a n b m : Int) (w : World) (en : Ending) (w' : World) : Prop :=
  en = .returned (.tuple #[.agg #[.int .u32 (comA a n b m), .int .i64 (comB a n b m)], .int .i64 (comE a n b m)]) ∧ Below w.heap.size w w'

end Go.Proofs.YtbahehmfhjkgeaaGreat

/-
  Walks over the addresses' texts: ParsePrefix.
-/
namespace Go.Proofs.YtbahehmfhjkgeaaGreat
open Go Go.RowKit Go.Sort

/-- The prefix that a text spells, its bits not yet asked. -/
def ppO (l : List UInt8) : Option (Nat × Nat) :=
  if (Lib.cut l [47]).2.2 = true then (parseB (Lib.cut l [47]).1).bind fun a => (readB (Lib.cut l [47]).2.1 32).map fun n => (a, n) else none
def ppE (l : List UInt8) : Int := match ppO l with | none => 4 | some (a, n) => chk a n
def ppA (l : List UInt8) : Int := match ppO l with | none => 0 | some (a, n) => if chk a n = 0 then a else 0
def ppN (l : List UInt8) : Int := match ppO l with | none => 0 | some (a, n) => if chk a n = 0 then n else 0
end Go.Proofs.YtbahehmfhjkgeaaGreat

/-
  The walk of the program's Cut and of its closure.
-/
namespace Go.Proofs.YtbahehmfhjkgeaaGreat
open Go Go.RowKit

/-- The cells of a list of prefixes. -/
def pcells (L : List (Int × Int)) : List Value := L.flatMap fun p => [.int .u32 p.1, .int .i64 p.2]
/-- The prefixes between two addresses. -/
def cutP (lo hi : Int) : List (Int × Int) := cutL (hi + 1) (hi + 1 - lo).toNat lo

/-- A new list of prefixes is handed back, with no error; nothing that was there has turned. -/
def CutRes (L : List (Int × Int)) (w : World) (en : Ending) (w' : World) : Prop :=
  ∃ v, en = .returned (.tuple #[v, .int .i64 0]) ∧ w'.ownsRow w.heap.size 39 2 v L.length (pcells L) ∧ Below w.heap.size w w'

end Go.Proofs.YtbahehmfhjkgeaaGreat

/-
  Walks over the addresses' laws: works.
-/
namespace Go.Proofs.YtbahehmfhjkgeaaGreat
open Go Go.RowKit Go.Sort

end Go.Proofs.YtbahehmfhjkgeaaGreat

/-
  Walks over the addresses' layer: Common; the reference's.
-/
namespace Go.Proofs.YtbahehmfhjkgeaaGreat
open Go Go.RowKit Go.Sort

theorem xor_zero (x y : Nat) : x = y ↔ x ^^^ y = 0 := by
  constructor
  · intro h; rw [h, Nat.xor_self]
  · intro h
    have : x ^^^ y ^^^ y = 0 ^^^ y := by rw [h]
    rwa [Nat.xor_assoc, Nat.xor_self, Nat.xor_zero, Nat.zero_xor] at this
theorem bitLen_up (x k : Nat) (hx : x < 2 ^ 64) (hk : k ≤ 64) (h : Lib.bitLen x ≤ k) : x < 2 ^ k := by
  induction k generalizing x with
  | zero =>
    rcases Nat.eq_zero_or_pos x with hz | hz
    · rw [hz]; decide
    · rw [Lib.bitLen_half x (by omega) hx] at h; omega
  | succ k ih =>
    rcases Nat.eq_zero_or_pos x with hz | hz
    · rw [hz]; exact Nat.two_pow_pos _
    · rw [Lib.bitLen_half x (by omega) hx] at h
      have := ih (x / 2) (by omega) (by omega) (by omega)
      rw [Nat.pow_succ]; omega
theorem sub_eq_iff (a b k : Int) (h0 : 0 ≤ a) (h1 : a < 4294967296) (h2 : 0 ≤ b) (h3 : b < 4294967296) (hk0 : 0 ≤ k) (hk : k ≤ 32) : a - a % sz k = b - b % sz k ↔ k ≤ lz32 (xorI a b) := by
  obtain ⟨a, rfl⟩ := Int.eq_ofNat_of_zero_le h0
  obtain ⟨b, rfl⟩ := Int.eq_ofNat_of_zero_le h2
  obtain ⟨k, rfl⟩ := Int.eq_ofNat_of_zero_le hk0
  have hp : 0 < 2 ^ (32 - k) := Nat.two_pow_pos _
  have e1 : sz ((k : Nat) : Int) = ((2 ^ (32 - k) : Nat) : Int) := by rw [sz_nat]; simp
  have hx : (a ^^^ b) < 2 ^ 32 := Nat.xor_lt_two_pow (by omega) (by omega)
  have s1 : (a - a % 2 ^ (32 - k) = b - b % 2 ^ (32 - k)) ↔ a / 2 ^ (32 - k) = b / 2 ^ (32 - k) := by
    have d1 := Nat.div_add_mod a (2 ^ (32 - k))
    have d2 := Nat.div_add_mod b (2 ^ (32 - k))
    constructor
    · intro h
      have : 2 ^ (32 - k) * (a / 2 ^ (32 - k)) = 2 ^ (32 - k) * (b / 2 ^ (32 - k)) := by omega
      exact Nat.eq_of_mul_eq_mul_left hp this
    · intro h
      have : 2 ^ (32 - k) * (a / 2 ^ (32 - k)) = 2 ^ (32 - k) * (b / 2 ^ (32 - k)) := by rw [h]
      omega
  have s2 : a / 2 ^ (32 - k) = b / 2 ^ (32 - k) ↔ (a ^^^ b) / 2 ^ (32 - k) = 0 := by
    rw [← Nat.shiftRight_eq_div_pow, ← Nat.shiftRight_eq_div_pow, ← Nat.shiftRight_eq_div_pow, Nat.shiftRight_xor_distrib, xor_zero]
  have s3 : (a ^^^ b) / 2 ^ (32 - k) = 0 ↔ a ^^^ b < 2 ^ (32 - k) := by
    rw [Nat.div_eq_zero_iff]
    constructor
    · intro h; rcases h with h | h
      · omega
      · exact h
    · intro h; exact .inr h
  have s4 : a ^^^ b < 2 ^ (32 - k) ↔ Lib.bitLen (a ^^^ b) ≤ 32 - k := by
    constructor
    · intro h; exact Lib.bitLen_le _ _ (by omega) h
    · intro h
      exact bitLen_up _ _ (Nat.lt_of_lt_of_le hx (Nat.pow_le_pow_right (by omega) (by omega))) (by omega) h
  have hm1 := Nat.mod_le a (2 ^ (32 - k))
  have hm2 := Nat.mod_le b (2 ^ (32 - k))
  unfold lz32 xorI
  rw [e1, Int.toNat_natCast, Int.toNat_natCast, Int.toNat_natCast, ← Int.natCast_emod, ← Int.natCast_emod]
  constructor
  · intro h
    have := s4.1 (s3.1 (s2.1 (s1.1 (by omega))))
    omega
  · intro h
    have := s1.2 (s2.2 (s3.2 (s4.2 (by omega))))
    omega
theorem dvd_sz (n k : Int) (hk0 : 0 ≤ k) (hkn : k ≤ n) (hn : n ≤ 32) : sz n ∣ sz k := by
  refine ⟨p2 ((n - k).toNat), ?_⟩
  unfold sz p2
  rw [← Int.pow_add]; congr 1; omega
theorem chk_sub (a k : Int) (hk0 : 0 ≤ k) (hk : k ≤ 32) : chk (subA a k) k = 0 := by
  refine chk_zero _ _ hk0 hk ?_
  rw [(sub_yes a hk0 hk).1, Int.sub_emod, Int.emod_emod_of_dvd _ (Int.dvd_refl _)]
  simp
theorem sub_zero (a : Int) (h0 : 0 ≤ a) (h1 : a < 4294967296) : subA a 0 = 0 := by
  rw [(sub_yes a (n := 0) (by omega) (by omega)).1]
  have : sz 0 = 4294967296 := rfl
  rw [this]
  omega

end Go.Proofs.YtbahehmfhjkgeaaGreat

/-
  Prefixes inside one another: plain laws; no program in sight.
-/
namespace Go.Proofs.YtbahehmfhjkgeaaGreat
open Go Go.RowKit Go.Sort

/-- An address down to a multiple. -/
theorem floor_floor (x s t : Int) (hs : 0 < s) (ht : 0 < t) (h : s ∣ t) : (x - x % s) - (x - x % s) % t = x - x % t := by
  have e1 : x % t % s = x % s := Int.emod_emod_of_dvd x h
  have a1 := Int.emod_nonneg x (show t ≠ 0 by omega)
  have a2 := Int.emod_lt_of_pos x ht
  have b1 := Int.emod_nonneg x (show s ≠ 0 by omega)
  have b3 : x % s ≤ x % t := by
    have := Int.mul_ediv_add_emod (x % t) s
    have h0 : 0 ≤ x % t / s := Int.ediv_nonneg a1 (by omega)
    have h1 := Int.mul_nonneg (show 0 ≤ s by omega) h0
    rw [e1] at this
    omega
  have e2 := Int.mul_ediv_add_emod x t
  have e3 : (x - x % s) % t = x % t - x % s := by
    have : x - x % s = (x % t - x % s) + t * (x / t) := by omega
    rw [this, Int.add_mul_emod_self_left, Int.emod_eq_of_lt (by omega) (by omega)]
  rw [e3]; omega
/-- In a prefix: the address's first bits are the prefix's. -/
theorem in_iff {x a n : Int} (h : chk a n = 0) : inB x a n = true ↔ x - x % sz n = a := by
  obtain ⟨_, _, hm⟩ := chk_ok h
  have hp := sz_pos n
  unfold inB
  simp only [decide_eq_true_eq, h, true_and]
  have e := Int.mul_ediv_add_emod a (sz n)
  constructor
  · intro ⟨h1, h2⟩
    have : x = (x - a) + sz n * (a / sz n) := by omega
    have hx : x % sz n = x - a := by
      rw [this, Int.add_mul_emod_self_left, Int.emod_eq_of_lt (by omega) (by omega)]
      omega
    omega
  · intro h1
    have := Int.emod_nonneg x (show sz n ≠ 0 by omega)
    have := Int.emod_lt_of_pos x (show 0 < sz n by omega)
    omega
theorem within_iff {a n b m : Int} (ha : chk a n = 0) (hb : chk b m = 0) : withinB a n b m = true ↔ m ≤ n ∧ a - a % sz m = b := by
  unfold withinB
  rw [Bool.and_eq_true, in_iff hb]
  simp [ha]
theorem floor_two (x : Int) {n m : Int} (hm : 0 ≤ m) (hmn : m ≤ n) (hn : n ≤ 32) : (x - x % sz n) - (x - x % sz n) % sz m = x - x % sz m :=
  floor_floor x _ _ (by have := sz_pos n; omega) (by have := sz_pos m; omega) (dvd_sz n m hm hmn hn)
section
variable {a n b m c o x : Int} (hp : chk a n = 0) (hq : chk b m = 0) (hr : chk c o = 0)
include hp
include hq
include hr in
theorem inside_trans (h1 : withinB a n b m = true) (h2 : withinB b m c o = true) : withinB a n c o = true := by
  rw [within_iff hp hq] at h1
  rw [within_iff hq hr] at h2
  rw [within_iff hp hr]
  refine ⟨by omega, ?_⟩
  rw [← floor_two a (chk_ok hr).1 h2.1 (chk_ok hq).2.1, h1.2, h2.2]
omit hq in
theorem inside_between : inB x a n = (decide (a ≤ x) && decide (x ≤ a + sz n - 1)) := by
  unfold inB
  rw [Bool.eq_iff_iff, Bool.and_eq_true, decide_eq_true_eq, decide_eq_true_eq, decide_eq_true_eq]
  constructor
  · intro ⟨_, _, _⟩; omega
  · intro ⟨_, _⟩; exact ⟨hp, by omega, by omega⟩
variable (h0 : 0 ≤ a) (h1 : a < 4294967296) (h2 : 0 ≤ b) (h3 : b < 4294967296)
include h0 h1 h2 h3
theorem common_ok : comE a n b m = 0 ∧ comA a n b m = subA a (comN a n b m) ∧ comB a n b m = comN a n b m ∧ 0 ≤ comN a n b m ∧ comN a n b m ≤ 32 ∧ comN a n b m ≤ n ∧ comN a n b m ≤ m ∧ comN a n b m ≤ lz32 (xorI a b) := by
  have he : comE a n b m = 0 := by unfold comE; rw [if_pos hp, hq]
  have hl := lz32_range (xorI a b) (xor_range a b h0 h1 h2 h3).2
  have hr := com_range n m (chk_ok hp).1 (chk_ok hp).2.1 (chk_ok hq).1 (chk_ok hq).2.1 hl
  refine ⟨he, (com_yes he).1, (com_yes he).2, hr.1, hr.2, ?_⟩
  unfold comN
  split <;> split <;> omega
include hr in
theorem common_most (w1 : withinB a n c o = true) (w2 : withinB b m c o = true) : withinB (comA a n b m) (comB a n b m) c o = true := by
  obtain ⟨_, e1, e2, k0, k1, k2, k3, k4⟩ := common_ok hp hq h0 h1 h2 h3
  rw [within_iff hp hr] at w1
  rw [within_iff hq hr] at w2
  rw [e1, e2]
  have hd := chk_sub a (comN a n b m) k0 k1
  rw [within_iff hd hr, (sub_yes a k0 k1).1]
  have ho : o ≤ lz32 (xorI a b) := (sub_eq_iff a b o h0 h1 h2 h3 (chk_ok hr).1 (chk_ok hr).2.1).1 (w1.2.trans w2.2.symm)
  have hk : o ≤ comN a n b m := by unfold comN; split <;> split <;> omega
  exact ⟨hk, by rw [floor_two a (chk_ok hr).1 hk k1, w1.2]⟩
omit hq h0 h2 h3 in
theorem halves_ok (hn : n ≠ 32) : chk a (n + 1) = 0 ∧ chk (a + sz (n + 1)) (n + 1) = 0 ∧ a + sz (n + 1) < 4294967296 ∧ inB x a n = (inB x a (n + 1) != inB x (a + sz (n + 1)) (n + 1)) ∧ cmpP a (n + 1) (a + sz (n + 1)) (n + 1) = -1 ∧ withinB a (n + 1) a n = true ∧ withinB (a + sz (n + 1)) (n + 1) a n = true := by
  obtain ⟨g0, g1, g2⟩ := chk_ok hp
  obtain ⟨l1, l2⟩ := half_le a n h1 g0 (by omega) g2
  have hs := sz_pos (n + 1)
  have d : a % sz (n + 1) = 0 := by
    have := Int.emod_emod_of_dvd a (dvd_sz (n + 1) n g0 (by omega) (by omega))
    rw [g2] at this
    simpa using this.symm
  have c1 : chk a (n + 1) = 0 := chk_zero _ _ (by omega) (by omega) d
  have c2 : chk (a + sz (n + 1)) (n + 1) = 0 := chk_zero _ _ (by omega) (by omega) (by rw [Int.add_emod, d, Int.emod_self]; rfl)
  have i1 : inB a a n = true := by unfold inB; simp [hp]; omega
  have i2 : inB (a + sz (n + 1)) a n = true := by unfold inB; simp [hp]; omega
  refine ⟨c1, c2, l2, ?_, ?_, ?_, ?_⟩
  · unfold inB
    rw [hp, c1, c2]
    by_cases e1 : a ≤ x <;> by_cases e2 : x < a + sz (n + 1) <;> by_cases e3 : x < a + sz n <;> simp [e1, e2, e3] <;> omega
  · unfold cmpP
    rw [cmpI_lt (by omega)]
    rfl
  · unfold withinB; rw [i1, c1]; simp; omega
  · unfold withinB; rw [i2, c2]; simp; omega
end
end Go.Proofs.YtbahehmfhjkgeaaGreat

/-
  The addresses between two, cut: as few prefixes as can be, each address in just one; plain laws, no program in sight.
-/
namespace Go.Proofs.YtbahehmfhjkgeaaGreat
open Go Go.RowKit Go.Sort

/-- How many of the prefixes an address is in. -/
def cntIn (y : Int) (L : List (Int × Int)) : Nat := (L.filter fun p => inB y p.1 p.2).length
/-- What is between one piece and the next. -/
def Next (p q : Int × Int) : Prop := q.1 = p.1 + sz p.2 ∧ (p.2 = q.2 → ¬ p.1 % (2 * sz p.2) = 0)
def AllOk (e : Int) (p : Int × Int) : Prop := chk p.1 p.2 = 0 ∧ 0 ≤ p.1 ∧ p.1 + sz p.2 ≤ e
end Go.Proofs.YtbahehmfhjkgeaaGreat

/-
  Walks over the addresses' laws: fit, same.
-/
namespace Go.Proofs.YtbahehmfhjkgeaaGreat
open Go Go.RowKit Go.Sort

/-- The bits that 'fit' makes of any int. -/
def fitN (k : Int) : Int := IntKind.u64.wrap k % 33
end Go.Proofs.YtbahehmfhjkgeaaGreat

/-
  Walks over headers: Bytes.
-/
namespace Go.Proofs.YtbahehmfhjkgeaaGreat
open Go Go.RowKit Go.Sort

/-- A header. -/
structure Hd where
  src : Int
  dst : Int
  proto : Int
  sp : Int
  dp : Int
  deriving DecidableEq
def Hd.enc (h : Hd) : List Value := [.int .u32 h.src, .int .u32 h.dst, .int .u8 h.proto, .int .u16 h.sp, .int .u16 h.dp]
structure Hd.ok (h : Hd) : Prop where
  s0 : 0 ≤ h.src
  s1 : h.src < 4294967296
  d0 : 0 ≤ h.dst
  d1 : h.dst < 4294967296
  p0 : 0 ≤ h.proto
  p1 : h.proto < 256
  a0 : 0 ≤ h.sp
  a1 : h.sp < 65536
  b0 : 0 ≤ h.dp
  b1 : h.dp < 65536
/-- Its bytes. -/
def Hd.bytes (h : Hd) : List Int := [h.src / 16777216, h.src / 65536 % 256, h.src / 256 % 256, h.src % 256, h.dst / 16777216, h.dst / 65536 % 256, h.dst / 256 % 256, h.dst % 256, h.proto, h.sp / 256, h.sp % 256, h.dp / 256, h.dp % 256]
/-- The array while the addresses are written. -/
def Hd.part (h : Hd) (k j : Nat) (p : Bool) : List Int := (List.range 13).map fun i => if (i < 4 ∧ i < k) ∨ (4 ≤ i ∧ i < 8 ∧ i - 4 < k) ∨ (i = 8 ∧ p = true) ∨ (9 ≤ i ∧ i < 11 ∧ i - 9 < j) ∨ (11 ≤ i ∧ i - 11 < j) then h.bytes.getD i 0 else 0
def Hd.cells (h : Hd) : Obj := .cells #[.int .u32 h.src, .int .u32 h.dst, .int .u8 h.proto, .int .u16 h.sp, .int .u16 h.dp] 82
def arr (l : List Int) : Obj := .cells (l.map (Value.int .u8)).toArray 276
structure BySt (h : Hd) (l : List Int) (g : Nat) (w W : World) : Prop where
  a : W.heap[g]? = some h.cells
  r : W.heap[g + 1]? = some (arr (List.replicate 13 0))
  b : W.heap[g + 2]? = some (arr l)
  n : Below w.heap.size w W
theorem arr_cell {w : World} {g : Nat} {l : List Int} (h : w.heap[g]? = some (arr l)) {k : Nat} {x : Int} (hk : l[k]? = some x) : w.cell? ⟨g, k, none⟩ = some (.int .u8 x) := by
  rw [cell_of_row w g k _ _ _ h]
  simp [hk]
theorem arr_set {w : World} {g : Nat} {l : List Int} (h : w.heap[g]? = some (arr l)) (k : Nat) (x : Int) : (w.setCell ⟨g, k, none⟩ (.int .u8 x)).heap[g]? = some (arr (l.set k x)) := by
  rw [heap_setCell_same _ _ _ _ _ _ h]
  unfold arr
  congr 2
  rw [List.map_set]
  simp
theorem byst_next {h : Hd} {l : List Int} {g : Nat} {w W : World} (H : BySt h l g w W) (hg : w.heap.size ≤ g) (i j : Nat) (x y : Int) : BySt h ((l.set i x).set j y) g w ((W.setCell ⟨g + 1 + 1, i, none⟩ (.int .u8 x)).setCell ⟨g + 1 + 1, j, none⟩ (.int .u8 y)).drew := by
  refine ⟨?_, ?_, ?_, ?_⟩
  · show (((W.setCell _ _).setCell _ _)).heap[g]? = _
    rw [heap_setCell_other _ _ _ _ (by show g ≠ g + 1 + 1; omega), heap_setCell_other _ _ _ _ (by show g ≠ g + 1 + 1; omega)]; exact H.a
  · show (((W.setCell _ _).setCell _ _)).heap[g + 1]? = _
    rw [heap_setCell_other _ _ _ _ (by simp), heap_setCell_other _ _ _ _ (by simp)]; exact H.r
  · exact arr_set (arr_set H.b i x) j y
  · exact ((H.n.setCell (p := ⟨g + 1 + 1, i, none⟩) (by show w.heap.size ≤ g + 1 + 1; omega) _).setCell (p := ⟨g + 1 + 1, j, none⟩) (by show w.heap.size ≤ g + 1 + 1; omega) _).drew
theorem byst_one {h : Hd} {l : List Int} {g : Nat} {w W : World} (H : BySt h l g w W) (hg : w.heap.size ≤ g) (i : Nat) (x : Int) : BySt h (l.set i x) g w (W.setCell ⟨g + 1 + 1, i, none⟩ (.int .u8 x)) := by
  refine ⟨?_, ?_, ?_, ?_⟩
  · rw [heap_setCell_other _ _ _ _ (by show g ≠ g + 1 + 1; omega)]; exact H.a
  · rw [heap_setCell_other _ _ _ _ (by show g + 1 ≠ g + 1 + 1; omega)]; exact H.r
  · exact arr_set H.b i x
  · exact H.n.setCell (p := ⟨g + 1 + 1, i, none⟩) (by show w.heap.size ≤ g + 1 + 1; omega) _
theorem results_arr {fn : Func} {tmps : Array Value} {w : World} {g : Nat} {x0 x1 x2 x3 x4 x5 x6 x7 x8 x9 x10 x11 x12 : Int} {t1 : Nat} (hf : fn.results = #[.cell t1 276]) (h1 : tmps.getD t1 undef = .pointer (some ⟨g, 0, none⟩)) (k1 : w.heap[g]? = some (arr [x0, x1, x2, x3, x4, x5, x6, x7, x8, x9, x10, x11, x12])) :
    (results fn tmps).run Tryz.prog w = .ok (.agg #[.int .u8 x0, .int .u8 x1, .int .u8 x2, .int .u8 x3, .int .u8 x4, .int .u8 x5, .int .u8 x6, .int .u8 x7, .int .u8 x8, .int .u8 x9, .int .u8 x10, .int .u8 x11, .int .u8 x12]) w := by
  have c0 := arr_cell k1 (k := 0) (x := x0) rfl
  have c1 := arr_cell k1 (k := 1) (x := x1) rfl
  have c2 := arr_cell k1 (k := 2) (x := x2) rfl
  have c3 := arr_cell k1 (k := 3) (x := x3) rfl
  have c4 := arr_cell k1 (k := 4) (x := x4) rfl
  have c5 := arr_cell k1 (k := 5) (x := x5) rfl
  have c6 := arr_cell k1 (k := 6) (x := x6) rfl
  have c7 := arr_cell k1 (k := 7) (x := x7) rfl
  have c8 := arr_cell k1 (k := 8) (x := x8) rfl
  have c9 := arr_cell k1 (k := 9) (x := x9) rfl
  have c10 := arr_cell k1 (k := 10) (x := x10) rfl
  have c11 := arr_cell k1 (k := 11) (x := x11) rfl
  have c12 := arr_cell k1 (k := 12) (x := x12) rfl
  have h1' : tmps[t1]?.getD undef = .pointer (some ⟨g, 0, none⟩) := by simpa using h1
  simp [results, hf, h1', go_sem, c0, c1, c2, c3, c4, c5, c6, c7, c8, c9, c10, c11, c12]
theorem u8_wrap (x : Int) : IntKind.u8.wrap x = x % 256 := by simp [IntKind.wrap, IntKind.bits, IntKind.signed]
set_option maxRecDepth 100000 in
set_option maxHeartbeats 4000000 in
theorem bytes_any (h : Hd) (ho : h.ok) (w : World) :
    Calls Tryz.prog 175 #[.agg #[.int .u32 h.src, .int .u32 h.dst, .int .u8 h.proto, .int .u16 h.sp, .int .u16 h.dp]] w fun e w' => e = .returned (.agg (h.bytes.map (Value.int .u8)).toArray) ∧ Below w.heap.size w w' := by
  obtain ⟨s0, s1, d0, d1, p0, p1, a0, a1, b0, b1⟩ := ho
  have hS : Hid (BySt h (h.part 0 0 false) w.heap.size w (((w.alloc h.cells).alloc (arr (List.replicate 13 0))).alloc (arr (List.replicate 13 0)))) := by
    obtain ⟨k0, k1, k2⟩ := blk3 w h.cells (arr (List.replicate 13 0)) (arr (List.replicate 13 0))
    exact Lib.hid ⟨k0, k1, k2, below3 w _ _ _⟩
  go_enter Tryz.func175, Tryz.ntmps175
  go_wp2
  change Hid (BySt h (h.part 0 0 false) w.heap.size w (((w.alloc (.cells #[.int .u32 h.src, .int .u32 h.dst, .int .u8 h.proto, .int .u16 h.sp, .int .u16 h.dp] 82)).alloc (.cells #[.int .u8 0, .int .u8 0, .int .u8 0, .int .u8 0, .int .u8 0, .int .u8 0, .int .u8 0, .int .u8 0, .int .u8 0, .int .u8 0, .int .u8 0, .int .u8 0, .int .u8 0] 276)).alloc (.cells #[.int .u8 0, .int .u8 0, .int .u8 0, .int .u8 0, .int .u8 0, .int .u8 0, .int .u8 0, .int .u8 0, .int .u8 0, .int .u8 0, .int .u8 0, .int .u8 0, .int .u8 0] 276))) at hS
  generalize ((w.alloc (.cells #[.int .u32 h.src, .int .u32 h.dst, .int .u8 h.proto, .int .u16 h.sp, .int .u16 h.dp] 82)).alloc (.cells #[.int .u8 0, .int .u8 0, .int .u8 0, .int .u8 0, .int .u8 0, .int .u8 0, .int .u8 0, .int .u8 0, .int .u8 0, .int .u8 0, .int .u8 0, .int .u8 0, .int .u8 0] 276)).alloc (.cells #[.int .u8 0, .int .u8 0, .int .u8 0, .int .u8 0, .int .u8 0, .int .u8 0, .int .u8 0, .int .u8 0, .int .u8 0, .int .u8 0, .int .u8 0, .int .u8 0, .int .u8 0] 276) = W at *
  go_loopw [6] (fun i wr => ∃ k : Nat, i = .int .i64 k ∧ k ≤ 4 ∧ Hid (BySt h (h.part k 0 false) w.heap.size w wr)) (fun i _ => 4 - (intOf i).toNat)
  case atStart => exact ⟨0, rfl, by omega, hS⟩
  case round =>
    obtain ⟨k, rfl, hk, hSr⟩ := hrel
    clear hS
    by_cases hlt : k < 4
    · have hI : (k : Int) < 4 := by omega
      have c0 : wr.cell? ⟨w.heap.size, 0, none⟩ = some (.int .u32 h.src) := by rw [cell_of_row wr _ 0 _ _ _ hSr.out.a]; rfl
      have c1 : wr.cell? ⟨w.heap.size, 1, none⟩ = some (.int .u32 h.dst) := by rw [cell_of_row wr _ 1 _ _ _ hSr.out.a]; rfl
      rcases (show k = 0 ∨ k = 1 ∨ k = 2 ∨ k = 3 by omega) with rfl | rfl | rfl | rfl
      · go_upto_region 5 with fail
        have q0 := arr_cell hSr.out.b (k := 0) (x := 0) rfl
        have q4 := arr_cell hSr.out.b (k := 4) (x := 0) rfl
        have z0 := frozen_row hSr.out.b 0
        have z4 := frozen_row hSr.out.b 4
        have n1 : w.heap.size ≠ w.heap.size + 1 + 1 := by omega
        have n2 : w.heap.size + 1 + 1 ≠ w.heap.size := by omega
        have y0 : IntKind.i64.wrap 0 = 0 := by decide
        have y4 : IntKind.i64.wrap 4 = 4 := by decide
        have y24 : IntKind.i64.wrap 24 = 24 := by decide
        go_region_held3 (fun w' => w'.cell? ⟨w.heap.size, 0, none⟩ = some (.int .u32 h.src) ∧ w'.cell? ⟨w.heap.size, 1, none⟩ = some (.int .u32 h.dst)) (go_keep) (fail)
        have hN := byst_next hSr.out (Nat.le_refl _) 0 4 (IntKind.u8.wrap (h.src / 16777216)) (IntKind.u8.wrap (h.dst / 16777216))
        have hL : ((h.part 0 0 false).set 0 (IntKind.u8.wrap (h.src / 16777216))).set 4 (IntKind.u8.wrap (h.dst / 16777216)) = h.part 1 0 false := by
          rw [show IntKind.u8.wrap (h.src / 16777216) = h.src / 16777216 by simp only [u8_wrap] <;> omega, show IntKind.u8.wrap (h.dst / 16777216) = h.dst / 16777216 by simp only [u8_wrap] <;> omega]
          rfl
        rw [hL] at hN
        have hN2 := Lib.hid hN
        rw [show IntKind.u8.wrap (h.src / 16777216) = h.src / 16777216 by simp only [u8_wrap] <;> omega, show IntKind.u8.wrap (h.dst / 16777216) = h.dst / 16777216 by simp only [u8_wrap] <;> omega] at hN
        have hN3 := Lib.hid hN
        clear hN hL q0 q4 z0 z4 c0 c1 hSr
        go_wp2
        first | exact ⟨⟨1, rfl, by omega, hN3⟩, by simp only [intOf]; omega⟩ | exact ⟨⟨1, rfl, by omega, hN2⟩, by simp only [intOf]; omega⟩
      · go_upto_region 5 with fail
        have q0 := arr_cell hSr.out.b (k := 1) (x := 0) rfl
        have q4 := arr_cell hSr.out.b (k := 5) (x := 0) rfl
        have z0 := frozen_row hSr.out.b 1
        have z4 := frozen_row hSr.out.b 5
        have n1 : w.heap.size ≠ w.heap.size + 1 + 1 := by omega
        have n2 : w.heap.size + 1 + 1 ≠ w.heap.size := by omega
        have y5 : IntKind.i64.wrap 5 = 5 := by decide
        have y8 : IntKind.i64.wrap 8 = 8 := by decide
        have y16 : IntKind.i64.wrap 16 = 16 := by decide
        go_region_held3 (fun w' => w'.cell? ⟨w.heap.size, 0, none⟩ = some (.int .u32 h.src) ∧ w'.cell? ⟨w.heap.size, 1, none⟩ = some (.int .u32 h.dst)) (go_keep) (fail)
        have hN := byst_next hSr.out (Nat.le_refl _) 1 5 (IntKind.u8.wrap (h.src / 65536)) (IntKind.u8.wrap (h.dst / 65536))
        have hL : ((h.part 1 0 false).set 1 (IntKind.u8.wrap (h.src / 65536))).set 5 (IntKind.u8.wrap (h.dst / 65536)) = h.part 2 0 false := by
          rw [show IntKind.u8.wrap (h.src / 65536) = h.src / 65536 % 256 by simp only [u8_wrap] <;> omega, show IntKind.u8.wrap (h.dst / 65536) = h.dst / 65536 % 256 by simp only [u8_wrap] <;> omega]
          rfl
        rw [hL] at hN
        have hN2 := Lib.hid hN
        rw [show IntKind.u8.wrap (h.src / 65536) = h.src / 65536 % 256 by simp only [u8_wrap] <;> omega, show IntKind.u8.wrap (h.dst / 65536) = h.dst / 65536 % 256 by simp only [u8_wrap] <;> omega] at hN
        have hN3 := Lib.hid hN
        clear hN hL q0 q4 z0 z4 c0 c1 hSr
        go_wp2
        first | exact ⟨⟨2, rfl, by omega, hN3⟩, by simp only [intOf]; omega⟩ | exact ⟨⟨2, rfl, by omega, hN2⟩, by simp only [intOf]; omega⟩
      · go_upto_region 5 with fail
        have q0 := arr_cell hSr.out.b (k := 2) (x := 0) rfl
        have q4 := arr_cell hSr.out.b (k := 6) (x := 0) rfl
        have z0 := frozen_row hSr.out.b 2
        have z4 := frozen_row hSr.out.b 6
        have n1 : w.heap.size ≠ w.heap.size + 1 + 1 := by omega
        have n2 : w.heap.size + 1 + 1 ≠ w.heap.size := by omega
        have y6 : IntKind.i64.wrap 6 = 6 := by decide
        have y8 : IntKind.i64.wrap 8 = 8 := by decide
        have y16 : IntKind.i64.wrap 16 = 16 := by decide
        go_region_held3 (fun w' => w'.cell? ⟨w.heap.size, 0, none⟩ = some (.int .u32 h.src) ∧ w'.cell? ⟨w.heap.size, 1, none⟩ = some (.int .u32 h.dst)) (go_keep) (fail)
        have hN := byst_next hSr.out (Nat.le_refl _) 2 6 (IntKind.u8.wrap (h.src / 256)) (IntKind.u8.wrap (h.dst / 256))
        have hL : ((h.part 2 0 false).set 2 (IntKind.u8.wrap (h.src / 256))).set 6 (IntKind.u8.wrap (h.dst / 256)) = h.part 3 0 false := by
          rw [show IntKind.u8.wrap (h.src / 256) = h.src / 256 % 256 by simp only [u8_wrap] <;> omega, show IntKind.u8.wrap (h.dst / 256) = h.dst / 256 % 256 by simp only [u8_wrap] <;> omega]
          rfl
        rw [hL] at hN
        have hN2 := Lib.hid hN
        rw [show IntKind.u8.wrap (h.src / 256) = h.src / 256 % 256 by simp only [u8_wrap] <;> omega, show IntKind.u8.wrap (h.dst / 256) = h.dst / 256 % 256 by simp only [u8_wrap] <;> omega] at hN
        have hN3 := Lib.hid hN
        clear hN hL q0 q4 z0 z4 c0 c1 hSr
        go_wp2
        first | exact ⟨⟨3, rfl, by omega, hN3⟩, by simp only [intOf]; omega⟩ | exact ⟨⟨3, rfl, by omega, hN2⟩, by simp only [intOf]; omega⟩
      · go_upto_region 5 with fail
        have q0 := arr_cell hSr.out.b (k := 3) (x := 0) rfl
        have q4 := arr_cell hSr.out.b (k := 7) (x := 0) rfl
        have z0 := frozen_row hSr.out.b 3
        have z4 := frozen_row hSr.out.b 7
        have n1 : w.heap.size ≠ w.heap.size + 1 + 1 := by omega
        have n2 : w.heap.size + 1 + 1 ≠ w.heap.size := by omega
        have y0 : IntKind.i64.wrap 0 = 0 := by decide
        have y7 : IntKind.i64.wrap 7 = 7 := by decide
        have y24 : IntKind.i64.wrap 24 = 24 := by decide
        go_region_held3 (fun w' => w'.cell? ⟨w.heap.size, 0, none⟩ = some (.int .u32 h.src) ∧ w'.cell? ⟨w.heap.size, 1, none⟩ = some (.int .u32 h.dst)) (go_keep) (fail)
        have hN := byst_next hSr.out (Nat.le_refl _) 3 7 (IntKind.u8.wrap (h.src)) (IntKind.u8.wrap (h.dst))
        have hL : ((h.part 3 0 false).set 3 (IntKind.u8.wrap (h.src))).set 7 (IntKind.u8.wrap (h.dst)) = h.part 4 0 false := by
          rw [show IntKind.u8.wrap (h.src) = h.src % 256 by simp only [u8_wrap] <;> omega, show IntKind.u8.wrap (h.dst) = h.dst % 256 by simp only [u8_wrap] <;> omega]
          rfl
        rw [hL] at hN
        have hN2 := Lib.hid hN
        rw [show IntKind.u8.wrap (h.src) = h.src % 256 by simp only [u8_wrap] <;> omega, show IntKind.u8.wrap (h.dst) = h.dst % 256 by simp only [u8_wrap] <;> omega] at hN
        have hN3 := Lib.hid hN
        clear hN hL q0 q4 z0 z4 c0 c1 hSr
        go_wp2
        first | exact ⟨⟨4, rfl, by omega, hN3⟩, by simp only [intOf]; omega⟩ | exact ⟨⟨4, rfl, by omega, hN2⟩, by simp only [intOf]; omega⟩
    · obtain rfl : k = 4 := by omega
      have c2 : wr.cell? ⟨w.heap.size, 2, none⟩ = some (.int .u8 h.proto) := by rw [cell_of_row wr _ 2 _ _ _ hSr.out.a]; rfl
      have q8 := arr_cell hSr.out.b (k := 8) (x := 0) rfl
      have z8 := frozen_row hSr.out.b 8
      have hN := Lib.hid (byst_one hSr.out (Nat.le_refl _) 8 h.proto)
      have hN2 : Hid (BySt h (h.part 4 0 true) w.heap.size w (wr.setCell ⟨w.heap.size + 1 + 1, 8, none⟩ (.int .u8 h.proto))) := hN
      clear hN hSr
      go_wp2
      generalize wr.setCell ⟨w.heap.size + 1 + 1, 8, none⟩ (.int .u8 h.proto) = W2 at *
      clear c2 q8 z8
      go_loopw [32] (fun i wr => ∃ k : Nat, i = .int .i64 k ∧ k ≤ 2 ∧ Hid (BySt h (h.part 4 k true) w.heap.size w wr)) (fun i _ => 2 - (intOf i).toNat)
      case atStart => exact ⟨0, rfl, by omega, hN2⟩
      case round =>
        clear hN2
        obtain ⟨k, rfl, hk2, hSr⟩ := hrel
        by_cases hlt2 : k < 2
        · have hI : (k : Int) < 2 := by omega
          have c3 : wr.cell? ⟨w.heap.size, 3, none⟩ = some (.int .u16 h.sp) := by rw [cell_of_row wr _ 3 _ _ _ hSr.out.a]; rfl
          have c4 : wr.cell? ⟨w.heap.size, 4, none⟩ = some (.int .u16 h.dp) := by rw [cell_of_row wr _ 4 _ _ _ hSr.out.a]; rfl
          rcases (show k = 0 ∨ k = 1 by omega) with rfl | rfl
          · go_upto_region 11 with fail
            have q0 := arr_cell hSr.out.b (k := 9) (x := 0) rfl
            have q4 := arr_cell hSr.out.b (k := 11) (x := 0) rfl
            have z0 := frozen_row hSr.out.b 9
            have z4 := frozen_row hSr.out.b 11
            have n1 : w.heap.size ≠ w.heap.size + 1 + 1 := by omega
            have n2 : w.heap.size + 1 + 1 ≠ w.heap.size := by omega
            have y0 : IntKind.i64.wrap 0 = 0 := by decide
            have y8 : IntKind.i64.wrap 8 = 8 := by decide
            have y9 : IntKind.i64.wrap 9 = 9 := by decide
            have y11 : IntKind.i64.wrap 11 = 11 := by decide
            go_region_held3 (fun w' => w'.cell? ⟨w.heap.size, 3, none⟩ = some (.int .u16 h.sp) ∧ w'.cell? ⟨w.heap.size, 4, none⟩ = some (.int .u16 h.dp)) (go_keep) (fail)
            have hN := byst_next hSr.out (Nat.le_refl _) 9 11 (IntKind.u8.wrap (h.sp / 256)) (IntKind.u8.wrap (h.dp / 256))
            have hL : ((h.part 4 0 true).set 9 (IntKind.u8.wrap (h.sp / 256))).set 11 (IntKind.u8.wrap (h.dp / 256)) = h.part 4 1 true := by
              rw [show IntKind.u8.wrap (h.sp / 256) = h.sp / 256 by simp only [u8_wrap] <;> omega, show IntKind.u8.wrap (h.dp / 256) = h.dp / 256 by simp only [u8_wrap] <;> omega]
              rfl
            rw [hL] at hN
            have hN2 := Lib.hid hN
            rw [show IntKind.u8.wrap (h.sp / 256) = h.sp / 256 by simp only [u8_wrap] <;> omega, show IntKind.u8.wrap (h.dp / 256) = h.dp / 256 by simp only [u8_wrap] <;> omega] at hN
            have hN3 := Lib.hid hN
            clear hN hL q0 q4 z0 z4 c3 c4 hSr
            go_wp2
            go_roundw
            case rel => first | exact ⟨1, rfl, by omega, hN3⟩ | exact ⟨1, rfl, by omega, hN2⟩ | ((repeat apply Exists.intro); first | exact ⟨⟨1, rfl, by omega, hN3⟩, rfl⟩ | exact ⟨⟨1, rfl, by omega, hN2⟩, rfl⟩)
            case measure =>
              change 2 - (intOf (Value.int .i64 1)).toNat < 2 - (intOf (Value.int .i64 ((0 : Nat) : Int))).toNat
              simp only [intOf]
              omega
          · go_upto_region 11 with fail
            have q0 := arr_cell hSr.out.b (k := 10) (x := 0) rfl
            have q4 := arr_cell hSr.out.b (k := 12) (x := 0) rfl
            have z0 := frozen_row hSr.out.b 10
            have z4 := frozen_row hSr.out.b 12
            have n1 : w.heap.size ≠ w.heap.size + 1 + 1 := by omega
            have n2 : w.heap.size + 1 + 1 ≠ w.heap.size := by omega
            have y0 : IntKind.i64.wrap 0 = 0 := by decide
            have y8 : IntKind.i64.wrap 8 = 8 := by decide
            have y10 : IntKind.i64.wrap 10 = 10 := by decide
            have y12 : IntKind.i64.wrap 12 = 12 := by decide
            go_region_held3 (fun w' => w'.cell? ⟨w.heap.size, 3, none⟩ = some (.int .u16 h.sp) ∧ w'.cell? ⟨w.heap.size, 4, none⟩ = some (.int .u16 h.dp)) (go_keep) (fail)
            have hN := byst_next hSr.out (Nat.le_refl _) 10 12 (IntKind.u8.wrap (h.sp)) (IntKind.u8.wrap (h.dp))
            have hL : ((h.part 4 1 true).set 10 (IntKind.u8.wrap (h.sp))).set 12 (IntKind.u8.wrap (h.dp)) = h.part 4 2 true := by
              rw [show IntKind.u8.wrap (h.sp) = h.sp % 256 by simp only [u8_wrap] <;> omega, show IntKind.u8.wrap (h.dp) = h.dp % 256 by simp only [u8_wrap] <;> omega]
              rfl
            rw [hL] at hN
            have hN2 := Lib.hid hN
            rw [show IntKind.u8.wrap (h.sp) = h.sp % 256 by simp only [u8_wrap] <;> omega, show IntKind.u8.wrap (h.dp) = h.dp % 256 by simp only [u8_wrap] <;> omega] at hN
            have hN3 := Lib.hid hN
            clear hN hL q0 q4 z0 z4 c3 c4 hSr
            go_wp2
            go_roundw
            case rel => first | exact ⟨2, rfl, by omega, hN3⟩ | exact ⟨2, rfl, by omega, hN2⟩ | ((repeat apply Exists.intro); first | exact ⟨⟨2, rfl, by omega, hN3⟩, rfl⟩ | exact ⟨⟨2, rfl, by omega, hN2⟩, rfl⟩)
            case measure =>
              change 2 - (intOf (Value.int .i64 2)).toNat < 2 - (intOf (Value.int .i64 ((1 : Nat) : Int))).toNat
              simp only [intOf]
              omega
        · obtain rfl : k = 2 := by omega
          have hb : wr.heap[w.heap.size + 1 + 1]? = some (arr h.bytes) := hSr.out.b
          have hr := hSr.out.r
          have hn := hSr.out.n
          have q0 := arr_cell hb (k := 0) (x := h.src / 16777216) rfl
          have r0 := arr_cell hr (k := 0) (x := 0) rfl
          have z0 := frozen_row hr 0
          have q1 := arr_cell hb (k := 1) (x := h.src / 65536 % 256) rfl
          have r1 := arr_cell hr (k := 1) (x := 0) rfl
          have z1 := frozen_row hr 1
          have q2 := arr_cell hb (k := 2) (x := h.src / 256 % 256) rfl
          have r2 := arr_cell hr (k := 2) (x := 0) rfl
          have z2 := frozen_row hr 2
          have q3 := arr_cell hb (k := 3) (x := h.src % 256) rfl
          have r3 := arr_cell hr (k := 3) (x := 0) rfl
          have z3 := frozen_row hr 3
          have q4 := arr_cell hb (k := 4) (x := h.dst / 16777216) rfl
          have r4 := arr_cell hr (k := 4) (x := 0) rfl
          have z4 := frozen_row hr 4
          have q5 := arr_cell hb (k := 5) (x := h.dst / 65536 % 256) rfl
          have r5 := arr_cell hr (k := 5) (x := 0) rfl
          have z5 := frozen_row hr 5
          have q6 := arr_cell hb (k := 6) (x := h.dst / 256 % 256) rfl
          have r6 := arr_cell hr (k := 6) (x := 0) rfl
          have z6 := frozen_row hr 6
          have q7 := arr_cell hb (k := 7) (x := h.dst % 256) rfl
          have r7 := arr_cell hr (k := 7) (x := 0) rfl
          have z7 := frozen_row hr 7
          have q8 := arr_cell hb (k := 8) (x := h.proto) rfl
          have r8 := arr_cell hr (k := 8) (x := 0) rfl
          have z8 := frozen_row hr 8
          have q9 := arr_cell hb (k := 9) (x := h.sp / 256) rfl
          have r9 := arr_cell hr (k := 9) (x := 0) rfl
          have z9 := frozen_row hr 9
          have q10 := arr_cell hb (k := 10) (x := h.sp % 256) rfl
          have r10 := arr_cell hr (k := 10) (x := 0) rfl
          have z10 := frozen_row hr 10
          have q11 := arr_cell hb (k := 11) (x := h.dp / 256) rfl
          have r11 := arr_cell hr (k := 11) (x := 0) rfl
          have z11 := frozen_row hr 11
          have q12 := arr_cell hb (k := 12) (x := h.dp % 256) rfl
          have r12 := arr_cell hr (k := 12) (x := 0) rfl
          have z12 := frozen_row hr 12
          have HR := Lib.hid hr
          have HN := Lib.hid hn
          clear hb hr hn hSr
          go_wp2
          have hr := HR.out
          have hn := HN.out
          exact bodyPost_ret (results_arr (t1 := 2) (g := w.heap.size + 1) Tryz.results175 rfl (arr_set (arr_set (arr_set (arr_set (arr_set (arr_set (arr_set (arr_set (arr_set (arr_set (arr_set (arr_set (arr_set hr 0 (h.src / 16777216)) 1 (h.src / 65536 % 256)) 2 (h.src / 256 % 256)) 3 (h.src % 256)) 4 (h.dst / 16777216)) 5 (h.dst / 65536 % 256)) 6 (h.dst / 256 % 256)) 7 (h.dst % 256)) 8 (h.proto)) 9 (h.sp / 256)) 10 (h.sp % 256)) 11 (h.dp / 256)) 12 (h.dp % 256))) rfl ⟨rfl, (((((((((((((hn.setCell (p := ⟨w.heap.size + 1, 0, none⟩) (Nat.le_succ _) _).setCell (p := ⟨w.heap.size + 1, 1, none⟩) (Nat.le_succ _) _).setCell (p := ⟨w.heap.size + 1, 2, none⟩) (Nat.le_succ _) _).setCell (p := ⟨w.heap.size + 1, 3, none⟩) (Nat.le_succ _) _).setCell (p := ⟨w.heap.size + 1, 4, none⟩) (Nat.le_succ _) _).setCell (p := ⟨w.heap.size + 1, 5, none⟩) (Nat.le_succ _) _).setCell (p := ⟨w.heap.size + 1, 6, none⟩) (Nat.le_succ _) _).setCell (p := ⟨w.heap.size + 1, 7, none⟩) (Nat.le_succ _) _).setCell (p := ⟨w.heap.size + 1, 8, none⟩) (Nat.le_succ _) _).setCell (p := ⟨w.heap.size + 1, 9, none⟩) (Nat.le_succ _) _).setCell (p := ⟨w.heap.size + 1, 10, none⟩) (Nat.le_succ _) _).setCell (p := ⟨w.heap.size + 1, 11, none⟩) (Nat.le_succ _) _).setCell (p := ⟨w.heap.size + 1, 12, none⟩) (Nat.le_succ _) _)⟩
end Go.Proofs.YtbahehmfhjkgeaaGreat

/-
  Walks over headers: Bit.
-/
namespace Go.Proofs.YtbahehmfhjkgeaaGreat
open Go Go.RowKit Go.Sort

/-- Is a bit set? -/
def Hd.bit (h : Hd) (i : Nat) : Bool := h.bytes.getD (i / 8) 0 / 2 ^ (7 - i % 8) % 2 == 1
theorem bytes_range (h : Hd) (ho : h.ok) : ∀ x ∈ h.bytes, 0 ≤ x ∧ x < 256 := by
  obtain ⟨s0, s1, d0, d1, p0, p1, a0, a1, b0, b1⟩ := ho
  intro x hx
  simp only [Hd.bytes, List.mem_cons, List.mem_nil_iff, or_false] at hx
  rcases hx with rfl | rfl | rfl | rfl | rfl | rfl | rfl | rfl | rfl | rfl | rfl | rfl | rfl <;> omega
theorem and_1 (x : Int) (h0 : 0 ≤ x) (h1 : x < 256) : bits .and .u8 x 1 = x % 2 := by
  obtain ⟨x, rfl⟩ := Int.eq_ofNat_of_zero_le h0
  rw [u8_and _ _ h0 h1 (by omega) (by omega), Int.toNat_natCast, show (1 : Int).toNat = 1 from rfl, Nat.and_one_is_mod]
  rfl
theorem div_pow (v : Int) (k : Nat) (h0 : 0 ≤ v) (h1 : v < 256) : 0 ≤ v / 2 ^ k ∧ v / 2 ^ k < 256 := by
  have hp : (1 : Int) ≤ 2 ^ k := p2_pos k
  exact ⟨Int.ediv_nonneg h0 (by omega), Int.lt_of_le_of_lt (Int.ediv_le_self _ h0) h1⟩
theorem bytes_len (h : Hd) : h.bytes.length = 13 := rfl
set_option maxRecDepth 100000 in
set_option maxHeartbeats 2000000 in
theorem bit_yes (h : Hd) (ho : h.ok) (i : Nat) (w : World) (hi : i < 104) :
    Calls Tryz.prog 174 #[.agg #[.int .u32 h.src, .int .u32 h.dst, .int .u8 h.proto, .int .u16 h.sp, .int .u16 h.dp], .int .i64 i] w fun e w' => e = .returned (.tuple #[.bool (h.bit i), .int .i64 0]) ∧ Below w.heap.size w w' := by
  have h1 : ¬ (i : Int) < 0 := by omega
  have h2 : ¬ (i : Int) ≥ 104 := by omega
  have hB : Hid (∀ v : World, Calls Tryz.prog 175 #[.agg #[.int .u32 h.src, .int .u32 h.dst, .int .u8 h.proto, .int .u16 h.sp, .int .u16 h.dp]] v fun e w' => e = .returned (.agg #[.int .u8 (h.src / 16777216), .int .u8 (h.src / 65536 % 256), .int .u8 (h.src / 256 % 256), .int .u8 (h.src % 256), .int .u8 (h.dst / 16777216), .int .u8 (h.dst / 65536 % 256), .int .u8 (h.dst / 256 % 256), .int .u8 (h.dst % 256), .int .u8 (h.proto), .int .u8 (h.sp / 256), .int .u8 (h.sp % 256), .int .u8 (h.dp / 256), .int .u8 (h.dp % 256)]) ∧ Below v.heap.size v w') := Lib.hid (fun v => bytes_any h ho v)
  go_enter Tryz.func174, Tryz.ntmps174
  go_wp2_with fail
  refine (hB.out _).mono ?_
  rintro e w1 ⟨rfl, hb1⟩
  have hbw := below_call ((Below.refl w.heap.size w).alloc (Nat.le_refl _) _) hb1
  go_upto_region 4 with fail
  obtain ⟨v, hv⟩ : ∃ v, h.bytes[i / 8]? = some v := ⟨_, List.getElem?_eq_getElem (by rw [bytes_len]; omega)⟩
  have hc : (w1.alloc (.cells #[.int .u8 (h.src / 16777216), .int .u8 (h.src / 65536 % 256), .int .u8 (h.src / 256 % 256), .int .u8 (h.src % 256), .int .u8 (h.dst / 16777216), .int .u8 (h.dst / 65536 % 256), .int .u8 (h.dst / 256 % 256), .int .u8 (h.dst % 256), .int .u8 (h.proto), .int .u8 (h.sp / 256), .int .u8 (h.sp % 256), .int .u8 (h.dp / 256), .int .u8 (h.dp % 256)] 276)).cell? ⟨w1.heap.size, i / 8, none⟩ = some (.int .u8 v) := arr_cell (heap_alloc_new w1 (arr h.bytes)) hv
  have hr := bytes_range h ho v (List.mem_of_getElem? hv)
  have hbit := Lib.hid (show h.bit i = (v / 2 ^ (7 - i % 8) % 2 == 1) by unfold Hd.bit; rw [List.getD, hv]; rfl)
  have hb2 := hbw.alloc hbw.size (.cells #[.int .u8 (h.src / 16777216), .int .u8 (h.src / 65536 % 256), .int .u8 (h.src / 256 % 256), .int .u8 (h.src % 256), .int .u8 (h.dst / 16777216), .int .u8 (h.dst / 65536 % 256), .int .u8 (h.dst / 256 % 256), .int .u8 (h.dst % 256), .int .u8 (h.proto), .int .u8 (h.sp / 256), .int .u8 (h.sp % 256), .int .u8 (h.dp / 256), .int .u8 (h.dp % 256)] 276)
  generalize w1.alloc (.cells #[.int .u8 (h.src / 16777216), .int .u8 (h.src / 65536 % 256), .int .u8 (h.src / 256 % 256), .int .u8 (h.src % 256), .int .u8 (h.dst / 16777216), .int .u8 (h.dst / 65536 % 256), .int .u8 (h.dst / 256 % 256), .int .u8 (h.dst % 256), .int .u8 (h.proto), .int .u8 (h.sp / 256), .int .u8 (h.sp % 256), .int .u8 (h.dp / 256), .int .u8 (h.dp % 256)] 276) = W2 at *
  clear hv hB hb1 hbw
  obtain ⟨q, hq⟩ : ∃ q, q = i / 8 := ⟨_, rfl⟩
  obtain ⟨r, hr8⟩ : ∃ r, r = i % 8 := ⟨_, rfl⟩
  have e1 : (i : Int).tdiv 8 = (q : Int) := by rw [Int.tdiv_eq_ediv_of_nonneg (by omega)]; omega
  have e2 : (i : Int).tmod 8 = (r : Int) := by rw [Int.tmod_eq_emod_of_nonneg (by omega)]; omega
  have e3 : (i : Int) / 8 = (q : Int) := by omega
  have e4 : (i : Int) % 8 = (r : Int) := by omega
  have e5 : wrap64 (7 - (r : Int)) = 7 - (r : Int) := by unfold wrap64; omega
  have e6 : (7 - (r : Int) < 0) = False := by simp; omega
  have e7 : (q : Int) < 13 := by omega
  have e8 : (0 : Int) ≤ (q : Int) := by omega
  rw [← hq] at hc
  rw [← hr8] at hbit
  clear hq hr8 h1 h2
  have hd := Lib.hid (div_pow v (7 - r) hr.1 hr.2)
  go_wp2
  go_ret2
  exact ⟨by rw [hbit.out, ← and_1 _ hd.out.1 hd.out.2]; rfl, hb2⟩
end Go.Proofs.YtbahehmfhjkgeaaGreat

/-
  Walks over headers: the law's same.
-/
namespace Go.Proofs.YtbahehmfhjkgeaaGreat
open Go Go.RowKit Go.Sort

end Go.Proofs.YtbahehmfhjkgeaaGreat
