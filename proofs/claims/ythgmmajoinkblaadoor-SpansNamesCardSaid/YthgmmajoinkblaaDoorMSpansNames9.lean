/-
  Joined texts: Addr2, Addr3, Addr4, Ad3, Addr5.
-/
import Derived.Test.YthgmmajoinkblaaDoorMSpansNames8
import Derived.Deep.RegionHeld3
import Derived.StillTailTactics
import Derived.Lib.JoinLaws
import Derived.RegionTactic
import Derived.BigRegion
/-
  Walks over the addresses' layer: In; the program's and the reference's.
-/
namespace Go.Proofs.YthgmmajoinkblaaDoor
open Go Go.RowKit Go.Sort

theorem in_no (x a n : Int) (h : ¬ chk a n = 0) : false = inB x a n := by unfold inB; simp [h]
theorem in_low (x a n : Int) (h : ¬ a ≤ x) : false = inB x a n := by unfold inB; simp [h]
theorem in_sub (x a n : Int) (hr : chk a n = 0) (h : a ≤ x) : decide (x - a < sz n) = inB x a n := by
  unfold inB
  rw [decide_eq_decide]
  constructor
  · intro h1; exact ⟨hr, h, by omega⟩
  · intro h1; omega
theorem in_andNot (x a n : Int) (hx : 0 ≤ x) (hx' : x < 4294967296) (hr : chk a n = 0) : (bits .andNot .u32 x (sz n - 1) == a) = inB x a n := by
  obtain ⟨_, _, h2⟩ := chk_ok hr
  rw [andNot_sz x n hx hx']
  unfold inB
  rw [Bool.eq_iff_iff, beq_iff_eq, decide_eq_true_iff]
  have hp := sz_pos n
  have e1 := Int.emod_add_mul_ediv x (sz n)
  have l1 := Int.emod_nonneg x (by omega : sz n ≠ 0)
  have l2 := Int.emod_lt_of_pos x (by omega : 0 < sz n)
  constructor
  · intro h
    exact ⟨hr, by omega, by omega⟩
  · intro ⟨_, h3, h4⟩
    have e2 := Int.emod_add_mul_ediv a (sz n)
    rw [h2] at e2
    have h5 : x % sz n = x - a := by
      have : (x - a + sz n * (a / sz n)) % sz n = (x - a) % sz n := Int.add_mul_emod_self_left ..
      rw [show x - a + sz n * (a / sz n) = x by omega, Int.emod_eq_of_lt (a := x - a) (by omega) (by omega)] at this
      exact this
    omega

end Go.Proofs.YthgmmajoinkblaaDoor

/-
  Walks over the addresses' layer: Mask, Bits, Subnet; the program's and the reference's.
-/
namespace Go.Proofs.YthgmmajoinkblaaDoor
open Go Go.RowKit Go.Sort

/-- The mask of so many bits, and the refusal. -/
def maskA (n : Int) : Int := if n < 0 ∨ 32 < n then 0 else 4294967296 - sz n
def argE (n : Int) : Int := if n < 0 ∨ 32 < n then 1 else 0
theorem mask_no {n : Int} (h : n < 0 ∨ 32 < n) : maskA n = 0 ∧ argE n = 1 := ⟨if_pos h, if_pos h⟩
theorem mask_yes {n : Int} (h0 : 0 ≤ n) (h1 : n ≤ 32) : maskA n = 4294967296 - sz n ∧ argE n = 0 := ⟨if_neg (by omega), if_neg (by omega)⟩
theorem ret2 {v v' u u' : Value} (h : v = v' ∧ u = u') : Ending.returned (.tuple #[v, u]) = .returned (.tuple #[v', u']) := by rw [h.1, h.2]
theorem vint {k : IntKind} {a b : Int} (h : a = b) : Value.int k a = .int k b := by rw [h]

theorem mask_range (n : Int) : 0 ≤ maskA n ∧ maskA n < 4294967296 := by
  unfold maskA
  have hp := sz_pos n
  have hq := sz_le n
  split <;> omega
/-- Of how many bits a mask is, and the refusal. -/
def bitsN (m : Int) : Int := if maskA (lz32 (4294967295 - m)) = m then lz32 (4294967295 - m) else 0
def bitsE (m : Int) : Int := if maskA (lz32 (4294967295 - m)) = m then 0 else 10
theorem bits_yes {m : Int} (h : maskA (lz32 (4294967295 - m)) = m) : bitsN m = lz32 (4294967295 - m) ∧ bitsE m = 0 := ⟨if_pos h, if_pos h⟩
theorem bits_no {m : Int} (h : ¬ maskA (lz32 (4294967295 - m)) = m) : bitsN m = 0 ∧ bitsE m = 10 := ⟨if_neg h, if_neg h⟩
theorem mask_lz (n : Int) (h0 : 0 ≤ n) (h1 : n ≤ 32) : lz32 (4294967295 - maskA n) = n := by
  rw [(mask_yes h0 h1).1, show 4294967295 - (4294967296 - sz n) = sz n - 1 by omega]
  exact lz32_mask n h0 h1

end Go.Proofs.YthgmmajoinkblaaDoor

/-
  Walks over the addresses' layer: Subnet, Ends; the program's and the reference's.
-/
namespace Go.Proofs.YthgmmajoinkblaaDoor
open Go Go.RowKit Go.Sort

/-- The first address of a subnet of so many bits. -/
def subA (a n : Int) : Int := if n < 0 ∨ 32 < n then 0 else a - a % sz n
def subN (n : Int) : Int := if n < 0 ∨ 32 < n then 0 else n
theorem sub_no {n : Int} (a : Int) (h : n < 0 ∨ 32 < n) : subA a n = 0 ∧ subN n = 0 ∧ argE n = 1 := ⟨if_pos h, if_pos h, if_pos h⟩
theorem sub_yes {n : Int} (a : Int) (h0 : 0 ≤ n) (h1 : n ≤ 32) : subA a n = a - a % sz n ∧ subN n = n ∧ argE n = 0 := ⟨if_neg (by omega), if_neg (by omega), if_neg (by omega)⟩
theorem mod_le (a n : Int) (h0 : 0 ≤ a) : 0 ≤ a % sz n ∧ a % sz n ≤ a ∧ a % sz n < sz n ∧ a / sz n * sz n = a - a % sz n ∧ 0 ≤ a / sz n := by
  have hp := sz_pos n
  have l1 := Int.emod_nonneg a (by omega : sz n ≠ 0)
  have l2 := Int.emod_lt_of_pos a (by omega : 0 < sz n)
  have e1 := Int.emod_add_mul_ediv a (sz n)
  have e3 := Int.ediv_nonneg h0 (by omega : 0 ≤ sz n)
  have e2 := Int.mul_nonneg (by omega : 0 ≤ sz n) e3
  rw [Int.mul_comm (a / sz n)]
  omega
theorem sub_range (a n : Int) (h0 : 0 ≤ a) (h1 : a < 4294967296) : 0 ≤ subA a n ∧ subA a n < 4294967296 := by
  unfold subA
  obtain ⟨m1, m2, _⟩ := mod_le a n h0
  split <;> omega
theorem sub_val (a n : Int) (h0 : 0 ≤ a) (h1 : a < 4294967296) : IntKind.u32.wrap (IntKind.u64.wrap (IntKind.u64.wrap ((IntKind.u64.wrap a).tdiv (sz n)) * sz n)) = a - a % sz n := by
  have hp := sz_pos n
  obtain ⟨m1, m2, m3, m4, m5⟩ := mod_le a n h0
  have e1 : IntKind.u64.wrap a = a := by rw [IntKind.wrap_u64]; omega
  have m6 : a / sz n ≤ a := Int.ediv_le_self _ h0
  rw [e1, Int.tdiv_eq_ediv_of_nonneg h0]
  have e2 : IntKind.u64.wrap (a / sz n) = a / sz n := by rw [IntKind.wrap_u64]; omega
  rw [e2, m4, IntKind.wrap_u64, IntKind.wrap_u32']
  omega
theorem ret_p2 {a a' n n' e e' : Int} (h : a = a' ∧ n = n' ∧ e = e') : Ending.returned (.tuple #[.agg #[.int .u32 a, .int .i64 n], .int .i64 e]) = .returned (.tuple #[.agg #[.int .u32 a', .int .i64 n'], .int .i64 e']) := by rw [h.1, h.2.1, h.2.2]

/-- The last address of a prefix that may be. -/
def endA (a n : Int) : Int := if chk a n = 0 then a else 0
def endB (a n : Int) : Int := if chk a n = 0 then a + sz n - 1 else 0
theorem end_yes {a n : Int} (h : chk a n = 0) : endA a n = a ∧ endB a n = a + sz n - 1 := ⟨if_pos h, if_pos h⟩
theorem end_no {a n : Int} (h : ¬ chk a n = 0) : endA a n = 0 ∧ endB a n = 0 := ⟨if_neg h, if_neg h⟩
theorem ret3 {v v' u u' x x' : Value} (h : v = v' ∧ u = u' ∧ x = x') : Ending.returned (.tuple #[v, u, x]) = .returned (.tuple #[v', u', x']) := by rw [h.1, h.2.1, h.2.2]
theorem or_sz (a n : Int) (ha : 0 ≤ a) (hb : a < 4294967296) (h : a % sz n = 0) : bits .or .u32 a (sz n - 1) = a + sz n - 1 := by
  obtain ⟨a, rfl⟩ := Int.eq_ofNat_of_zero_le ha
  have hp := sz_pos n
  have hq := sz_le n
  rw [u32_or _ _ ha hb (by omega) (by omega), sz_nat]
  have e : (((2 ^ (32 - n.toNat) : Nat) : Int) - 1).toNat = 2 ^ (32 - n.toNat) - 1 := by omega
  have hm : a % 2 ^ (32 - n.toNat) = 0 := by rw [sz_nat] at h; omega
  have h2 := Nat.two_pow_pos (32 - n.toNat)
  rw [e, Int.toNat_natCast, nat_join (32 - n.toNat) a _ hm (by omega)]
  omega
theorem end_le (a n : Int) (hb : a < 4294967296) (h : a % sz n = 0) : a + sz n - 1 < 4294967296 := by
  obtain ⟨c, hc⟩ := sz_dvd n
  have hp := sz_pos n
  have e1 := Int.emod_add_mul_ediv a (sz n)
  rw [h] at e1
  have : sz n * (a / sz n) < sz n * c := by omega
  have h3 : a / sz n < c := Int.lt_of_mul_lt_mul_left this (by omega)
  have h4 : sz n * (a / sz n + 1) ≤ sz n * c := Int.mul_le_mul_of_nonneg_left (by omega) (by omega)
  rw [Int.mul_add] at h4
  omega

end Go.Proofs.YthgmmajoinkblaaDoor

/-
  Walks over the addresses' texts: Text, PrefixText, ParsePrefix.
-/
namespace Go.Proofs.YthgmmajoinkblaaDoor
open Go Go.RowKit Go.Sort

/-- The four numbers of an address. -/
def octet (a k : Nat) : Nat := a / 256 ^ (3 - k) % 256
theorem octet_lt (a k : Nat) : octet a k < 256 := Nat.mod_lt _ (by decide)
/-- The cells of the array while it is filled. -/
def octs (a k : Nat) : List ByteArray := (List.range 4).map fun i => if i < k then ⟨(Lib.decDigits (octet a i)).toArray⟩ else ByteArray.empty
theorem octs_len (a k : Nat) : (octs a k).length = 4 := by simp [octs]
theorem octs_full (a : Nat) : (octs a 4).map (·.data.toList) = [Lib.decDigits (octet a 0), Lib.decDigits (octet a 1), Lib.decDigits (octet a 2), Lib.decDigits (octet a 3)] := rfl
theorem octs_set (a k : Nat) (hk : k < 4) : (((octs a k).map Value.string).toArray).setIfInBounds k (.string ⟨(Lib.decDigits (octet a k)).toArray⟩) = ((octs a (k + 1)).map Value.string).toArray := by
  match k, hk with
  | 0, _ => rfl
  | 1, _ => rfl
  | 2, _ => rfl
  | 3, _ => rfl
/-- An address's text. -/
def textA (a : Nat) : ByteArray := ⟨(Lib.join [Lib.decDigits (octet a 0), Lib.decDigits (octet a 1), Lib.decDigits (octet a 2), Lib.decDigits (octet a 3)] [46]).toArray⟩

theorem frozen_row {w : World} {g : Nat} {cs : Array Value} {t : TypeId} (h : w.heap[g]? = some (.cells cs t (0, 0))) (k : Nat) : w.frozen? ⟨g, k, none⟩ = false := by
  unfold World.frozen?
  simp [h]
theorem and_255 (x : Int) (h0 : 0 ≤ x) (h1 : x < 4294967296) : bits .and .u32 x 255 = x % 256 := by
  obtain ⟨x, rfl⟩ := Int.eq_ofNat_of_zero_le h0
  rw [u32_and _ _ h0 h1 (by omega) (by omega), Int.toNat_natCast]
  have := Nat.and_two_pow_sub_one_eq_mod x 8
  rw [show (255 : Int).toNat = 2 ^ 8 - 1 from rfl, this]
  rfl
theorem wrap_small {x : Int} (h0 : 0 ≤ x) (h1 : x < 256) : wrap64 x = x := by
  unfold wrap64; omega
/-- A numeral of a number below 1000, written out. -/
def dec3 (n : Nat) : List UInt8 := if n < 10 then [UInt8.ofNat (48 + n)] else if n < 100 then [UInt8.ofNat (48 + n / 10), UInt8.ofNat (48 + n % 10)] else [UInt8.ofNat (48 + n / 100), UInt8.ofNat (48 + n / 10 % 10), UInt8.ofNat (48 + n % 10)]
theorem dec3_eq {n : Nat} (h : n < 1000) : Lib.decDigits n = dec3 n := by
  unfold dec3
  split
  · rename_i h1; exact decDigits_small h1
  · split
    · rename_i h1 h2; exact Lib.decDigits_two h1 h2
    · rename_i h1 h2
      rw [decDigits_big h1, Lib.decDigits_two (by omega) (by omega), Nat.div_div_eq_div_mul]
      rfl
theorem dec3_len (n : Nat) : (dec3 n).length ≤ 3 := by unfold dec3; split; · simp
                                                       · split <;> simp
theorem join_four (a b c d : List UInt8) : Lib.join [a, b, c, d] [46] = a ++ (46 :: (b ++ (46 :: (c ++ (46 :: d))))) := by
  rw [Lib.join_cons]
  simp [Lib.joinTail]
theorem join_oct (a : Nat) : (Lib.join ((octs a 4).map (·.data.toList)) [46]).length ≤ 15 := by
  rw [octs_full, join_four, dec3_eq (Nat.lt_trans (octet_lt a 0) (by decide)), dec3_eq (Nat.lt_trans (octet_lt a 1) (by decide)), dec3_eq (Nat.lt_trans (octet_lt a 2) (by decide)), dec3_eq (Nat.lt_trans (octet_lt a 3) (by decide))]
  have := dec3_len (octet a 0); have := dec3_len (octet a 1); have := dec3_len (octet a 2); have := dec3_len (octet a 3)
  simp only [List.length_append, List.length_cons]
  omega
theorem textA_eq (a : Nat) : textA a = ⟨(dec3 (octet a 0) ++ (46 :: (dec3 (octet a 1) ++ (46 :: (dec3 (octet a 2) ++ (46 :: dec3 (octet a 3)))))) : List UInt8).toArray⟩ := by
  unfold textA
  rw [join_four, dec3_eq (Nat.lt_trans (octet_lt a 0) (by decide)), dec3_eq (Nat.lt_trans (octet_lt a 1) (by decide)), dec3_eq (Nat.lt_trans (octet_lt a 2) (by decide)), dec3_eq (Nat.lt_trans (octet_lt a 3) (by decide))]
theorem textA_size (a : Nat) : (textA a).size ≤ 15 := join_oct a
/-- A prefix's text. -/
def textP (a : Nat) (n : Int) : ByteArray := textA a ++ ⟨#[47]⟩ ++ ⟨(Lib.itoa n).toArray⟩
end Go.Proofs.YthgmmajoinkblaaDoor

/-
  Walks over the addresses' layer: Halves; the program's and the reference's.
-/
namespace Go.Proofs.YthgmmajoinkblaaDoor
open Go Go.RowKit Go.Sort

/-- The halves of a prefix: the refusal, where they begin, their bits. -/
def halfE (a n : Int) : Int := if chk a n = 0 then (if n = 32 then 5 else 0) else chk a n
def halfL (a n : Int) : Int := if halfE a n = 0 then a else 0
def halfH (a n : Int) : Int := if halfE a n = 0 then a + sz (n + 1) else 0
def halfN (a n : Int) : Int := if halfE a n = 0 then n + 1 else 0
theorem half_no {a n : Int} (h : ¬ halfE a n = 0) : halfL a n = 0 ∧ halfH a n = 0 ∧ halfN a n = 0 := ⟨if_neg h, if_neg h, if_neg h⟩
theorem half_yes {a n : Int} (h : halfE a n = 0) : halfL a n = a ∧ halfH a n = a + sz (n + 1) ∧ halfN a n = n + 1 := ⟨if_pos h, if_pos h, if_pos h⟩
theorem halfE_chk {a n : Int} (h : ¬ chk a n = 0) : halfE a n = chk a n := if_neg h
theorem halfE_32 {a n : Int} (h : chk a n = 0) (h1 : n = 32) : halfE a n = 5 := by unfold halfE; rw [if_pos h, if_pos h1]
theorem halfE_ok {a n : Int} (h : chk a n = 0) (h1 : ¬ n = 32) : halfE a n = 0 := by unfold halfE; rw [if_pos h, if_neg h1]
theorem ret_pp {a a' b b' n n' e e' : Int} (h : a = a' ∧ b = b' ∧ n = n' ∧ e = e') : Ending.returned (.tuple #[.agg #[.int .u32 a, .int .i64 n], .agg #[.int .u32 b, .int .i64 n], .int .i64 e]) = .returned (.tuple #[.agg #[.int .u32 a', .int .i64 n'], .agg #[.int .u32 b', .int .i64 n'], .int .i64 e']) := by rw [h.1, h.2.1, h.2.2.1, h.2.2.2]

theorem half_le (a n : Int) (hb : a < 4294967296) (hn0 : 0 ≤ n) (hn : n < 32) (h : a % sz n = 0) : sz n = 2 * sz (n + 1) ∧ a + sz (n + 1) < 4294967296 := by
  have e : sz n = 2 * sz (n + 1) := by
    unfold sz
    rw [← p2_succ]
    congr 1; omega
  have h1 := end_le a n hb h
  have := sz_pos (n + 1)
  omega
theorem or_half (a n : Int) (ha : 0 ≤ a) (hb : a < 4294967296) (hn0 : 0 ≤ n) (hn : n < 32) (h : a % sz n = 0) : bits .or .u32 a (2 ^ (31 - n).toNat % 4294967296) = a + sz (n + 1) := by
  obtain ⟨a, rfl⟩ := Int.eq_ofNat_of_zero_le ha
  have e1 : (31 - n).toNat = 32 - (n + 1).toNat := by omega
  have e2 : (2 : Int) ^ (31 - n).toNat = sz (n + 1) := by rw [e1]; rfl
  have hp := sz_pos (n + 1)
  have e3 : sz (n + 1) < 4294967296 := by
    have := p2_succ (32 - (n + 1).toNat)
    have h3 := p2_le32 (k := 32 - (n + 1).toNat + 1) (by omega)
    unfold sz at *
    omega
  rw [e2, Int.emod_eq_of_lt (by omega) e3, u32_or _ _ ha hb (by omega) e3, sz_nat]
  have h2 := Nat.two_pow_pos (32 - (n + 1).toNat)
  have hm : a % 2 ^ (32 - n.toNat) = 0 := by rw [sz_nat] at h; omega
  rw [Int.toNat_natCast, Int.toNat_natCast, nat_join (32 - n.toNat) a _ hm (by
    rw [show 32 - n.toNat = (32 - (n + 1).toNat) + 1 by omega, Nat.pow_succ]; omega)]
  omega

theorem half_val (a n : Int) (ha : 0 ≤ a) (hb : a < 4294967296) (hn0 : 0 ≤ n) (hn : n < 32) (h : a % sz n = 0) : IntKind.u32.wrap (IntKind.u64.wrap (IntKind.u64.wrap a + sz (n + 1))) = a + sz (n + 1) := by
  have h1 := half_le a n hb hn0 hn h
  have := sz_pos (n + 1)
  simp only [IntKind.wrap_u64, IntKind.wrap_u32']
  omega
def HalfRes (a n : Int) (w : World) (en : Ending) (w' : World) : Prop :=
  en = .returned (.tuple #[.agg #[.int .u32 (halfL a n), .int .i64 (halfN a n)], .agg #[.int .u32 (halfH a n), .int .i64 (halfN a n)], .int .i64 (halfE a n)]) ∧ Below w.heap.size w w'

end Go.Proofs.YthgmmajoinkblaaDoor
