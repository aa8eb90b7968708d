/-
  Joined texts: Ad2, Ad3, Ad4, Cut, Ad5, Addr9, InMath, CovMath, Ad6, Hd1, Hd2, Re2, Re3.
-/
import Derived.Test.YtdjikiakcfbklaaGreatMRewriteNames11
import Derived.Test.YtdjikiakcfbklaaGreatMRewriteNames4
import Derived.Lib.JoinLaws
import Derived.Test.YtdjikiakcfbklaaGreatMRewriteNames5
import Derived.Test.YtdjikiakcfbklaaGreatMRewriteNames1
import Derived.Deep.RegionHeld3
import Derived.Deep.DeepCutAuto
import Derived.StillTailTactics
import Derived.Test.YtdjikiakcfbklaaGreatMRewriteNames8
/-
  Walks over the addresses' texts: Parse.
-/
namespace Go.Proofs.YtdjikiakcfbklaaGreat
open Go Go.RowKit Go.Sort

theorem cells_str {w : World} {g : Nat} {L : List ByteArray} {t : TypeId} {p} (h : w.heap[g]? = some (.cells (L.map Value.string).toArray t p)) {k : Nat} {x : ByteArray} (hk : L[k]? = some x) : w.cell? ⟨g, k, none⟩ = some (.string x) := by
  rw [cell_of_row w g k _ _ _ h]
  simp [hk]

theorem u32_orN (a b : Nat) (ha : a < 4294967296) (hb : b < 4294967296) : bits .or .u32 (a : Int) (b : Int) = ((a ||| b : Nat) : Int) := by
  rw [u32_or _ _ (by omega) (by omega) (by omega) (by omega), Int.toNat_natCast, Int.toNat_natCast]
theorem or_byte (n v : Nat) (hn : n < 16777216) (hv : v < 256) : bits .or .u32 ((n : Int) * 256 % 4294967296) ((v : Int) % 4294967296) = ((n * 256 + v : Nat) : Int) := by
  have e1 : (n : Int) * 256 % 4294967296 = ((n * 256 : Nat) : Int) := by rw [Int.emod_eq_of_lt (by omega) (by omega)]; simp
  have e2 : (v : Int) % 4294967296 = (v : Int) := by omega
  have h := Nat.shiftLeft_add_eq_or_of_lt (b := v) (i := 8) (by omega) n
  rw [Nat.shiftLeft_eq, show (2 : Nat) ^ 8 = 256 from rfl] at h
  rw [e1, e2, h]
  exact u32_orN (n * 256) v (by omega) (by omega)
theorem or_byte' (n v : Nat) (hn : n < 16777216) (hv : v < 256) : bits .or .u32 ((n : Int) * 256) (v : Int) = ((n * 256 + v : Nat) : Int) := by
  have h := or_byte n v hn hv
  rwa [Int.emod_eq_of_lt (by omega) (by omega), Int.emod_eq_of_lt (by omega) (by omega)] at h
theorem or_byte_le (n v : Nat) (hn : n < 16777216) (hv : v < 256) : n * 256 + v < 4294967296 := by omega
end Go.Proofs.YtdjikiakcfbklaaGreat

/-
  Walks over the addresses' texts: Text, PrefixText, ParsePrefix.
-/
namespace Go.Proofs.YtdjikiakcfbklaaGreat
open Go Go.RowKit Go.Sort

/-- The four numbers of an address. -/
def octet (a k : Nat) : Nat := a / 256 ^ (3 - k) % 256
theorem octet_lt (a k : Nat) : octet a k < 256 := Nat.mod_lt _ (by decide)
/-- The cells of the array while it is filled. -/
def octs (a k : Nat) : List ByteArray := (List.range 4).map fun i => if i < k then ⟨(Lib.decDigits (octet a i)).toArray⟩ else ByteArray.empty
theorem octs_len (a k : Nat) : (octs a k).length = 4 := by simp [octs]
theorem octs_full (a : Nat) : (octs a 4).map (·.data.toList) = [Lib.decDigits (octet a 0), Lib.decDigits (octet a 1), Lib.decDigits (octet a 2), Lib.decDigits (octet a 3)] := rfl
theorem octs_set (a k : Nat) (hk : k < 4) : (((octs a k).map Value.string).toArray).setIfInBounds k (.string ⟨(Lib.decDigits (octet a k)).toArray⟩) = ((octs a (k + 1)).map Value.string).toArray := by
  match k, hk with
  | 0, _ => rfl
  | 1, _ => rfl
  | 2, _ => rfl
  | 3, _ => rfl
/-- An address's text. -/
def textA (a : Nat) : ByteArray := ⟨(Lib.join [Lib.decDigits (octet a 0), Lib.decDigits (octet a 1), Lib.decDigits (octet a 2), Lib.decDigits (octet a 3)] [46]).toArray⟩

theorem frozen_row {w : World} {g : Nat} {cs : Array Value} {t : TypeId} (h : w.heap[g]? = some (.cells cs t (0, 0))) (k : Nat) : w.frozen? ⟨g, k, none⟩ = false := by
  unfold World.frozen?
  simp [h]
theorem and_255 (x : Int) (h0 : 0 ≤ x) (h1 : x < 4294967296) : bits .and .u32 x 255 = x % 256 := by
  obtain ⟨x, rfl⟩ := Int.eq_ofNat_of_zero_le h0
  rw [u32_and _ _ h0 h1 (by omega) (by omega), Int.toNat_natCast]
  have := Nat.and_two_pow_sub_one_eq_mod x 8
  rw [show (255 : Int).toNat = 2 ^ 8 - 1 from rfl, this]
  rfl
theorem wrap_small {x : Int} (h0 : 0 ≤ x) (h1 : x < 256) : wrap64 x = x := by
  unfold wrap64; omega
/-- A numeral of a number below 1000, written out. -/
def dec3 (n : Nat) : List UInt8 := if n < 10 then [UInt8.ofNat (48 + n)] else if n < 100 then [UInt8.ofNat (48 + n / 10), UInt8.ofNat (48 + n % 10)] else [UInt8.ofNat (48 + n / 100), UInt8.ofNat (48 + n / 10 % 10), UInt8.ofNat (48 + n % 10)]
theorem dec3_eq {n : Nat} (h : n < 1000) : Lib.decDigits n = dec3 n := by
  unfold dec3
  split
  · rename_i h1; exact decDigits_small h1
  · split
    · rename_i h1 h2; exact Lib.decDigits_two h1 h2
    · rename_i h1 h2
      rw [decDigits_big h1, Lib.decDigits_two (by omega) (by omega), Nat.div_div_eq_div_mul]
      rfl
theorem dec3_len (n : Nat) : (dec3 n).length ≤ 3 := by unfold dec3; split; · simp
                                                       · split <;> simp
theorem join_four (a b c d : List UInt8) : Lib.join [a, b, c, d] [46] = a ++ (46 :: (b ++ (46 :: (c ++ (46 :: d))))) := by
  rw [Lib.join_cons]
  simp [Lib.joinTail]
theorem join_oct (a : Nat) : (Lib.join ((octs a 4).map (·.data.toList)) [46]).length ≤ 15 := by
  rw [octs_full, join_four, dec3_eq (Nat.lt_trans (octet_lt a 0) (by decide)), dec3_eq (Nat.lt_trans (octet_lt a 1) (by decide)), dec3_eq (Nat.lt_trans (octet_lt a 2) (by decide)), dec3_eq (Nat.lt_trans (octet_lt a 3) (by decide))]
  have := dec3_len (octet a 0); have := dec3_len (octet a 1); have := dec3_len (octet a 2); have := dec3_len (octet a 3)
  simp only [List.length_append, List.length_cons]
  omega
theorem textA_eq (a : Nat) : textA a = ⟨(dec3 (octet a 0) ++ (46 :: (dec3 (octet a 1) ++ (46 :: (dec3 (octet a 2) ++ (46 :: dec3 (octet a 3)))))) : List UInt8).toArray⟩ := by
  unfold textA
  rw [join_four, dec3_eq (Nat.lt_trans (octet_lt a 0) (by decide)), dec3_eq (Nat.lt_trans (octet_lt a 1) (by decide)), dec3_eq (Nat.lt_trans (octet_lt a 2) (by decide)), dec3_eq (Nat.lt_trans (octet_lt a 3) (by decide))]
theorem textA_size (a : Nat) : (textA a).size ≤ 15 := join_oct a
/-- A prefix's text. -/
def textP (a : Nat) (n : Int) : ByteArray := textA a ++ ⟨#[47]⟩ ++ ⟨(Lib.itoa n).toArray⟩
end Go.Proofs.YtdjikiakcfbklaaGreat

/-
  Walks over the addresses' texts: ParsePrefix.
-/
namespace Go.Proofs.YtdjikiakcfbklaaGreat
open Go Go.RowKit Go.Sort

/-- The prefix that a text spells, its bits not yet asked. -/
def ppO (l : List UInt8) : Option (Nat × Nat) :=
  if (Lib.cut l [47]).2.2 = true then (parseB (Lib.cut l [47]).1).bind fun a => (readB (Lib.cut l [47]).2.1 32).map fun n => (a, n) else none
def ppE (l : List UInt8) : Int := match ppO l with | none => 4 | some (a, n) => chk a n
def ppA (l : List UInt8) : Int := match ppO l with | none => 0 | some (a, n) => if chk a n = 0 then a else 0
def ppN (l : List UInt8) : Int := match ppO l with | none => 0 | some (a, n) => if chk a n = 0 then n else 0
theorem pp_none {l : List UInt8} (h : ppO l = none) : ppE l = 4 ∧ ppA l = 0 ∧ ppN l = 0 := by unfold ppE ppA ppN; rw [h]; exact ⟨rfl, rfl, rfl⟩
theorem pp_no {l : List UInt8} {a n : Nat} (h : ppO l = some (a, n)) (hc : ¬ chk a n = 0) : ppE l = chk a n ∧ ppA l = 0 ∧ ppN l = 0 := by unfold ppE ppA ppN; rw [h]; exact ⟨rfl, if_neg hc, if_neg hc⟩
theorem pp_yes {l : List UInt8} {a n : Nat} (h : ppO l = some (a, n)) (hc : chk a n = 0) : ppE l = 0 ∧ ppA l = a ∧ ppN l = n := by unfold ppE ppA ppN; rw [h]; exact ⟨hc, if_pos hc, if_pos hc⟩
theorem cut_fst_len (l : List UInt8) (c : List UInt8) : (Lib.cut l c).1.length ≤ l.length := by
  unfold Lib.cut
  split
  · simp; omega
  · exact Nat.le_refl _
theorem cut_snd_len (l : List UInt8) (c : List UInt8) : (Lib.cut l c).2.1.length ≤ l.length := by
  unfold Lib.cut
  split
  · simp
  · simp

end Go.Proofs.YtdjikiakcfbklaaGreat

/-
  The walk of the program's Cut and of its closure.
-/
namespace Go.Proofs.YtdjikiakcfbklaaGreat
open Go Go.RowKit

theorem Tryz.infoPrefix : (Tryz.prog.info? 40).map (fun i => (i.zero, i.size, i.bytes)) = some (some (.agg #[.int .u32 0, .int .i64 0]), 2, 16) := by kernel_rfl

/-- The cells of a list of prefixes. -/
def pcells (L : List (Int × Int)) : List Value := L.flatMap fun p => [.int .u32 p.1, .int .i64 p.2]
theorem pcells_snoc (L : List (Int × Int)) (a n : Int) : pcells (L ++ [(a, n)]) = pcells L ++ [.int .u32 a, .int .i64 n] := by simp [pcells]

/-- The prefixes between two addresses. -/
def cutP (lo hi : Int) : List (Int × Int) := cutL (hi + 1) (hi + 1 - lo).toNat lo

/-- A new list of prefixes is handed back, with no error; nothing that was there has turned. -/
def CutRes (L : List (Int × Int)) (w : World) (en : Ending) (w' : World) : Prop :=
  ∃ v, en = .returned (.tuple #[v, .int .i64 0]) ∧ w'.ownsRow w.heap.size 40 2 v L.length (pcells L) ∧ Below w.heap.size w w'

end Go.Proofs.YtdjikiakcfbklaaGreat

/-
  Walks over the addresses' laws: works.
-/
namespace Go.Proofs.YtdjikiakcfbklaaGreat
open Go Go.RowKit Go.Sort

theorem le_up {w W : World} (h : Below w.heap.size w W) : w.heap.size ≤ W.heap.size := h.size
theorem sub_24 : subA 167838211 24 = 167838208 ∧ subN 24 = 24 ∧ argE 24 = 0 := by decide +kernel
theorem pp_8 : ppA [49, 48, 46, 48, 46, 48, 46, 48, 47, 56] = 167772160 ∧ ppN [49, 48, 46, 48, 46, 48, 46, 48, 47, 56] = 8 ∧ ppE [49, 48, 46, 48, 46, 48, 46, 48, 47, 56] = 0 := by decide +kernel
theorem pa_8 : parseB [49, 48, 46, 49, 46, 50, 46, 51] = some 167838211 := by decide +kernel
theorem cut_8 : (cutP 167838211 167838212).length = 2 := by decide +kernel
theorem text_8 : textA 167838211 = ⟨#[49, 48, 46, 49, 46, 50, 46, 51]⟩ := by rw [textA_eq]; decide +kernel
theorem textp_8 : textP 167838208 24 = ⟨#[49, 48, 46, 49, 46, 50, 46, 48, 47, 50, 52]⟩ := by
  unfold textP
  rw [textA_eq, show Lib.itoa 24 = Lib.decDigits 24 from rfl, dec3_eq (by omega)]
  decide +kernel
theorem in_8 : inB 167838211 167772160 8 = true ∧ withinB 167838208 24 167772160 8 = true ∧ withinB 167772160 8 167838208 24 = false := by decide +kernel
theorem works_in (w : World) : Calls Tryz.prog 152 #[.int .u32 167838211, .agg #[.int .u32 167772160, .int .i64 8]] w fun e w' => e = .returned (.bool true) ∧ Below w.heap.size w w' := by
  have h := addrIn_any 167838211 167772160 8 w (by omega) (by omega) (by omega) (by omega)
  rw [in_8.1] at h
  exact h
end Go.Proofs.YtdjikiakcfbklaaGreat

/-
  Walks over the addresses' layer: Common; the reference's.
-/
namespace Go.Proofs.YtdjikiakcfbklaaGreat
open Go Go.RowKit Go.Sort

theorem xor_zero (x y : Nat) : x = y ↔ x ^^^ y = 0 := by
  constructor
  · intro h; rw [h, Nat.xor_self]
  · intro h
    have : x ^^^ y ^^^ y = 0 ^^^ y := by rw [h]
    rwa [Nat.xor_assoc, Nat.xor_self, Nat.xor_zero, Nat.zero_xor] at this
theorem bitLen_up (x k : Nat) (hx : x < 2 ^ 64) (hk : k ≤ 64) (h : Lib.bitLen x ≤ k) : x < 2 ^ k := by
  induction k generalizing x with
  | zero =>
    rcases Nat.eq_zero_or_pos x with hz | hz
    · rw [hz]; decide
    · rw [Lib.bitLen_half x (by omega) hx] at h; omega
  | succ k ih =>
    rcases Nat.eq_zero_or_pos x with hz | hz
    · rw [hz]; exact Nat.two_pow_pos _
    · rw [Lib.bitLen_half x (by omega) hx] at h
      have := ih (x / 2) (by omega) (by omega) (by omega)
      rw [Nat.pow_succ]; omega
theorem sub_eq_iff (a b k : Int) (h0 : 0 ≤ a) (h1 : a < 4294967296) (h2 : 0 ≤ b) (h3 : b < 4294967296) (hk0 : 0 ≤ k) (hk : k ≤ 32) : a - a % sz k = b - b % sz k ↔ k ≤ lz32 (xorI a b) := by
  obtain ⟨a, rfl⟩ := Int.eq_ofNat_of_zero_le h0
  obtain ⟨b, rfl⟩ := Int.eq_ofNat_of_zero_le h2
  obtain ⟨k, rfl⟩ := Int.eq_ofNat_of_zero_le hk0
  have hp : 0 < 2 ^ (32 - k) := Nat.two_pow_pos _
  have e1 : sz ((k : Nat) : Int) = ((2 ^ (32 - k) : Nat) : Int) := by rw [sz_nat]; simp
  have hx : (a ^^^ b) < 2 ^ 32 := Nat.xor_lt_two_pow (by omega) (by omega)
  have s1 : (a - a % 2 ^ (32 - k) = b - b % 2 ^ (32 - k)) ↔ a / 2 ^ (32 - k) = b / 2 ^ (32 - k) := by
    have d1 := Nat.div_add_mod a (2 ^ (32 - k))
    have d2 := Nat.div_add_mod b (2 ^ (32 - k))
    constructor
    · intro h
      have : 2 ^ (32 - k) * (a / 2 ^ (32 - k)) = 2 ^ (32 - k) * (b / 2 ^ (32 - k)) := by omega
      exact Nat.eq_of_mul_eq_mul_left hp this
    · intro h
      have : 2 ^ (32 - k) * (a / 2 ^ (32 - k)) = 2 ^ (32 - k) * (b / 2 ^ (32 - k)) := by rw [h]
      omega
  have s2 : a / 2 ^ (32 - k) = b / 2 ^ (32 - k) ↔ (a ^^^ b) / 2 ^ (32 - k) = 0 := by
    rw [← Nat.shiftRight_eq_div_pow, ← Nat.shiftRight_eq_div_pow, ← Nat.shiftRight_eq_div_pow, Nat.shiftRight_xor_distrib, xor_zero]
  have s3 : (a ^^^ b) / 2 ^ (32 - k) = 0 ↔ a ^^^ b < 2 ^ (32 - k) := by
    rw [Nat.div_eq_zero_iff]
    constructor
    · intro h; rcases h with h | h
      · omega
      · exact h
    · intro h; exact .inr h
  have s4 : a ^^^ b < 2 ^ (32 - k) ↔ Lib.bitLen (a ^^^ b) ≤ 32 - k := by
    constructor
    · intro h; exact Lib.bitLen_le _ _ (by omega) h
    · intro h
      exact bitLen_up _ _ (Nat.lt_of_lt_of_le hx (Nat.pow_le_pow_right (by omega) (by omega))) (by omega) h
  have hm1 := Nat.mod_le a (2 ^ (32 - k))
  have hm2 := Nat.mod_le b (2 ^ (32 - k))
  unfold lz32 xorI
  rw [e1, Int.toNat_natCast, Int.toNat_natCast, Int.toNat_natCast, ← Int.natCast_emod, ← Int.natCast_emod]
  constructor
  · intro h
    have := s4.1 (s3.1 (s2.1 (s1.1 (by omega))))
    omega
  · intro h
    have := s1.2 (s2.2 (s3.2 (s4.2 (by omega))))
    omega
theorem dvd_sz (n k : Int) (hk0 : 0 ≤ k) (hkn : k ≤ n) (hn : n ≤ 32) : sz n ∣ sz k := by
  refine ⟨p2 ((n - k).toNat), ?_⟩
  unfold sz p2
  rw [← Int.pow_add]; congr 1; omega
theorem chk_sub (a k : Int) (hk0 : 0 ≤ k) (hk : k ≤ 32) : chk (subA a k) k = 0 := by
  refine chk_zero _ _ hk0 hk ?_
  rw [(sub_yes a hk0 hk).1, Int.sub_emod, Int.emod_emod_of_dvd _ (Int.dvd_refl _)]
  simp
/-- A prefix is in the subnet of so many bits of an address just if it has as many bits, and begins in it. -/
theorem within_sub (a b n k : Int) (h0 : 0 ≤ a) (h1 : a < 4294967296) (h2 : 0 ≤ b) (h3 : b < 4294967296) (hk0 : 0 ≤ k) (hk : k ≤ 32) (hc : chk b n = 0) :
    withinB b n (subA a k) k = decide (k ≤ n ∧ k ≤ lz32 (xorI a b)) := by
  have hp := sz_pos k
  have hi : inB b (subA a k) k = decide (k ≤ lz32 (xorI a b)) := by
    unfold inB
    rw [decide_eq_decide, ← sub_eq_iff a b k h0 h1 h2 h3 hk0 hk, (sub_yes a hk0 hk).1]
    obtain ⟨m1, m2, m3, m4, m5⟩ := mod_le a k h0
    obtain ⟨l1, l2, l3, l4, l5⟩ := mod_le b k h2
    constructor
    · intro ⟨_, h4, h5⟩
      have t1 : sz k * (a / sz k) ≤ b := by rw [Int.mul_comm]; omega
      have t2 : b < sz k * (a / sz k + 1) := by rw [Int.mul_add, Int.mul_comm]; omega
      have t3 : b / sz k = a / sz k := by
        have u1 : a / sz k ≤ b / sz k := Int.le_ediv_of_mul_le (by omega) (by rw [Int.mul_comm]; exact t1)
        have u2 : b / sz k < a / sz k + 1 := Int.ediv_lt_of_lt_mul (by omega) (by rw [Int.mul_comm]; exact t2)
        omega
      rw [← m4, ← l4, t3]
    · intro h
      have h6 := chk_sub a k hk0 hk
      rw [(sub_yes a hk0 hk).1] at h6
      exact ⟨h6, by omega, by omega⟩
  unfold withinB
  rw [hi, hc]
  simp
theorem xor_comm' (a b : Int) : xorI a b = xorI b a := by unfold xorI; rw [Nat.xor_comm]
theorem lz_self (a : Int) : lz32 (xorI a a) = 32 := by unfold xorI; rw [Nat.xor_self]; decide
/-- The search from above finds what the program reckons. -/
theorem com_hit (a n b m : Int) (k : Nat) (h0 : 0 ≤ a) (h1 : a < 4294967296) (h2 : 0 ≤ b) (h3 : b < 4294967296) (hk : k ≤ 32) (hc : chk a n = 0) (hc' : chk b m = 0) :
    (withinB a n (subA a k) k && withinB b m (subA a k) k) = decide ((k : Int) ≤ comN a n b m) := by
  obtain ⟨hn0, hn1, _⟩ := chk_ok hc
  obtain ⟨hm0, hm1, _⟩ := chk_ok hc'
  rw [within_sub a a n k h0 h1 h0 h1 (by omega) (by omega) hc, within_sub a b m k h0 h1 h2 h3 (by omega) (by omega) hc', lz_self]
  unfold comN
  rw [Bool.eq_iff_iff]
  simp only [Bool.and_eq_true, decide_eq_true_eq]
  split <;> split <;> omega
theorem sub_zero (a : Int) (h0 : 0 ≤ a) (h1 : a < 4294967296) : subA a 0 = 0 := by
  rw [(sub_yes a (n := 0) (by omega) (by omega)).1]
  have : sz 0 = 4294967296 := rfl
  rw [this]
  omega

end Go.Proofs.YtdjikiakcfbklaaGreat

/-
  Prefixes inside one another: plain laws; no program in sight.
-/
namespace Go.Proofs.YtdjikiakcfbklaaGreat
open Go Go.RowKit Go.Sort

/-- An address down to a multiple. -/
theorem floor_floor (x s t : Int) (hs : 0 < s) (ht : 0 < t) (h : s ∣ t) : (x - x % s) - (x - x % s) % t = x - x % t := by
  have e1 : x % t % s = x % s := Int.emod_emod_of_dvd x h
  have a1 := Int.emod_nonneg x (show t ≠ 0 by omega)
  have a2 := Int.emod_lt_of_pos x ht
  have b1 := Int.emod_nonneg x (show s ≠ 0 by omega)
  have b3 : x % s ≤ x % t := by
    have := Int.mul_ediv_add_emod (x % t) s
    have h0 : 0 ≤ x % t / s := Int.ediv_nonneg a1 (by omega)
    have h1 := Int.mul_nonneg (show 0 ≤ s by omega) h0
    rw [e1] at this
    omega
  have e2 := Int.mul_ediv_add_emod x t
  have e3 : (x - x % s) % t = x % t - x % s := by
    have : x - x % s = (x % t - x % s) + t * (x / t) := by omega
    rw [this, Int.add_mul_emod_self_left, Int.emod_eq_of_lt (by omega) (by omega)]
  rw [e3]; omega
/-- In a prefix: the address's first bits are the prefix's. -/
theorem in_iff {x a n : Int} (h : chk a n = 0) : inB x a n = true ↔ x - x % sz n = a := by
  obtain ⟨_, _, hm⟩ := chk_ok h
  have hp := sz_pos n
  unfold inB
  simp only [decide_eq_true_eq, h, true_and]
  have e := Int.mul_ediv_add_emod a (sz n)
  constructor
  · intro ⟨h1, h2⟩
    have : x = (x - a) + sz n * (a / sz n) := by omega
    have hx : x % sz n = x - a := by
      rw [this, Int.add_mul_emod_self_left, Int.emod_eq_of_lt (by omega) (by omega)]
      omega
    omega
  · intro h1
    have := Int.emod_nonneg x (show sz n ≠ 0 by omega)
    have := Int.emod_lt_of_pos x (show 0 < sz n by omega)
    omega
theorem within_iff {a n b m : Int} (ha : chk a n = 0) (hb : chk b m = 0) : withinB a n b m = true ↔ m ≤ n ∧ a - a % sz m = b := by
  unfold withinB
  rw [Bool.and_eq_true, in_iff hb]
  simp [ha]
theorem floor_self {a n : Int} (h : chk a n = 0) : a - a % sz n = a := by have := (chk_ok h).2.2; omega
theorem floor_two (x : Int) {n m : Int} (hm : 0 ≤ m) (hmn : m ≤ n) (hn : n ≤ 32) : (x - x % sz n) - (x - x % sz n) % sz m = x - x % sz m :=
  floor_floor x _ _ (by have := sz_pos n; omega) (by have := sz_pos m; omega) (dvd_sz n m hm hmn hn)
section
variable {a n b m c o x : Int} (hp : chk a n = 0) (hq : chk b m = 0) (hr : chk c o = 0)
include hp
theorem inside_self : withinB a n a n = true := (within_iff hp hp).2 ⟨Int.le_refl _, floor_self hp⟩
include hq
theorem inside_same : (withinB a n b m && withinB b m a n) = decide (a = b ∧ n = m) := by
  rw [Bool.eq_iff_iff, Bool.and_eq_true, within_iff hp hq, within_iff hq hp, decide_eq_true_eq]
  constructor
  · intro ⟨⟨h1, h2⟩, h3, h4⟩
    obtain rfl : n = m := by omega
    exact ⟨by rw [← h2, floor_self hp], rfl⟩
  · rintro ⟨rfl, rfl⟩
    exact ⟨⟨Int.le_refl _, floor_self hp⟩, Int.le_refl _, floor_self hp⟩
include hr in
theorem inside_trans (h1 : withinB a n b m = true) (h2 : withinB b m c o = true) : withinB a n c o = true := by
  rw [within_iff hp hq] at h1
  rw [within_iff hq hr] at h2
  rw [within_iff hp hr]
  refine ⟨by omega, ?_⟩
  rw [← floor_two a (chk_ok hr).1 h2.1 (chk_ok hq).2.1, h1.2, h2.2]
theorem inside_ends : withinB a n b m = (inB a b m && inB (a + sz n - 1) b m) := by
  have hl : inB (a + sz n - 1) a n = true := by unfold inB; have := sz_pos n; simp [hp]; omega
  rw [Bool.eq_iff_iff, Bool.and_eq_true, within_iff hp hq, in_iff hq, in_iff hq]
  constructor
  · intro ⟨h1, h2⟩
    refine ⟨h2, ?_⟩
    rw [← floor_two _ (chk_ok hq).1 h1 (chk_ok hp).2.1, (in_iff hp).1 hl, h2]
  · intro ⟨h1, h2⟩
    refine ⟨?_, h1⟩
    rcases (show n < m ∨ m ≤ n by omega) with h | h
    · exfalso
      have h3 := (in_iff hq).2 h1
      have h4 := (in_iff hq).2 h2
      unfold inB at h3 h4
      simp only [decide_eq_true_eq] at h3 h4
      have e : sz n = 2 * sz (n + 1) := by
        unfold sz
        rw [← p2_succ]
        have := (chk_ok hq).2.1
        have := (chk_ok hp).1
        congr 1; omega
      have := sz_pos m
      have hd3 := Int.le_of_dvd (by have := sz_pos (n+1); omega) (dvd_sz m (n + 1) (by have := (chk_ok hp).1; omega) (by omega) (chk_ok hq).2.1)
      omega
    · exact h
theorem inside_meet (h1 : inB x a n = true) (h2 : inB x b m = true) : withinB a n b m = true ∨ withinB b m a n = true := by
  rw [in_iff hp] at h1
  rw [in_iff hq] at h2
  rw [within_iff hp hq, within_iff hq hp]
  rcases Int.le_total m n with h | h
  · left
    exact ⟨h, by rw [← h1, floor_two x (chk_ok hq).1 h (chk_ok hp).2.1, h2]⟩
  · right
    exact ⟨h, by rw [← h2, floor_two x (chk_ok hp).1 h (chk_ok hq).2.1, h1]⟩
omit hq in
theorem inside_between : inB x a n = (decide (a ≤ x) && decide (x ≤ a + sz n - 1)) := by
  unfold inB
  rw [Bool.eq_iff_iff, Bool.and_eq_true, decide_eq_true_eq, decide_eq_true_eq, decide_eq_true_eq]
  constructor
  · intro ⟨_, _, _⟩; omega
  · intro ⟨_, _⟩; exact ⟨hp, by omega, by omega⟩
variable (h0 : 0 ≤ a) (h1 : a < 4294967296) (h2 : 0 ≤ b) (h3 : b < 4294967296)
include h0 h1 h2 h3
theorem common_ok : comE a n b m = 0 ∧ comA a n b m = subA a (comN a n b m) ∧ comB a n b m = comN a n b m ∧ 0 ≤ comN a n b m ∧ comN a n b m ≤ 32 ∧ comN a n b m ≤ n ∧ comN a n b m ≤ m ∧ comN a n b m ≤ lz32 (xorI a b) := by
  have he : comE a n b m = 0 := by unfold comE; rw [if_pos hp, hq]
  have hl := lz32_range (xorI a b) (xor_range a b h0 h1 h2 h3).2
  have hr := com_range n m (chk_ok hp).1 (chk_ok hp).2.1 (chk_ok hq).1 (chk_ok hq).2.1 hl
  refine ⟨he, (com_yes he).1, (com_yes he).2, hr.1, hr.2, ?_⟩
  unfold comN
  split <;> split <;> omega
theorem common_in : withinB a n (comA a n b m) (comB a n b m) = true ∧ withinB b m (comA a n b m) (comB a n b m) = true := by
  obtain ⟨_, e1, e2, k0, k1, k2, k3, k4⟩ := common_ok hp hq h0 h1 h2 h3
  rw [e1, e2]
  have hd := chk_sub a (comN a n b m) k0 k1
  rw [within_iff hp hd, within_iff hq hd]
  have := (sub_yes a k0 k1).1
  refine ⟨⟨k2, this.symm⟩, k3, ?_⟩
  rw [this]
  exact ((sub_eq_iff a b _ h0 h1 h2 h3 k0 k1).2 k4).symm
include hr in
theorem common_most (w1 : withinB a n c o = true) (w2 : withinB b m c o = true) : withinB (comA a n b m) (comB a n b m) c o = true := by
  obtain ⟨_, e1, e2, k0, k1, k2, k3, k4⟩ := common_ok hp hq h0 h1 h2 h3
  rw [within_iff hp hr] at w1
  rw [within_iff hq hr] at w2
  rw [e1, e2]
  have hd := chk_sub a (comN a n b m) k0 k1
  rw [within_iff hd hr, (sub_yes a k0 k1).1]
  have ho : o ≤ lz32 (xorI a b) := (sub_eq_iff a b o h0 h1 h2 h3 (chk_ok hr).1 (chk_ok hr).2.1).1 (w1.2.trans w2.2.symm)
  have hk : o ≤ comN a n b m := by unfold comN; split <;> split <;> omega
  exact ⟨hk, by rw [floor_two a (chk_ok hr).1 hk k1, w1.2]⟩
omit hq h0 h2 h3 in
theorem halves_ok (hn : n ≠ 32) : chk a (n + 1) = 0 ∧ chk (a + sz (n + 1)) (n + 1) = 0 ∧ a + sz (n + 1) < 4294967296 ∧ inB x a n = (inB x a (n + 1) != inB x (a + sz (n + 1)) (n + 1)) ∧ cmpP a (n + 1) (a + sz (n + 1)) (n + 1) = -1 ∧ withinB a (n + 1) a n = true ∧ withinB (a + sz (n + 1)) (n + 1) a n = true := by
  obtain ⟨g0, g1, g2⟩ := chk_ok hp
  obtain ⟨l1, l2⟩ := half_le a n h1 g0 (by omega) g2
  have hs := sz_pos (n + 1)
  have d : a % sz (n + 1) = 0 := by
    have := Int.emod_emod_of_dvd a (dvd_sz (n + 1) n g0 (by omega) (by omega))
    rw [g2] at this
    simpa using this.symm
  have c1 : chk a (n + 1) = 0 := chk_zero _ _ (by omega) (by omega) d
  have c2 : chk (a + sz (n + 1)) (n + 1) = 0 := chk_zero _ _ (by omega) (by omega) (by rw [Int.add_emod, d, Int.emod_self]; rfl)
  have i1 : inB a a n = true := by unfold inB; simp [hp]; omega
  have i2 : inB (a + sz (n + 1)) a n = true := by unfold inB; simp [hp]; omega
  refine ⟨c1, c2, l2, ?_, ?_, ?_, ?_⟩
  · unfold inB
    rw [hp, c1, c2]
    by_cases e1 : a ≤ x <;> by_cases e2 : x < a + sz (n + 1) <;> by_cases e3 : x < a + sz n <;> simp [e1, e2, e3] <;> omega
  · unfold cmpP
    rw [cmpI_lt (by omega)]
    rfl
  · unfold withinB; rw [i1, c1]; simp; omega
  · unfold withinB; rw [i2, c2]; simp; omega
end
end Go.Proofs.YtdjikiakcfbklaaGreat

/-
  The addresses between two, cut: as few prefixes as can be, each address in just one; plain laws, no program in sight.
-/
namespace Go.Proofs.YtdjikiakcfbklaaGreat
open Go Go.RowKit Go.Sort

theorem pick_max (a e : Int) : ∀ (k j : Nat), j ≤ k → a % p2 j = 0 → a + p2 j ≤ e → j ≤ pick a e k
  | 0, j, h, _, _ => by omega
  | k + 1, j, h, h1, h2 => by
    unfold pick
    split
    · exact h
    · rename_i hn
      rcases (show j = k + 1 ∨ j ≤ k by omega) with rfl | hj
      · exact absurd ⟨h1, h2⟩ hn
      · exact pick_max a e k j hj h1 h2
theorem sz_pick (k : Nat) (h : k ≤ 32) : sz (32 - (k : Int)) = p2 k := by unfold sz; congr 1; omega
theorem p2_dvd {j k : Nat} (h : j ≤ k) : p2 j ∣ p2 k := by
  refine ⟨p2 (k - j), ?_⟩
  unfold p2
  rw [← Int.pow_add]; congr 1; omega
theorem mod_up {a : Int} {j k : Nat} (h : j ≤ k) (ha : a % p2 k = 0) : a % p2 j = 0 := by
  have := Int.emod_emod_of_dvd a (p2_dvd h)
  rw [ha] at this
  simpa using this.symm
theorem mod_add {a : Int} {k : Nat} (ha : a % p2 k = 0) : (a + p2 k) % p2 k = 0 := by rw [Int.add_emod, ha, Int.emod_self]; rfl
/-- Two multiples together: the next one. -/
theorem mod_next {a : Int} {k : Nat} (ha : a % p2 k = 0) (h : ¬ a % p2 (k + 1) = 0) : (a + p2 k) % p2 (k + 1) = 0 := by
  have hp := p2_pos k
  have hs := p2_succ k
  have e := Int.emod_emod_of_dvd a (p2_dvd (Nat.le_succ k))
  rw [ha] at e
  have b1 := Int.emod_nonneg a (show p2 (k + 1) ≠ 0 by omega)
  have b2 := Int.emod_lt_of_pos a (show 0 < p2 (k + 1) by omega)
  have b3 : a % p2 (k + 1) = p2 k := by
    have e2 := Int.mul_ediv_add_emod (a % p2 (k + 1)) (p2 k)
    rw [e] at e2
    have q0 : a % p2 (k + 1) / p2 k < 2 := Int.ediv_lt_of_lt_mul (by omega) (by omega)
    have q1 : 0 ≤ a % p2 (k + 1) / p2 k := Int.ediv_nonneg b1 (by omega)
    rcases (show a % p2 (k + 1) / p2 k = 0 ∨ a % p2 (k + 1) / p2 k = 1 by omega) with h0 | h0
    · rw [h0] at e2; omega
    · rw [h0] at e2; omega
  have e4 : p2 k % p2 (k + 1) = p2 k := Int.emod_eq_of_lt (by omega) (by omega)
  rw [Int.add_emod, b3, e4, show p2 k + p2 k = p2 (k + 1) by omega, Int.emod_self]
/-- Behind the turn the pieces grow smaller. -/
theorem cut_down (e : Int) : ∀ (j f : Nat) (a : Int), j ≤ 32 → a % p2 j = 0 → e - a < p2 j → (cutL e f a).length ≤ j
  | j, 0, a, _, _, _ => by unfold cutL; simp
  | j, f + 1, a, hj, ha, he => by
    by_cases h : e ≤ a
    · rw [cutL_done e a (f + 1) h]; simp
    · rw [cutL_step e a f (by omega), List.length_cons]
      obtain ⟨o1, o2⟩ := pick_ok a e 32 (by omega)
      have hk : pick a e 32 < j := by
        rcases (show pick a e 32 < j ∨ j ≤ pick a e 32 by omega) with h1 | h1
        · exact h1
        · have := p2_mono h1; omega
      have hm := fun h1 h2 => pick_max a e 32 (pick a e 32 + 1) (by omega) h1 h2
      have h1 : a % p2 (pick a e 32 + 1) = 0 := mod_up (by omega) ha
      have h2 : ¬ a + p2 (pick a e 32 + 1) ≤ e := fun h2 => by have := hm h1 h2; omega
      have hs := p2_succ (pick a e 32)
      have := cut_down e (pick a e 32) f (a + p2 (pick a e 32)) (by omega) (mod_add o1) (by omega)
      omega
/-- Ahead of it they grow. -/
theorem cut_up (e : Int) (he : e ≤ 4294967296) : ∀ (f j : Nat) (a : Int), j ≤ 31 → 0 < a → a % p2 j = 0 → (cutL e f a).length ≤ 62 - j
  | 0, j, a, _, _, _ => by unfold cutL; simp
  | f + 1, j, a, hj, h0, ha => by
    by_cases h : e ≤ a
    · rw [cutL_done e a (f + 1) h]; simp
    · by_cases hfit : a + p2 j ≤ e
      · rw [cutL_step e a f (by omega), List.length_cons]
        obtain ⟨o1, o2⟩ := pick_ok a e 32 (by omega)
        have hjk := pick_max a e 32 j (by omega) ha hfit
        have hle := pick_le a e 32
        generalize hk : pick a e 32 = k at *
        have hs := p2_succ k
        have hge : p2 k ≤ a := Int.le_of_dvd h0 (Int.dvd_of_emod_eq_zero o1)
        have hk31 : k ≤ 31 := by
          rcases (show k ≤ 31 ∨ k = 32 by omega) with h1 | rfl
          · exact h1
          · rw [p2_32] at hge; omega
        by_cases h31 : k = 31
        · subst h31
          have e31 : p2 31 = 2147483648 := by decide
          rw [cutL_done e _ f (by omega)]
          simp; omega
        · by_cases hal : a % p2 (k + 1) = 0
          · have h2 : ¬ a + p2 (k + 1) ≤ e := fun h2 => by have := pick_max a e 32 (k + 1) (by omega) hal h2; omega
            have := cut_down e k f (a + p2 k) (by omega) (mod_add o1) (by omega)
            omega
          · have := cut_up e he f (k + 1) (a + p2 k) (by omega) (by have := p2_pos k; omega) (mod_next o1 hal)
            omega
      · have := cut_down e j (f + 1) a (by omega) ha (by omega)
        omega
theorem cut_most (e : Int) (he : e ≤ 4294967296) (f : Nat) (a : Int) (h0 : 0 ≤ a) : (cutL e f a).length ≤ 62 := by
  rcases (show a = 0 ∨ 0 < a by omega) with rfl | h1
  · rcases (show e < 4294967296 ∨ e = 4294967296 by omega) with h2 | rfl
    · have := cut_down e 32 f 0 (by omega) (by simp) (by rw [p2_32]; omega)
      omega
    · cases f with
      | zero => unfold cutL; simp
      | succ f =>
        have hp : pick 0 4294967296 32 = 32 := pick_hit 0 4294967296 32 (by simp) (by rw [p2_32]; omega)
        rw [cutL_step _ _ f (by omega), hp, cutL_done _ _ f (by rw [p2_32]; omega)]
        simp
  · exact cut_up e he f 0 a (by omega) h1 (by rw [p2_zero]; omega)
/-- How many of the prefixes an address is in. -/
def cntIn (y : Int) (L : List (Int × Int)) : Nat := (L.filter fun p => inB y p.1 p.2).length
theorem chk_pick (a e : Int) (h : a < e) : chk a (32 - (pick a e 32 : Int)) = 0 := by
  have hk := pick_le a e 32
  exact chk_zero _ _ (by omega) (by omega) (by rw [sz_pick _ hk]; exact (pick_ok a e 32 h).1)
theorem cut_once (e y : Int) : ∀ (f : Nat) (a : Int), e - a ≤ f → cntIn y (cutL e f a) = if a ≤ y ∧ y < e then 1 else 0
  | 0, a, hf => by
    rw [cutL_done e a 0 (by omega), if_neg (by omega)]; rfl
  | f + 1, a, hf => by
    by_cases h : e ≤ a
    · rw [cutL_done e a (f + 1) h, if_neg (by omega)]; rfl
    · have hk := pick_le a e 32
      have hp := p2_pos (pick a e 32)
      have ho := (pick_ok a e 32 (by omega)).2
      have ih := cut_once e y f (a + p2 (pick a e 32)) (by omega)
      rw [cutL_step e a f (by omega)]
      unfold cntIn at ih ⊢
      rw [List.filter_cons]
      have hc := chk_pick a e (by omega)
      have hi : inB y a (32 - (pick a e 32 : Int)) = decide (a ≤ y ∧ y < a + p2 (pick a e 32)) := by
        unfold inB; rw [sz_pick _ hk, hc]; simp
      simp only [hi]
      by_cases h1 : a ≤ y ∧ y < a + p2 (pick a e 32)
      · rw [if_pos (by simpa using h1), List.length_cons, ih, if_neg (by omega), if_pos (by omega)]
      · rw [if_neg (by simpa using h1), ih]
        by_cases h2 : a + p2 (pick a e 32) ≤ y ∧ y < e
        · rw [if_pos h2, if_pos (by omega)]
        · rw [if_neg h2, if_neg (by omega)]
/-- What is between one piece and the next. -/
def Next (p q : Int × Int) : Prop := q.1 = p.1 + sz p.2 ∧ (p.2 = q.2 → ¬ p.1 % (2 * sz p.2) = 0)
def AllOk (e : Int) (p : Int × Int) : Prop := chk p.1 p.2 = 0 ∧ 0 ≤ p.1 ∧ p.1 + sz p.2 ≤ e
theorem cut_allOk (e : Int) : ∀ (f : Nat) (a : Int), 0 ≤ a → ∀ p, p ∈ cutL e f a → AllOk e p
  | 0, a, _, p, h => by unfold cutL at h; simp at h
  | f + 1, a, h0, p, h => by
    by_cases he : e ≤ a
    · rw [cutL_done e a (f + 1) he] at h; simp at h
    · rw [cutL_step e a f (by omega)] at h
      have hk := pick_le a e 32
      have hp := p2_pos (pick a e 32)
      rcases List.mem_cons.1 h with rfl | h
      · exact ⟨chk_pick a e (by omega), h0, by show a + sz (32 - (pick a e 32 : Int)) ≤ e; rw [sz_pick _ hk]; exact (pick_ok a e 32 (by omega)).2⟩
      · exact cut_allOk e f _ (by omega) p h
theorem cut_next (e : Int) (hE : e ≤ 4294967296) : ∀ (f : Nat) (a : Int) (k : Nat) (p q : Int × Int), 0 ≤ a → (cutL e f a)[k]? = some p → (cutL e f a)[k + 1]? = some q → Next p q
  | 0, a, k, p, q, _, h, _ => by unfold cutL at h; simp at h
  | f + 1, a, k, p, q, h0, h, h' => by
    by_cases he : e ≤ a
    · rw [cutL_done e a (f + 1) he] at h; simp at h
    · rw [cutL_step e a f (by omega)] at h h'
      cases k with
      | succ k => exact cut_next e hE f (a + p2 (pick a e 32)) k p q (by have := p2_pos (pick a e 32); omega) (by simpa using h) (by simpa using h')
      | zero =>
        simp at h h'
        subst h
        have hk := pick_le a e 32
        have hp := p2_pos (pick a e 32)
        have hok := pick_ok a e 32 (by omega)
        have hm := pick_max a e 32 (pick a e 32 + 1)
        cases f with
        | zero => unfold cutL at h'; simp at h'
        | succ f =>
          by_cases h2 : e ≤ a + p2 (pick a e 32)
          · rw [cutL_done e _ (f + 1) h2] at h'; simp at h'
          · rw [cutL_step e _ f (by omega)] at h'
            simp at h'
            subst h'
            refine ⟨by show a + p2 (pick a e 32) = _; rw [sz_pick _ hk], ?_⟩
            have hok2 := pick_ok (a + p2 (pick a e 32)) e 32 (by omega)
            show 32 - (pick a e 32 : Int) = 32 - (pick (a + p2 (pick a e 32)) e 32 : Int) → ¬ a % (2 * sz (32 - (pick a e 32 : Int))) = 0
            rw [sz_pick _ hk, ← p2_succ]
            intro e1 e2
            have e3 : pick (a + p2 (pick a e 32)) e 32 = pick a e 32 := by omega
            rw [e3] at hok2
            have hs := p2_succ (pick a e 32)
            rcases (show pick a e 32 ≤ 31 ∨ pick a e 32 = 32 by omega) with h3 | h3
            · have := hm (by omega) e2 (by omega)
              omega
            · rw [h3, p2_32] at h2
              omega
end Go.Proofs.YtdjikiakcfbklaaGreat

/-
  Walks over the addresses' laws: fit, same.
-/
namespace Go.Proofs.YtdjikiakcfbklaaGreat
open Go Go.RowKit Go.Sort

/-- The bits that 'fit' makes of any int. -/
def fitN (k : Int) : Int := IntKind.u64.wrap k % 33
theorem fitN_range (k : Int) : 0 ≤ fitN k ∧ fitN k ≤ 32 := by unfold fitN; omega
theorem fit_chk (a k : Int) : chk (subA a (fitN k)) (fitN k) = 0 := chk_sub a (fitN k) (fitN_range k).1 (fitN_range k).2
theorem results_1 {fn : Func} {tmps : Array Value} {w : World} {g : Nat} {a b : Value} {t1 : Nat} (hf : fn.results = #[.cell t1 40]) (h1 : tmps.getD t1 undef = .pointer (some ⟨g, 0, none⟩))
    (k1 : w.heap[g]? = some (.cells #[a, b] 40 (0, 0))) :
    (results fn tmps).run Tryz.prog w = .ok (.agg #[a, b]) w := by
  obtain ⟨c0, c1, _, _⟩ := two_cells k1
  have h1' : tmps[t1]?.getD undef = .pointer (some ⟨g, 0, none⟩) := by simpa using h1
  simp [results, hf, h1', go_sem, c0, c1]
end Go.Proofs.YtdjikiakcfbklaaGreat

/-
  Walks over headers: Bytes.
-/
namespace Go.Proofs.YtdjikiakcfbklaaGreat
open Go Go.RowKit Go.Sort

/-- A header. -/
structure Hd where
  src : Int
  dst : Int
  proto : Int
  sp : Int
  dp : Int
  deriving DecidableEq
def Hd.enc (h : Hd) : List Value := [.int .u32 h.src, .int .u32 h.dst, .int .u8 h.proto, .int .u16 h.sp, .int .u16 h.dp]
structure Hd.ok (h : Hd) : Prop where
  s0 : 0 ≤ h.src
  s1 : h.src < 4294967296
  d0 : 0 ≤ h.dst
  d1 : h.dst < 4294967296
  p0 : 0 ≤ h.proto
  p1 : h.proto < 256
  a0 : 0 ≤ h.sp
  a1 : h.sp < 65536
  b0 : 0 ≤ h.dp
  b1 : h.dp < 65536
/-- Its bytes. -/
def Hd.bytes (h : Hd) : List Int := [h.src / 16777216, h.src / 65536 % 256, h.src / 256 % 256, h.src % 256, h.dst / 16777216, h.dst / 65536 % 256, h.dst / 256 % 256, h.dst % 256, h.proto, h.sp / 256, h.sp % 256, h.dp / 256, h.dp % 256]
/-- The array while the addresses are written. -/
def Hd.part (h : Hd) (k j : Nat) (p : Bool) : List Int := (List.range 13).map fun i => if (i < 4 ∧ i < k) ∨ (4 ≤ i ∧ i < 8 ∧ i - 4 < k) ∨ (i = 8 ∧ p = true) ∨ (9 ≤ i ∧ i < 11 ∧ i - 9 < j) ∨ (11 ≤ i ∧ i - 11 < j) then h.bytes.getD i 0 else 0
theorem part_start (h : Hd) : h.part 0 0 false = List.replicate 13 0 := rfl
theorem part_full (h : Hd) : h.part 4 2 true = h.bytes := rfl

def Hd.cells (h : Hd) : Obj := .cells #[.int .u32 h.src, .int .u32 h.dst, .int .u8 h.proto, .int .u16 h.sp, .int .u16 h.dp] 28
def arr (l : List Int) : Obj := .cells (l.map (Value.int .u8)).toArray 149
structure BySt (h : Hd) (l : List Int) (g : Nat) (w W : World) : Prop where
  a : W.heap[g]? = some h.cells
  r : W.heap[g + 1]? = some (arr (List.replicate 13 0))
  b : W.heap[g + 2]? = some (arr l)
  n : Below w.heap.size w W
theorem arr_cell {w : World} {g : Nat} {l : List Int} (h : w.heap[g]? = some (arr l)) {k : Nat} {x : Int} (hk : l[k]? = some x) : w.cell? ⟨g, k, none⟩ = some (.int .u8 x) := by
  rw [cell_of_row w g k _ _ _ h]
  simp [hk]
theorem arr_set {w : World} {g : Nat} {l : List Int} (h : w.heap[g]? = some (arr l)) (k : Nat) (x : Int) : (w.setCell ⟨g, k, none⟩ (.int .u8 x)).heap[g]? = some (arr (l.set k x)) := by
  rw [heap_setCell_same _ _ _ _ _ _ h]
  unfold arr
  congr 2
  rw [List.map_set]
  simp
theorem byst_next {h : Hd} {l : List Int} {g : Nat} {w W : World} (H : BySt h l g w W) (hg : w.heap.size ≤ g) (i j : Nat) (x y : Int) : BySt h ((l.set i x).set j y) g w ((W.setCell ⟨g + 1 + 1, i, none⟩ (.int .u8 x)).setCell ⟨g + 1 + 1, j, none⟩ (.int .u8 y)).drew := by
  refine ⟨?_, ?_, ?_, ?_⟩
  · show (((W.setCell _ _).setCell _ _)).heap[g]? = _
    rw [heap_setCell_other _ _ _ _ (by show g ≠ g + 1 + 1; omega), heap_setCell_other _ _ _ _ (by show g ≠ g + 1 + 1; omega)]; exact H.a
  · show (((W.setCell _ _).setCell _ _)).heap[g + 1]? = _
    rw [heap_setCell_other _ _ _ _ (by simp), heap_setCell_other _ _ _ _ (by simp)]; exact H.r
  · exact arr_set (arr_set H.b i x) j y
  · exact ((H.n.setCell (p := ⟨g + 1 + 1, i, none⟩) (by show w.heap.size ≤ g + 1 + 1; omega) _).setCell (p := ⟨g + 1 + 1, j, none⟩) (by show w.heap.size ≤ g + 1 + 1; omega) _).drew
theorem byst_one {h : Hd} {l : List Int} {g : Nat} {w W : World} (H : BySt h l g w W) (hg : w.heap.size ≤ g) (i : Nat) (x : Int) : BySt h (l.set i x) g w (W.setCell ⟨g + 1 + 1, i, none⟩ (.int .u8 x)) := by
  refine ⟨?_, ?_, ?_, ?_⟩
  · rw [heap_setCell_other _ _ _ _ (by show g ≠ g + 1 + 1; omega)]; exact H.a
  · rw [heap_setCell_other _ _ _ _ (by show g + 1 ≠ g + 1 + 1; omega)]; exact H.r
  · exact arr_set H.b i x
  · exact H.n.setCell (p := ⟨g + 1 + 1, i, none⟩) (by show w.heap.size ≤ g + 1 + 1; omega) _
theorem results_arr {fn : Func} {tmps : Array Value} {w : World} {g : Nat} {x0 x1 x2 x3 x4 x5 x6 x7 x8 x9 x10 x11 x12 : Int} {t1 : Nat} (hf : fn.results = #[.cell t1 149]) (h1 : tmps.getD t1 undef = .pointer (some ⟨g, 0, none⟩)) (k1 : w.heap[g]? = some (arr [x0, x1, x2, x3, x4, x5, x6, x7, x8, x9, x10, x11, x12])) :
    (results fn tmps).run Tryz.prog w = .ok (.agg #[.int .u8 x0, .int .u8 x1, .int .u8 x2, .int .u8 x3, .int .u8 x4, .int .u8 x5, .int .u8 x6, .int .u8 x7, .int .u8 x8, .int .u8 x9, .int .u8 x10, .int .u8 x11, .int .u8 x12]) w := by
  have c0 := arr_cell k1 (k := 0) (x := x0) rfl
  have c1 := arr_cell k1 (k := 1) (x := x1) rfl
  have c2 := arr_cell k1 (k := 2) (x := x2) rfl
  have c3 := arr_cell k1 (k := 3) (x := x3) rfl
  have c4 := arr_cell k1 (k := 4) (x := x4) rfl
  have c5 := arr_cell k1 (k := 5) (x := x5) rfl
  have c6 := arr_cell k1 (k := 6) (x := x6) rfl
  have c7 := arr_cell k1 (k := 7) (x := x7) rfl
  have c8 := arr_cell k1 (k := 8) (x := x8) rfl
  have c9 := arr_cell k1 (k := 9) (x := x9) rfl
  have c10 := arr_cell k1 (k := 10) (x := x10) rfl
  have c11 := arr_cell k1 (k := 11) (x := x11) rfl
  have c12 := arr_cell k1 (k := 12) (x := x12) rfl
  have h1' : tmps[t1]?.getD undef = .pointer (some ⟨g, 0, none⟩) := by simpa using h1
  simp [results, hf, h1', go_sem, c0, c1, c2, c3, c4, c5, c6, c7, c8, c9, c10, c11, c12]
theorem u8_wrap (x : Int) : IntKind.u8.wrap x = x % 256 := by simp [IntKind.wrap, IntKind.bits, IntKind.signed]
set_option maxRecDepth 100000 in
set_option maxHeartbeats 4000000 in
theorem bytes_any (h : Hd) (ho : h.ok) (w : World) :
    Calls Tryz.prog 96 #[.agg #[.int .u32 h.src, .int .u32 h.dst, .int .u8 h.proto, .int .u16 h.sp, .int .u16 h.dp]] w fun e w' => e = .returned (.agg (h.bytes.map (Value.int .u8)).toArray) ∧ Below w.heap.size w w' := by
  obtain ⟨s0, s1, d0, d1, p0, p1, a0, a1, b0, b1⟩ := ho
  have hS : Hid (BySt h (h.part 0 0 false) w.heap.size w (((w.alloc h.cells).alloc (arr (List.replicate 13 0))).alloc (arr (List.replicate 13 0)))) := by
    obtain ⟨k0, k1, k2⟩ := blk3 w h.cells (arr (List.replicate 13 0)) (arr (List.replicate 13 0))
    exact Lib.hid ⟨k0, k1, k2, below3 w _ _ _⟩
  go_enter Tryz.func96, Tryz.ntmps96
  go_wp2
  change Hid (BySt h (h.part 0 0 false) w.heap.size w (((w.alloc (.cells #[.int .u32 h.src, .int .u32 h.dst, .int .u8 h.proto, .int .u16 h.sp, .int .u16 h.dp] 28)).alloc (.cells #[.int .u8 0, .int .u8 0, .int .u8 0, .int .u8 0, .int .u8 0, .int .u8 0, .int .u8 0, .int .u8 0, .int .u8 0, .int .u8 0, .int .u8 0, .int .u8 0, .int .u8 0] 149)).alloc (.cells #[.int .u8 0, .int .u8 0, .int .u8 0, .int .u8 0, .int .u8 0, .int .u8 0, .int .u8 0, .int .u8 0, .int .u8 0, .int .u8 0, .int .u8 0, .int .u8 0, .int .u8 0] 149))) at hS
  generalize ((w.alloc (.cells #[.int .u32 h.src, .int .u32 h.dst, .int .u8 h.proto, .int .u16 h.sp, .int .u16 h.dp] 28)).alloc (.cells #[.int .u8 0, .int .u8 0, .int .u8 0, .int .u8 0, .int .u8 0, .int .u8 0, .int .u8 0, .int .u8 0, .int .u8 0, .int .u8 0, .int .u8 0, .int .u8 0, .int .u8 0] 149)).alloc (.cells #[.int .u8 0, .int .u8 0, .int .u8 0, .int .u8 0, .int .u8 0, .int .u8 0, .int .u8 0, .int .u8 0, .int .u8 0, .int .u8 0, .int .u8 0, .int .u8 0, .int .u8 0] 149) = W at *
  go_loopw [6] (fun i wr => ∃ k : Nat, i = .int .i64 k ∧ k ≤ 4 ∧ Hid (BySt h (h.part k 0 false) w.heap.size w wr)) (fun i _ => 4 - (intOf i).toNat)
  case atStart => exact ⟨0, rfl, by omega, hS⟩
  case round =>
    obtain ⟨k, rfl, hk, hSr⟩ := hrel
    clear hS
    by_cases hlt : k < 4
    · have hI : (k : Int) < 4 := by omega
      have c0 : wr.cell? ⟨w.heap.size, 0, none⟩ = some (.int .u32 h.src) := by rw [cell_of_row wr _ 0 _ _ _ hSr.out.a]; rfl
      have c1 : wr.cell? ⟨w.heap.size, 1, none⟩ = some (.int .u32 h.dst) := by rw [cell_of_row wr _ 1 _ _ _ hSr.out.a]; rfl
      rcases (show k = 0 ∨ k = 1 ∨ k = 2 ∨ k = 3 by omega) with rfl | rfl | rfl | rfl
      · go_upto_region 5 with fail
        have q0 := arr_cell hSr.out.b (k := 0) (x := 0) rfl
        have q4 := arr_cell hSr.out.b (k := 4) (x := 0) rfl
        have z0 := frozen_row hSr.out.b 0
        have z4 := frozen_row hSr.out.b 4
        have n1 : w.heap.size ≠ w.heap.size + 1 + 1 := by omega
        have n2 : w.heap.size + 1 + 1 ≠ w.heap.size := by omega
        have y0 : IntKind.i64.wrap 0 = 0 := by decide
        have y4 : IntKind.i64.wrap 4 = 4 := by decide
        have y24 : IntKind.i64.wrap 24 = 24 := by decide
        go_region_held3 (fun w' => w'.cell? ⟨w.heap.size, 0, none⟩ = some (.int .u32 h.src) ∧ w'.cell? ⟨w.heap.size, 1, none⟩ = some (.int .u32 h.dst)) (go_keep) (fail)
        have hN := byst_next hSr.out (Nat.le_refl _) 0 4 (IntKind.u8.wrap (h.src / 16777216)) (IntKind.u8.wrap (h.dst / 16777216))
        have hL : ((h.part 0 0 false).set 0 (IntKind.u8.wrap (h.src / 16777216))).set 4 (IntKind.u8.wrap (h.dst / 16777216)) = h.part 1 0 false := by
          rw [show IntKind.u8.wrap (h.src / 16777216) = h.src / 16777216 by simp only [u8_wrap] <;> omega, show IntKind.u8.wrap (h.dst / 16777216) = h.dst / 16777216 by simp only [u8_wrap] <;> omega]
          rfl
        rw [hL] at hN
        have hN2 := Lib.hid hN
        rw [show IntKind.u8.wrap (h.src / 16777216) = h.src / 16777216 by simp only [u8_wrap] <;> omega, show IntKind.u8.wrap (h.dst / 16777216) = h.dst / 16777216 by simp only [u8_wrap] <;> omega] at hN
        have hN3 := Lib.hid hN
        clear hN hL q0 q4 z0 z4 c0 c1 hSr
        go_wp2
        first | exact ⟨⟨1, rfl, by omega, hN3⟩, by simp only [intOf]; omega⟩ | exact ⟨⟨1, rfl, by omega, hN2⟩, by simp only [intOf]; omega⟩
      · go_upto_region 5 with fail
        have q0 := arr_cell hSr.out.b (k := 1) (x := 0) rfl
        have q4 := arr_cell hSr.out.b (k := 5) (x := 0) rfl
        have z0 := frozen_row hSr.out.b 1
        have z4 := frozen_row hSr.out.b 5
        have n1 : w.heap.size ≠ w.heap.size + 1 + 1 := by omega
        have n2 : w.heap.size + 1 + 1 ≠ w.heap.size := by omega
        have y5 : IntKind.i64.wrap 5 = 5 := by decide
        have y8 : IntKind.i64.wrap 8 = 8 := by decide
        have y16 : IntKind.i64.wrap 16 = 16 := by decide
        go_region_held3 (fun w' => w'.cell? ⟨w.heap.size, 0, none⟩ = some (.int .u32 h.src) ∧ w'.cell? ⟨w.heap.size, 1, none⟩ = some (.int .u32 h.dst)) (go_keep) (fail)
        have hN := byst_next hSr.out (Nat.le_refl _) 1 5 (IntKind.u8.wrap (h.src / 65536)) (IntKind.u8.wrap (h.dst / 65536))
        have hL : ((h.part 1 0 false).set 1 (IntKind.u8.wrap (h.src / 65536))).set 5 (IntKind.u8.wrap (h.dst / 65536)) = h.part 2 0 false := by
          rw [show IntKind.u8.wrap (h.src / 65536) = h.src / 65536 % 256 by simp only [u8_wrap] <;> omega, show IntKind.u8.wrap (h.dst / 65536) = h.dst / 65536 % 256 by simp only [u8_wrap] <;> omega]
          rfl
        rw [hL] at hN
        have hN2 := Lib.hid hN
        rw [show IntKind.u8.wrap (h.src / 65536) = h.src / 65536 % 256 by simp only [u8_wrap] <;> omega, show IntKind.u8.wrap (h.dst / 65536) = h.dst / 65536 % 256 by simp only [u8_wrap] <;> omega] at hN
        have hN3 := Lib.hid hN
        clear hN hL q0 q4 z0 z4 c0 c1 hSr
        go_wp2
        first | exact ⟨⟨2, rfl, by omega, hN3⟩, by simp only [intOf]; omega⟩ | exact ⟨⟨2, rfl, by omega, hN2⟩, by simp only [intOf]; omega⟩
      · go_upto_region 5 with fail
        have q0 := arr_cell hSr.out.b (k := 2) (x := 0) rfl
        have q4 := arr_cell hSr.out.b (k := 6) (x := 0) rfl
        have z0 := frozen_row hSr.out.b 2
        have z4 := frozen_row hSr.out.b 6
        have n1 : w.heap.size ≠ w.heap.size + 1 + 1 := by omega
        have n2 : w.heap.size + 1 + 1 ≠ w.heap.size := by omega
        have y6 : IntKind.i64.wrap 6 = 6 := by decide
        have y8 : IntKind.i64.wrap 8 = 8 := by decide
        have y16 : IntKind.i64.wrap 16 = 16 := by decide
        go_region_held3 (fun w' => w'.cell? ⟨w.heap.size, 0, none⟩ = some (.int .u32 h.src) ∧ w'.cell? ⟨w.heap.size, 1, none⟩ = some (.int .u32 h.dst)) (go_keep) (fail)
        have hN := byst_next hSr.out (Nat.le_refl _) 2 6 (IntKind.u8.wrap (h.src / 256)) (IntKind.u8.wrap (h.dst / 256))
        have hL : ((h.part 2 0 false).set 2 (IntKind.u8.wrap (h.src / 256))).set 6 (IntKind.u8.wrap (h.dst / 256)) = h.part 3 0 false := by
          rw [show IntKind.u8.wrap (h.src / 256) = h.src / 256 % 256 by simp only [u8_wrap] <;> omega, show IntKind.u8.wrap (h.dst / 256) = h.dst / 256 % 256 by simp only [u8_wrap] <;> omega]
          rfl
        rw [hL] at hN
        have hN2 := Lib.hid hN
        rw [show IntKind.u8.wrap (h.src / 256) = h.src / 256 % 256 by simp only [u8_wrap] <;> omega, show IntKind.u8.wrap (h.dst / 256) = h.dst / 256 % 256 by simp only [u8_wrap] <;> omega] at hN
        have hN3 := Lib.hid hN
        clear hN hL q0 q4 z0 z4 c0 c1 hSr
        go_wp2
        first | exact ⟨⟨3, rfl, by omega, hN3⟩, by simp only [intOf]; omega⟩ | exact ⟨⟨3, rfl, by omega, hN2⟩, by simp only [intOf]; omega⟩
      · go_upto_region 5 with fail
        have q0 := arr_cell hSr.out.b (k := 3) (x := 0) rfl
        have q4 := arr_cell hSr.out.b (k := 7) (x := 0) rfl
        have z0 := frozen_row hSr.out.b 3
        have z4 := frozen_row hSr.out.b 7
        have n1 : w.heap.size ≠ w.heap.size + 1 + 1 := by omega
        have n2 : w.heap.size + 1 + 1 ≠ w.heap.size := by omega
        have y0 : IntKind.i64.wrap 0 = 0 := by decide
        have y7 : IntKind.i64.wrap 7 = 7 := by decide
        have y24 : IntKind.i64.wrap 24 = 24 := by decide
        go_region_held3 (fun w' => w'.cell? ⟨w.heap.size, 0, none⟩ = some (.int .u32 h.src) ∧ w'.cell? ⟨w.heap.size, 1, none⟩ = some (.int .u32 h.dst)) (go_keep) (fail)
        have hN := byst_next hSr.out (Nat.le_refl _) 3 7 (IntKind.u8.wrap (h.src)) (IntKind.u8.wrap (h.dst))
        have hL : ((h.part 3 0 false).set 3 (IntKind.u8.wrap (h.src))).set 7 (IntKind.u8.wrap (h.dst)) = h.part 4 0 false := by
          rw [show IntKind.u8.wrap (h.src) = h.src % 256 by simp only [u8_wrap] <;> omega, show IntKind.u8.wrap (h.dst) = h.dst % 256 by simp only [u8_wrap] <;> omega]
          rfl
        rw [hL] at hN
        have hN2 := Lib.hid hN
        rw [show IntKind.u8.wrap (h.src) = h.src % 256 by simp only [u8_wrap] <;> omega, show IntKind.u8.wrap (h.dst) = h.dst % 256 by simp only [u8_wrap] <;> omega] at hN
        have hN3 := Lib.hid hN
        clear hN hL q0 q4 z0 z4 c0 c1 hSr
        go_wp2
        first | exact ⟨⟨4, rfl, by omega, hN3⟩, by simp only [intOf]; omega⟩ | exact ⟨⟨4, rfl, by omega, hN2⟩, by simp only [intOf]; omega⟩
    · obtain rfl : k = 4 := by omega
      have c2 : wr.cell? ⟨w.heap.size, 2, none⟩ = some (.int .u8 h.proto) := by rw [cell_of_row wr _ 2 _ _ _ hSr.out.a]; rfl
      have q8 := arr_cell hSr.out.b (k := 8) (x := 0) rfl
      have z8 := frozen_row hSr.out.b 8
      have hN := Lib.hid (byst_one hSr.out (Nat.le_refl _) 8 h.proto)
      have hN2 : Hid (BySt h (h.part 4 0 true) w.heap.size w (wr.setCell ⟨w.heap.size + 1 + 1, 8, none⟩ (.int .u8 h.proto))) := hN
      clear hN hSr
      go_wp2
      generalize wr.setCell ⟨w.heap.size + 1 + 1, 8, none⟩ (.int .u8 h.proto) = W2 at *
      clear c2 q8 z8
      go_loopw [32] (fun i wr => ∃ k : Nat, i = .int .i64 k ∧ k ≤ 2 ∧ Hid (BySt h (h.part 4 k true) w.heap.size w wr)) (fun i _ => 2 - (intOf i).toNat)
      case atStart => exact ⟨0, rfl, by omega, hN2⟩
      case round =>
        clear hN2
        obtain ⟨k, rfl, hk2, hSr⟩ := hrel
        by_cases hlt2 : k < 2
        · have hI : (k : Int) < 2 := by omega
          have c3 : wr.cell? ⟨w.heap.size, 3, none⟩ = some (.int .u16 h.sp) := by rw [cell_of_row wr _ 3 _ _ _ hSr.out.a]; rfl
          have c4 : wr.cell? ⟨w.heap.size, 4, none⟩ = some (.int .u16 h.dp) := by rw [cell_of_row wr _ 4 _ _ _ hSr.out.a]; rfl
          rcases (show k = 0 ∨ k = 1 by omega) with rfl | rfl
          · go_upto_region 11 with fail
            have q0 := arr_cell hSr.out.b (k := 9) (x := 0) rfl
            have q4 := arr_cell hSr.out.b (k := 11) (x := 0) rfl
            have z0 := frozen_row hSr.out.b 9
            have z4 := frozen_row hSr.out.b 11
            have n1 : w.heap.size ≠ w.heap.size + 1 + 1 := by omega
            have n2 : w.heap.size + 1 + 1 ≠ w.heap.size := by omega
            have y0 : IntKind.i64.wrap 0 = 0 := by decide
            have y8 : IntKind.i64.wrap 8 = 8 := by decide
            have y9 : IntKind.i64.wrap 9 = 9 := by decide
            have y11 : IntKind.i64.wrap 11 = 11 := by decide
            go_region_held3 (fun w' => w'.cell? ⟨w.heap.size, 3, none⟩ = some (.int .u16 h.sp) ∧ w'.cell? ⟨w.heap.size, 4, none⟩ = some (.int .u16 h.dp)) (go_keep) (fail)
            have hN := byst_next hSr.out (Nat.le_refl _) 9 11 (IntKind.u8.wrap (h.sp / 256)) (IntKind.u8.wrap (h.dp / 256))
            have hL : ((h.part 4 0 true).set 9 (IntKind.u8.wrap (h.sp / 256))).set 11 (IntKind.u8.wrap (h.dp / 256)) = h.part 4 1 true := by
              rw [show IntKind.u8.wrap (h.sp / 256) = h.sp / 256 by simp only [u8_wrap] <;> omega, show IntKind.u8.wrap (h.dp / 256) = h.dp / 256 by simp only [u8_wrap] <;> omega]
              rfl
            rw [hL] at hN
            have hN2 := Lib.hid hN
            rw [show IntKind.u8.wrap (h.sp / 256) = h.sp / 256 by simp only [u8_wrap] <;> omega, show IntKind.u8.wrap (h.dp / 256) = h.dp / 256 by simp only [u8_wrap] <;> omega] at hN
            have hN3 := Lib.hid hN
            clear hN hL q0 q4 z0 z4 c3 c4 hSr
            go_wp2
            go_roundw
            case rel => first | exact ⟨1, rfl, by omega, hN3⟩ | exact ⟨1, rfl, by omega, hN2⟩ | ((repeat apply Exists.intro); first | exact ⟨⟨1, rfl, by omega, hN3⟩, rfl⟩ | exact ⟨⟨1, rfl, by omega, hN2⟩, rfl⟩)
            case measure =>
              change 2 - (intOf (Value.int .i64 1)).toNat < 2 - (intOf (Value.int .i64 ((0 : Nat) : Int))).toNat
              simp only [intOf]
              omega
          · go_upto_region 11 with fail
            have q0 := arr_cell hSr.out.b (k := 10) (x := 0) rfl
            have q4 := arr_cell hSr.out.b (k := 12) (x := 0) rfl
            have z0 := frozen_row hSr.out.b 10
            have z4 := frozen_row hSr.out.b 12
            have n1 : w.heap.size ≠ w.heap.size + 1 + 1 := by omega
            have n2 : w.heap.size + 1 + 1 ≠ w.heap.size := by omega
            have y0 : IntKind.i64.wrap 0 = 0 := by decide
            have y8 : IntKind.i64.wrap 8 = 8 := by decide
            have y10 : IntKind.i64.wrap 10 = 10 := by decide
            have y12 : IntKind.i64.wrap 12 = 12 := by decide
            go_region_held3 (fun w' => w'.cell? ⟨w.heap.size, 3, none⟩ = some (.int .u16 h.sp) ∧ w'.cell? ⟨w.heap.size, 4, none⟩ = some (.int .u16 h.dp)) (go_keep) (fail)
            have hN := byst_next hSr.out (Nat.le_refl _) 10 12 (IntKind.u8.wrap (h.sp)) (IntKind.u8.wrap (h.dp))
            have hL : ((h.part 4 1 true).set 10 (IntKind.u8.wrap (h.sp))).set 12 (IntKind.u8.wrap (h.dp)) = h.part 4 2 true := by
              rw [show IntKind.u8.wrap (h.sp) = h.sp % 256 by simp only [u8_wrap] <;> omega, show IntKind.u8.wrap (h.dp) = h.dp % 256 by simp only [u8_wrap] <;> omega]
              rfl
            rw [hL] at hN
            have hN2 := Lib.hid hN
            rw [show IntKind.u8.wrap (h.sp) = h.sp % 256 by simp only [u8_wrap] <;> omega, show IntKind.u8.wrap (h.dp) = h.dp % 256 by simp only [u8_wrap] <;> omega] at hN
            have hN3 := Lib.hid hN
            clear hN hL q0 q4 z0 z4 c3 c4 hSr
            go_wp2
            go_roundw
            case rel => first | exact ⟨2, rfl, by omega, hN3⟩ | exact ⟨2, rfl, by omega, hN2⟩ | ((repeat apply Exists.intro); first | exact ⟨⟨2, rfl, by omega, hN3⟩, rfl⟩ | exact ⟨⟨2, rfl, by omega, hN2⟩, rfl⟩)
            case measure =>
              change 2 - (intOf (Value.int .i64 2)).toNat < 2 - (intOf (Value.int .i64 ((1 : Nat) : Int))).toNat
              simp only [intOf]
              omega
        · obtain rfl : k = 2 := by omega
          have hb : wr.heap[w.heap.size + 1 + 1]? = some (arr h.bytes) := hSr.out.b
          have hr := hSr.out.r
          have hn := hSr.out.n
          have q0 := arr_cell hb (k := 0) (x := h.src / 16777216) rfl
          have r0 := arr_cell hr (k := 0) (x := 0) rfl
          have z0 := frozen_row hr 0
          have q1 := arr_cell hb (k := 1) (x := h.src / 65536 % 256) rfl
          have r1 := arr_cell hr (k := 1) (x := 0) rfl
          have z1 := frozen_row hr 1
          have q2 := arr_cell hb (k := 2) (x := h.src / 256 % 256) rfl
          have r2 := arr_cell hr (k := 2) (x := 0) rfl
          have z2 := frozen_row hr 2
          have q3 := arr_cell hb (k := 3) (x := h.src % 256) rfl
          have r3 := arr_cell hr (k := 3) (x := 0) rfl
          have z3 := frozen_row hr 3
          have q4 := arr_cell hb (k := 4) (x := h.dst / 16777216) rfl
          have r4 := arr_cell hr (k := 4) (x := 0) rfl
          have z4 := frozen_row hr 4
          have q5 := arr_cell hb (k := 5) (x := h.dst / 65536 % 256) rfl
          have r5 := arr_cell hr (k := 5) (x := 0) rfl
          have z5 := frozen_row hr 5
          have q6 := arr_cell hb (k := 6) (x := h.dst / 256 % 256) rfl
          have r6 := arr_cell hr (k := 6) (x := 0) rfl
          have z6 := frozen_row hr 6
          have q7 := arr_cell hb (k := 7) (x := h.dst % 256) rfl
          have r7 := arr_cell hr (k := 7) (x := 0) rfl
          have z7 := frozen_row hr 7
          have q8 := arr_cell hb (k := 8) (x := h.proto) rfl
          have r8 := arr_cell hr (k := 8) (x := 0) rfl
          have z8 := frozen_row hr 8
          have q9 := arr_cell hb (k := 9) (x := h.sp / 256) rfl
          have r9 := arr_cell hr (k := 9) (x := 0) rfl
          have z9 := frozen_row hr 9
          have q10 := arr_cell hb (k := 10) (x := h.sp % 256) rfl
          have r10 := arr_cell hr (k := 10) (x := 0) rfl
          have z10 := frozen_row hr 10
          have q11 := arr_cell hb (k := 11) (x := h.dp / 256) rfl
          have r11 := arr_cell hr (k := 11) (x := 0) rfl
          have z11 := frozen_row hr 11
          have q12 := arr_cell hb (k := 12) (x := h.dp % 256) rfl
          have r12 := arr_cell hr (k := 12) (x := 0) rfl
          have z12 := frozen_row hr 12
          have HR := Lib.hid hr
          have HN := Lib.hid hn
          clear hb hr hn hSr
          go_wp2
          have hr := HR.out
          have hn := HN.out
          exact bodyPost_ret (results_arr (t1 := 2) (g := w.heap.size + 1) Tryz.results96 rfl (arr_set (arr_set (arr_set (arr_set (arr_set (arr_set (arr_set (arr_set (arr_set (arr_set (arr_set (arr_set (arr_set hr 0 (h.src / 16777216)) 1 (h.src / 65536 % 256)) 2 (h.src / 256 % 256)) 3 (h.src % 256)) 4 (h.dst / 16777216)) 5 (h.dst / 65536 % 256)) 6 (h.dst / 256 % 256)) 7 (h.dst % 256)) 8 (h.proto)) 9 (h.sp / 256)) 10 (h.sp % 256)) 11 (h.dp / 256)) 12 (h.dp % 256))) rfl ⟨rfl, (((((((((((((hn.setCell (p := ⟨w.heap.size + 1, 0, none⟩) (Nat.le_succ _) _).setCell (p := ⟨w.heap.size + 1, 1, none⟩) (Nat.le_succ _) _).setCell (p := ⟨w.heap.size + 1, 2, none⟩) (Nat.le_succ _) _).setCell (p := ⟨w.heap.size + 1, 3, none⟩) (Nat.le_succ _) _).setCell (p := ⟨w.heap.size + 1, 4, none⟩) (Nat.le_succ _) _).setCell (p := ⟨w.heap.size + 1, 5, none⟩) (Nat.le_succ _) _).setCell (p := ⟨w.heap.size + 1, 6, none⟩) (Nat.le_succ _) _).setCell (p := ⟨w.heap.size + 1, 7, none⟩) (Nat.le_succ _) _).setCell (p := ⟨w.heap.size + 1, 8, none⟩) (Nat.le_succ _) _).setCell (p := ⟨w.heap.size + 1, 9, none⟩) (Nat.le_succ _) _).setCell (p := ⟨w.heap.size + 1, 10, none⟩) (Nat.le_succ _) _).setCell (p := ⟨w.heap.size + 1, 11, none⟩) (Nat.le_succ _) _).setCell (p := ⟨w.heap.size + 1, 12, none⟩) (Nat.le_succ _) _)⟩
end Go.Proofs.YtdjikiakcfbklaaGreat

/-
  Walks over headers: Bit.
-/
namespace Go.Proofs.YtdjikiakcfbklaaGreat
open Go Go.RowKit Go.Sort

/-- Is a bit set? -/
def Hd.bit (h : Hd) (i : Nat) : Bool := h.bytes.getD (i / 8) 0 / 2 ^ (7 - i % 8) % 2 == 1
theorem bytes_range (h : Hd) (ho : h.ok) : ∀ x ∈ h.bytes, 0 ≤ x ∧ x < 256 := by
  obtain ⟨s0, s1, d0, d1, p0, p1, a0, a1, b0, b1⟩ := ho
  intro x hx
  simp only [Hd.bytes, List.mem_cons, List.mem_nil_iff, or_false] at hx
  rcases hx with rfl | rfl | rfl | rfl | rfl | rfl | rfl | rfl | rfl | rfl | rfl | rfl | rfl <;> omega
theorem and_1 (x : Int) (h0 : 0 ≤ x) (h1 : x < 256) : bits .and .u8 x 1 = x % 2 := by
  obtain ⟨x, rfl⟩ := Int.eq_ofNat_of_zero_le h0
  rw [u8_and _ _ h0 h1 (by omega) (by omega), Int.toNat_natCast, show (1 : Int).toNat = 1 from rfl, Nat.and_one_is_mod]
  rfl
theorem div_pow (v : Int) (k : Nat) (h0 : 0 ≤ v) (h1 : v < 256) : 0 ≤ v / 2 ^ k ∧ v / 2 ^ k < 256 := by
  have hp : (1 : Int) ≤ 2 ^ k := p2_pos k
  exact ⟨Int.ediv_nonneg h0 (by omega), Int.lt_of_le_of_lt (Int.ediv_le_self _ h0) h1⟩
theorem bytes_len (h : Hd) : h.bytes.length = 13 := rfl
set_option maxRecDepth 100000 in
set_option maxHeartbeats 2000000 in
theorem bit_no (h : Hd) (i : Int) (w : World) (hi : i < 0 ∨ 104 ≤ i) :
    Calls Tryz.prog 88 #[.agg #[.int .u32 h.src, .int .u32 h.dst, .int .u8 h.proto, .int .u16 h.sp, .int .u16 h.dp], .int .i64 i] w fun e w' => e = .returned (.tuple #[.bool false, .int .i64 1]) ∧ Below w.heap.size w w' := by
  rcases hi with hi | hi
  · go_enter Tryz.func88, Tryz.ntmps88
    go_wp2
    go_ret2
    exact ⟨rfl, (Below.refl _ _).alloc (Nat.le_refl _) _⟩
  · have h1 : ¬ i < 0 := by omega
    have h2 : i ≥ 104 := hi
    go_enter Tryz.func88, Tryz.ntmps88
    go_wp2
    go_ret2
    exact ⟨rfl, (Below.refl _ _).alloc (Nat.le_refl _) _⟩
set_option maxRecDepth 100000 in
set_option maxHeartbeats 2000000 in
theorem bit_yes (h : Hd) (ho : h.ok) (i : Nat) (w : World) (hi : i < 104) :
    Calls Tryz.prog 88 #[.agg #[.int .u32 h.src, .int .u32 h.dst, .int .u8 h.proto, .int .u16 h.sp, .int .u16 h.dp], .int .i64 i] w fun e w' => e = .returned (.tuple #[.bool (h.bit i), .int .i64 0]) ∧ Below w.heap.size w w' := by
  have h1 : ¬ (i : Int) < 0 := by omega
  have h2 : ¬ (i : Int) ≥ 104 := by omega
  have hB : Hid (∀ v : World, Calls Tryz.prog 96 #[.agg #[.int .u32 h.src, .int .u32 h.dst, .int .u8 h.proto, .int .u16 h.sp, .int .u16 h.dp]] v fun e w' => e = .returned (.agg #[.int .u8 (h.src / 16777216), .int .u8 (h.src / 65536 % 256), .int .u8 (h.src / 256 % 256), .int .u8 (h.src % 256), .int .u8 (h.dst / 16777216), .int .u8 (h.dst / 65536 % 256), .int .u8 (h.dst / 256 % 256), .int .u8 (h.dst % 256), .int .u8 (h.proto), .int .u8 (h.sp / 256), .int .u8 (h.sp % 256), .int .u8 (h.dp / 256), .int .u8 (h.dp % 256)]) ∧ Below v.heap.size v w') := Lib.hid (fun v => bytes_any h ho v)
  go_enter Tryz.func88, Tryz.ntmps88
  go_wp2_with fail
  refine (hB.out _).mono ?_
  rintro e w1 ⟨rfl, hb1⟩
  have hbw := below_call ((Below.refl w.heap.size w).alloc (Nat.le_refl _) _) hb1
  go_upto_region 4 with fail
  obtain ⟨v, hv⟩ : ∃ v, h.bytes[i / 8]? = some v := ⟨_, List.getElem?_eq_getElem (by rw [bytes_len]; omega)⟩
  have hc : (w1.alloc (.cells #[.int .u8 (h.src / 16777216), .int .u8 (h.src / 65536 % 256), .int .u8 (h.src / 256 % 256), .int .u8 (h.src % 256), .int .u8 (h.dst / 16777216), .int .u8 (h.dst / 65536 % 256), .int .u8 (h.dst / 256 % 256), .int .u8 (h.dst % 256), .int .u8 (h.proto), .int .u8 (h.sp / 256), .int .u8 (h.sp % 256), .int .u8 (h.dp / 256), .int .u8 (h.dp % 256)] 149)).cell? ⟨w1.heap.size, i / 8, none⟩ = some (.int .u8 v) := arr_cell (heap_alloc_new w1 (arr h.bytes)) hv
  have hr := bytes_range h ho v (List.mem_of_getElem? hv)
  have hbit := Lib.hid (show h.bit i = (v / 2 ^ (7 - i % 8) % 2 == 1) by unfold Hd.bit; rw [List.getD, hv]; rfl)
  have hb2 := hbw.alloc hbw.size (.cells #[.int .u8 (h.src / 16777216), .int .u8 (h.src / 65536 % 256), .int .u8 (h.src / 256 % 256), .int .u8 (h.src % 256), .int .u8 (h.dst / 16777216), .int .u8 (h.dst / 65536 % 256), .int .u8 (h.dst / 256 % 256), .int .u8 (h.dst % 256), .int .u8 (h.proto), .int .u8 (h.sp / 256), .int .u8 (h.sp % 256), .int .u8 (h.dp / 256), .int .u8 (h.dp % 256)] 149)
  generalize w1.alloc (.cells #[.int .u8 (h.src / 16777216), .int .u8 (h.src / 65536 % 256), .int .u8 (h.src / 256 % 256), .int .u8 (h.src % 256), .int .u8 (h.dst / 16777216), .int .u8 (h.dst / 65536 % 256), .int .u8 (h.dst / 256 % 256), .int .u8 (h.dst % 256), .int .u8 (h.proto), .int .u8 (h.sp / 256), .int .u8 (h.sp % 256), .int .u8 (h.dp / 256), .int .u8 (h.dp % 256)] 149) = W2 at *
  clear hv hB hb1 hbw
  obtain ⟨q, hq⟩ : ∃ q, q = i / 8 := ⟨_, rfl⟩
  obtain ⟨r, hr8⟩ : ∃ r, r = i % 8 := ⟨_, rfl⟩
  have e1 : (i : Int).tdiv 8 = (q : Int) := by rw [Int.tdiv_eq_ediv_of_nonneg (by omega)]; omega
  have e2 : (i : Int).tmod 8 = (r : Int) := by rw [Int.tmod_eq_emod_of_nonneg (by omega)]; omega
  have e3 : (i : Int) / 8 = (q : Int) := by omega
  have e4 : (i : Int) % 8 = (r : Int) := by omega
  have e5 : wrap64 (7 - (r : Int)) = 7 - (r : Int) := by unfold wrap64; omega
  have e6 : (7 - (r : Int) < 0) = False := by simp; omega
  have e7 : (q : Int) < 13 := by omega
  have e8 : (0 : Int) ≤ (q : Int) := by omega
  rw [← hq] at hc
  rw [← hr8] at hbit
  clear hq hr8 h1 h2
  have hd := Lib.hid (div_pow v (7 - r) hr.1 hr.2)
  go_wp2
  go_ret2
  exact ⟨by rw [hbit.out, ← and_1 _ hd.out.1 hd.out.2]; rfl, hb2⟩
end Go.Proofs.YtdjikiakcfbklaaGreat

/-
  A header's bits laid among values.
-/
namespace Go.Proofs.YtdjikiakcfbklaaGreat
open Go Go.RowKit Go.ChangeMaps Go.MapKept Go.Maps Go.Lib Go.Sort

def bcells (f : Nat → Bool) : Array Value := ((List.range 208).map fun k => Value.bool (f k)).toArray
theorem bcells_size (f : Nat → Bool) : (bcells f).size = 208 := by simp [bcells]
theorem bcells_get (f : Nat → Bool) {k : Nat} (h : k < 208) : (bcells f)[k]? = some (.bool (f k)) := by simp [bcells, h]
theorem bcells_set (f : Nat → Bool) (k : Nat) (b : Bool) : (bcells f).setIfInBounds k (.bool b) = bcells (put f k b) := by
  apply Array.ext
  · simp [bcells_size]
  · intro i h1 h2
    have hi : i < 208 := by rw [bcells_size] at h2; exact h2
    have hi' : i < (bcells f).size := by rw [bcells_size]; exact hi
    have e1 : (bcells (put f k b))[i]'h2 = .bool (put f k b i) := by
      have := bcells_get (put f k b) hi
      rw [Array.getElem?_eq_getElem h2] at this
      exact Option.some.inj this
    have e2 : (bcells f)[i]'hi' = .bool (f i) := by
      have := bcells_get f hi
      rw [Array.getElem?_eq_getElem hi'] at this
      exact Option.some.inj this
    rw [e1, Array.getElem_setIfInBounds]
    by_cases hik : k = i
    · subst hik; rw [if_pos rfl, put_same]
    · rw [if_neg hik, e2, put_other (fun e => hik e.symm)]
    · exact hi'
/-- The values with the first m bits laid. -/
def layF (h : Hd) (o : Nat) (f : Nat → Bool) (m : Nat) : Nat → Bool := fun k => if k % 2 = o ∧ k / 2 < m then h.bit (k / 2) else f k
theorem layF_zero (h : Hd) (o : Nat) (f : Nat → Bool) : layF h o f 0 = f := funext fun k => by simp [layF]
theorem layF_succ (h : Hd) (o : Nat) (ho : o < 2) (f : Nat → Bool) (m : Nat) : put (layF h o f m) (2 * m + o) (h.bit m) = layF h o f (m + 1) := funext fun k => by
  unfold put layF
  by_cases hk : k = 2 * m + o
  · subst hk
    rw [if_pos rfl, if_pos ⟨by omega, by omega⟩, show (2 * m + o) / 2 = m by omega]
  · rw [if_neg hk]
    by_cases h1 : k % 2 = o ∧ k / 2 < m
    · rw [if_pos h1, if_pos ⟨h1.1, by omega⟩]
    · rw [if_neg h1, if_neg (fun h2 => by
        have : k / 2 < m ∨ k / 2 = m := by omega
        rcases this with h3 | h3
        · exact h1 ⟨h2.1, h3⟩
        · omega)]
def BRow (w : World) (g : Nat) (f : Nat → Bool) : Prop := w.heap[g]? = some (.cells (bcells f) 4 (0, 0))
theorem BRow.cell {w : World} {g : Nat} {f : Nat → Bool} (h : BRow w g f) {k : Nat} (hk : k < 208) : w.cell? ⟨g, k, none⟩ = some (.bool (f k)) := by
  rw [cell_of_row w _ k _ _ (0, 0) h]
  exact bcells_get f hk
theorem BRow.set {w : World} {g : Nat} {f : Nat → Bool} (h : BRow w g f) (k : Nat) (b : Bool) : BRow (w.setCell ⟨g, k, none⟩ (.bool b)) g (put f k b) := by
  unfold BRow
  rw [heap_setCell_same _ _ _ _ _ _ h, bcells_set]
theorem BRow.below {w w' : World} {g : Nat} {f : Nat → Bool} (h : BRow w g f) (hb : Below w.heap.size w w') : BRow w' g f := blk_below hb h
set_option maxRecDepth 100000 in
set_option maxHeartbeats 4000000 in
theorem lay_any {w : World} {vf : FuncId} {o : Nat} (V : VarF vf o) (h : Hd) (ho : h.ok) (f : Nat → Bool) (g : Nat) (hg : BRow w g f) :
    Calls Tryz.prog 49 #[.slice (some ⟨g, 0, none⟩) 208 208, .agg #[.int .u32 h.src, .int .u32 h.dst, .int .u8 h.proto, .int .u16 h.sp, .int .u16 h.dp], .func (.func vf) #[] #[]] w fun e w' => e = .returned (.tuple #[]) ∧ BRow w' g (layF h o f 104) ∧ w.grownBy w' (some g) := by
  have hen := V.en
  have HV := Lib.hid V
  have HO := Lib.hid ho
  have hlg := lt_of_block hg
  have hbw := below1 w h.cells
  have hbk := blk1 w h.cells
  have HG := Lib.hid (hg.below hbw)
  have HGR := Lib.hid (show w.grownBy (w.alloc h.cells) (some g) from World.grownBy_alloc w _ _)
  have HNE : Hid (w.heap.size ≠ g) := Lib.hid (by omega)
  have HBK := Lib.hid hbk
  clear V ho hg hbw hbk
  have hW : w.alloc (.cells #[.int .u32 h.src, .int .u32 h.dst, .int .u8 h.proto, .int .u16 h.sp, .int .u16 h.dp] 28) = w.alloc h.cells := rfl
  go_enter Tryz.func49, Tryz.ntmps49
  go_upto_region 1 with fail
  clear hW
  generalize hw0 : w.alloc h.cells = w0 at *
  clear hw0
  go_wp2
  go_loopw [7] (fun i wr => ∃ m : Nat, m ≤ 104 ∧ i = .int .i64 m ∧ Hid (BRow wr g (layF h o f m)) ∧ Hid (w0.grownBy wr (some g))) (fun i _ => 104 - (intOf i).toNat)
  case atStart => exact ⟨0, by omega, rfl, Lib.hid (by rw [layF_zero]; exact HG.out), Lib.hid (World.grownBy.refl _ _)⟩
  case round =>
    obtain ⟨m, hm, rfl, HR, HW⟩ := hrel
    by_cases hlt : m < 104
    · have hI : (m : Int) < 104 := by omega
      obtain ⟨x, hx⟩ : ∃ x, x = 2 * m + o := ⟨_, rfl⟩
      have ho2 := HV.out.o2
      have hxl : (x : Int) < 208 := by omega
      have hxn : x < 208 := by omega
      have HN := Lib.hid (show ∀ W, Calls Tryz.prog vf #[.int .i64 m] W (fun e w' => e = .returned (.int .i64 (x : Int)) ∧ Below W.heap.size W w') from fun W => by
        have := HV.out.calls m W (by omega)
        rw [← hx] at this
        refine this.mono ?_
        rintro e w' ⟨rfl, rfl⟩
        exact ⟨rfl, Below.refl _ _⟩)
      have HBIT := Lib.hid (fun W => bit_yes h HO.out m W hlt)
      have HX := Lib.hid hx
      have hk := (HW.out.block _ (lt_of_block HBK.out) (fun e => HNE.out (by injection e))).trans HBK.out
      have hne : Nonempty (InW (fun x => wr.grownBy x (some g))) := ⟨⟨wr, World.grownBy.refl _ _⟩⟩
      have hlw := lt_of_block hk
      have kk : ∀ p : InW (fun x => wr.grownBy x (some g)), p.w.heap[w.heap.size]? = some h.cells := fun p => (p.h.block _ hlw (fun e => HNE.out (by injection e))).trans hk
      have c0 : ∀ p : InW (fun x => wr.grownBy x (some g)), p.w.cell? ⟨w.heap.size, 0, none⟩ = some (.int .u32 h.src) := fun p => by rw [cell_of_row _ _ 0 _ _ (0, 0) (kk p)]; rfl
      have c1 : ∀ p : InW (fun x => wr.grownBy x (some g)), p.w.cell? ⟨w.heap.size, 1, none⟩ = some (.int .u32 h.dst) := fun p => by rw [cell_of_row _ _ 1 _ _ (0, 0) (kk p)]; rfl
      have c2 : ∀ p : InW (fun x => wr.grownBy x (some g)), p.w.cell? ⟨w.heap.size, 2, none⟩ = some (.int .u8 h.proto) := fun p => by rw [cell_of_row _ _ 2 _ _ (0, 0) (kk p)]; rfl
      have c3 : ∀ p : InW (fun x => wr.grownBy x (some g)), p.w.cell? ⟨w.heap.size, 3, none⟩ = some (.int .u16 h.sp) := fun p => by rw [cell_of_row _ _ 3 _ _ (0, 0) (kk p)]; rfl
      have c4 : ∀ p : InW (fun x => wr.grownBy x (some g)), p.w.cell? ⟨w.heap.size, 4, none⟩ = some (.int .u16 h.dp) := fun p => by rw [cell_of_row _ _ 4 _ _ (0, 0) (kk p)]; rfl
      clear hx hk ho2 kk hlw
      go_upto_region 4 with fail
      refine wp_region_mixS (fun x => wr.grownBy x (some g)) [(0, false), (1, false), (2, false), (4, false), (5, false), (3, true), (6, true), (7, false), (8, false), (9, false), (10, false), (11, true)] (by kernel_rfl) (by kernel_rfl) ⟨rfl, rfl, rfl, Nat.le_refl _, fun _ _ _ => rfl⟩ ?_
      have hdr : wr.grownBy { wr with drawn := wr.drawn + 1 } (some g) := ⟨rfl, rfl, rfl, Nat.le_refl _, fun _ _ _ => rfl⟩
      have hdb : Below wr.heap.size wr { wr with drawn := wr.drawn + 1 } := ⟨rfl, rfl, rfl, Nat.le_refl _, fun _ _ => rfl⟩
      have HR1 := Lib.hid (HR.out.below hdb)
      generalize { wr with drawn := wr.drawn + 1 } = V0 at *
      refine mix_take [0, 1, 2, 4, 5] [_, _, _, _, _] rfl rfl ?_
      simp only [List.getElem_toArray, List.getElem_cons_zero, List.getElem_cons_succ]
      repeat (go_big_quiet_step (fail))
      refine wpQuiet_nil ?_
      refine mix_barS rfl (by rfl) ?_
      simp only [List.getElem_toArray, List.getElem_cons_zero, List.getElem_cons_succ]
      go_simp
      refine (HN.out _).mono ?_
      rintro e V1 ⟨rfl, hb1⟩
      have hg1 : wr.grownBy V1 (some g) := hdr.trans ⟨hb1.os, hb1.tape, hb1.output, hb1.size, fun i hi _ => hb1.block i hi⟩
      refine ⟨fun x => wr.grownBy x (some g), hg1, fun _ h => h, ?_⟩
      refine mix_barS rfl (by rfl) ?_
      simp only [List.getElem_toArray, List.getElem_cons_zero, List.getElem_cons_succ]
      go_simp
      refine (HBIT.out _).mono ?_
      rintro e V2 ⟨rfl, hb2⟩
      have hg2 : wr.grownBy V2 (some g) := hg1.trans ⟨hb2.os, hb2.tape, hb2.output, hb2.size, fun i hi _ => hb2.block i hi⟩
      refine ⟨fun x => wr.grownBy x (some g), hg2, fun _ h => h, ?_⟩
      refine mix_take [7, 8, 9, 10] [_, _, _, _] rfl rfl ?_
      simp only [List.getElem_toArray, List.getElem_cons_zero, List.getElem_cons_succ]
      repeat (go_big_quiet_step (fail))
      refine wpQuiet_nil ?_
      have HR3 := Lib.hid ((HR1.out.below hb1).below hb2)
      have cx := HR3.out.cell hxn
      have fx := frozen_of_row V2 _ x _ _ HR3.out
      have HRF := HR3.out.set x (h.bit m)
      have hg3 : wr.grownBy (V2.setCell ⟨g, x, none⟩ (.bool (h.bit m))) (some g) := ⟨hg2.os, hg2.tape, hg2.output, by have := hg2.size; simpa [World.setCell] using this, fun i hi hne => (Below.heap_setCell V2 ⟨g, x, none⟩ _ i (fun e => hne (by rw [e]))).trans (hg2.block i hi hne)⟩
      rw [HX.out, layF_succ h o HV.out.o2] at HRF
      rw [← HX.out] at HRF
      have HS := Lib.hid HRF
      have HG3 := Lib.hid hg3
      have HWF := Lib.hid (HW.out.trans hg3)
      clear HRF hg3
      refine mix_barS rfl (by rfl) ?_
      simp only [List.getElem_toArray, List.getElem_cons_zero, List.getElem_cons_succ]
      go_simp
      refine ⟨fun x => wr.grownBy x (some g), HG3.out, fun _ h => h, ?_⟩
      refine mix_end ?_
      go_wp2
      exact ⟨⟨m + 1, by omega, by go_num, HS, HWF⟩, by simp only [intOf]; omega⟩
    · obtain rfl : m = 104 := by omega
      have hI : ¬ ((104 : Nat) : Int) < 104 := by omega
      go_wp2
      go_end0
      exact ⟨rfl, HR.out, HGR.out.trans HW.out⟩
end Go.Proofs.YtdjikiakcfbklaaGreat

/-
  What a diagram says of values; whether a header is in a set; whether a relation leads from one to another.
-/
namespace Go.Proofs.YtdjikiakcfbklaaGreat
open Go Go.RowKit Go.ChangeMaps Go.MapKept Go.Maps Go.Lib Go.Sort

theorem cutN_at (N : List Nd) (i : Nat) (b : Bool) : cutN N i (nd N i).v b = if b then (nd N i).hi else (nd N i).lo := by
  unfold cutN
  rw [if_neg (fun h => h rfl)]
set_option maxRecDepth 100000 in
set_option maxHeartbeats 4000000 in
theorem At_any {w : World} {B : Nat} {A : Blks} {Mo : Nat} {N : List Nd} {H G : List Nat} (f g : Nat) (s : Nat → Bool) (hA : ArAt w B A 208 Mo N H G) (hf : f ∈ G ∧ f < N.length) (hh : Hangs (fun s => ev N s f) 0 208) (hg : BRow w g s) :
    Calls Tryz.prog 51 #[A.val, .int .i64 f, .slice (some ⟨g, 0, none⟩) 208 208] w fun e w' => e = .returned (.tuple #[.bool (ev N s f), .int .i64 0]) ∧ Below w.heap.size w w' := by
  have hwf : WF N := by obtain ⟨_, h⟩ := hA; exact h.wf
  have hle : N.length ≤ 2147483647 := by obtain ⟨_, h⟩ := hA; exact h.le
  have HL : Hid (∀ i, 2 ≤ i → Rch N f i → (nd N i).v < 208) := Lib.hid fun i h2 hr => by
    rcases Nat.lt_or_ge (nd N i).v 208 with h | h
    · exact h
    · exact absurd (hh.free (.inr h)) (not_free hwf hf.2 hr h2)
  have hb1 := below1 w (.cells ([f].map fun (n : Nat) => Value.int .i64 (n : Int)).toArray 3)
  have hA1 := hA.below hb1
  have hck := check_any hA1 [f] w.heap.size 1 (new_cells w [f] 3) (by
    intro x hx
    simp at hx
    subst hx
    exact ⟨hf.1, by omega⟩) (by simp)
  have hck : Calls Tryz.prog 83 #[A.val, .slice (some ⟨w.heap.size, 0, none⟩) 1 1] (w.alloc (.cells #[.int .i64 f] 3)) fun e w' => e = .returned (.int .i64 0) ∧ Below (w.alloc (.cells #[.int .i64 f] 3)).heap.size (w.alloc (.cells #[.int .i64 f] 3)) w' := hck
  have HB1 := Lib.hid hb1
  have HCK := Lib.hid hck
  have HA := Lib.hid hA
  have HG := Lib.hid hg
  have f1 := hf.2
  have f2 : (f : Int) ≤ 2147483646 := by omega
  have HWF := Lib.hid hwf
  clear hA hA1 hb1 hck hf hh hg hwf
  unfold Blks.val at *
  go_enter Tryz.func51, Tryz.ntmps51
  go_upto_region 4 with ((with_reducible refine HCK.out.mono ?_); rintro e W2 ⟨rfl, hb2⟩; have HB2 := Lib.hid (HB1.out.trans (hb2.mono HB1.out.size)); clear hb2)
  have HA2 := Lib.hid (HA.out.below HB2.out)
  have a0 : W2.cell? ⟨A.a, 0, none⟩ = some (.int .i64 (208 : Nat)) := by obtain ⟨_, h⟩ := HA2.out; exact h.cellAt rfl
  have a0 : W2.cell? ⟨A.a, 0, none⟩ = some (.int .i64 208) := a0
  go_upto_region 6 with fail
  clear HCK HB1
  go_wp2
  go_loopw [9] (fun i wr => ∃ k : Nat, i = .int .i32 k ∧ k < N.length ∧ Hid (Rch N f k) ∧ Hid (ev N s k = ev N s f) ∧ Hid (Below w.heap.size w wr)) (fun i _ => (intOf i).toNat)
  case atStart => exact ⟨f, rfl, f1, Lib.hid (.refl f), Lib.hid rfl, HB2⟩
  case round =>
    obtain ⟨k, rfl, hk, HR, HE, HB⟩ := hrel
    by_cases hlt : 2 ≤ k
    · have hI : (k : Int) > 1 := by omega
      have HAR := Lib.hid (HA.out.below HB.out)
      obtain ⟨nv, hN⟩ := HAR.out
      obtain ⟨ng, cp, rfl, hat⟩ := hN.at_node
      obtain ⟨x0, x1, x2⟩ := hat k hk
      have c3 : wr.cell? ⟨A.a, 2, none⟩ = some (.slice (some ⟨ng, 0, none⟩) N.length cp) := hN.cellAt rfl
      have hI2 : (k : Int) < (N.length : Int) := by omega
      have hkb : (k : Int) ≤ 2147483646 := by omega
      clear hN hat
      go_upto_region 9 with fail
      have hbn := below1 wr (.cells #[.int .i32 (nd N k).v, .int .i32 (nd N k).lo, .int .i32 (nd N k).hi] 124)
      have hkn := blk1 wr (.cells #[.int .i32 (nd N k).v, .int .i32 (nd N k).lo, .int .i32 (nd N k).hi] 124)
      have n0 := cell_of_row _ _ 0 _ _ (0, 0) hkn
      have n0 : (wr.alloc (.cells #[.int .i32 (nd N k).v, .int .i32 (nd N k).lo, .int .i32 (nd N k).hi] 124)).cell? ⟨wr.heap.size, 0, none⟩ = some (.int .i32 (nd N k).v) := n0
      have hBW := HB.out.trans (hbn.mono HB.out.size)
      have HBW := Lib.hid hBW
      have HAW := Lib.hid (HA.out.below hBW)
      have hlb := HL.out k hlt HR.out
      have hv := (HG.out.below hBW).cell hlb
      have hI3 : ((nd N k).v : Int) < 208 := by omega
      clear x0 x1 x2 c3 hbn hkn hBW
      generalize wr.alloc (.cells #[.int .i32 (nd N k).v, .int .i32 (nd N k).lo, .int .i32 (nd N k).hi] 124) = W4 at *
      have N0 := cell_regrown n0
      have HV := cell_regrown hv
      have HCUT := Lib.hid (fun (W : World) (hb : Below W4.heap.size W4 W) => (show Calls Tryz.prog 89 #[.pointer (some ⟨A.a, 0, none⟩), .int .i32 k, .int .i32 (nd N k).v, .bool (s (nd N k).v)] W (fun e w' => e = .returned (.int .i32 (cutN N k (nd N k).v (s (nd N k).v))) ∧ Below W.heap.size W w') from ncut_any k (nd N k).v (s (nd N k).v) (HAW.out.below hb) hk))
      generalize hvv : (nd N k).v = v at *
      have HVV := Lib.hid hvv
      clear hvv
      refine wp_region_quiet_below (by kernel_rfl) (by kernel_rfl) ?_
      repeat (first
        | go_big_quiet_step ((with_reducible exact Calls.regrown_of (HCUT.out _ (below_regrown W4 _ _))))
        | quiet_step ((with_reducible exact Calls.regrown_of (HCUT.out _ (below_regrown W4 _ _)))))
      refine wpQuiet_nil ?_
      intro W5 hw'
      obtain ⟨⟨nq, osq⟩, hw''⟩ := hw'
      subst hw''
      have HB5 := Lib.hid (HBW.out.trans ((below_regrown W4 nq osq).mono HBW.out.size))
      have HCN := Lib.hid (cutN_at N k (s (nd N k).v))
      rw [HVV.out] at HCN
      have hlo := HWF.out.lo k hlt hk
      have hhi := HWF.out.hi k hlt hk
      have HEV := Lib.hid (ev_node HWF.out s hlt hk)
      rw [HVV.out] at HEV
      clear N0 HV n0 hv
      generalize grow (redrawn W4 nq) osq = W5 at *
      go_wp2
      refine ⟨⟨cutN N k v (s v), rfl, ?_, Lib.hid ?_, Lib.hid ?_, HB5⟩, ?_⟩
      · rw [HCN.out]; split <;> omega
      · refine HR.out.trans ?_
        rw [HCN.out]
        split
        · exact .hi hlt hk (.refl _)
        · exact .lo hlt hk (.refl _)
      · rw [← HE.out, HEV.out, HCN.out]
        split <;> rfl
      · simp only [intOf]
        rw [HCN.out]
        split <;> omega
    · have hI : ¬ (k : Int) > 1 := by omega
      have HB9 := Lib.hid HB.out
      obtain rfl | rfl : k = 0 ∨ k = 1 := by omega
      · have HF : Hid (ev N s f = false) := Lib.hid (by rw [← HE.out]; rfl)
        go_wp2
        go_ret2
        exact ⟨by rw [HF.out]; rfl, HB9.out⟩
      · have HF : Hid (ev N s f = true) := Lib.hid (by rw [← HE.out]; rfl)
        go_wp2
        go_ret2
        exact ⟨by rw [HF.out]; rfl, HB9.out⟩
theorem Tryz.infoBool : (Tryz.prog.info? 4).map (fun i => (i.zero, i.size, i.bytes)) = some (some (.bool false), 1, 1) := by kernel_rfl
def boolsW (w : World) : World := w.alloc (.cells (bcells fun _ => false) 4)
theorem boolsW_row (w : World) : BRow (boolsW w) w.heap.size fun _ => false := blk1 w _
theorem boolsW_below (w : World) : Below w.heap.size w (boolsW w) := below1 w _
theorem mkBools (w : World) : (Instr.makeSlice 34 (.int .i64 208) (.int .i64 208)).run Tryz.prog w = .ok (.slice (some ⟨w.heap.size, 0, none⟩) 208 208) (boolsW w) := by
  obtain ⟨i0, hi, hz0, hz1, hz2⟩ := info_parts Tryz.infoBool
  have hb : (i0.bytes : Int) * (208 : Int) ≤ 281474976710656 := by rw [hz2]; omega
  have h := run_make (P := Tryz.prog) w 34 4 i0 _ Tryz.underlying34 hi hz0 .i64 .i64 (208 : Int) (208 : Int) (by omega) (Int.le_refl _) hb (by omega)
  have e : madeCells (Value.bool false).cells ((208 : Int).toNat * i0.size) = bcells fun _ => false := by
    rw [hz1]
    apply Array.ext'
    rw [show ((208 : Int).toNat * 1) = 208 from rfl]
    refine (toList_madeCells_one _ _).trans ?_
    apply List.ext_getElem?
    intro i
    simp only [bcells, List.getElem?_replicate, List.getElem?_map]
    by_cases hi : i < 208
    · simp [hi]
    · simp [hi]
  rw [e] at h
  exact h
/-- A header's values, and those of the one behind. -/
def nowS (h : Hd) : Nat → Bool := layF h 0 (fun _ => false) 104
def bothS (h g : Hd) : Nat → Bool := layF g 1 (nowS h) 104
section
variable {w : World} {B S km : Nat} {A : Blks} {Mo : Nat} {σ : Sg}
set_option maxRecDepth 100000
set_option maxHeartbeats 2000000
/-- What a question comes to: the space knows more, and nothing else. -/
def AskRes (w : World) (B S km : Nat) (A : Blks) (Mo : Nat) (σ : Sg) (v : Value) (e : Ending) (w' : World) : Prop := e = .returned v ∧ ∃ K, SpOk w' B S km A Mo (σ.know K) ∧ KeptS A km w w'
theorem SpOk.at {w : World} (h : SpOk w B S km A Mo σ) {f : Nat} {F : Fun} (hf : Den σ f F) (g : Nat) (s : Nat → Bool) (hg : BRow w g s) :
    Calls Tryz.prog 51 #[.pointer (some ⟨A.a, 0, none⟩), .int .i64 f, .slice (some ⟨g, 0, none⟩) 208 208] w fun e w' => e = .returned (.tuple #[.bool (F s), .int .i64 0]) ∧ Below w.heap.size w w' := by
  have := At_any f g s h.sp.ar ⟨hf.1, (h.ok.g f hf.1).1⟩ (h.ok.g f hf.1).2.2 hg
  rw [hf.2] at this
  exact this
theorem grown_space {g : Nat} {w' : World} (h : SpOk w B S km A Mo σ) (hgr : w.grownBy w' (some g)) (hf : Foreign A w g) (hne : g ≠ km) (hS : g ≠ S) : SpOk w' B S km A Mo σ ∧ (∀ k, Foreign A w k → Foreign A w' k) := by
  obtain ⟨nv, hA⟩ := h.sp.ar
  obtain ⟨a1, a2, a3⟩ := hA.calm hgr.size fun k hk hn => hgr.block k hk (fun e => hn (by injection e with e; rw [e]; exact hf))
  exact ⟨⟨⟨⟨nv, a1⟩, (hgr.block S (lt_of_block h.sp.cells) (fun e => hS (by injection e with e; exact e.symm))).trans h.sp.cells, a2 _ h.sp.fs, h.sp.known.same (hgr.block km h.sp.fk.1 (fun e => hne (by injection e with e; exact e.symm))), a2 _ h.sp.fk, h.sp.ne⟩, h.ok⟩, a2⟩
theorem keptG {W3 W4 : World} {g : Nat} (h : KeptS A km w W3) (hg : W3.grownBy W4 (some g)) (hs : w.heap.size ≤ g) (hf : ∀ k, Foreign A W3 k → Foreign A W4 k) : KeptS A km w W4 :=
  ⟨hg.os.trans h.os, hg.tape.trans h.tape, hg.output.trans h.output, Nat.le_trans h.size hg.size, fun k hk hn => ⟨(hg.block k (Nat.lt_of_lt_of_le hk.1 h.size) (fun e => by injection e with e; have := hk.1; omega)).trans (h.same k hk hn).1, hf k (h.same k hk hn).2⟩⟩
theorem has_yes (h : SpOk w B S km A Mo σ) {f : Nat} {F : Fun} (hf : Den σ f F) (sf : SetF F) (hd : Hd) (ho : hd.ok) :
    Calls Tryz.prog 19 #[.pointer (some ⟨S, 0, none⟩), .int .i64 f, .agg #[.int .u32 hd.src, .int .u32 hd.dst, .int .u8 hd.proto, .int .u16 hd.sp, .int .u16 hd.dp]] w (AskRes w B S km A Mo σ (.tuple #[.bool (F (nowS hd)), .int .i64 0])) := by
  have hfl := hf.lt64 h.ok
  have hW : w.alloc (.cells #[.int .u32 hd.src, .int .u32 hd.dst, .int .u8 hd.proto, .int .u16 hd.sp, .int .u16 hd.dp] 28) = w.alloc hd.cells := rfl
  have hbw := below1 w hd.cells
  have hbk := blk1 w hd.cells
  have HFO := Lib.hid (h.sp.ar.foreign_new hbw (Nat.le_refl _) (lt_of_block hbk))
  have HNE : Hid (w.heap.size ≠ km) := Lib.hid (by have := h.sp.fk.1; omega)
  have HBK := Lib.hid hbk
  have HCK := Lib.hid ((h.below hbw).check1 f (by unfold I64; omega))
  have HK0 := Lib.hid (h.kept hbw)
  have HA := Lib.hid (And.intro hf sf)
  have HH := Lib.hid ho
  have hmk := mkBools
  clear h hbw hbk hf sf ho
  go_enter Tryz.func19, Tryz.ntmps19
  go_upto_region 1 with fail
  clear hW
  generalize w.alloc hd.cells = w0 at *
  go_upto_region 4 with ((with_reducible refine HCK.out.mono ?_); rintro e W2 hr; obtain ⟨he, K, hs2, hk2⟩ := hr.yes (allOk1 HA.out.1 HA.out.2); subst he; have HS2 := Lib.hid hs2; have HK2 := Lib.hid hk2; clear hr hs2 hk2)
  go_upto_region 5 with fail
  have HB3 := Lib.hid (boolsW_below W2)
  have HR3 := Lib.hid (boolsW_row W2)
  have hls := lt_of_block HS2.out.sp.cells
  have HF3 := Lib.hid (HS2.out.sp.ar.foreign_new HB3.out (Nat.le_refl _) (lt_of_block HR3.out))
  have HN3 : Hid (W2.heap.size ≠ km ∧ W2.heap.size ≠ S) := Lib.hid (by have := HS2.out.sp.fk.1; omega)
  have HS3 := Lib.hid (HS2.out.below HB3.out)
  have HK3 := Lib.hid (HK0.out.trans (HK2.out.trans (HS2.out.kept HB3.out)))
  have hk3 := blk_below HB3.out ((HK2.out.same _ HFO.out HNE.out).1.trans HBK.out)
  unfold Hd.cells at hk3
  clear hls hmk
  generalize boolsW W2 = W3 at *
  have e0 : W3.cell? ⟨w.heap.size, 0, none⟩ = some (.int .u32 hd.src) := cell_of_row _ _ 0 _ _ (0, 0) hk3
  have e1 : W3.cell? ⟨w.heap.size, 1, none⟩ = some (.int .u32 hd.dst) := cell_of_row _ _ 1 _ _ (0, 0) hk3
  have e2 : W3.cell? ⟨w.heap.size, 2, none⟩ = some (.int .u8 hd.proto) := cell_of_row _ _ 2 _ _ (0, 0) hk3
  have e3 : W3.cell? ⟨w.heap.size, 3, none⟩ = some (.int .u16 hd.sp) := cell_of_row _ _ 3 _ _ (0, 0) hk3
  have e4 : W3.cell? ⟨w.heap.size, 4, none⟩ = some (.int .u16 hd.dp) := cell_of_row _ _ 4 _ _ (0, 0) hk3
  have HLAY := Lib.hid (lay_any nowF hd HH.out (fun _ => false) W2.heap.size HR3.out)
  clear hk3
  go_upto_region 6 with ((with_reducible refine HLAY.out.mono ?_); rintro e W4 ⟨rfl, hr4, hg4⟩; have HR4 := Lib.hid hr4; have HG4 := Lib.hid hg4; clear hr4 hg4)
  obtain ⟨hs4, hf4⟩ := grown_space HS3.out HG4.out HF3.out HN3.out.1 HN3.out.2
  have c0 := hs4.sp.c0
  have HS4 := Lib.hid hs4
  have HK4 : Hid (KeptS A km w W4) := Lib.hid (keptG HK3.out HG4.out (by have := HK0.out.size; have := HK2.out.size; omega) hf4)
  have HAT := Lib.hid (hs4.at (HA.out.1.known K) W2.heap.size (nowS hd) HR4.out)
  clear hs4 hf4 e0 e1 e2 e3 e4
  go_wp2_with ((with_reducible refine HAT.out.mono ?_); rintro e W5 ⟨rfl, hb5⟩; have HS5 := Lib.hid (HS4.out.below hb5); have HK5 := Lib.hid (HK4.out.trans (HS4.out.kept hb5)); clear hb5)
  go_ret2
  exact ⟨rfl, K, HS5.out, HK5.out⟩
end
end Go.Proofs.YtdjikiakcfbklaaGreat
