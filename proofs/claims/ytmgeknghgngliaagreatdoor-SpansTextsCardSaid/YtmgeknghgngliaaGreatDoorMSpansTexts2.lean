/-
  Joined texts: Ad2, Math, A1, Bits, Addr, Addr2, Addr3, Addr4.
-/
import Derived.Test.YtmgeknghgngliaaGreatDoorMSpansTexts1
import Derived.Below
import Derived.Test.YtmgeknghgngliaaGreatDoorProg
import Derived.WalkKit
import Derived.WalkSpells
import Derived.WalkLawsBesides
import Derived.Lib.Hide
import Derived.Test.YtmgeknghgngliaaGreatDoorShelf
import Derived.Deep.RegionHeld3
import Derived.StillTailTactics
/-
  Walks over the addresses' texts: Parse.
-/
namespace Go.Proofs.YtmgeknghgngliaaGreatDoor
open Go Go.RowKit Go.Sort

theorem cells_str {w : World} {g : Nat} {L : List ByteArray} {t : TypeId} {p} (h : w.heap[g]? = some (.cells (L.map Value.string).toArray t p)) {k : Nat} {x : ByteArray} (hk : L[k]? = some x) : w.cell? ⟨g, k, none⟩ = some (.string x) := by
  rw [cell_of_row w g k _ _ _ h]
  simp [hk]

theorem u32_orN (a b : Nat) (ha : a < 4294967296) (hb : b < 4294967296) : bits .or .u32 (a : Int) (b : Int) = ((a ||| b : Nat) : Int) := by
  rw [u32_or _ _ (by omega) (by omega) (by omega) (by omega), Int.toNat_natCast, Int.toNat_natCast]
theorem or_byte (n v : Nat) (hn : n < 16777216) (hv : v < 256) : bits .or .u32 ((n : Int) * 256 % 4294967296) ((v : Int) % 4294967296) = ((n * 256 + v : Nat) : Int) := by
  have e1 : (n : Int) * 256 % 4294967296 = ((n * 256 : Nat) : Int) := by rw [Int.emod_eq_of_lt (by omega) (by omega)]; simp
  have e2 : (v : Int) % 4294967296 = (v : Int) := by omega
  have h := Nat.shiftLeft_add_eq_or_of_lt (b := v) (i := 8) (by omega) n
  rw [Nat.shiftLeft_eq, show (2 : Nat) ^ 8 = 256 from rfl] at h
  rw [e1, e2, h]
  exact u32_orN (n * 256) v (by omega) (by omega)
theorem or_byte' (n v : Nat) (hn : n < 16777216) (hv : v < 256) : bits .or .u32 ((n : Int) * 256) (v : Int) = ((n * 256 + v : Nat) : Int) := by
  have h := or_byte n v hn hv
  rwa [Int.emod_eq_of_lt (by omega) (by omega), Int.emod_eq_of_lt (by omega) (by omega)] at h
theorem or_byte_le (n v : Nat) (hn : n < 16777216) (hv : v < 256) : n * 256 + v < 4294967296 := by omega
set_option maxHeartbeats 1000000 in
theorem addrParse_any (s : ByteArray) (w : World) (hE : Env w) (hlim : s.size < 4294967281) :
    Calls Tryz.prog 65 #[.string s] w fun e w' => e = .returned (.tuple #[.int .u32 (adV (parseB s.data.toList)), .int .i64 (adE (parseB s.data.toList))]) ∧ Below w.heap.size w w' := by
  obtain ⟨m, hm⟩ := hE.len
  have hP := splitB_pieces 46 s
  have hN := countB_pieces 46 s
  have hS := Tryz.strings_Split s ⟨#[46]⟩ m w hlim hm (by decide)
  have hl : (Lib.splitB ⟨#[46]⟩ 0 (Lib.countB s ⟨#[46]⟩) s).length = (pieces 46 s.data.toList).length := by rw [← hP, List.length_map]
  generalize hLL : Lib.splitB ⟨#[46]⟩ 0 (Lib.countB s ⟨#[46]⟩) s = L at hP hS hl
  generalize hNN : Lib.countB s ⟨#[46]⟩ + 1 = N at hN hS
  clear hLL hNN
  have HE := Lib.hid (show ∀ (k : Nat) (x : ByteArray), L[k]? = some x → (pieces 46 s.data.toList)[k]? = some x.data.toList from fun k x h => by rw [← hP, List.getElem?_map, h]; rfl)
  have HS := Lib.hid (show ∀ (k : Nat) (x : ByteArray), L[k]? = some x → x.size ≤ 281474976710656 from fun k x h => by
    have h1 : (pieces 46 s.data.toList)[k]? = some x.data.toList := by rw [← hP, List.getElem?_map, h]; rfl
    have h2 := pieces_len 46 _ _ (List.mem_of_getElem? h1)
    have e1 : s.size = s.data.size := rfl
    have e2 : x.size = x.data.size := rfl
    simp at h2
    omega)
  have hb0 : Below w.heap.size w (w.alloc (.cells (L.map Value.string).toArray 9)) := (Below.refl _ _).alloc (Nat.le_refl _) _
  have hE0 := hE.below hb0
  have hk0 := heap_alloc_new w (.cells (L.map Value.string).toArray 9)
  by_cases h4 : N = 4
  · subst h4
    have hQ := Lib.hid (parseB_four hN.symm)
    have hL4 := Lib.hid (show L.length = 4 by omega)
    clear hP hN hl
    generalize hW : w.alloc (.cells (L.map Value.string).toArray 9) = W at hb0 hE0 hk0 hS
    clear hW
    go_enter Tryz.func65, Tryz.ntmps65
    go_wp2_with fail
    refine hS.mono ?_
    rintro e w1 ⟨rfl, rfl⟩
    go_wp2
    go_loopw [5, 14] (fun a i wr => ∃ k n : Nat, i = .int .i64 k ∧ a = .int .u32 n ∧ k ≤ 4 ∧ Hid (accB (pieces 46 s.data.toList) k = some n) ∧ Env wr ∧ wr.heap[w.heap.size]? = some (.cells (L.map Value.string).toArray 9 (0, 0)) ∧ Below w.heap.size w wr) (fun _ i _ => 4 - (intOf i).toNat)
    case atStart => exact ⟨0, 0, rfl, rfl, by omega, (rfl : accB (pieces 46 s.data.toList) 0 = some 0), hE0, hk0, hb0⟩
    case round =>
      obtain ⟨k, n, rfl, rfl, hk, hacc, hEr, hblk, hbr⟩ := hrel
      by_cases hlt : k < 4
      · obtain ⟨x, hx⟩ : ∃ x, L[k]? = some x := ⟨_, List.getElem?_eq_getElem (by have := hL4.out; omega)⟩
        have hc := cells_str hblk hx
        have hI : (k : Int) < 4 := by omega
        have hI0 : (0 : Int) ≤ k := by omega
        have HX := Lib.hid hx
        have hxs := HS.out k x hx
        have hpx := Lib.hid (HE.out k x hx)
        clear hx
        go_wp2_with fail
        refine (number_any x 255 (by omega) wr hEr hxs).mono ?_
        rintro e w2 ⟨⟨y, rfl, hy⟩, hb2⟩
        have hbw := hbr.trans (hb2.mono hbr.size)
        have hE2 := hEr.below hb2
        have hblk2 := blk_below hb2 hblk
        have hn24 : n < 16777216 := by
          have h1 := accB_lt hacc.out hk
          have h2 : (256 : Nat) ^ k ≤ 256 ^ 3 := Nat.pow_le_pow_right (by decide) (by omega)
          omega
        cases hrd : readB x.data.toList 255 with
        | none =>
          have hz := Lib.hid (show parseB s.data.toList = none by rw [hQ.out]; exact accB_none hpx.out hrd 4 hlt)
          clear hrd hy
          go_wp2
          go_ret2
          exact ⟨by rw [hz.out]; rfl, hbw⟩
        | some v =>
          obtain rfl := hy v hrd
          have hv := readB_le hrd
          have hstep := Lib.hid (accB_step hacc.out hpx.out hrd)
          have hor := or_byte n v hn24 (by omega)
          have hor' := Lib.hid (or_byte' n v hn24 (by omega))
          clear hrd hy
          go_wp2
          go_roundw
          case rel => exact ⟨k + 1, n * 256 + v, by go_num, by first | rw [hor] | rw [hor'.out], by omega, hstep.out, hE2, hblk2, hbw⟩
          case measure =>
            change 4 - (intOf (Value.int .i64 ((k : Int) + 1))).toNat < 4 - (intOf (Value.int .i64 (k : Int))).toNat
            simp only [intOf]
            omega
      · obtain rfl : k = 4 := by omega
        have hz := Lib.hid (show parseB s.data.toList = some n by rw [hQ.out]; exact hacc.out)
        go_wp2
        go_ret2
        exact ⟨by rw [hz.out]; rfl, hbr⟩
  · have hz := Lib.hid (parseB_not (l := s.data.toList) (by omega))
    have hd : ((N : Int) != 4) = true := by simp; omega
    clear hP hN hl
    generalize w.alloc (.cells (L.map Value.string).toArray 9) = W at hb0 hE0 hk0 hS
    go_enter Tryz.func65, Tryz.ntmps65
    go_wp2_with fail
    refine hS.mono ?_
    rintro e w1 ⟨rfl, rfl⟩
    go_wp2
    go_ret2
    exact ⟨by rw [hz.out]; rfl, hb0⟩
end Go.Proofs.YtmgeknghgngliaaGreatDoor

/-
  Plain lemmas on numbers that the walks of this seat use; no program in sight.
-/
namespace Go.Proofs.YtmgeknghgngliaaGreatDoor
open Go.RowKit

/-- Two to the k, as an integer, behind a name. -/
def p2 (k : Nat) : Int := 2 ^ k
theorem p2_zero : p2 0 = 1 := rfl
theorem p2_succ (k : Nat) : p2 (k + 1) = 2 * p2 k := by unfold p2; rw [Int.pow_succ]; omega
theorem p2_pos (k : Nat) : 1 ≤ p2 k := by
  induction k with
  | zero => simp [p2_zero]
  | succ k ih => rw [p2_succ]; omega
theorem p2_mono {j k : Nat} (h : j ≤ k) : p2 j ≤ p2 k := by
  induction k with
  | zero => have : j = 0 := by omega
            subst this; exact Int.le_refl _
  | succ k ih =>
    rcases Nat.lt_or_ge j (k + 1) with h1 | h1
    · have := ih (by omega); have := p2_pos k; rw [p2_succ]; omega
    · have : j = k + 1 := by omega
      subst this; exact Int.le_refl _
theorem p2_32 : p2 32 = 4294967296 := by decide
theorem p2_le32 {k : Nat} (h : k ≤ 32) : p2 k ≤ 4294967296 := by have := p2_mono h; rw [p2_32] at this; exact this


/-- How many addresses are in a prefix of n bits. -/
def sz (n : Int) : Int := p2 (32 - n.toNat)
theorem sz_pos (n : Int) : 1 ≤ sz n := p2_pos _
theorem sz_le (n : Int) : sz n ≤ 4294967296 := p2_le32 (by omega)
theorem sz_dvd (n : Int) : sz n ∣ 4294967296 := by
  refine ⟨p2 (32 - (32 - n.toNat)), ?_⟩
  rw [← p2_32]; unfold sz p2
  rw [← Int.pow_add]; congr 1; omega
/-- The refusal of a prefix: 0, 1 (bits out of range), 10 (bits behind the mask). -/
def chk (a n : Int) : Int := if n < 0 ∨ 32 < n then 1 else if a % sz n = 0 then 0 else 10
theorem chk_range (a n : Int) (h : n < 0 ∨ 32 < n) : chk a n = 1 := by unfold chk; rw [if_pos h]
theorem chk_zero (a n : Int) (h0 : 0 ≤ n) (h1 : n ≤ 32) (h : a % sz n = 0) : chk a n = 0 := by unfold chk; rw [if_neg (by omega), if_pos h]
theorem chk_mask (a n : Int) (h0 : 0 ≤ n) (h1 : n ≤ 32) (h : ¬ a % sz n = 0) : chk a n = 10 := by unfold chk; rw [if_neg (by omega), if_neg h]
theorem chk_ok {a n : Int} (h : chk a n = 0) : 0 ≤ n ∧ n ≤ 32 ∧ a % sz n = 0 := by
  unfold chk at h
  split at h
  · simp at h
  · split at h
    · rename_i h1 h2; exact ⟨by omega, by omega, h2⟩
    · simp at h
/-- Is an address in a prefix? -/
def inB (x a n : Int) : Bool := decide (chk a n = 0 ∧ a ≤ x ∧ x < a + sz n)


/-- The exponent of the greatest power of two, at most 2^k, that divides the place and does not go beyond the end. -/
def pick (a e : Int) : Nat → Nat
  | 0 => 0
  | k + 1 => if a % p2 (k + 1) = 0 ∧ a + p2 (k + 1) ≤ e then k + 1 else pick a e k
theorem pick_le (a e : Int) (k : Nat) : pick a e k ≤ k := by
  induction k with
  | zero => exact Nat.le_refl _
  | succ k ih => unfold pick; split <;> omega
theorem pick_hit (a e : Int) (k : Nat) (h : a % p2 k = 0) (h' : a + p2 k ≤ e) : pick a e k = k := by
  cases k with
  | zero => rfl
  | succ k => unfold pick; rw [if_pos ⟨h, h'⟩]
theorem pick_miss (a e : Int) (k : Nat) (h : ¬ (a % p2 (k + 1) = 0 ∧ a + p2 (k + 1) ≤ e)) : pick a e (k + 1) = pick a e k := by
  conv => lhs; unfold pick
  rw [if_neg h]
theorem pick_ok (a e : Int) (k : Nat) (h : a < e) : a % p2 (pick a e k) = 0 ∧ a + p2 (pick a e k) ≤ e := by
  induction k with
  | zero => simp [pick, p2_zero]; omega
  | succ k ih =>
    unfold pick
    split
    · rename_i h; exact h
    · exact ih
/-- The prefixes of the places from a up to (not with) e. -/
def cutL (e : Int) : Nat → Int → List (Int × Int)
  | 0, _ => []
  | f + 1, a => if a < e then (a, 32 - (pick a e 32 : Int)) :: cutL e f (a + p2 (pick a e 32)) else []
theorem cutL_done (e a : Int) (f : Nat) (h : e ≤ a) : cutL e f a = [] := by
  cases f with
  | zero => rfl
  | succ f => unfold cutL; rw [if_neg (by omega)]
theorem cutL_step (e a : Int) (f : Nat) (h : a < e) : cutL e (f + 1) a = (a, 32 - (pick a e 32 : Int)) :: cutL e f (a + p2 (pick a e 32)) := by
  conv => lhs; unfold cutL
  rw [if_pos h]

end Go.Proofs.YtmgeknghgngliaaGreatDoor

/-
  Walks over the leaves of the addresses' layer: the reference's size, the program's behind.
-/
namespace Go.Proofs.YtmgeknghgngliaaGreatDoor
open Go.RowKit

set_option maxHeartbeats 400000 in
theorem size_any (n : Int) (w : World) (h0 : 0 ≤ n) (h1 : n ≤ 32) :
    Calls Tryz.prog 99 #[.int .i64 n] w fun e w' => e = .returned (.int .u64 (sz n)) ∧ w = w' := by
  obtain ⟨m, rfl⟩ := Int.eq_ofNat_of_zero_le h0
  have hm : m ≤ 32 := by omega
  clear h0
  go_enter Tryz.func99, Tryz.ntmps99
  go_wp2
  go_loop [3, 4] (fun out i => ∃ j : Nat, m + j ≤ 32 ∧ i = .int .i64 ↑(m + j) ∧ out = .int .u64 (p2 j)) (fun _ i => 32 - (intOf i).toNat)
  case atStart => exact ⟨0, by omega, rfl, rfl⟩
  case round =>
    obtain ⟨j, hj, rfl, rfl⟩ := hrel
    have hp := p2_pos j
    have hq := p2_le32 (k := j) (by omega)
    by_cases hlt : m + j < 32
    · go_wp2
      go_round
      case rel => exact ⟨j + 1, by omega, by go_num, by rw [p2_succ]⟩
      case measure => simp [intOf]; omega
    · have e : 32 - m = j := by omega
      have E := Lib.hid e
      clear e
      go_wp2
      go_ret
      unfold sz
      rw [Int.toNat_natCast, E.out]
      exact ⟨rfl, rfl⟩

end Go.Proofs.YtmgeknghgngliaaGreatDoor

/-
  Plain lemmas on bits and powers of two, in the words of the model's operations on numbers; no program in sight.
-/
namespace Go.Proofs.YtmgeknghgngliaaGreatDoor
open Go Go.RowKit

theorem p2_cast (k : Nat) : p2 k = ((2 ^ k : Nat) : Int) := by unfold p2; simp
theorem sz_nat (n : Int) : sz n = ((2 ^ (32 - n.toNat) : Nat) : Int) := p2_cast _

theorem nat_high (a k : Nat) (hk : k ≤ 32) (ha : a < 2 ^ 32) : a &&& (2 ^ 32 - 1 - (2 ^ k - 1)) = a - a % 2 ^ k := by
  have h1 : a - a % 2 ^ k = (a >>> k) <<< k := by
    rw [Nat.shiftLeft_eq, Nat.shiftRight_eq_div_pow]
    have := Nat.div_add_mod a (2 ^ k)
    rw [Nat.mul_comm] at this
    omega
  rw [h1]
  apply Nat.eq_of_testBit_eq
  intro i
  rw [Nat.testBit_and, Nat.testBit_shiftLeft, Nat.testBit_shiftRight]
  have hm : 2 ^ 32 - 1 - (2 ^ k - 1) = 2 ^ 32 - 2 ^ k := by
    have := Nat.two_pow_pos k; omega
  have hs : 2 ^ 32 - 2 ^ k = (2 ^ (32 - k) - 1) <<< k := by
    rw [Nat.shiftLeft_eq, Nat.sub_mul, ← Nat.pow_add]; congr 1
    · congr 1; omega
    · omega
  rw [hm, hs, Nat.testBit_shiftLeft, Nat.testBit_two_pow_sub_one]
  by_cases hi : k ≤ i
  · have e : k + (i - k) = i := by omega
    rw [e]
    by_cases h32 : i < 32
    · simp [hi]; omega
    · have : a.testBit i = false := Nat.testBit_lt_two_pow (Nat.lt_of_lt_of_le ha (Nat.pow_le_pow_right (by omega) (by omega)))
      simp [this]
  · simp [hi]

theorem and_sz (a n : Int) (ha : 0 ≤ a) (hb : a < 4294967296) : bits .and .u32 a (sz n - 1) = a % sz n := by
  obtain ⟨a, rfl⟩ := Int.eq_ofNat_of_zero_le ha
  have hp := sz_pos n
  have hq := sz_le n
  rw [u32_and _ _ ha hb (by omega) (by omega), sz_nat]
  have e : (((2 ^ (32 - n.toNat) : Nat) : Int) - 1).toNat = 2 ^ (32 - n.toNat) - 1 := by omega
  rw [e, Int.toNat_natCast, Nat.and_two_pow_sub_one_eq_mod]
  exact Int.natCast_emod _ _

theorem andNot_sz (a n : Int) (ha : 0 ≤ a) (hb : a < 4294967296) : bits .andNot .u32 a (sz n - 1) = a - a % sz n := by
  obtain ⟨a, rfl⟩ := Int.eq_ofNat_of_zero_le ha
  have hp := sz_pos n
  have hq := sz_le n
  rw [u32_andNot _ _ ha hb (by omega) (by omega), sz_nat]
  have e : (((2 ^ (32 - n.toNat) : Nat) : Int) - 1).toNat = 2 ^ (32 - n.toNat) - 1 := by omega
  rw [e, Int.toNat_natCast]
  have h := nat_high a (32 - n.toNat) (by omega) (by omega)
  rw [show (4294967295 : Nat) = 2 ^ 32 - 1 by decide, h, ← Int.natCast_emod]
  have := Nat.mod_le a (2 ^ (32 - n.toNat))
  omega


theorem not32 (x : Int) (h0 : 0 ≤ x) (h1 : x < 4294967296) : bits .xor .u32 IntKind.u32.max x = 4294967295 - x := by
  obtain ⟨x, rfl⟩ := Int.eq_ofNat_of_zero_le h0
  have e : IntKind.u32.max = 4294967295 := by decide
  rw [e, u32_xor _ _ (by omega) (by omega) h0 h1]
  have hx : x < 2 ^ 32 := by omega
  have e2 : (4294967295 : Int).toNat = 2 ^ 32 - 1 := by decide
  have e3 : (2 ^ 32 - 1) ^^^ x = 2 ^ 32 - (x + 1) := by
    apply Nat.eq_of_testBit_eq
    intro i
    rw [Nat.testBit_xor, Nat.testBit_two_pow_sub_one, Nat.testBit_two_pow_sub_succ hx]
    by_cases hi : i < 32
    · simp [hi]
    · have : x.testBit i = false := Nat.testBit_lt_two_pow (Nat.lt_of_lt_of_le hx (Nat.pow_le_pow_right (by omega) (by omega)))
      simp [hi, this]
  rw [e2, Int.toNat_natCast, e3]
  omega
theorem bitLen_pred (j : Nat) (h : j ≤ 63) : Lib.bitLen (2 ^ j - 1) = j := by
  induction j with
  | zero => decide
  | succ j ih =>
    have h2 : 2 ^ (j + 1) < 2 ^ 64 := Nat.pow_lt_pow_right (by omega) (by omega)
    have h3 := Nat.two_pow_pos j
    have h4 : 2 ^ (j + 1) = 2 * 2 ^ j := by rw [Nat.pow_succ]; omega
    rw [Lib.bitLen_half _ (by omega) (by omega)]
    have : (2 ^ (j + 1) - 1) / 2 = 2 ^ j - 1 := by omega
    rw [this, ih (by omega)]; omega
/-- The leading zeros of a number of 32 bits. -/
def lz32 (x : Int) : Int := 32 - (Lib.bitLen x.toNat : Int)
theorem lz32_range (x : Int) (h1 : x < 4294967296) : 0 ≤ lz32 x ∧ lz32 x ≤ 32 := by
  unfold lz32
  have := Lib.bitLen_le x.toNat 32 (by omega) (by have : (2 : Nat) ^ 32 = 4294967296 := by decide
                                                  omega)
  omega
theorem lz32_mask (n : Int) (h0 : 0 ≤ n) (h1 : n ≤ 32) : lz32 (sz n - 1) = n := by
  unfold lz32
  rw [sz_nat]
  have e : (((2 ^ (32 - n.toNat) : Nat) : Int) - 1).toNat = 2 ^ (32 - n.toNat) - 1 := by omega
  rw [e, bitLen_pred _ (by omega)]
  omega
theorem bitLen_p2 (j : Nat) (h : j ≤ 63) : Lib.bitLen (p2 j).toNat = j + 1 := by
  rw [p2_cast, Int.toNat_natCast]
  induction j with
  | zero => decide
  | succ j ih =>
    have h2 : 2 ^ (j + 1) < 2 ^ 64 := Nat.pow_lt_pow_right (by omega) (by omega)
    rw [Lib.bitLen_half _ (by have := Nat.two_pow_pos (j + 1); omega) h2]
    have : 2 ^ (j + 1) / 2 = 2 ^ j := by rw [Nat.pow_succ]; omega
    rw [this, ih (by omega)]; omega
theorem p2_lt64 {j : Nat} (h : j ≤ 63) : p2 j ≤ 18446744073709551615 := by
  rw [p2_cast]
  have h2 : 2 ^ j < 2 ^ 64 := Nat.pow_lt_pow_right (by omega) (by omega)
  have e : (2 : Nat) ^ 64 = 18446744073709551616 := by decide
  omega
end Go.Proofs.YtmgeknghgngliaaGreatDoor

/-
  Walks over the addresses' layer: behind, Check, In, Within; the program's and the reference's.
-/
namespace Go.Proofs.YtmgeknghgngliaaGreatDoor
open Go Go.RowKit Go.Sort

theorem behind_val (n : Int) (h0 : 0 ≤ n) (h1 : n ≤ 32) : IntKind.u64.wrap (IntKind.u64.wrap (2 ^ (32 - n).toNat) - 1) % 4294967296 = sz n - 1 := by
  have e : (32 - n).toNat = 32 - n.toNat := by omega
  have hp := p2_pos (32 - n.toNat)
  have hq := p2_le32 (k := 32 - n.toNat) (by omega)
  rw [e]
  show IntKind.u64.wrap (IntKind.u64.wrap (p2 (32 - n.toNat)) - 1) % 4294967296 = p2 (32 - n.toNat) - 1
  simp only [IntKind.wrap, IntKind.bits, IntKind.signed]
  omega
set_option maxHeartbeats 400000 in
theorem behind_any (n : Int) (w : World) (h0 : 0 ≤ n) (h1 : n ≤ 32) :
    Calls Tryz.prog 95 #[.int .i64 n] w fun e w' => e = .returned (.int .u32 (sz n - 1)) ∧ w = w' := by
  have hv := Lib.hid (behind_val n h0 h1)
  go_enter Tryz.func95, Tryz.ntmps95
  go_wp2
  go_ret
  exact ⟨ret_int hv.out, rfl⟩

set_option maxHeartbeats 400000 in
theorem addrCheck_any (a n : Int) (w : World) (ha : 0 ≤ a) (hb : a < 4294967296) :
    Calls Tryz.prog 50 #[.agg #[.int .u32 a, .int .i64 n]] w fun e w' => e = .returned (.int .i64 (chk a n)) ∧ Below w.heap.size w w' := by
  by_cases hr : n < 0 ∨ 32 < n
  · have hc := Lib.hid (chk_range a n hr)
    rcases hr with hr | hr
    · go_enter Tryz.func50, Tryz.ntmps50
      go_wp2
      go_ret
      exact ⟨ret_int hc.out.symm, (Below.refl _ _).alloc (Nat.le_refl _) _⟩
    · have hr' : ¬ n < 0 := by omega
      go_enter Tryz.func50, Tryz.ntmps50
      go_wp2
      go_ret
      exact ⟨ret_int hc.out.symm, (Below.refl _ _).alloc (Nat.le_refl _) _⟩
  · have h0 : 0 ≤ n := by omega
    have h1 : n ≤ 32 := by omega
    clear hr
    have ea := and_sz a n ha hb
    by_cases hm : a % sz n = 0
    · have hc := Lib.hid (chk_zero a n h0 h1 hm)
      have hd : (bits .and .u32 a (sz n - 1) != 0) = false := by rw [ea, hm]; rfl
      clear ea hm
      go_enter Tryz.func50, Tryz.ntmps50
      go_wp2
      go_quiet ((go_at_call 95; exact quiet_left (behind_any _ _ (by omega) (by omega))))
      go_wp2
      go_ret
      exact ⟨ret_int hc.out.symm, below_drewN ((Below.refl _ _).alloc (Nat.le_refl _) _) _⟩
    · have hc := Lib.hid (chk_mask a n h0 h1 hm)
      have hd : (bits .and .u32 a (sz n - 1) != 0) = true := by rw [ea]; simp [hm]
      clear ea hm
      go_enter Tryz.func50, Tryz.ntmps50
      go_wp2
      go_quiet ((go_at_call 95; exact quiet_left (behind_any _ _ (by omega) (by omega))))
      go_wp2
      go_ret
      exact ⟨ret_int hc.out.symm, below_drewN ((Below.refl _ _).alloc (Nat.le_refl _) _) _⟩

set_option maxHeartbeats 400000 in
theorem refCheck_any (a n : Int) (w : World) (ha : 0 ≤ a) (hb : a < 4294967296) :
    Calls Tryz.prog 56 #[.agg #[.int .u32 a, .int .i64 n]] w fun e w' => e = .returned (.int .i64 (chk a n)) ∧ Below w.heap.size w w' := by
  by_cases hr : n < 0 ∨ 32 < n
  · have hc := Lib.hid (chk_range a n hr)
    rcases hr with hr | hr
    · go_enter Tryz.func56, Tryz.ntmps56
      go_wp2
      go_ret
      exact ⟨ret_int hc.out.symm, (Below.refl _ _).alloc (Nat.le_refl _) _⟩
    · have hr' : ¬ n < 0 := by omega
      go_enter Tryz.func56, Tryz.ntmps56
      go_wp2
      go_ret
      exact ⟨ret_int hc.out.symm, (Below.refl _ _).alloc (Nat.le_refl _) _⟩
  · have h0 : 0 ≤ n := by omega
    have h1 : n ≤ 32 := by omega
    have hp := sz_pos n
    have hq := sz_le n
    clear hr
    by_cases hm : a % sz n = 0
    · have hc := Lib.hid (chk_zero a n h0 h1 hm)
      have hd : (a % sz n != 0) = false := by rw [hm]; rfl
      clear hm
      go_enter Tryz.func56, Tryz.ntmps56
      go_wp2
      go_quiet ((go_at_call 99; exact quiet_left (size_any _ _ (by omega) (by omega))))
      go_wp2
      go_ret
      exact ⟨ret_int hc.out.symm, below_drewN ((Below.refl _ _).alloc (Nat.le_refl _) _) _⟩
    · have hc := Lib.hid (chk_mask a n h0 h1 hm)
      have hd : (a % sz n != 0) = true := by simp [hm]
      clear hm
      go_enter Tryz.func56, Tryz.ntmps56
      go_wp2
      go_quiet ((go_at_call 99; exact quiet_left (size_any _ _ (by omega) (by omega))))
      go_wp2
      go_ret
      exact ⟨ret_int hc.out.symm, below_drewN ((Below.refl _ _).alloc (Nat.le_refl _) _) _⟩

end Go.Proofs.YtmgeknghgngliaaGreatDoor

/-
  Walks over the addresses' layer: In; the program's and the reference's.
-/
namespace Go.Proofs.YtmgeknghgngliaaGreatDoor
open Go Go.RowKit Go.Sort

theorem in_no (x a n : Int) (h : ¬ chk a n = 0) : false = inB x a n := by unfold inB; simp [h]
theorem in_low (x a n : Int) (h : ¬ a ≤ x) : false = inB x a n := by unfold inB; simp [h]
theorem in_sub (x a n : Int) (hr : chk a n = 0) (h : a ≤ x) : decide (x - a < sz n) = inB x a n := by
  unfold inB
  rw [decide_eq_decide]
  constructor
  · intro h1; exact ⟨hr, h, by omega⟩
  · intro h1; omega
theorem in_andNot (x a n : Int) (hx : 0 ≤ x) (hx' : x < 4294967296) (hr : chk a n = 0) : (bits .andNot .u32 x (sz n - 1) == a) = inB x a n := by
  obtain ⟨_, _, h2⟩ := chk_ok hr
  rw [andNot_sz x n hx hx']
  unfold inB
  rw [Bool.eq_iff_iff, beq_iff_eq, decide_eq_true_iff]
  have hp := sz_pos n
  have e1 := Int.emod_add_mul_ediv x (sz n)
  have l1 := Int.emod_nonneg x (by omega : sz n ≠ 0)
  have l2 := Int.emod_lt_of_pos x (by omega : 0 < sz n)
  constructor
  · intro h
    exact ⟨hr, by omega, by omega⟩
  · intro ⟨_, h3, h4⟩
    have e2 := Int.emod_add_mul_ediv a (sz n)
    rw [h2] at e2
    have h5 : x % sz n = x - a := by
      have : (x - a + sz n * (a / sz n)) % sz n = (x - a) % sz n := Int.add_mul_emod_self_left ..
      rw [show x - a + sz n * (a / sz n) = x by omega, Int.emod_eq_of_lt (a := x - a) (by omega) (by omega)] at this
      exact this
    omega

set_option maxHeartbeats 400000 in
theorem addrIn_any (x a n : Int) (w : World) (hx : 0 ≤ x) (hx' : x < 4294967296) (ha : 0 ≤ a) (hb : a < 4294967296) :
    Calls Tryz.prog 112 #[.int .u32 x, .agg #[.int .u32 a, .int .i64 n]] w fun e w' => e = .returned (.bool (inB x a n)) ∧ Below w.heap.size w w' := by
  by_cases hr : chk a n = 0
  · obtain ⟨h0, h1, h2⟩ := chk_ok hr
    have hd : (chk a n == 0) = true := by simp [hr]
    have hE := Lib.hid (in_andNot x a n hx hx' hr)
    clear hr h2
    go_enter Tryz.func112, Tryz.ntmps112
    go_wp2
    have c0 : (w.alloc (.cells #[.int .u32 a, .int .i64 n] 25)).cell? ⟨w.heap.size, 0, none⟩ = some (.int .u32 a) := by simp
    have c1 : (w.alloc (.cells #[.int .u32 a, .int .i64 n] 25)).cell? ⟨w.heap.size, 1, none⟩ = some (.int .i64 n) := by simp
    have hbW : Below w.heap.size w (w.alloc (.cells #[.int .u32 a, .int .i64 n] 25)) := (Below.refl _ _).alloc (Nat.le_refl _) _
    generalize w.alloc (.cells #[.int .u32 a, .int .i64 n] 25) = W at *
    have F0 := cell_regrown c0
    have F1 := cell_regrown c1
    refine wp_region_quiet_below (by kernel_rfl) (by kernel_rfl) ?_
    repeat (first | go_big_quiet_step ((first | (go_at_call 50; exact Calls.regrown_of (addrCheck_any _ _ _ (by omega) (by omega))) | (go_at_call 95; exact regrown_left (behind_any _ _ (by omega) (by omega))))) | quiet_step ((first | (go_at_call 50; exact Calls.regrown_of (addrCheck_any _ _ _ (by omega) (by omega))) | (go_at_call 95; exact regrown_left (behind_any _ _ (by omega) (by omega))))))
    refine wpQuiet_nil ?_
    intro _ hw'
    obtain ⟨⟨nq, osq⟩, hw''⟩ := hw'
    subst hw''
    go_wp2
    go_ret
    exact ⟨ret_bool (hE.out), (hbW.trans ((below_regrown W nq osq).mono hbW.size))⟩
  · have hd : (chk a n == 0) = false := by simp [hr]
    have hE := Lib.hid (in_no x a n hr)
    clear hr
    go_enter Tryz.func112, Tryz.ntmps112
    go_wp2
    have c0 : (w.alloc (.cells #[.int .u32 a, .int .i64 n] 25)).cell? ⟨w.heap.size, 0, none⟩ = some (.int .u32 a) := by simp
    have c1 : (w.alloc (.cells #[.int .u32 a, .int .i64 n] 25)).cell? ⟨w.heap.size, 1, none⟩ = some (.int .i64 n) := by simp
    have hbW : Below w.heap.size w (w.alloc (.cells #[.int .u32 a, .int .i64 n] 25)) := (Below.refl _ _).alloc (Nat.le_refl _) _
    generalize w.alloc (.cells #[.int .u32 a, .int .i64 n] 25) = W at *
    have F0 := cell_regrown c0
    have F1 := cell_regrown c1
    refine wp_region_quiet_below (by kernel_rfl) (by kernel_rfl) ?_
    repeat (first | go_big_quiet_step (((go_at_call 50; exact Calls.regrown_of (addrCheck_any _ _ _ (by omega) (by omega))))) | quiet_step (((go_at_call 50; exact Calls.regrown_of (addrCheck_any _ _ _ (by omega) (by omega))))))
    refine wpQuiet_nil ?_
    intro _ hw'
    obtain ⟨⟨nq, osq⟩, hw''⟩ := hw'
    subst hw''
    go_wp2
    go_ret
    exact ⟨ret_bool (hE.out), (hbW.trans ((below_regrown W nq osq).mono hbW.size))⟩

end Go.Proofs.YtmgeknghgngliaaGreatDoor

/-
  Walks over the addresses' layer: Mask, Bits, Subnet; the program's and the reference's.
-/
namespace Go.Proofs.YtmgeknghgngliaaGreatDoor
open Go Go.RowKit Go.Sort

/-- The mask of so many bits, and the refusal. -/
def maskA (n : Int) : Int := if n < 0 ∨ 32 < n then 0 else 4294967296 - sz n
def argE (n : Int) : Int := if n < 0 ∨ 32 < n then 1 else 0
theorem mask_no {n : Int} (h : n < 0 ∨ 32 < n) : maskA n = 0 ∧ argE n = 1 := ⟨if_pos h, if_pos h⟩
theorem mask_yes {n : Int} (h0 : 0 ≤ n) (h1 : n ≤ 32) : maskA n = 4294967296 - sz n ∧ argE n = 0 := ⟨if_neg (by omega), if_neg (by omega)⟩
theorem ret2 {v v' u u' : Value} (h : v = v' ∧ u = u') : Ending.returned (.tuple #[v, u]) = .returned (.tuple #[v', u']) := by rw [h.1, h.2]
theorem vint {k : IntKind} {a b : Int} (h : a = b) : Value.int k a = .int k b := by rw [h]

theorem mask_range (n : Int) : 0 ≤ maskA n ∧ maskA n < 4294967296 := by
  unfold maskA
  have hp := sz_pos n
  have hq := sz_le n
  split <;> omega
/-- Of how many bits a mask is, and the refusal. -/
def bitsN (m : Int) : Int := if maskA (lz32 (4294967295 - m)) = m then lz32 (4294967295 - m) else 0
def bitsE (m : Int) : Int := if maskA (lz32 (4294967295 - m)) = m then 0 else 10
theorem bits_yes {m : Int} (h : maskA (lz32 (4294967295 - m)) = m) : bitsN m = lz32 (4294967295 - m) ∧ bitsE m = 0 := ⟨if_pos h, if_pos h⟩
theorem bits_no {m : Int} (h : ¬ maskA (lz32 (4294967295 - m)) = m) : bitsN m = 0 ∧ bitsE m = 10 := ⟨if_neg h, if_neg h⟩
theorem mask_lz (n : Int) (h0 : 0 ≤ n) (h1 : n ≤ 32) : lz32 (4294967295 - maskA n) = n := by
  rw [(mask_yes h0 h1).1, show 4294967295 - (4294967296 - sz n) = sz n - 1 by omega]
  exact lz32_mask n h0 h1

end Go.Proofs.YtmgeknghgngliaaGreatDoor

/-
  Walks over the addresses' layer: Subnet, Ends; the program's and the reference's.
-/
namespace Go.Proofs.YtmgeknghgngliaaGreatDoor
open Go Go.RowKit Go.Sort

/-- The first address of a subnet of so many bits. -/
def subA (a n : Int) : Int := if n < 0 ∨ 32 < n then 0 else a - a % sz n
def subN (n : Int) : Int := if n < 0 ∨ 32 < n then 0 else n
theorem sub_no {n : Int} (a : Int) (h : n < 0 ∨ 32 < n) : subA a n = 0 ∧ subN n = 0 ∧ argE n = 1 := ⟨if_pos h, if_pos h, if_pos h⟩
theorem sub_yes {n : Int} (a : Int) (h0 : 0 ≤ n) (h1 : n ≤ 32) : subA a n = a - a % sz n ∧ subN n = n ∧ argE n = 0 := ⟨if_neg (by omega), if_neg (by omega), if_neg (by omega)⟩
theorem mod_le (a n : Int) (h0 : 0 ≤ a) : 0 ≤ a % sz n ∧ a % sz n ≤ a ∧ a % sz n < sz n ∧ a / sz n * sz n = a - a % sz n ∧ 0 ≤ a / sz n := by
  have hp := sz_pos n
  have l1 := Int.emod_nonneg a (by omega : sz n ≠ 0)
  have l2 := Int.emod_lt_of_pos a (by omega : 0 < sz n)
  have e1 := Int.emod_add_mul_ediv a (sz n)
  have e3 := Int.ediv_nonneg h0 (by omega : 0 ≤ sz n)
  have e2 := Int.mul_nonneg (by omega : 0 ≤ sz n) e3
  rw [Int.mul_comm (a / sz n)]
  omega
theorem sub_range (a n : Int) (h0 : 0 ≤ a) (h1 : a < 4294967296) : 0 ≤ subA a n ∧ subA a n < 4294967296 := by
  unfold subA
  obtain ⟨m1, m2, _⟩ := mod_le a n h0
  split <;> omega
theorem sub_val (a n : Int) (h0 : 0 ≤ a) (h1 : a < 4294967296) : IntKind.u32.wrap (IntKind.u64.wrap (IntKind.u64.wrap ((IntKind.u64.wrap a).tdiv (sz n)) * sz n)) = a - a % sz n := by
  have hp := sz_pos n
  obtain ⟨m1, m2, m3, m4, m5⟩ := mod_le a n h0
  have e1 : IntKind.u64.wrap a = a := by rw [IntKind.wrap_u64]; omega
  have m6 : a / sz n ≤ a := Int.ediv_le_self _ h0
  rw [e1, Int.tdiv_eq_ediv_of_nonneg h0]
  have e2 : IntKind.u64.wrap (a / sz n) = a / sz n := by rw [IntKind.wrap_u64]; omega
  rw [e2, m4, IntKind.wrap_u64, IntKind.wrap_u32']
  omega
theorem ret_p2 {a a' n n' e e' : Int} (h : a = a' ∧ n = n' ∧ e = e') : Ending.returned (.tuple #[.agg #[.int .u32 a, .int .i64 n], .int .i64 e]) = .returned (.tuple #[.agg #[.int .u32 a', .int .i64 n'], .int .i64 e']) := by rw [h.1, h.2.1, h.2.2]

/-- The last address of a prefix that may be. -/
def endA (a n : Int) : Int := if chk a n = 0 then a else 0
def endB (a n : Int) : Int := if chk a n = 0 then a + sz n - 1 else 0
theorem end_yes {a n : Int} (h : chk a n = 0) : endA a n = a ∧ endB a n = a + sz n - 1 := ⟨if_pos h, if_pos h⟩
theorem end_no {a n : Int} (h : ¬ chk a n = 0) : endA a n = 0 ∧ endB a n = 0 := ⟨if_neg h, if_neg h⟩
theorem ret3 {v v' u u' x x' : Value} (h : v = v' ∧ u = u' ∧ x = x') : Ending.returned (.tuple #[v, u, x]) = .returned (.tuple #[v', u', x']) := by rw [h.1, h.2.1, h.2.2]
theorem or_sz (a n : Int) (ha : 0 ≤ a) (hb : a < 4294967296) (h : a % sz n = 0) : bits .or .u32 a (sz n - 1) = a + sz n - 1 := by
  obtain ⟨a, rfl⟩ := Int.eq_ofNat_of_zero_le ha
  have hp := sz_pos n
  have hq := sz_le n
  rw [u32_or _ _ ha hb (by omega) (by omega), sz_nat]
  have e : (((2 ^ (32 - n.toNat) : Nat) : Int) - 1).toNat = 2 ^ (32 - n.toNat) - 1 := by omega
  have hm : a % 2 ^ (32 - n.toNat) = 0 := by rw [sz_nat] at h; omega
  have h2 := Nat.two_pow_pos (32 - n.toNat)
  rw [e, Int.toNat_natCast, nat_join (32 - n.toNat) a _ hm (by omega)]
  omega
theorem end_le (a n : Int) (hb : a < 4294967296) (h : a % sz n = 0) : a + sz n - 1 < 4294967296 := by
  obtain ⟨c, hc⟩ := sz_dvd n
  have hp := sz_pos n
  have e1 := Int.emod_add_mul_ediv a (sz n)
  rw [h] at e1
  have : sz n * (a / sz n) < sz n * c := by omega
  have h3 : a / sz n < c := Int.lt_of_mul_lt_mul_left this (by omega)
  have h4 : sz n * (a / sz n + 1) ≤ sz n * c := Int.mul_le_mul_of_nonneg_left (by omega) (by omega)
  rw [Int.mul_add] at h4
  omega

end Go.Proofs.YtmgeknghgngliaaGreatDoor
