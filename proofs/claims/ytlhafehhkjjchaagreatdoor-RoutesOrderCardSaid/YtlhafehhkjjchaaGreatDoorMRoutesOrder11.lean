/-
  Joined texts: Filt4, Ad2, Addr3, Addr4, Ad3, Addr5.
-/
import Derived.Test.YtlhafehhkjjchaaGreatDoorMRoutesOrder9
import Derived.Test.YtlhafehhkjjchaaGreatDoorMRoutesOrder10
import Derived.Test.YtlhafehhkjjchaaGreatDoorMRoutesOrder1
import Derived.Test.YtlhafehhkjjchaaGreatDoorShelf2
import Derived.Test.YtlhafehhkjjchaaGreatDoorMRoutesOrder7
import Derived.Deep.RegionHeld3
import Derived.StillTailTactics
import Derived.Lib.JoinLaws
import Derived.RegionTactic
import Derived.BigRegion
/-
  Walks over the filter's layer: whole filters: Check.
-/
namespace Go.Proofs.YtlhafehhkjjchaaGreatDoor
open Go Go.RowKit

instance : Inhabited RuleV := ⟨⟨false, 0, 0, 0, 0, 0, 0, 0, 0, 0, by omega, by omega, by omega, by omega, by omega, by omega, by omega⟩⟩
/-- A rule's ten cells. -/
def RuleV.enc (r : RuleV) : List Value := [.bool r.permit, .int .i64 r.proto, .int .u32 r.sa, .int .i64 r.sn, .int .u32 r.da, .int .i64 r.dn, .int .u32 r.sl, .int .u32 r.sh, .int .u32 r.dl, .int .u32 r.dh]
theorem rule_len (r : RuleV) : r.enc.length = 10 := rfl
def rcells (L : List RuleV) : List Value := L.flatMap RuleV.enc

/-- The refusal of a filter. -/
def filtE (L : List RuleV) : Int := if 256 < L.length then 121 else if L.any (fun r => !mayB r) then 121 else 0
theorem filtE_1 {L : List RuleV} (h : 256 < L.length) : filtE L = 121 := if_pos h
theorem filtE_2 {L : List RuleV} (h : ¬ 256 < L.length) (h1 : L.any (fun r => !mayB r) = true) : filtE L = 121 := by unfold filtE; rw [if_neg h, if_pos h1]
theorem filtE_3 {L : List RuleV} (h : ¬ 256 < L.length) (h1 : L.any (fun r => !mayB r) = false) : filtE L = 0 := by unfold filtE; rw [if_neg h, if_neg (by simp [h1])]

end Go.Proofs.YtlhafehhkjjchaaGreatDoor

/-
  Walks over the addresses' texts: Parse.
-/
namespace Go.Proofs.YtlhafehhkjjchaaGreatDoor
open Go Go.RowKit Go.Sort

theorem cells_str {w : World} {g : Nat} {L : List ByteArray} {t : TypeId} {p} (h : w.heap[g]? = some (.cells (L.map Value.string).toArray t p)) {k : Nat} {x : ByteArray} (hk : L[k]? = some x) : w.cell? ⟨g, k, none⟩ = some (.string x) := by
  rw [cell_of_row w g k _ _ _ h]
  simp [hk]

theorem u32_orN (a b : Nat) (ha : a < 4294967296) (hb : b < 4294967296) : bits .or .u32 (a : Int) (b : Int) = ((a ||| b : Nat) : Int) := by
  rw [u32_or _ _ (by omega) (by omega) (by omega) (by omega), Int.toNat_natCast, Int.toNat_natCast]
theorem or_byte (n v : Nat) (hn : n < 16777216) (hv : v < 256) : bits .or .u32 ((n : Int) * 256 % 4294967296) ((v : Int) % 4294967296) = ((n * 256 + v : Nat) : Int) := by
  have e1 : (n : Int) * 256 % 4294967296 = ((n * 256 : Nat) : Int) := by rw [Int.emod_eq_of_lt (by omega) (by omega)]; simp
  have e2 : (v : Int) % 4294967296 = (v : Int) := by omega
  have h := Nat.shiftLeft_add_eq_or_of_lt (b := v) (i := 8) (by omega) n
  rw [Nat.shiftLeft_eq, show (2 : Nat) ^ 8 = 256 from rfl] at h
  rw [e1, e2, h]
  exact u32_orN (n * 256) v (by omega) (by omega)
theorem or_byte' (n v : Nat) (hn : n < 16777216) (hv : v < 256) : bits .or .u32 ((n : Int) * 256) (v : Int) = ((n * 256 + v : Nat) : Int) := by
  have h := or_byte n v hn hv
  rwa [Int.emod_eq_of_lt (by omega) (by omega), Int.emod_eq_of_lt (by omega) (by omega)] at h
theorem or_byte_le (n v : Nat) (hn : n < 16777216) (hv : v < 256) : n * 256 + v < 4294967296 := by omega
set_option maxHeartbeats 1000000 in
theorem addrParse_any (s : ByteArray) (w : World) (hE : Env w) (hlim : s.size < 4294967281) :
    Calls Tryz.prog 35 #[.string s] w fun e w' => e = .returned (.tuple #[.int .u32 (adV (parseB s.data.toList)), .int .i64 (adE (parseB s.data.toList))]) ∧ Below w.heap.size w w' := by
  obtain ⟨m, hm⟩ := hE.len
  have hP := splitB_pieces 46 s
  have hN := countB_pieces 46 s
  have hS := Tryz.strings_Split s ⟨#[46]⟩ m w hlim hm (by decide)
  have hl : (Lib.splitB ⟨#[46]⟩ 0 (Lib.countB s ⟨#[46]⟩) s).length = (pieces 46 s.data.toList).length := by rw [← hP, List.length_map]
  generalize hLL : Lib.splitB ⟨#[46]⟩ 0 (Lib.countB s ⟨#[46]⟩) s = L at hP hS hl
  generalize hNN : Lib.countB s ⟨#[46]⟩ + 1 = N at hN hS
  clear hLL hNN
  have HE := Lib.hid (show ∀ (k : Nat) (x : ByteArray), L[k]? = some x → (pieces 46 s.data.toList)[k]? = some x.data.toList from fun k x h => by rw [← hP, List.getElem?_map, h]; rfl)
  have HS := Lib.hid (show ∀ (k : Nat) (x : ByteArray), L[k]? = some x → x.size ≤ 281474976710656 from fun k x h => by
    have h1 : (pieces 46 s.data.toList)[k]? = some x.data.toList := by rw [← hP, List.getElem?_map, h]; rfl
    have h2 := pieces_len 46 _ _ (List.mem_of_getElem? h1)
    have e1 : s.size = s.data.size := rfl
    have e2 : x.size = x.data.size := rfl
    simp at h2
    omega)
  have hb0 : Below w.heap.size w (w.alloc (.cells (L.map Value.string).toArray 9)) := (Below.refl _ _).alloc (Nat.le_refl _) _
  have hE0 := hE.below hb0
  have hk0 := heap_alloc_new w (.cells (L.map Value.string).toArray 9)
  by_cases h4 : N = 4
  · subst h4
    have hQ := Lib.hid (parseB_four hN.symm)
    have hL4 := Lib.hid (show L.length = 4 by omega)
    clear hP hN hl
    generalize hW : w.alloc (.cells (L.map Value.string).toArray 9) = W at hb0 hE0 hk0 hS
    clear hW
    go_enter Tryz.func35, Tryz.ntmps35
    go_wp2_with fail
    refine hS.mono ?_
    rintro e w1 ⟨rfl, rfl⟩
    go_wp2
    go_loopw [5, 14] (fun a i wr => ∃ k n : Nat, i = .int .i64 k ∧ a = .int .u32 n ∧ k ≤ 4 ∧ Hid (accB (pieces 46 s.data.toList) k = some n) ∧ Env wr ∧ wr.heap[w.heap.size]? = some (.cells (L.map Value.string).toArray 9 (0, 0)) ∧ Below w.heap.size w wr) (fun _ i _ => 4 - (intOf i).toNat)
    case atStart => exact ⟨0, 0, rfl, rfl, by omega, (rfl : accB (pieces 46 s.data.toList) 0 = some 0), hE0, hk0, hb0⟩
    case round =>
      obtain ⟨k, n, rfl, rfl, hk, hacc, hEr, hblk, hbr⟩ := hrel
      by_cases hlt : k < 4
      · obtain ⟨x, hx⟩ : ∃ x, L[k]? = some x := ⟨_, List.getElem?_eq_getElem (by have := hL4.out; omega)⟩
        have hc := cells_str hblk hx
        have hI : (k : Int) < 4 := by omega
        have hI0 : (0 : Int) ≤ k := by omega
        have HX := Lib.hid hx
        have hxs := HS.out k x hx
        have hpx := Lib.hid (HE.out k x hx)
        clear hx
        go_wp2_with fail
        refine (number_any x 255 (by omega) wr hEr hxs).mono ?_
        rintro e w2 ⟨⟨y, rfl, hy⟩, hb2⟩
        have hbw := hbr.trans (hb2.mono hbr.size)
        have hE2 := hEr.below hb2
        have hblk2 := blk_below hb2 hblk
        have hn24 : n < 16777216 := by
          have h1 := accB_lt hacc.out hk
          have h2 : (256 : Nat) ^ k ≤ 256 ^ 3 := Nat.pow_le_pow_right (by decide) (by omega)
          omega
        cases hrd : readB x.data.toList 255 with
        | none =>
          have hz := Lib.hid (show parseB s.data.toList = none by rw [hQ.out]; exact accB_none hpx.out hrd 4 hlt)
          clear hrd hy
          go_wp2
          go_ret2
          exact ⟨by rw [hz.out]; rfl, hbw⟩
        | some v =>
          obtain rfl := hy v hrd
          have hv := readB_le hrd
          have hstep := Lib.hid (accB_step hacc.out hpx.out hrd)
          have hor := or_byte n v hn24 (by omega)
          have hor' := Lib.hid (or_byte' n v hn24 (by omega))
          clear hrd hy
          go_wp2
          go_roundw
          case rel => exact ⟨k + 1, n * 256 + v, by go_num, by first | rw [hor] | rw [hor'.out], by omega, hstep.out, hE2, hblk2, hbw⟩
          case measure =>
            change 4 - (intOf (Value.int .i64 ((k : Int) + 1))).toNat < 4 - (intOf (Value.int .i64 (k : Int))).toNat
            simp only [intOf]
            omega
      · obtain rfl : k = 4 := by omega
        have hz := Lib.hid (show parseB s.data.toList = some n by rw [hQ.out]; exact hacc.out)
        go_wp2
        go_ret2
        exact ⟨by rw [hz.out]; rfl, hbr⟩
  · have hz := Lib.hid (parseB_not (l := s.data.toList) (by omega))
    have hd : ((N : Int) != 4) = true := by simp; omega
    clear hP hN hl
    generalize w.alloc (.cells (L.map Value.string).toArray 9) = W at hb0 hE0 hk0 hS
    go_enter Tryz.func35, Tryz.ntmps35
    go_wp2_with fail
    refine hS.mono ?_
    rintro e w1 ⟨rfl, rfl⟩
    go_wp2
    go_ret2
    exact ⟨by rw [hz.out]; rfl, hb0⟩
end Go.Proofs.YtlhafehhkjjchaaGreatDoor

/-
  Walks over the addresses' layer: Mask, Bits, Subnet; the program's and the reference's.
-/
namespace Go.Proofs.YtlhafehhkjjchaaGreatDoor
open Go Go.RowKit Go.Sort

/-- The mask of so many bits, and the refusal. -/
def maskA (n : Int) : Int := if n < 0 ∨ 32 < n then 0 else 4294967296 - sz n
def argE (n : Int) : Int := if n < 0 ∨ 32 < n then 1 else 0
theorem mask_no {n : Int} (h : n < 0 ∨ 32 < n) : maskA n = 0 ∧ argE n = 1 := ⟨if_pos h, if_pos h⟩
theorem mask_yes {n : Int} (h0 : 0 ≤ n) (h1 : n ≤ 32) : maskA n = 4294967296 - sz n ∧ argE n = 0 := ⟨if_neg (by omega), if_neg (by omega)⟩
theorem ret2 {v v' u u' : Value} (h : v = v' ∧ u = u') : Ending.returned (.tuple #[v, u]) = .returned (.tuple #[v', u']) := by rw [h.1, h.2]
theorem vint {k : IntKind} {a b : Int} (h : a = b) : Value.int k a = .int k b := by rw [h]

theorem mask_range (n : Int) : 0 ≤ maskA n ∧ maskA n < 4294967296 := by
  unfold maskA
  have hp := sz_pos n
  have hq := sz_le n
  split <;> omega
/-- Of how many bits a mask is, and the refusal. -/
def bitsN (m : Int) : Int := if maskA (lz32 (4294967295 - m)) = m then lz32 (4294967295 - m) else 0
def bitsE (m : Int) : Int := if maskA (lz32 (4294967295 - m)) = m then 0 else 10
theorem bits_yes {m : Int} (h : maskA (lz32 (4294967295 - m)) = m) : bitsN m = lz32 (4294967295 - m) ∧ bitsE m = 0 := ⟨if_pos h, if_pos h⟩
theorem bits_no {m : Int} (h : ¬ maskA (lz32 (4294967295 - m)) = m) : bitsN m = 0 ∧ bitsE m = 10 := ⟨if_neg h, if_neg h⟩
theorem mask_lz (n : Int) (h0 : 0 ≤ n) (h1 : n ≤ 32) : lz32 (4294967295 - maskA n) = n := by
  rw [(mask_yes h0 h1).1, show 4294967295 - (4294967296 - sz n) = sz n - 1 by omega]
  exact lz32_mask n h0 h1

end Go.Proofs.YtlhafehhkjjchaaGreatDoor

/-
  Walks over the addresses' layer: Subnet, Ends; the program's and the reference's.
-/
namespace Go.Proofs.YtlhafehhkjjchaaGreatDoor
open Go Go.RowKit Go.Sort

/-- The first address of a subnet of so many bits. -/
def subA (a n : Int) : Int := if n < 0 ∨ 32 < n then 0 else a - a % sz n
def subN (n : Int) : Int := if n < 0 ∨ 32 < n then 0 else n
theorem sub_no {n : Int} (a : Int) (h : n < 0 ∨ 32 < n) : subA a n = 0 ∧ subN n = 0 ∧ argE n = 1 := ⟨if_pos h, if_pos h, if_pos h⟩
theorem sub_yes {n : Int} (a : Int) (h0 : 0 ≤ n) (h1 : n ≤ 32) : subA a n = a - a % sz n ∧ subN n = n ∧ argE n = 0 := ⟨if_neg (by omega), if_neg (by omega), if_neg (by omega)⟩
theorem mod_le (a n : Int) (h0 : 0 ≤ a) : 0 ≤ a % sz n ∧ a % sz n ≤ a ∧ a % sz n < sz n ∧ a / sz n * sz n = a - a % sz n ∧ 0 ≤ a / sz n := by
  have hp := sz_pos n
  have l1 := Int.emod_nonneg a (by omega : sz n ≠ 0)
  have l2 := Int.emod_lt_of_pos a (by omega : 0 < sz n)
  have e1 := Int.emod_add_mul_ediv a (sz n)
  have e3 := Int.ediv_nonneg h0 (by omega : 0 ≤ sz n)
  have e2 := Int.mul_nonneg (by omega : 0 ≤ sz n) e3
  rw [Int.mul_comm (a / sz n)]
  omega
theorem sub_range (a n : Int) (h0 : 0 ≤ a) (h1 : a < 4294967296) : 0 ≤ subA a n ∧ subA a n < 4294967296 := by
  unfold subA
  obtain ⟨m1, m2, _⟩ := mod_le a n h0
  split <;> omega
theorem sub_val (a n : Int) (h0 : 0 ≤ a) (h1 : a < 4294967296) : IntKind.u32.wrap (IntKind.u64.wrap (IntKind.u64.wrap ((IntKind.u64.wrap a).tdiv (sz n)) * sz n)) = a - a % sz n := by
  have hp := sz_pos n
  obtain ⟨m1, m2, m3, m4, m5⟩ := mod_le a n h0
  have e1 : IntKind.u64.wrap a = a := by rw [IntKind.wrap_u64]; omega
  have m6 : a / sz n ≤ a := Int.ediv_le_self _ h0
  rw [e1, Int.tdiv_eq_ediv_of_nonneg h0]
  have e2 : IntKind.u64.wrap (a / sz n) = a / sz n := by rw [IntKind.wrap_u64]; omega
  rw [e2, m4, IntKind.wrap_u64, IntKind.wrap_u32']
  omega
theorem ret_p2 {a a' n n' e e' : Int} (h : a = a' ∧ n = n' ∧ e = e') : Ending.returned (.tuple #[.agg #[.int .u32 a, .int .i64 n], .int .i64 e]) = .returned (.tuple #[.agg #[.int .u32 a', .int .i64 n'], .int .i64 e']) := by rw [h.1, h.2.1, h.2.2]

/-- The last address of a prefix that may be. -/
def endA (a n : Int) : Int := if chk a n = 0 then a else 0
def endB (a n : Int) : Int := if chk a n = 0 then a + sz n - 1 else 0
theorem end_yes {a n : Int} (h : chk a n = 0) : endA a n = a ∧ endB a n = a + sz n - 1 := ⟨if_pos h, if_pos h⟩
theorem end_no {a n : Int} (h : ¬ chk a n = 0) : endA a n = 0 ∧ endB a n = 0 := ⟨if_neg h, if_neg h⟩
theorem ret3 {v v' u u' x x' : Value} (h : v = v' ∧ u = u' ∧ x = x') : Ending.returned (.tuple #[v, u, x]) = .returned (.tuple #[v', u', x']) := by rw [h.1, h.2.1, h.2.2]
theorem or_sz (a n : Int) (ha : 0 ≤ a) (hb : a < 4294967296) (h : a % sz n = 0) : bits .or .u32 a (sz n - 1) = a + sz n - 1 := by
  obtain ⟨a, rfl⟩ := Int.eq_ofNat_of_zero_le ha
  have hp := sz_pos n
  have hq := sz_le n
  rw [u32_or _ _ ha hb (by omega) (by omega), sz_nat]
  have e : (((2 ^ (32 - n.toNat) : Nat) : Int) - 1).toNat = 2 ^ (32 - n.toNat) - 1 := by omega
  have hm : a % 2 ^ (32 - n.toNat) = 0 := by rw [sz_nat] at h; omega
  have h2 := Nat.two_pow_pos (32 - n.toNat)
  rw [e, Int.toNat_natCast, nat_join (32 - n.toNat) a _ hm (by omega)]
  omega
theorem end_le (a n : Int) (hb : a < 4294967296) (h : a % sz n = 0) : a + sz n - 1 < 4294967296 := by
  obtain ⟨c, hc⟩ := sz_dvd n
  have hp := sz_pos n
  have e1 := Int.emod_add_mul_ediv a (sz n)
  rw [h] at e1
  have : sz n * (a / sz n) < sz n * c := by omega
  have h3 : a / sz n < c := Int.lt_of_mul_lt_mul_left this (by omega)
  have h4 : sz n * (a / sz n + 1) ≤ sz n * c := Int.mul_le_mul_of_nonneg_left (by omega) (by omega)
  rw [Int.mul_add] at h4
  omega

end Go.Proofs.YtlhafehhkjjchaaGreatDoor

/-
  Walks over the addresses' texts: Text, PrefixText, ParsePrefix.
-/
namespace Go.Proofs.YtlhafehhkjjchaaGreatDoor
open Go Go.RowKit Go.Sort

/-- The four numbers of an address. -/
def octet (a k : Nat) : Nat := a / 256 ^ (3 - k) % 256
theorem octet_lt (a k : Nat) : octet a k < 256 := Nat.mod_lt _ (by decide)
/-- The cells of the array while it is filled. -/
def octs (a k : Nat) : List ByteArray := (List.range 4).map fun i => if i < k then ⟨(Lib.decDigits (octet a i)).toArray⟩ else ByteArray.empty
theorem octs_len (a k : Nat) : (octs a k).length = 4 := by simp [octs]
theorem octs_full (a : Nat) : (octs a 4).map (·.data.toList) = [Lib.decDigits (octet a 0), Lib.decDigits (octet a 1), Lib.decDigits (octet a 2), Lib.decDigits (octet a 3)] := rfl
theorem octs_set (a k : Nat) (hk : k < 4) : (((octs a k).map Value.string).toArray).setIfInBounds k (.string ⟨(Lib.decDigits (octet a k)).toArray⟩) = ((octs a (k + 1)).map Value.string).toArray := by
  match k, hk with
  | 0, _ => rfl
  | 1, _ => rfl
  | 2, _ => rfl
  | 3, _ => rfl
/-- An address's text. -/
def textA (a : Nat) : ByteArray := ⟨(Lib.join [Lib.decDigits (octet a 0), Lib.decDigits (octet a 1), Lib.decDigits (octet a 2), Lib.decDigits (octet a 3)] [46]).toArray⟩

theorem frozen_row {w : World} {g : Nat} {cs : Array Value} {t : TypeId} (h : w.heap[g]? = some (.cells cs t (0, 0))) (k : Nat) : w.frozen? ⟨g, k, none⟩ = false := by
  unfold World.frozen?
  simp [h]
theorem and_255 (x : Int) (h0 : 0 ≤ x) (h1 : x < 4294967296) : bits .and .u32 x 255 = x % 256 := by
  obtain ⟨x, rfl⟩ := Int.eq_ofNat_of_zero_le h0
  rw [u32_and _ _ h0 h1 (by omega) (by omega), Int.toNat_natCast]
  have := Nat.and_two_pow_sub_one_eq_mod x 8
  rw [show (255 : Int).toNat = 2 ^ 8 - 1 from rfl, this]
  rfl
theorem wrap_small {x : Int} (h0 : 0 ≤ x) (h1 : x < 256) : wrap64 x = x := by
  unfold wrap64; omega
theorem env_set {w wr : World} (h : Env w) (hb : Below w.heap.size w wr) : Env wr := h.below hb
/-- A numeral of a number below 1000, written out. -/
def dec3 (n : Nat) : List UInt8 := if n < 10 then [UInt8.ofNat (48 + n)] else if n < 100 then [UInt8.ofNat (48 + n / 10), UInt8.ofNat (48 + n % 10)] else [UInt8.ofNat (48 + n / 100), UInt8.ofNat (48 + n / 10 % 10), UInt8.ofNat (48 + n % 10)]
theorem dec3_eq {n : Nat} (h : n < 1000) : Lib.decDigits n = dec3 n := by
  unfold dec3
  split
  · rename_i h1; exact decDigits_small h1
  · split
    · rename_i h1 h2; exact Lib.decDigits_two h1 h2
    · rename_i h1 h2
      rw [decDigits_big h1, Lib.decDigits_two (by omega) (by omega), Nat.div_div_eq_div_mul]
      rfl
theorem dec3_len (n : Nat) : (dec3 n).length ≤ 3 := by unfold dec3; split; · simp
                                                       · split <;> simp
theorem join_four (a b c d : List UInt8) : Lib.join [a, b, c, d] [46] = a ++ (46 :: (b ++ (46 :: (c ++ (46 :: d))))) := by
  rw [Lib.join_cons]
  simp [Lib.joinTail]
theorem join_oct (a : Nat) : (Lib.join ((octs a 4).map (·.data.toList)) [46]).length ≤ 15 := by
  rw [octs_full, join_four, dec3_eq (Nat.lt_trans (octet_lt a 0) (by decide)), dec3_eq (Nat.lt_trans (octet_lt a 1) (by decide)), dec3_eq (Nat.lt_trans (octet_lt a 2) (by decide)), dec3_eq (Nat.lt_trans (octet_lt a 3) (by decide))]
  have := dec3_len (octet a 0); have := dec3_len (octet a 1); have := dec3_len (octet a 2); have := dec3_len (octet a 3)
  simp only [List.length_append, List.length_cons]
  omega
theorem textA_eq (a : Nat) : textA a = ⟨(dec3 (octet a 0) ++ (46 :: (dec3 (octet a 1) ++ (46 :: (dec3 (octet a 2) ++ (46 :: dec3 (octet a 3)))))) : List UInt8).toArray⟩ := by
  unfold textA
  rw [join_four, dec3_eq (Nat.lt_trans (octet_lt a 0) (by decide)), dec3_eq (Nat.lt_trans (octet_lt a 1) (by decide)), dec3_eq (Nat.lt_trans (octet_lt a 2) (by decide)), dec3_eq (Nat.lt_trans (octet_lt a 3) (by decide))]
theorem textA_size (a : Nat) : (textA a).size ≤ 15 := join_oct a
set_option maxHeartbeats 1000000 in
theorem addrText_any (a : Nat) (ha : a < 4294967296) (w : World) (hE : Env w) :
    Calls Tryz.prog 29 #[.int .u32 a] w fun e w' => e = .returned (.string (textA a)) ∧ Below w.heap.size w w' := by
  go_enter Tryz.func29, Tryz.ntmps29
  go_wp2
  go_loopw [5] (fun i wr => ∃ k : Nat, i = .int .i64 k ∧ k ≤ 4 ∧ wr.heap[w.heap.size]? = some (.cells ((octs a k).map Value.string).toArray 81 (0, 0)) ∧ Env wr ∧ Below w.heap.size w wr) (fun i _ => 4 - (intOf i).toNat)
  case atStart => exact ⟨0, rfl, by omega, heap_alloc_new w _, hE.below ((Below.refl _ _).alloc (Nat.le_refl _) _), (Below.refl _ _).alloc (Nat.le_refl _) _⟩
  case round =>
    obtain ⟨k, rfl, hk, hblk, hEr, hbr⟩ := hrel
    by_cases hlt : k < 4
    · have hI : (k : Int) < 4 := by omega
      rcases (show k = 0 ∨ k = 1 ∨ k = 2 ∨ k = 3 by omega) with rfl | rfl | rfl | rfl
      · go_wp2_with fail
        rw [show wrap64 (bits .and .u32 ((a : Int) / 16777216) 255) = (octet a 0 : Int) from by rw [and_255 _ (by omega) (by omega)]; unfold octet; rw [wrap_small (by omega) (by omega)]; simp]
        have hi : Lib.itoa (octet a 0 : Int) = Lib.decDigits (octet a 0) := by unfold Lib.itoa; rw [if_neg (by omega), Int.toNat_natCast]
        have ho := octet_lt a 0
        refine (Tryz.strconv_Itoa (octet a 0) (by omega) (by omega) wr hEr.tab).mono ?_
        rintro e w2 ⟨rfl, hw⟩
        have hb2 := below_of_grow hw
        have hblk2 := blk_below hb2 hblk
        have hbw := hbr.trans (hb2.mono hbr.size)
        have hE2 := hEr.below hb2
        have hc := cells_str hblk2 (k := 0) (x := ByteArray.empty) rfl
        have hfz := frozen_row hblk2 0
        rw [hi]
        clear hw hi ho
        go_wp2
        go_roundw
        case rel =>
          refine ⟨1, rfl, by omega, ?_, hE.below (hbw.setCell (Nat.le_refl _) _), hbw.setCell (Nat.le_refl _) _⟩
          rw [heap_setCell_same _ _ _ _ _ _ hblk2, octs_set a 0 (by omega)]
        case measure =>
          change 4 - (intOf (Value.int .i64 1)).toNat < 4 - (intOf (Value.int .i64 (((0 : Nat)) : Int))).toNat
          simp only [intOf]
          omega
      · go_wp2_with fail
        rw [show wrap64 (bits .and .u32 ((a : Int) / 65536) 255) = (octet a 1 : Int) from by rw [and_255 _ (by omega) (by omega)]; unfold octet; rw [wrap_small (by omega) (by omega)]; simp]
        have hi : Lib.itoa (octet a 1 : Int) = Lib.decDigits (octet a 1) := by unfold Lib.itoa; rw [if_neg (by omega), Int.toNat_natCast]
        have ho := octet_lt a 1
        refine (Tryz.strconv_Itoa (octet a 1) (by omega) (by omega) wr hEr.tab).mono ?_
        rintro e w2 ⟨rfl, hw⟩
        have hb2 := below_of_grow hw
        have hblk2 := blk_below hb2 hblk
        have hbw := hbr.trans (hb2.mono hbr.size)
        have hE2 := hEr.below hb2
        have hc := cells_str hblk2 (k := 1) (x := ByteArray.empty) rfl
        have hfz := frozen_row hblk2 1
        rw [hi]
        clear hw hi ho
        go_wp2
        go_roundw
        case rel =>
          refine ⟨2, rfl, by omega, ?_, hE.below (hbw.setCell (Nat.le_refl _) _), hbw.setCell (Nat.le_refl _) _⟩
          rw [heap_setCell_same _ _ _ _ _ _ hblk2, octs_set a 1 (by omega)]
        case measure =>
          change 4 - (intOf (Value.int .i64 2)).toNat < 4 - (intOf (Value.int .i64 (((1 : Nat)) : Int))).toNat
          simp only [intOf]
          omega
      · go_wp2_with fail
        rw [show wrap64 (bits .and .u32 ((a : Int) / 256) 255) = (octet a 2 : Int) from by rw [and_255 _ (by omega) (by omega)]; unfold octet; rw [wrap_small (by omega) (by omega)]; simp]
        have hi : Lib.itoa (octet a 2 : Int) = Lib.decDigits (octet a 2) := by unfold Lib.itoa; rw [if_neg (by omega), Int.toNat_natCast]
        have ho := octet_lt a 2
        refine (Tryz.strconv_Itoa (octet a 2) (by omega) (by omega) wr hEr.tab).mono ?_
        rintro e w2 ⟨rfl, hw⟩
        have hb2 := below_of_grow hw
        have hblk2 := blk_below hb2 hblk
        have hbw := hbr.trans (hb2.mono hbr.size)
        have hE2 := hEr.below hb2
        have hc := cells_str hblk2 (k := 2) (x := ByteArray.empty) rfl
        have hfz := frozen_row hblk2 2
        rw [hi]
        clear hw hi ho
        go_wp2
        go_roundw
        case rel =>
          refine ⟨3, rfl, by omega, ?_, hE.below (hbw.setCell (Nat.le_refl _) _), hbw.setCell (Nat.le_refl _) _⟩
          rw [heap_setCell_same _ _ _ _ _ _ hblk2, octs_set a 2 (by omega)]
        case measure =>
          change 4 - (intOf (Value.int .i64 3)).toNat < 4 - (intOf (Value.int .i64 (((2 : Nat)) : Int))).toNat
          simp only [intOf]
          omega
      · go_wp2_with fail
        rw [show wrap64 (bits .and .u32 (a : Int) 255) = (octet a 3 : Int) from by rw [and_255 _ (by omega) (by omega)]; unfold octet; rw [wrap_small (by omega) (by omega)]; simp]
        have hi : Lib.itoa (octet a 3 : Int) = Lib.decDigits (octet a 3) := by unfold Lib.itoa; rw [if_neg (by omega), Int.toNat_natCast]
        have ho := octet_lt a 3
        refine (Tryz.strconv_Itoa (octet a 3) (by omega) (by omega) wr hEr.tab).mono ?_
        rintro e w2 ⟨rfl, hw⟩
        have hb2 := below_of_grow hw
        have hblk2 := blk_below hb2 hblk
        have hbw := hbr.trans (hb2.mono hbr.size)
        have hE2 := hEr.below hb2
        have hc := cells_str hblk2 (k := 3) (x := ByteArray.empty) rfl
        have hfz := frozen_row hblk2 3
        rw [hi]
        clear hw hi ho
        go_wp2
        go_roundw
        case rel =>
          refine ⟨4, rfl, by omega, ?_, hE.below (hbw.setCell (Nat.le_refl _) _), hbw.setCell (Nat.le_refl _) _⟩
          rw [heap_setCell_same _ _ _ _ _ _ hblk2, octs_set a 3 (by omega)]
        case measure =>
          change 4 - (intOf (Value.int .i64 4)).toNat < 4 - (intOf (Value.int .i64 (((3 : Nat)) : Int))).toNat
          simp only [intOf]
          omega
    · obtain rfl : k = 4 := by omega
      have hsz : w.heap.size < wr.heap.size := lt_of_block hblk
      have hlen : (Lib.join ((octs a 4).map (·.data.toList)) [46]).length ≤ 140737488355328 := Nat.le_trans (join_oct a) (by decide)
      go_wp2_with fail
      refine (Tryz.strings_Join w.heap.size 0 4 (octs a 4) ⟨#[46]⟩ wr (fun j x hj => by rw [Nat.zero_add]; exact cells_str hblk hj) hsz (by simp [octs]) (by simp [octs]) hlen).mono ?_
      rintro e w2 ⟨rfl, hb2⟩
      have hbw := hbr.trans (hb2.mono hbr.size)
      go_wp2
      go_ret
      exact ⟨rfl, hbw⟩

/-- A prefix's text. -/
def textP (a : Nat) (n : Int) : ByteArray := textA a ++ ⟨#[47]⟩ ++ ⟨(Lib.itoa n).toArray⟩
set_option maxHeartbeats 1000000 in
theorem prefixText_any (a : Nat) (n : Int) (ha : a < 4294967296) (h0 : -9223372036854775808 ≤ n) (h1 : n ≤ 9223372036854775807) (w : World) (hE : Env w) :
    Calls Tryz.prog 27 #[.agg #[.int .u32 a, .int .i64 n]] w fun e w' => e = .returned (.string (textP a n)) ∧ Below w.heap.size w w' := by
  have hZ := textA_size a
  have hI := Lib.itoa_length_le n h0 h1
  go_enter Tryz.func27, Tryz.ntmps27
  go_wp2
  have c0 : (w.alloc (.cells #[.int .u32 a, .int .i64 n] 25)).cell? ⟨w.heap.size, 0, none⟩ = some (.int .u32 a) := by simp
  have c1 : (w.alloc (.cells #[.int .u32 a, .int .i64 n] 25)).cell? ⟨w.heap.size, 1, none⟩ = some (.int .i64 n) := by simp
  have hbW : Below w.heap.size w (w.alloc (.cells #[.int .u32 a, .int .i64 n] 25)) := (Below.refl _ _).alloc (Nat.le_refl _) _
  have hEW := hE.below hbW
  generalize w.alloc (.cells #[.int .u32 a, .int .i64 n] 25) = W at *
  have F0 := cell_regrown c0
  have F1 := cell_regrown c1
  refine wp_region_quiet_below (by kernel_rfl) (by kernel_rfl) ?_
  repeat (first | go_big_quiet_step ((first | (go_at_call 29; exact Calls.regrown_of (addrText_any _ (by omega) _ (hEW.below (below_regrown W _ _)))) | (go_at_call 28; exact Calls.regrown_of ((Tryz.strconv_Itoa _ (by omega) (by omega) _ (hEW.below (below_regrown W _ _)).tab).mono fun _ _ h => ⟨h.1, below_of_grow h.2⟩)))) | quiet_step ((first | (go_at_call 29; exact Calls.regrown_of (addrText_any _ (by omega) _ (hEW.below (below_regrown W _ _)))) | (go_at_call 28; exact Calls.regrown_of ((Tryz.strconv_Itoa _ (by omega) (by omega) _ (hEW.below (below_regrown W _ _)).tab).mono fun _ _ h => ⟨h.1, below_of_grow h.2⟩)))))
  refine wpQuiet_nil ?_
  intro _ hw'
  obtain ⟨⟨nq, osq⟩, hw''⟩ := hw'
  subst hw''
  go_wp2
  go_ret
  exact ⟨rfl, (hbW.trans ((below_regrown W nq osq).mono hbW.size))⟩
end Go.Proofs.YtlhafehhkjjchaaGreatDoor

/-
  Walks over the addresses' layer: Halves; the program's and the reference's.
-/
namespace Go.Proofs.YtlhafehhkjjchaaGreatDoor
open Go Go.RowKit Go.Sort

/-- The halves of a prefix: the refusal, where they begin, their bits. -/
def halfE (a n : Int) : Int := if chk a n = 0 then (if n = 32 then 5 else 0) else chk a n
def halfL (a n : Int) : Int := if halfE a n = 0 then a else 0
def halfH (a n : Int) : Int := if halfE a n = 0 then a + sz (n + 1) else 0
def halfN (a n : Int) : Int := if halfE a n = 0 then n + 1 else 0
theorem half_no {a n : Int} (h : ¬ halfE a n = 0) : halfL a n = 0 ∧ halfH a n = 0 ∧ halfN a n = 0 := ⟨if_neg h, if_neg h, if_neg h⟩
theorem half_yes {a n : Int} (h : halfE a n = 0) : halfL a n = a ∧ halfH a n = a + sz (n + 1) ∧ halfN a n = n + 1 := ⟨if_pos h, if_pos h, if_pos h⟩
theorem halfE_chk {a n : Int} (h : ¬ chk a n = 0) : halfE a n = chk a n := if_neg h
theorem halfE_32 {a n : Int} (h : chk a n = 0) (h1 : n = 32) : halfE a n = 5 := by unfold halfE; rw [if_pos h, if_pos h1]
theorem halfE_ok {a n : Int} (h : chk a n = 0) (h1 : ¬ n = 32) : halfE a n = 0 := by unfold halfE; rw [if_pos h, if_neg h1]
theorem ret_pp {a a' b b' n n' e e' : Int} (h : a = a' ∧ b = b' ∧ n = n' ∧ e = e') : Ending.returned (.tuple #[.agg #[.int .u32 a, .int .i64 n], .agg #[.int .u32 b, .int .i64 n], .int .i64 e]) = .returned (.tuple #[.agg #[.int .u32 a', .int .i64 n'], .agg #[.int .u32 b', .int .i64 n'], .int .i64 e']) := by rw [h.1, h.2.1, h.2.2.1, h.2.2.2]

theorem half_le (a n : Int) (hb : a < 4294967296) (hn0 : 0 ≤ n) (hn : n < 32) (h : a % sz n = 0) : sz n = 2 * sz (n + 1) ∧ a + sz (n + 1) < 4294967296 := by
  have e : sz n = 2 * sz (n + 1) := by
    unfold sz
    rw [← p2_succ]
    congr 1; omega
  have h1 := end_le a n hb h
  have := sz_pos (n + 1)
  omega
theorem or_half (a n : Int) (ha : 0 ≤ a) (hb : a < 4294967296) (hn0 : 0 ≤ n) (hn : n < 32) (h : a % sz n = 0) : bits .or .u32 a (2 ^ (31 - n).toNat % 4294967296) = a + sz (n + 1) := by
  obtain ⟨a, rfl⟩ := Int.eq_ofNat_of_zero_le ha
  have e1 : (31 - n).toNat = 32 - (n + 1).toNat := by omega
  have e2 : (2 : Int) ^ (31 - n).toNat = sz (n + 1) := by rw [e1]; rfl
  have hp := sz_pos (n + 1)
  have e3 : sz (n + 1) < 4294967296 := by
    have := p2_succ (32 - (n + 1).toNat)
    have h3 := p2_le32 (k := 32 - (n + 1).toNat + 1) (by omega)
    unfold sz at *
    omega
  rw [e2, Int.emod_eq_of_lt (by omega) e3, u32_or _ _ ha hb (by omega) e3, sz_nat]
  have h2 := Nat.two_pow_pos (32 - (n + 1).toNat)
  have hm : a % 2 ^ (32 - n.toNat) = 0 := by rw [sz_nat] at h; omega
  rw [Int.toNat_natCast, Int.toNat_natCast, nat_join (32 - n.toNat) a _ hm (by
    rw [show 32 - n.toNat = (32 - (n + 1).toNat) + 1 by omega, Nat.pow_succ]; omega)]
  omega

theorem half_val (a n : Int) (ha : 0 ≤ a) (hb : a < 4294967296) (hn0 : 0 ≤ n) (hn : n < 32) (h : a % sz n = 0) : IntKind.u32.wrap (IntKind.u64.wrap (IntKind.u64.wrap a + sz (n + 1))) = a + sz (n + 1) := by
  have h1 := half_le a n hb hn0 hn h
  have := sz_pos (n + 1)
  simp only [IntKind.wrap_u64, IntKind.wrap_u32']
  omega
theorem results_pp {fn : Func} {tmps : Array Value} {w : World} {g1 g2 : Nat} {a b c d e : Value} {t1 t2 t3 : Nat} (hf : fn.results = #[.cell t1 25, .cell t2 25, .tmp t3]) (h1 : tmps.getD t1 undef = .pointer (some ⟨g1, 0, none⟩)) (h2 : tmps.getD t2 undef = .pointer (some ⟨g2, 0, none⟩)) (h3 : tmps.getD t3 undef = e)
    (k1 : w.heap[g1]? = some (.cells #[a, b] 25 (0, 0))) (k2 : w.heap[g2]? = some (.cells #[c, d] 25 (0, 0))) :
    (results fn tmps).run Tryz.prog w = .ok (.tuple #[.agg #[a, b], .agg #[c, d], e]) w := by
  obtain ⟨c0, c1, _, _⟩ := two_cells k1
  obtain ⟨c2, c3, _, _⟩ := two_cells k2
  have h1' : tmps[t1]?.getD undef = .pointer (some ⟨g1, 0, none⟩) := by simpa using h1
  have h2' : tmps[t2]?.getD undef = .pointer (some ⟨g2, 0, none⟩) := by simpa using h2
  have h3' : tmps[t3]?.getD undef = e := by simpa using h3
  simp [results, hf, h1', h2', h3', go_sem, c0, c1, c2, c3]

def HalfRes (a n : Int) (w : World) (en : Ending) (w' : World) : Prop :=
  en = .returned (.tuple #[.agg #[.int .u32 (halfL a n), .int .i64 (halfN a n)], .agg #[.int .u32 (halfH a n), .int .i64 (halfN a n)], .int .i64 (halfE a n)]) ∧ Below w.heap.size w w'

end Go.Proofs.YtlhafehhkjjchaaGreatDoor
