/-
  Joined texts: Addr6, Addr7, Addr8, Ad4, Cut, Ad5, Addr9, InMath, CovMath, Ad6.
-/
import Derived.Test.YtehpkpjgkmbngaaGreatMLintNames12
import Derived.Test.YtehpkpjgkmbngaaGreatMLintNames4
import Derived.Test.YtehpkpjgkmbngaaGreatMLintNames3
import Derived.Test.YtehpkpjgkmbngaaGreatMLintNames1
import Derived.Deep.RegionHeld3
/-
  Walks over the addresses' layer: Within, Cmp, and the law's same; the program's and the reference's.
-/
namespace Go.Proofs.YtehpkpjgkmbngaaGreat
open Go Go.RowKit Go.Sort

/-- Is a prefix in another one? -/
def withinB (a n b m : Int) : Bool := decide (chk a n = 0 ∧ m ≤ n) && inB a b m
theorem within_1 {a n : Int} (b m : Int) (h : ¬ chk a n = 0) : false = withinB a n b m := by unfold withinB; simp [h]
theorem within_2 {n m : Int} (a b : Int) (h : ¬ m ≤ n) : false = withinB a n b m := by unfold withinB; simp [h]
theorem within_3 {a n b m : Int} (h : ¬ chk b m = 0) : false = withinB a n b m := by unfold withinB; rw [← in_no a b m h]; simp
theorem within_4 {a n b m : Int} (h : chk a n = 0) (h1 : m ≤ n) : inB a b m = withinB a n b m := by unfold withinB; simp [h, h1]

set_option maxHeartbeats 400000 in
theorem addrWithin_any (a n b m : Int) (w : World) (h0 : 0 ≤ a) (h1 : a < 4294967296) (h2 : 0 ≤ b) (h3 : b < 4294967296) :
    Calls Tryz.prog 60 #[.agg #[.int .u32 a, .int .i64 n], .agg #[.int .u32 b, .int .i64 m]] w fun e w' => e = .returned (.bool (withinB a n b m)) ∧ Below w.heap.size w w' := by
  by_cases hr : chk a n = 0
  · have hd : (chk a n == 0) = true := by simp [hr]
    by_cases hm : m ≤ n
    · have hE := Lib.hid (within_4 (b := b) hr hm)
      have hd2 : decide (m ≤ n) = true := by simp [hm]
      clear hr
      go_enter Tryz.func60, Tryz.ntmps60
      go_wp2_with fail
      refine (addrCheck_any _ _ _ h0 h1).mono ?_
      rintro e w1 ⟨rfl, hb1⟩
      obtain ⟨k0, k1⟩ := blk2 w (.cells #[.int .u32 a, .int .i64 n] 38) (.cells #[.int .u32 b, .int .i64 m] 38)
      have K0 := blk_below hb1 k0
      have K1 := blk_below hb1 k1
      obtain ⟨c0, c1, _, _⟩ := two_cells K0
      obtain ⟨c2, c3, _, _⟩ := two_cells K1
      have hbw1 := below_call (below2 w _ _) hb1
      have hsz1 := lt_of_block K1
      have HK0 := Lib.hid K0
      have HK1 := Lib.hid K1
      clear k0 k1 hb1 K0 K1
      go_wp2_with fail
      refine (addrIn_any _ _ _ _ h0 h1 h2 h3).mono ?_
      rintro e w2 ⟨rfl, hb2⟩
      have hbw2 := hbw1.trans (hb2.mono hbw1.size)
      go_wp2
      go_ret
      exact ⟨ret_bool hE.out, hbw2⟩
    · have hE := Lib.hid (within_2 a b hm)
      have hd2 : decide (m ≤ n) = false := by simp; omega
      clear hr
      go_enter Tryz.func60, Tryz.ntmps60
      go_wp2_with fail
      refine (addrCheck_any _ _ _ h0 h1).mono ?_
      rintro e w1 ⟨rfl, hb1⟩
      obtain ⟨k0, k1⟩ := blk2 w (.cells #[.int .u32 a, .int .i64 n] 38) (.cells #[.int .u32 b, .int .i64 m] 38)
      have K0 := blk_below hb1 k0
      have K1 := blk_below hb1 k1
      obtain ⟨c0, c1, _, _⟩ := two_cells K0
      obtain ⟨c2, c3, _, _⟩ := two_cells K1
      have hbw1 := below_call (below2 w _ _) hb1
      have hsz1 := lt_of_block K1
      have HK0 := Lib.hid K0
      have HK1 := Lib.hid K1
      clear k0 k1 hb1 K0 K1
      go_wp2
      go_ret
      exact ⟨ret_bool hE.out, hbw1⟩
  · have hd : (chk a n == 0) = false := by simp [hr]
    have hE := Lib.hid (within_1 b m hr)
    clear hr
    go_enter Tryz.func60, Tryz.ntmps60
    go_wp2_with fail
    refine (addrCheck_any _ _ _ h0 h1).mono ?_
    rintro e w1 ⟨rfl, hb1⟩
    obtain ⟨k0, k1⟩ := blk2 w (.cells #[.int .u32 a, .int .i64 n] 38) (.cells #[.int .u32 b, .int .i64 m] 38)
    have K0 := blk_below hb1 k0
    have K1 := blk_below hb1 k1
    obtain ⟨c0, c1, _, _⟩ := two_cells K0
    obtain ⟨c2, c3, _, _⟩ := two_cells K1
    have hbw1 := below_call (below2 w _ _) hb1
    have hsz1 := lt_of_block K1
    have HK0 := Lib.hid K0
    have HK1 := Lib.hid K1
    clear k0 k1 hb1 K0 K1
    go_wp2
    go_ret
    exact ⟨ret_bool hE.out, hbw1⟩

end Go.Proofs.YtehpkpjgkmbngaaGreat

/-
  Walks over the addresses' layer: Cmp, and the law's same.
-/
namespace Go.Proofs.YtehpkpjgkmbngaaGreat
open Go Go.RowKit Go.Sort

/-- The order of prefixes. -/
def cmpP (a n b m : Int) : Int := firstNZ [cmpI a b, cmpI n m]

end Go.Proofs.YtehpkpjgkmbngaaGreat

/-
  Walks over the addresses' layer: Common; the program's.
-/
namespace Go.Proofs.YtehpkpjgkmbngaaGreat
open Go Go.RowKit Go.Sort

/-- What two addresses have in common: the leading zeros of the bits in which they differ. -/
def xorI (a b : Int) : Int := ((a.toNat ^^^ b.toNat : Nat) : Int)
theorem xor_range (a b : Int) (h0 : 0 ≤ a) (h1 : a < 4294967296) (h2 : 0 ≤ b) (h3 : b < 4294967296) : 0 ≤ xorI a b ∧ xorI a b < 4294967296 := by
  unfold xorI
  have := Nat.xor_lt_two_pow (x := a.toNat) (y := b.toNat) (n := 32) (by omega) (by omega)
  omega
theorem xor_val (a b : Int) (h0 : 0 ≤ a) (h1 : a < 4294967296) (h2 : 0 ≤ b) (h3 : b < 4294967296) : bits .xor .u32 a b = xorI a b := u32_xor a b h0 h1 h2 h3
/-- The bits of what two prefixes have in common. -/
def comN (a n b m : Int) : Int := if lz32 (xorI a b) < (if m < n then m else n) then lz32 (xorI a b) else (if m < n then m else n)
theorem com_range {a b : Int} (n m : Int) (hn0 : 0 ≤ n) (hn1 : n ≤ 32) (hm0 : 0 ≤ m) (hm1 : m ≤ 32) (hl : 0 ≤ lz32 (xorI a b) ∧ lz32 (xorI a b) ≤ 32) : 0 ≤ comN a n b m ∧ comN a n b m ≤ 32 := by
  unfold comN
  split <;> split <;> omega
def comE (a n b m : Int) : Int := if chk a n = 0 then chk b m else chk a n
def comA (a n b m : Int) : Int := if comE a n b m = 0 then subA a (comN a n b m) else 0
def comB (a n b m : Int) : Int := if comE a n b m = 0 then comN a n b m else 0
theorem com_yes {a n b m : Int} (h : comE a n b m = 0) : comA a n b m = subA a (comN a n b m) ∧ comB a n b m = comN a n b m := ⟨if_pos h, if_pos h⟩
theorem com_no {a n b m : Int} (h : ¬ comE a n b m = 0) : comA a n b m = 0 ∧ comB a n b m = 0 := ⟨if_neg h, if_neg h⟩
theorem comE_1 {a n : Int} (b m : Int) (h : ¬ chk a n = 0) : comE a n b m = chk a n := if_neg h
theorem comE_2 {a n : Int} (b m : Int) (h : chk a n = 0) : comE a n b m = chk b m := if_pos h
theorem results_p {fn : Func} {tmps : Array Value} {w : World} {g : Nat} {a b e : Value} {t1 t3 : Nat} (hf : fn.results = #[.cell t1 38, .tmp t3]) (h1 : tmps.getD t1 undef = .pointer (some ⟨g, 0, none⟩)) (h3 : tmps.getD t3 undef = e)
    (k1 : w.heap[g]? = some (.cells #[a, b] 38 (0, 0))) :
    (results fn tmps).run Tryz.prog w = .ok (.tuple #[.agg #[a, b], e]) w := by
  obtain ⟨c0, c1, _, _⟩ := two_cells k1
  have h1' : tmps[t1]?.getD undef = .pointer (some ⟨g, 0, none⟩) := by simpa using h1
  have h3' : tmps[t3]?.getD undef = e := by simpa using h3
  simp [results, hf, h1', h3', go_sem, c0, c1]
def ComRes (a n b m : Int) (w : World) (en : Ending) (w' : World) : Prop :=
  en = .returned (.tuple #[.agg #[.int .u32 (comA a n b m), .int .i64 (comB a n b m)], .int .i64 (comE a n b m)]) ∧ Below w.heap.size w w'

end Go.Proofs.YtehpkpjgkmbngaaGreat

/-
  Walks over the addresses' texts: ParsePrefix.
-/
namespace Go.Proofs.YtehpkpjgkmbngaaGreat
open Go Go.RowKit Go.Sort

/-- The prefix that a text spells, its bits not yet asked. -/
def ppO (l : List UInt8) : Option (Nat × Nat) :=
  if (Lib.cut l [47]).2.2 = true then (parseB (Lib.cut l [47]).1).bind fun a => (readB (Lib.cut l [47]).2.1 32).map fun n => (a, n) else none
def ppE (l : List UInt8) : Int := match ppO l with | none => 4 | some (a, n) => chk a n
def ppA (l : List UInt8) : Int := match ppO l with | none => 0 | some (a, n) => if chk a n = 0 then a else 0
def ppN (l : List UInt8) : Int := match ppO l with | none => 0 | some (a, n) => if chk a n = 0 then n else 0
theorem pp_none {l : List UInt8} (h : ppO l = none) : ppE l = 4 ∧ ppA l = 0 ∧ ppN l = 0 := by unfold ppE ppA ppN; rw [h]; exact ⟨rfl, rfl, rfl⟩
theorem pp_no {l : List UInt8} {a n : Nat} (h : ppO l = some (a, n)) (hc : ¬ chk a n = 0) : ppE l = chk a n ∧ ppA l = 0 ∧ ppN l = 0 := by unfold ppE ppA ppN; rw [h]; exact ⟨rfl, if_neg hc, if_neg hc⟩
theorem pp_yes {l : List UInt8} {a n : Nat} (h : ppO l = some (a, n)) (hc : chk a n = 0) : ppE l = 0 ∧ ppA l = a ∧ ppN l = n := by unfold ppE ppA ppN; rw [h]; exact ⟨hc, if_pos hc, if_pos hc⟩
theorem cut_fst_len (l : List UInt8) (c : List UInt8) : (Lib.cut l c).1.length ≤ l.length := by
  unfold Lib.cut
  split
  · simp; omega
  · exact Nat.le_refl _
theorem cut_snd_len (l : List UInt8) (c : List UInt8) : (Lib.cut l c).2.1.length ≤ l.length := by
  unfold Lib.cut
  split
  · simp
  · simp

end Go.Proofs.YtehpkpjgkmbngaaGreat

/-
  The walk of the program's Cut and of its closure.
-/
namespace Go.Proofs.YtehpkpjgkmbngaaGreat
open Go Go.RowKit

theorem Tryz.infoPrefix : (Tryz.prog.info? 38).map (fun i => (i.zero, i.size, i.bytes)) = some (some (.agg #[.int .u32 0, .int .i64 0]), 2, 16) := by kernel_rfl

/-- The cells of a list of prefixes. -/
def pcells (L : List (Int × Int)) : List Value := L.flatMap fun p => [.int .u32 p.1, .int .i64 p.2]
theorem pcells_snoc (L : List (Int × Int)) (a n : Int) : pcells (L ++ [(a, n)]) = pcells L ++ [.int .u32 a, .int .i64 n] := by simp [pcells]

/-- The prefixes between two addresses. -/
def cutP (lo hi : Int) : List (Int × Int) := cutL (hi + 1) (hi + 1 - lo).toNat lo

/-- A new list of prefixes is handed back, with no error; nothing that was there has turned. -/
def CutRes (L : List (Int × Int)) (w : World) (en : Ending) (w' : World) : Prop :=
  ∃ v, en = .returned (.tuple #[v, .int .i64 0]) ∧ w'.ownsRow w.heap.size 38 2 v L.length (pcells L) ∧ Below w.heap.size w w'

end Go.Proofs.YtehpkpjgkmbngaaGreat

/-
  Walks over the addresses' laws: works.
-/
namespace Go.Proofs.YtehpkpjgkmbngaaGreat
open Go Go.RowKit Go.Sort

theorem le_up {w W : World} (h : Below w.heap.size w W) : w.heap.size ≤ W.heap.size := h.size
theorem sub_24 : subA 167838211 24 = 167838208 ∧ subN 24 = 24 ∧ argE 24 = 0 := by decide +kernel
theorem pp_8 : ppA [49, 48, 46, 48, 46, 48, 46, 48, 47, 56] = 167772160 ∧ ppN [49, 48, 46, 48, 46, 48, 46, 48, 47, 56] = 8 ∧ ppE [49, 48, 46, 48, 46, 48, 46, 48, 47, 56] = 0 := by decide +kernel
theorem pa_8 : parseB [49, 48, 46, 49, 46, 50, 46, 51] = some 167838211 := by decide +kernel
theorem cut_8 : (cutP 167838211 167838212).length = 2 := by decide +kernel
theorem text_8 : textA 167838211 = ⟨#[49, 48, 46, 49, 46, 50, 46, 51]⟩ := by rw [textA_eq]; decide +kernel
theorem textp_8 : textP 167838208 24 = ⟨#[49, 48, 46, 49, 46, 50, 46, 48, 47, 50, 52]⟩ := by
  unfold textP
  rw [textA_eq, show Lib.itoa 24 = Lib.decDigits 24 from rfl, dec3_eq (by omega)]
  decide +kernel
theorem in_8 : inB 167838211 167772160 8 = true ∧ withinB 167838208 24 167772160 8 = true ∧ withinB 167772160 8 167838208 24 = false := by decide +kernel
theorem works_in (w : World) : Calls Tryz.prog 85 #[.int .u32 167838211, .agg #[.int .u32 167772160, .int .i64 8]] w fun e w' => e = .returned (.bool true) ∧ Below w.heap.size w w' := by
  have h := addrIn_any 167838211 167772160 8 w (by omega) (by omega) (by omega) (by omega)
  rw [in_8.1] at h
  exact h
theorem works_w1 (w : World) : Calls Tryz.prog 60 #[.agg #[.int .u32 167838208, .int .i64 24], .agg #[.int .u32 167772160, .int .i64 8]] w fun e w' => e = .returned (.bool true) ∧ Below w.heap.size w w' := by
  have h := addrWithin_any 167838208 24 167772160 8 w (by omega) (by omega) (by omega) (by omega)
  rw [in_8.2.1] at h
  exact h
theorem works_w2 (w : World) : Calls Tryz.prog 60 #[.agg #[.int .u32 167772160, .int .i64 8], .agg #[.int .u32 167838208, .int .i64 24]] w fun e w' => e = .returned (.bool false) ∧ Below w.heap.size w w' := by
  have h := addrWithin_any 167772160 8 167838208 24 w (by omega) (by omega) (by omega) (by omega)
  rw [in_8.2.2] at h
  exact h

end Go.Proofs.YtehpkpjgkmbngaaGreat

/-
  Walks over the addresses' layer: Common; the reference's.
-/
namespace Go.Proofs.YtehpkpjgkmbngaaGreat
open Go Go.RowKit Go.Sort

theorem xor_zero (x y : Nat) : x = y ↔ x ^^^ y = 0 := by
  constructor
  · intro h; rw [h, Nat.xor_self]
  · intro h
    have : x ^^^ y ^^^ y = 0 ^^^ y := by rw [h]
    rwa [Nat.xor_assoc, Nat.xor_self, Nat.xor_zero, Nat.zero_xor] at this
theorem bitLen_up (x k : Nat) (hx : x < 2 ^ 64) (hk : k ≤ 64) (h : Lib.bitLen x ≤ k) : x < 2 ^ k := by
  induction k generalizing x with
  | zero =>
    rcases Nat.eq_zero_or_pos x with hz | hz
    · rw [hz]; decide
    · rw [Lib.bitLen_half x (by omega) hx] at h; omega
  | succ k ih =>
    rcases Nat.eq_zero_or_pos x with hz | hz
    · rw [hz]; exact Nat.two_pow_pos _
    · rw [Lib.bitLen_half x (by omega) hx] at h
      have := ih (x / 2) (by omega) (by omega) (by omega)
      rw [Nat.pow_succ]; omega
theorem sub_eq_iff (a b k : Int) (h0 : 0 ≤ a) (h1 : a < 4294967296) (h2 : 0 ≤ b) (h3 : b < 4294967296) (hk0 : 0 ≤ k) (hk : k ≤ 32) : a - a % sz k = b - b % sz k ↔ k ≤ lz32 (xorI a b) := by
  obtain ⟨a, rfl⟩ := Int.eq_ofNat_of_zero_le h0
  obtain ⟨b, rfl⟩ := Int.eq_ofNat_of_zero_le h2
  obtain ⟨k, rfl⟩ := Int.eq_ofNat_of_zero_le hk0
  have hp : 0 < 2 ^ (32 - k) := Nat.two_pow_pos _
  have e1 : sz ((k : Nat) : Int) = ((2 ^ (32 - k) : Nat) : Int) := by rw [sz_nat]; simp
  have hx : (a ^^^ b) < 2 ^ 32 := Nat.xor_lt_two_pow (by omega) (by omega)
  have s1 : (a - a % 2 ^ (32 - k) = b - b % 2 ^ (32 - k)) ↔ a / 2 ^ (32 - k) = b / 2 ^ (32 - k) := by
    have d1 := Nat.div_add_mod a (2 ^ (32 - k))
    have d2 := Nat.div_add_mod b (2 ^ (32 - k))
    constructor
    · intro h
      have : 2 ^ (32 - k) * (a / 2 ^ (32 - k)) = 2 ^ (32 - k) * (b / 2 ^ (32 - k)) := by omega
      exact Nat.eq_of_mul_eq_mul_left hp this
    · intro h
      have : 2 ^ (32 - k) * (a / 2 ^ (32 - k)) = 2 ^ (32 - k) * (b / 2 ^ (32 - k)) := by rw [h]
      omega
  have s2 : a / 2 ^ (32 - k) = b / 2 ^ (32 - k) ↔ (a ^^^ b) / 2 ^ (32 - k) = 0 := by
    rw [← Nat.shiftRight_eq_div_pow, ← Nat.shiftRight_eq_div_pow, ← Nat.shiftRight_eq_div_pow, Nat.shiftRight_xor_distrib, xor_zero]
  have s3 : (a ^^^ b) / 2 ^ (32 - k) = 0 ↔ a ^^^ b < 2 ^ (32 - k) := by
    rw [Nat.div_eq_zero_iff]
    constructor
    · intro h; rcases h with h | h
      · omega
      · exact h
    · intro h; exact .inr h
  have s4 : a ^^^ b < 2 ^ (32 - k) ↔ Lib.bitLen (a ^^^ b) ≤ 32 - k := by
    constructor
    · intro h; exact Lib.bitLen_le _ _ (by omega) h
    · intro h
      exact bitLen_up _ _ (Nat.lt_of_lt_of_le hx (Nat.pow_le_pow_right (by omega) (by omega))) (by omega) h
  have hm1 := Nat.mod_le a (2 ^ (32 - k))
  have hm2 := Nat.mod_le b (2 ^ (32 - k))
  unfold lz32 xorI
  rw [e1, Int.toNat_natCast, Int.toNat_natCast, Int.toNat_natCast, ← Int.natCast_emod, ← Int.natCast_emod]
  constructor
  · intro h
    have := s4.1 (s3.1 (s2.1 (s1.1 (by omega))))
    omega
  · intro h
    have := s1.2 (s2.2 (s3.2 (s4.2 (by omega))))
    omega
theorem dvd_sz (n k : Int) (hk0 : 0 ≤ k) (hkn : k ≤ n) (hn : n ≤ 32) : sz n ∣ sz k := by
  refine ⟨p2 ((n - k).toNat), ?_⟩
  unfold sz p2
  rw [← Int.pow_add]; congr 1; omega
theorem chk_sub (a k : Int) (hk0 : 0 ≤ k) (hk : k ≤ 32) : chk (subA a k) k = 0 := by
  refine chk_zero _ _ hk0 hk ?_
  rw [(sub_yes a hk0 hk).1, Int.sub_emod, Int.emod_emod_of_dvd _ (Int.dvd_refl _)]
  simp
/-- A prefix is in the subnet of so many bits of an address just if it has as many bits, and begins in it. -/
theorem within_sub (a b n k : Int) (h0 : 0 ≤ a) (h1 : a < 4294967296) (h2 : 0 ≤ b) (h3 : b < 4294967296) (hk0 : 0 ≤ k) (hk : k ≤ 32) (hc : chk b n = 0) :
    withinB b n (subA a k) k = decide (k ≤ n ∧ k ≤ lz32 (xorI a b)) := by
  have hp := sz_pos k
  have hi : inB b (subA a k) k = decide (k ≤ lz32 (xorI a b)) := by
    unfold inB
    rw [decide_eq_decide, ← sub_eq_iff a b k h0 h1 h2 h3 hk0 hk, (sub_yes a hk0 hk).1]
    obtain ⟨m1, m2, m3, m4, m5⟩ := mod_le a k h0
    obtain ⟨l1, l2, l3, l4, l5⟩ := mod_le b k h2
    constructor
    · intro ⟨_, h4, h5⟩
      have t1 : sz k * (a / sz k) ≤ b := by rw [Int.mul_comm]; omega
      have t2 : b < sz k * (a / sz k + 1) := by rw [Int.mul_add, Int.mul_comm]; omega
      have t3 : b / sz k = a / sz k := by
        have u1 : a / sz k ≤ b / sz k := Int.le_ediv_of_mul_le (by omega) (by rw [Int.mul_comm]; exact t1)
        have u2 : b / sz k < a / sz k + 1 := Int.ediv_lt_of_lt_mul (by omega) (by rw [Int.mul_comm]; exact t2)
        omega
      rw [← m4, ← l4, t3]
    · intro h
      have h6 := chk_sub a k hk0 hk
      rw [(sub_yes a hk0 hk).1] at h6
      exact ⟨h6, by omega, by omega⟩
  unfold withinB
  rw [hi, hc]
  simp
theorem xor_comm' (a b : Int) : xorI a b = xorI b a := by unfold xorI; rw [Nat.xor_comm]
theorem lz_self (a : Int) : lz32 (xorI a a) = 32 := by unfold xorI; rw [Nat.xor_self]; decide
/-- The search from above finds what the program reckons. -/
theorem com_hit (a n b m : Int) (k : Nat) (h0 : 0 ≤ a) (h1 : a < 4294967296) (h2 : 0 ≤ b) (h3 : b < 4294967296) (hk : k ≤ 32) (hc : chk a n = 0) (hc' : chk b m = 0) :
    (withinB a n (subA a k) k && withinB b m (subA a k) k) = decide ((k : Int) ≤ comN a n b m) := by
  obtain ⟨hn0, hn1, _⟩ := chk_ok hc
  obtain ⟨hm0, hm1, _⟩ := chk_ok hc'
  rw [within_sub a a n k h0 h1 h0 h1 (by omega) (by omega) hc, within_sub a b m k h0 h1 h2 h3 (by omega) (by omega) hc', lz_self]
  unfold comN
  rw [Bool.eq_iff_iff]
  simp only [Bool.and_eq_true, decide_eq_true_eq]
  split <;> split <;> omega
theorem sub_zero (a : Int) (h0 : 0 ≤ a) (h1 : a < 4294967296) : subA a 0 = 0 := by
  rw [(sub_yes a (n := 0) (by omega) (by omega)).1]
  have : sz 0 = 4294967296 := rfl
  rw [this]
  omega

end Go.Proofs.YtehpkpjgkmbngaaGreat

/-
  Prefixes inside one another: plain laws; no program in sight.
-/
namespace Go.Proofs.YtehpkpjgkmbngaaGreat
open Go Go.RowKit Go.Sort

/-- An address down to a multiple. -/
theorem floor_floor (x s t : Int) (hs : 0 < s) (ht : 0 < t) (h : s ∣ t) : (x - x % s) - (x - x % s) % t = x - x % t := by
  have e1 : x % t % s = x % s := Int.emod_emod_of_dvd x h
  have a1 := Int.emod_nonneg x (show t ≠ 0 by omega)
  have a2 := Int.emod_lt_of_pos x ht
  have b1 := Int.emod_nonneg x (show s ≠ 0 by omega)
  have b3 : x % s ≤ x % t := by
    have := Int.mul_ediv_add_emod (x % t) s
    have h0 : 0 ≤ x % t / s := Int.ediv_nonneg a1 (by omega)
    have h1 := Int.mul_nonneg (show 0 ≤ s by omega) h0
    rw [e1] at this
    omega
  have e2 := Int.mul_ediv_add_emod x t
  have e3 : (x - x % s) % t = x % t - x % s := by
    have : x - x % s = (x % t - x % s) + t * (x / t) := by omega
    rw [this, Int.add_mul_emod_self_left, Int.emod_eq_of_lt (by omega) (by omega)]
  rw [e3]; omega
/-- In a prefix: the address's first bits are the prefix's. -/
theorem in_iff {x a n : Int} (h : chk a n = 0) : inB x a n = true ↔ x - x % sz n = a := by
  obtain ⟨_, _, hm⟩ := chk_ok h
  have hp := sz_pos n
  unfold inB
  simp only [decide_eq_true_eq, h, true_and]
  have e := Int.mul_ediv_add_emod a (sz n)
  constructor
  · intro ⟨h1, h2⟩
    have : x = (x - a) + sz n * (a / sz n) := by omega
    have hx : x % sz n = x - a := by
      rw [this, Int.add_mul_emod_self_left, Int.emod_eq_of_lt (by omega) (by omega)]
      omega
    omega
  · intro h1
    have := Int.emod_nonneg x (show sz n ≠ 0 by omega)
    have := Int.emod_lt_of_pos x (show 0 < sz n by omega)
    omega
theorem within_iff {a n b m : Int} (ha : chk a n = 0) (hb : chk b m = 0) : withinB a n b m = true ↔ m ≤ n ∧ a - a % sz m = b := by
  unfold withinB
  rw [Bool.and_eq_true, in_iff hb]
  simp [ha]
theorem floor_self {a n : Int} (h : chk a n = 0) : a - a % sz n = a := by have := (chk_ok h).2.2; omega
theorem floor_two (x : Int) {n m : Int} (hm : 0 ≤ m) (hmn : m ≤ n) (hn : n ≤ 32) : (x - x % sz n) - (x - x % sz n) % sz m = x - x % sz m :=
  floor_floor x _ _ (by have := sz_pos n; omega) (by have := sz_pos m; omega) (dvd_sz n m hm hmn hn)
section
variable {a n b m c o x : Int} (hp : chk a n = 0) (hq : chk b m = 0) (hr : chk c o = 0)
include hp
theorem inside_self : withinB a n a n = true := (within_iff hp hp).2 ⟨Int.le_refl _, floor_self hp⟩
include hq
theorem inside_same : (withinB a n b m && withinB b m a n) = decide (a = b ∧ n = m) := by
  rw [Bool.eq_iff_iff, Bool.and_eq_true, within_iff hp hq, within_iff hq hp, decide_eq_true_eq]
  constructor
  · intro ⟨⟨h1, h2⟩, h3, h4⟩
    obtain rfl : n = m := by omega
    exact ⟨by rw [← h2, floor_self hp], rfl⟩
  · rintro ⟨rfl, rfl⟩
    exact ⟨⟨Int.le_refl _, floor_self hp⟩, Int.le_refl _, floor_self hp⟩
include hr in
theorem inside_trans (h1 : withinB a n b m = true) (h2 : withinB b m c o = true) : withinB a n c o = true := by
  rw [within_iff hp hq] at h1
  rw [within_iff hq hr] at h2
  rw [within_iff hp hr]
  refine ⟨by omega, ?_⟩
  rw [← floor_two a (chk_ok hr).1 h2.1 (chk_ok hq).2.1, h1.2, h2.2]
theorem inside_ends : withinB a n b m = (inB a b m && inB (a + sz n - 1) b m) := by
  have hl : inB (a + sz n - 1) a n = true := by unfold inB; have := sz_pos n; simp [hp]; omega
  rw [Bool.eq_iff_iff, Bool.and_eq_true, within_iff hp hq, in_iff hq, in_iff hq]
  constructor
  · intro ⟨h1, h2⟩
    refine ⟨h2, ?_⟩
    rw [← floor_two _ (chk_ok hq).1 h1 (chk_ok hp).2.1, (in_iff hp).1 hl, h2]
  · intro ⟨h1, h2⟩
    refine ⟨?_, h1⟩
    rcases (show n < m ∨ m ≤ n by omega) with h | h
    · exfalso
      have h3 := (in_iff hq).2 h1
      have h4 := (in_iff hq).2 h2
      unfold inB at h3 h4
      simp only [decide_eq_true_eq] at h3 h4
      have e : sz n = 2 * sz (n + 1) := by
        unfold sz
        rw [← p2_succ]
        have := (chk_ok hq).2.1
        have := (chk_ok hp).1
        congr 1; omega
      have := sz_pos m
      have hd3 := Int.le_of_dvd (by have := sz_pos (n+1); omega) (dvd_sz m (n + 1) (by have := (chk_ok hp).1; omega) (by omega) (chk_ok hq).2.1)
      omega
    · exact h
theorem inside_meet (h1 : inB x a n = true) (h2 : inB x b m = true) : withinB a n b m = true ∨ withinB b m a n = true := by
  rw [in_iff hp] at h1
  rw [in_iff hq] at h2
  rw [within_iff hp hq, within_iff hq hp]
  rcases Int.le_total m n with h | h
  · left
    exact ⟨h, by rw [← h1, floor_two x (chk_ok hq).1 h (chk_ok hp).2.1, h2]⟩
  · right
    exact ⟨h, by rw [← h2, floor_two x (chk_ok hp).1 h (chk_ok hq).2.1, h1]⟩
omit hq in
theorem inside_between : inB x a n = (decide (a ≤ x) && decide (x ≤ a + sz n - 1)) := by
  unfold inB
  rw [Bool.eq_iff_iff, Bool.and_eq_true, decide_eq_true_eq, decide_eq_true_eq, decide_eq_true_eq]
  constructor
  · intro ⟨_, _, _⟩; omega
  · intro ⟨_, _⟩; exact ⟨hp, by omega, by omega⟩
variable (h0 : 0 ≤ a) (h1 : a < 4294967296) (h2 : 0 ≤ b) (h3 : b < 4294967296)
include h0 h1 h2 h3
theorem common_ok : comE a n b m = 0 ∧ comA a n b m = subA a (comN a n b m) ∧ comB a n b m = comN a n b m ∧ 0 ≤ comN a n b m ∧ comN a n b m ≤ 32 ∧ comN a n b m ≤ n ∧ comN a n b m ≤ m ∧ comN a n b m ≤ lz32 (xorI a b) := by
  have he : comE a n b m = 0 := by unfold comE; rw [if_pos hp, hq]
  have hl := lz32_range (xorI a b) (xor_range a b h0 h1 h2 h3).2
  have hr := com_range n m (chk_ok hp).1 (chk_ok hp).2.1 (chk_ok hq).1 (chk_ok hq).2.1 hl
  refine ⟨he, (com_yes he).1, (com_yes he).2, hr.1, hr.2, ?_⟩
  unfold comN
  split <;> split <;> omega
theorem common_in : withinB a n (comA a n b m) (comB a n b m) = true ∧ withinB b m (comA a n b m) (comB a n b m) = true := by
  obtain ⟨_, e1, e2, k0, k1, k2, k3, k4⟩ := common_ok hp hq h0 h1 h2 h3
  rw [e1, e2]
  have hd := chk_sub a (comN a n b m) k0 k1
  rw [within_iff hp hd, within_iff hq hd]
  have := (sub_yes a k0 k1).1
  refine ⟨⟨k2, this.symm⟩, k3, ?_⟩
  rw [this]
  exact ((sub_eq_iff a b _ h0 h1 h2 h3 k0 k1).2 k4).symm
include hr in
theorem common_most (w1 : withinB a n c o = true) (w2 : withinB b m c o = true) : withinB (comA a n b m) (comB a n b m) c o = true := by
  obtain ⟨_, e1, e2, k0, k1, k2, k3, k4⟩ := common_ok hp hq h0 h1 h2 h3
  rw [within_iff hp hr] at w1
  rw [within_iff hq hr] at w2
  rw [e1, e2]
  have hd := chk_sub a (comN a n b m) k0 k1
  rw [within_iff hd hr, (sub_yes a k0 k1).1]
  have ho : o ≤ lz32 (xorI a b) := (sub_eq_iff a b o h0 h1 h2 h3 (chk_ok hr).1 (chk_ok hr).2.1).1 (w1.2.trans w2.2.symm)
  have hk : o ≤ comN a n b m := by unfold comN; split <;> split <;> omega
  exact ⟨hk, by rw [floor_two a (chk_ok hr).1 hk k1, w1.2]⟩
omit hq h0 h2 h3 in
theorem halves_ok (hn : n ≠ 32) : chk a (n + 1) = 0 ∧ chk (a + sz (n + 1)) (n + 1) = 0 ∧ a + sz (n + 1) < 4294967296 ∧ inB x a n = (inB x a (n + 1) != inB x (a + sz (n + 1)) (n + 1)) ∧ cmpP a (n + 1) (a + sz (n + 1)) (n + 1) = -1 ∧ withinB a (n + 1) a n = true ∧ withinB (a + sz (n + 1)) (n + 1) a n = true := by
  obtain ⟨g0, g1, g2⟩ := chk_ok hp
  obtain ⟨l1, l2⟩ := half_le a n h1 g0 (by omega) g2
  have hs := sz_pos (n + 1)
  have d : a % sz (n + 1) = 0 := by
    have := Int.emod_emod_of_dvd a (dvd_sz (n + 1) n g0 (by omega) (by omega))
    rw [g2] at this
    simpa using this.symm
  have c1 : chk a (n + 1) = 0 := chk_zero _ _ (by omega) (by omega) d
  have c2 : chk (a + sz (n + 1)) (n + 1) = 0 := chk_zero _ _ (by omega) (by omega) (by rw [Int.add_emod, d, Int.emod_self]; rfl)
  have i1 : inB a a n = true := by unfold inB; simp [hp]; omega
  have i2 : inB (a + sz (n + 1)) a n = true := by unfold inB; simp [hp]; omega
  refine ⟨c1, c2, l2, ?_, ?_, ?_, ?_⟩
  · unfold inB
    rw [hp, c1, c2]
    by_cases e1 : a ≤ x <;> by_cases e2 : x < a + sz (n + 1) <;> by_cases e3 : x < a + sz n <;> simp [e1, e2, e3] <;> omega
  · unfold cmpP
    rw [cmpI_lt (by omega)]
    rfl
  · unfold withinB; rw [i1, c1]; simp; omega
  · unfold withinB; rw [i2, c2]; simp; omega
end
end Go.Proofs.YtehpkpjgkmbngaaGreat

/-
  The addresses between two, cut: as few prefixes as can be, each address in just one; plain laws, no program in sight.
-/
namespace Go.Proofs.YtehpkpjgkmbngaaGreat
open Go Go.RowKit Go.Sort

theorem pick_max (a e : Int) : ∀ (k j : Nat), j ≤ k → a % p2 j = 0 → a + p2 j ≤ e → j ≤ pick a e k
  | 0, j, h, _, _ => by omega
  | k + 1, j, h, h1, h2 => by
    unfold pick
    split
    · exact h
    · rename_i hn
      rcases (show j = k + 1 ∨ j ≤ k by omega) with rfl | hj
      · exact absurd ⟨h1, h2⟩ hn
      · exact pick_max a e k j hj h1 h2
theorem sz_pick (k : Nat) (h : k ≤ 32) : sz (32 - (k : Int)) = p2 k := by unfold sz; congr 1; omega
theorem p2_dvd {j k : Nat} (h : j ≤ k) : p2 j ∣ p2 k := by
  refine ⟨p2 (k - j), ?_⟩
  unfold p2
  rw [← Int.pow_add]; congr 1; omega
theorem mod_up {a : Int} {j k : Nat} (h : j ≤ k) (ha : a % p2 k = 0) : a % p2 j = 0 := by
  have := Int.emod_emod_of_dvd a (p2_dvd h)
  rw [ha] at this
  simpa using this.symm
theorem mod_add {a : Int} {k : Nat} (ha : a % p2 k = 0) : (a + p2 k) % p2 k = 0 := by rw [Int.add_emod, ha, Int.emod_self]; rfl
/-- Two multiples together: the next one. -/
theorem mod_next {a : Int} {k : Nat} (ha : a % p2 k = 0) (h : ¬ a % p2 (k + 1) = 0) : (a + p2 k) % p2 (k + 1) = 0 := by
  have hp := p2_pos k
  have hs := p2_succ k
  have e := Int.emod_emod_of_dvd a (p2_dvd (Nat.le_succ k))
  rw [ha] at e
  have b1 := Int.emod_nonneg a (show p2 (k + 1) ≠ 0 by omega)
  have b2 := Int.emod_lt_of_pos a (show 0 < p2 (k + 1) by omega)
  have b3 : a % p2 (k + 1) = p2 k := by
    have e2 := Int.mul_ediv_add_emod (a % p2 (k + 1)) (p2 k)
    rw [e] at e2
    have q0 : a % p2 (k + 1) / p2 k < 2 := Int.ediv_lt_of_lt_mul (by omega) (by omega)
    have q1 : 0 ≤ a % p2 (k + 1) / p2 k := Int.ediv_nonneg b1 (by omega)
    rcases (show a % p2 (k + 1) / p2 k = 0 ∨ a % p2 (k + 1) / p2 k = 1 by omega) with h0 | h0
    · rw [h0] at e2; omega
    · rw [h0] at e2; omega
  have e4 : p2 k % p2 (k + 1) = p2 k := Int.emod_eq_of_lt (by omega) (by omega)
  rw [Int.add_emod, b3, e4, show p2 k + p2 k = p2 (k + 1) by omega, Int.emod_self]
/-- Behind the turn the pieces grow smaller. -/
theorem cut_down (e : Int) : ∀ (j f : Nat) (a : Int), j ≤ 32 → a % p2 j = 0 → e - a < p2 j → (cutL e f a).length ≤ j
  | j, 0, a, _, _, _ => by unfold cutL; simp
  | j, f + 1, a, hj, ha, he => by
    by_cases h : e ≤ a
    · rw [cutL_done e a (f + 1) h]; simp
    · rw [cutL_step e a f (by omega), List.length_cons]
      obtain ⟨o1, o2⟩ := pick_ok a e 32 (by omega)
      have hk : pick a e 32 < j := by
        rcases (show pick a e 32 < j ∨ j ≤ pick a e 32 by omega) with h1 | h1
        · exact h1
        · have := p2_mono h1; omega
      have hm := fun h1 h2 => pick_max a e 32 (pick a e 32 + 1) (by omega) h1 h2
      have h1 : a % p2 (pick a e 32 + 1) = 0 := mod_up (by omega) ha
      have h2 : ¬ a + p2 (pick a e 32 + 1) ≤ e := fun h2 => by have := hm h1 h2; omega
      have hs := p2_succ (pick a e 32)
      have := cut_down e (pick a e 32) f (a + p2 (pick a e 32)) (by omega) (mod_add o1) (by omega)
      omega
/-- Ahead of it they grow. -/
theorem cut_up (e : Int) (he : e ≤ 4294967296) : ∀ (f j : Nat) (a : Int), j ≤ 31 → 0 < a → a % p2 j = 0 → (cutL e f a).length ≤ 62 - j
  | 0, j, a, _, _, _ => by unfold cutL; simp
  | f + 1, j, a, hj, h0, ha => by
    by_cases h : e ≤ a
    · rw [cutL_done e a (f + 1) h]; simp
    · by_cases hfit : a + p2 j ≤ e
      · rw [cutL_step e a f (by omega), List.length_cons]
        obtain ⟨o1, o2⟩ := pick_ok a e 32 (by omega)
        have hjk := pick_max a e 32 j (by omega) ha hfit
        have hle := pick_le a e 32
        generalize hk : pick a e 32 = k at *
        have hs := p2_succ k
        have hge : p2 k ≤ a := Int.le_of_dvd h0 (Int.dvd_of_emod_eq_zero o1)
        have hk31 : k ≤ 31 := by
          rcases (show k ≤ 31 ∨ k = 32 by omega) with h1 | rfl
          · exact h1
          · rw [p2_32] at hge; omega
        by_cases h31 : k = 31
        · subst h31
          have e31 : p2 31 = 2147483648 := by decide
          rw [cutL_done e _ f (by omega)]
          simp; omega
        · by_cases hal : a % p2 (k + 1) = 0
          · have h2 : ¬ a + p2 (k + 1) ≤ e := fun h2 => by have := pick_max a e 32 (k + 1) (by omega) hal h2; omega
            have := cut_down e k f (a + p2 k) (by omega) (mod_add o1) (by omega)
            omega
          · have := cut_up e he f (k + 1) (a + p2 k) (by omega) (by have := p2_pos k; omega) (mod_next o1 hal)
            omega
      · have := cut_down e j (f + 1) a (by omega) ha (by omega)
        omega
theorem cut_most (e : Int) (he : e ≤ 4294967296) (f : Nat) (a : Int) (h0 : 0 ≤ a) : (cutL e f a).length ≤ 62 := by
  rcases (show a = 0 ∨ 0 < a by omega) with rfl | h1
  · rcases (show e < 4294967296 ∨ e = 4294967296 by omega) with h2 | rfl
    · have := cut_down e 32 f 0 (by omega) (by simp) (by rw [p2_32]; omega)
      omega
    · cases f with
      | zero => unfold cutL; simp
      | succ f =>
        have hp : pick 0 4294967296 32 = 32 := pick_hit 0 4294967296 32 (by simp) (by rw [p2_32]; omega)
        rw [cutL_step _ _ f (by omega), hp, cutL_done _ _ f (by rw [p2_32]; omega)]
        simp
  · exact cut_up e he f 0 a (by omega) h1 (by rw [p2_zero]; omega)
/-- How many of the prefixes an address is in. -/
def cntIn (y : Int) (L : List (Int × Int)) : Nat := (L.filter fun p => inB y p.1 p.2).length
theorem chk_pick (a e : Int) (h : a < e) : chk a (32 - (pick a e 32 : Int)) = 0 := by
  have hk := pick_le a e 32
  exact chk_zero _ _ (by omega) (by omega) (by rw [sz_pick _ hk]; exact (pick_ok a e 32 h).1)
theorem cut_once (e y : Int) : ∀ (f : Nat) (a : Int), e - a ≤ f → cntIn y (cutL e f a) = if a ≤ y ∧ y < e then 1 else 0
  | 0, a, hf => by
    rw [cutL_done e a 0 (by omega), if_neg (by omega)]; rfl
  | f + 1, a, hf => by
    by_cases h : e ≤ a
    · rw [cutL_done e a (f + 1) h, if_neg (by omega)]; rfl
    · have hk := pick_le a e 32
      have hp := p2_pos (pick a e 32)
      have ho := (pick_ok a e 32 (by omega)).2
      have ih := cut_once e y f (a + p2 (pick a e 32)) (by omega)
      rw [cutL_step e a f (by omega)]
      unfold cntIn at ih ⊢
      rw [List.filter_cons]
      have hc := chk_pick a e (by omega)
      have hi : inB y a (32 - (pick a e 32 : Int)) = decide (a ≤ y ∧ y < a + p2 (pick a e 32)) := by
        unfold inB; rw [sz_pick _ hk, hc]; simp
      simp only [hi]
      by_cases h1 : a ≤ y ∧ y < a + p2 (pick a e 32)
      · rw [if_pos (by simpa using h1), List.length_cons, ih, if_neg (by omega), if_pos (by omega)]
      · rw [if_neg (by simpa using h1), ih]
        by_cases h2 : a + p2 (pick a e 32) ≤ y ∧ y < e
        · rw [if_pos h2, if_pos (by omega)]
        · rw [if_neg h2, if_neg (by omega)]
/-- What is between one piece and the next. -/
def Next (p q : Int × Int) : Prop := q.1 = p.1 + sz p.2 ∧ (p.2 = q.2 → ¬ p.1 % (2 * sz p.2) = 0)
def AllOk (e : Int) (p : Int × Int) : Prop := chk p.1 p.2 = 0 ∧ 0 ≤ p.1 ∧ p.1 + sz p.2 ≤ e
theorem cut_allOk (e : Int) : ∀ (f : Nat) (a : Int), 0 ≤ a → ∀ p, p ∈ cutL e f a → AllOk e p
  | 0, a, _, p, h => by unfold cutL at h; simp at h
  | f + 1, a, h0, p, h => by
    by_cases he : e ≤ a
    · rw [cutL_done e a (f + 1) he] at h; simp at h
    · rw [cutL_step e a f (by omega)] at h
      have hk := pick_le a e 32
      have hp := p2_pos (pick a e 32)
      rcases List.mem_cons.1 h with rfl | h
      · exact ⟨chk_pick a e (by omega), h0, by show a + sz (32 - (pick a e 32 : Int)) ≤ e; rw [sz_pick _ hk]; exact (pick_ok a e 32 (by omega)).2⟩
      · exact cut_allOk e f _ (by omega) p h
theorem cut_next (e : Int) (hE : e ≤ 4294967296) : ∀ (f : Nat) (a : Int) (k : Nat) (p q : Int × Int), 0 ≤ a → (cutL e f a)[k]? = some p → (cutL e f a)[k + 1]? = some q → Next p q
  | 0, a, k, p, q, _, h, _ => by unfold cutL at h; simp at h
  | f + 1, a, k, p, q, h0, h, h' => by
    by_cases he : e ≤ a
    · rw [cutL_done e a (f + 1) he] at h; simp at h
    · rw [cutL_step e a f (by omega)] at h h'
      cases k with
      | succ k => exact cut_next e hE f (a + p2 (pick a e 32)) k p q (by have := p2_pos (pick a e 32); omega) (by simpa using h) (by simpa using h')
      | zero =>
        simp at h h'
        subst h
        have hk := pick_le a e 32
        have hp := p2_pos (pick a e 32)
        have hok := pick_ok a e 32 (by omega)
        have hm := pick_max a e 32 (pick a e 32 + 1)
        cases f with
        | zero => unfold cutL at h'; simp at h'
        | succ f =>
          by_cases h2 : e ≤ a + p2 (pick a e 32)
          · rw [cutL_done e _ (f + 1) h2] at h'; simp at h'
          · rw [cutL_step e _ f (by omega)] at h'
            simp at h'
            subst h'
            refine ⟨by show a + p2 (pick a e 32) = _; rw [sz_pick _ hk], ?_⟩
            have hok2 := pick_ok (a + p2 (pick a e 32)) e 32 (by omega)
            show 32 - (pick a e 32 : Int) = 32 - (pick (a + p2 (pick a e 32)) e 32 : Int) → ¬ a % (2 * sz (32 - (pick a e 32 : Int))) = 0
            rw [sz_pick _ hk, ← p2_succ]
            intro e1 e2
            have e3 : pick (a + p2 (pick a e 32)) e 32 = pick a e 32 := by omega
            rw [e3] at hok2
            have hs := p2_succ (pick a e 32)
            rcases (show pick a e 32 ≤ 31 ∨ pick a e 32 = 32 by omega) with h3 | h3
            · have := hm (by omega) e2 (by omega)
              omega
            · rw [h3, p2_32] at h2
              omega
end Go.Proofs.YtehpkpjgkmbngaaGreat

/-
  Walks over the addresses' laws: fit, same.
-/
namespace Go.Proofs.YtehpkpjgkmbngaaGreat
open Go Go.RowKit Go.Sort

/-- The bits that 'fit' makes of any int. -/
def fitN (k : Int) : Int := IntKind.u64.wrap k % 33
theorem fitN_range (k : Int) : 0 ≤ fitN k ∧ fitN k ≤ 32 := by unfold fitN; omega
theorem fit_chk (a k : Int) : chk (subA a (fitN k)) (fitN k) = 0 := chk_sub a (fitN k) (fitN_range k).1 (fitN_range k).2
theorem results_1 {fn : Func} {tmps : Array Value} {w : World} {g : Nat} {a b : Value} {t1 : Nat} (hf : fn.results = #[.cell t1 38]) (h1 : tmps.getD t1 undef = .pointer (some ⟨g, 0, none⟩))
    (k1 : w.heap[g]? = some (.cells #[a, b] 38 (0, 0))) :
    (results fn tmps).run Tryz.prog w = .ok (.agg #[a, b]) w := by
  obtain ⟨c0, c1, _, _⟩ := two_cells k1
  have h1' : tmps[t1]?.getD undef = .pointer (some ⟨g, 0, none⟩) := by simpa using h1
  simp [results, hf, h1', go_sem, c0, c1]
end Go.Proofs.YtehpkpjgkmbngaaGreat
