/-
  Joined texts: Hd1, Hd2, Hd3, HdMath.
-/
import Derived.Test.YthgmmajoinkblaaDoorMSpansNames11
import Derived.Deep.DeepCutAuto
import Derived.Deep.RegionHeld3
import Derived.StillTailTactics
/-
  Walks over headers: Bytes.
-/
namespace Go.Proofs.YthgmmajoinkblaaDoor
open Go Go.RowKit Go.Sort

/-- A header. -/
structure Hd where
  src : Int
  dst : Int
  proto : Int
  sp : Int
  dp : Int
  deriving DecidableEq
def Hd.enc (h : Hd) : List Value := [.int .u32 h.src, .int .u32 h.dst, .int .u8 h.proto, .int .u16 h.sp, .int .u16 h.dp]
structure Hd.ok (h : Hd) : Prop where
  s0 : 0 ≤ h.src
  s1 : h.src < 4294967296
  d0 : 0 ≤ h.dst
  d1 : h.dst < 4294967296
  p0 : 0 ≤ h.proto
  p1 : h.proto < 256
  a0 : 0 ≤ h.sp
  a1 : h.sp < 65536
  b0 : 0 ≤ h.dp
  b1 : h.dp < 65536
/-- Its bytes. -/
def Hd.bytes (h : Hd) : List Int := [h.src / 16777216, h.src / 65536 % 256, h.src / 256 % 256, h.src % 256, h.dst / 16777216, h.dst / 65536 % 256, h.dst / 256 % 256, h.dst % 256, h.proto, h.sp / 256, h.sp % 256, h.dp / 256, h.dp % 256]
/-- The array while the addresses are written. -/
def Hd.part (h : Hd) (k j : Nat) (p : Bool) : List Int := (List.range 13).map fun i => if (i < 4 ∧ i < k) ∨ (4 ≤ i ∧ i < 8 ∧ i - 4 < k) ∨ (i = 8 ∧ p = true) ∨ (9 ≤ i ∧ i < 11 ∧ i - 9 < j) ∨ (11 ≤ i ∧ i - 11 < j) then h.bytes.getD i 0 else 0
theorem part_start (h : Hd) : h.part 0 0 false = List.replicate 13 0 := rfl
theorem part_full (h : Hd) : h.part 4 2 true = h.bytes := rfl

theorem u8_wrap (x : Int) : IntKind.u8.wrap x = x % 256 := by simp [IntKind.wrap, IntKind.bits, IntKind.signed]
end Go.Proofs.YthgmmajoinkblaaDoor

/-
  Walks over headers: Bit.
-/
namespace Go.Proofs.YthgmmajoinkblaaDoor
open Go Go.RowKit Go.Sort

/-- Is a bit set? -/
def Hd.bit (h : Hd) (i : Nat) : Bool := h.bytes.getD (i / 8) 0 / 2 ^ (7 - i % 8) % 2 == 1
theorem bytes_range (h : Hd) (ho : h.ok) : ∀ x ∈ h.bytes, 0 ≤ x ∧ x < 256 := by
  obtain ⟨s0, s1, d0, d1, p0, p1, a0, a1, b0, b1⟩ := ho
  intro x hx
  simp only [Hd.bytes, List.mem_cons, List.mem_nil_iff, or_false] at hx
  rcases hx with rfl | rfl | rfl | rfl | rfl | rfl | rfl | rfl | rfl | rfl | rfl | rfl | rfl <;> omega
theorem and_1 (x : Int) (h0 : 0 ≤ x) (h1 : x < 256) : bits .and .u8 x 1 = x % 2 := by
  obtain ⟨x, rfl⟩ := Int.eq_ofNat_of_zero_le h0
  rw [u8_and _ _ h0 h1 (by omega) (by omega), Int.toNat_natCast, show (1 : Int).toNat = 1 from rfl, Nat.and_one_is_mod]
  rfl
theorem div_pow (v : Int) (k : Nat) (h0 : 0 ≤ v) (h1 : v < 256) : 0 ≤ v / 2 ^ k ∧ v / 2 ^ k < 256 := by
  have hp : (1 : Int) ≤ 2 ^ k := p2_pos k
  exact ⟨Int.ediv_nonneg h0 (by omega), Int.lt_of_le_of_lt (Int.ediv_le_self _ h0) h1⟩
theorem bytes_len (h : Hd) : h.bytes.length = 13 := rfl
end Go.Proofs.YthgmmajoinkblaaDoor

/-
  Walks over headers: the law's same.
-/
namespace Go.Proofs.YthgmmajoinkblaaDoor
open Go Go.RowKit Go.Sort

end Go.Proofs.YthgmmajoinkblaaDoor

/-
  Headers as numbers: plain laws on their bytes and bits; no walk.
-/
namespace Go.Proofs.YthgmmajoinkblaaDoor
open Go Go.RowKit Go.Sort

/-- A header as one number. -/
def Hd.val (h : Hd) : Nat := (((h.src.toNat * 4294967296 + h.dst.toNat) * 256 + h.proto.toNat) * 65536 + h.sp.toNat) * 65536 + h.dp.toNat
/-- The header of a number. -/
def hdOf (n : Nat) : Hd := ⟨((n / 4722366482869645213696 : Nat) : Int), ((n / 1099511627776 % 4294967296 : Nat) : Int), ((n / 4294967296 % 256 : Nat) : Int), ((n / 65536 % 65536 : Nat) : Int), ((n % 65536 : Nat) : Int)⟩
/-- How many headers there are. -/
def hdAll : Nat := 20282409603651670423947251286016
theorem hdAll_pow : hdAll = 2 ^ 104 := by decide
theorem hdOf_ok {n : Nat} (h : n < hdAll) : (hdOf n).ok := by
  unfold hdAll at h
  refine ⟨?_, ?_, ?_, ?_, ?_, ?_, ?_, ?_, ?_, ?_⟩ <;> dsimp only [hdOf] <;> omega
theorem val_lt {h : Hd} (ho : h.ok) : h.val < hdAll := by
  obtain ⟨s0, s1, d0, d1, p0, p1, a0, a1, b0, b1⟩ := ho
  unfold Hd.val hdAll
  omega
theorem hd_ext {a b : Hd} (h1 : a.src = b.src) (h2 : a.dst = b.dst) (h3 : a.proto = b.proto) (h4 : a.sp = b.sp) (h5 : a.dp = b.dp) : a = b := by
  cases a; cases b; simp at *; exact ⟨h1, h2, h3, h4, h5⟩
theorem hdOf_val {h : Hd} (ho : h.ok) : hdOf h.val = h := by
  obtain ⟨s0, s1, d0, d1, p0, p1, a0, a1, b0, b1⟩ := ho
  obtain ⟨s, d, p, a, b⟩ := h
  simp only at *
  obtain ⟨s, rfl⟩ := Int.eq_ofNat_of_zero_le s0
  obtain ⟨d, rfl⟩ := Int.eq_ofNat_of_zero_le d0
  obtain ⟨p, rfl⟩ := Int.eq_ofNat_of_zero_le p0
  obtain ⟨a, rfl⟩ := Int.eq_ofNat_of_zero_le a0
  obtain ⟨b, rfl⟩ := Int.eq_ofNat_of_zero_le b0
  apply hd_ext <;> dsimp only [hdOf, Hd.val, Int.toNat_natCast] <;> omega
theorem val_hdOf {n : Nat} (h : n < hdAll) : (hdOf n).val = n := by
  unfold hdAll at h
  dsimp only [hdOf, Hd.val, Int.toNat_natCast]
  omega
theorem val_inj {a b : Hd} (ha : a.ok) (hb : b.ok) (h : a.val = b.val) : a = b := by rw [← hdOf_val ha, h, hdOf_val hb]
theorem bytes_val {h : Hd} (ho : h.ok) {k : Nat} (hk : k < 13) : h.bytes[k]? = some ((h.val / 256 ^ (12 - k) % 256 : Nat) : Int) := by
  obtain ⟨s0, s1, d0, d1, p0, p1, a0, a1, b0, b1⟩ := ho
  obtain ⟨s, d, p, a, b⟩ := h
  simp only at *
  obtain ⟨s, rfl⟩ := Int.eq_ofNat_of_zero_le s0
  obtain ⟨d, rfl⟩ := Int.eq_ofNat_of_zero_le d0
  obtain ⟨p, rfl⟩ := Int.eq_ofNat_of_zero_le p0
  obtain ⟨a, rfl⟩ := Int.eq_ofNat_of_zero_le a0
  obtain ⟨b, rfl⟩ := Int.eq_ofNat_of_zero_le b0
  have e (x y : Int) (h : x = y) : some x = some y := by rw [h]
  match k, hk with
  | 0, _ => exact e _ _ (by dsimp only [Hd.val, Int.toNat_natCast, Nat.reduceSub, Nat.reducePow]; omega)
  | 1, _ => exact e _ _ (by dsimp only [Hd.val, Int.toNat_natCast, Nat.reduceSub, Nat.reducePow]; omega)
  | 2, _ => exact e _ _ (by dsimp only [Hd.val, Int.toNat_natCast, Nat.reduceSub, Nat.reducePow]; omega)
  | 3, _ => exact e _ _ (by dsimp only [Hd.val, Int.toNat_natCast, Nat.reduceSub, Nat.reducePow]; omega)
  | 4, _ => exact e _ _ (by dsimp only [Hd.val, Int.toNat_natCast, Nat.reduceSub, Nat.reducePow]; omega)
  | 5, _ => exact e _ _ (by dsimp only [Hd.val, Int.toNat_natCast, Nat.reduceSub, Nat.reducePow]; omega)
  | 6, _ => exact e _ _ (by dsimp only [Hd.val, Int.toNat_natCast, Nat.reduceSub, Nat.reducePow]; omega)
  | 7, _ => exact e _ _ (by dsimp only [Hd.val, Int.toNat_natCast, Nat.reduceSub, Nat.reducePow]; omega)
  | 8, _ => exact e _ _ (by dsimp only [Hd.val, Int.toNat_natCast, Nat.reduceSub, Nat.reducePow]; omega)
  | 9, _ => exact e _ _ (by dsimp only [Hd.val, Int.toNat_natCast, Nat.reduceSub, Nat.reducePow]; omega)
  | 10, _ => exact e _ _ (by dsimp only [Hd.val, Int.toNat_natCast, Nat.reduceSub, Nat.reducePow]; omega)
  | 11, _ => exact e _ _ (by dsimp only [Hd.val, Int.toNat_natCast, Nat.reduceSub, Nat.reducePow]; omega)
  | 12, _ => exact e _ _ (by dsimp only [Hd.val, Int.toNat_natCast, Nat.reduceSub, Nat.reducePow]; omega)
theorem bit_val {h : Hd} (ho : h.ok) {i : Nat} (hi : i < 104) : h.bit i = h.val.testBit (103 - i) := by
  unfold Hd.bit
  rw [List.getD, bytes_val ho (by omega), Option.getD_some, Nat.testBit_eq_decide_div_mod_eq]
  have e : (((h.val / 256 ^ (12 - i / 8) % 256 : Nat) : Int) / 2 ^ (7 - i % 8) % 2) = (((h.val / 256 ^ (12 - i / 8) % 256) / 2 ^ (7 - i % 8) % 2 : Nat) : Int) := by simp
  rw [e]
  have h2 : (h.val / 256 ^ (12 - i / 8) % 256) / 2 ^ (7 - i % 8) % 2 = h.val / 2 ^ (103 - i) % 2 := by
    rw [show (256 : Nat) = 2 ^ 8 from rfl, ← Nat.pow_mul]
    have a1 := Nat.testBit_mod_two_pow (h.val / 2 ^ (8 * (12 - i / 8))) 8 (7 - i % 8)
    rw [Nat.testBit_div_two_pow, Nat.testBit_eq_decide_div_mod_eq, Nat.testBit_eq_decide_div_mod_eq] at a1
    rw [show 7 - i % 8 + 8 * (12 - i / 8) = 103 - i by omega] at a1
    have a2 : (7 - i % 8 < 8) := by omega
    simp only [a2, decide_true, Bool.true_and, decide_eq_decide] at a1
    have b1 := Nat.mod_lt ((h.val / 2 ^ (8 * (12 - i / 8)) % 2 ^ 8) / 2 ^ (7 - i % 8)) (show 0 < 2 by decide)
    have b2 := Nat.mod_lt (h.val / 2 ^ (103 - i)) (show 0 < 2 by decide)
    omega
  rw [h2]
  rcases Nat.mod_two_eq_zero_or_one (h.val / 2 ^ (103 - i)) with h | h <;> rw [h] <;> rfl
/-- A number with a bit set so. -/
def setB (v k : Nat) (b : Bool) : Nat := if v.testBit k = b then v else v ^^^ 2 ^ k
theorem setB_same {v k : Nat} {b : Bool} (h : v.testBit k = b) : setB v k b = v := if_pos h
theorem setB_other {v k : Nat} {b : Bool} (h : v.testBit k ≠ b) : setB v k b = v ^^^ 2 ^ k := if_neg h
theorem setB_bit (v k j : Nat) (b : Bool) : (setB v k b).testBit j = if j = k then b else v.testBit j := by
  unfold setB
  split
  · rename_i h
    split
    · rename_i e; rw [e, h]
    · rfl
  · rename_i h
    rw [Nat.testBit_xor, Nat.testBit_two_pow]
    split
    · rename_i e; subst e; simp only [decide_true, Bool.xor_true]
      revert h; cases v.testBit j <;> cases b <;> simp
    · rename_i e
      rw [show decide (k = j) = false from decide_eq_false (fun h => e h.symm)]
      simp
theorem setB_lt {v k : Nat} {b : Bool} (h : v < hdAll) (hk : k < 104) : setB v k b < hdAll := by
  rw [hdAll_pow] at *
  unfold setB
  split
  · exact h
  · exact Nat.xor_lt_two_pow h (Nat.pow_lt_pow_right (by decide) hk)
/-- Numbers with the same bits. -/
theorem val_bits {u v : Nat} (hu : u < hdAll) (hv : v < hdAll) (h : ∀ j, j < 104 → u.testBit j = v.testBit j) : u = v := by
  rw [hdAll_pow] at *
  refine Nat.eq_of_testBit_eq fun j => ?_
  by_cases hj : j < 104
  · exact h j hj
  · rw [Nat.testBit_lt_two_pow (Nat.lt_of_lt_of_le hu (Nat.pow_le_pow_right (by decide) (by omega))), Nat.testBit_lt_two_pow (Nat.lt_of_lt_of_le hv (Nat.pow_le_pow_right (by decide) (by omega)))]
theorem hd_bits {a b : Hd} (ha : a.ok) (hb : b.ok) (h : ∀ i, i < 104 → a.bit i = b.bit i) : a = b :=
  val_inj ha hb (val_bits (val_lt ha) (val_lt hb) (fun j hj => by
    have := h (103 - j) (by omega)
    rw [bit_val ha (by omega), bit_val hb (by omega), show 103 - (103 - j) = j by omega] at this
    exact this))
/-- A header with a bit set so. -/
def Hd.put (h : Hd) (i : Nat) (b : Bool) : Hd := hdOf (setB h.val (103 - i) b)
theorem put_ok {h : Hd} (ho : h.ok) {i : Nat} {b : Bool} (hi : i < 104) : (h.put i b).ok := hdOf_ok (setB_lt (val_lt ho) (by omega))
theorem put_bit {h : Hd} (ho : h.ok) {i j : Nat} {b : Bool} (hi : i < 104) (hj : j < 104) : (h.put i b).bit j = if j = i then b else h.bit j := by
  rw [bit_val (put_ok ho hi) hj]
  unfold Hd.put
  rw [val_hdOf (setB_lt (val_lt ho) (by omega)), setB_bit, bit_val ho hj]
  by_cases h : j = i
  · rw [if_pos h, if_pos (by omega)]
  · rw [if_neg h, if_neg (by omega)]
theorem put_same {h : Hd} (ho : h.ok) {i : Nat} {b : Bool} (hi : i < 104) (hb : h.bit i = b) : h.put i b = h := by
  unfold Hd.put
  rw [bit_val ho hi] at hb
  rw [setB_same hb, hdOf_val ho]
theorem put_other {h : Hd} (ho : h.ok) {i : Nat} {b : Bool} (hi : i < 104) (hb : h.bit i ≠ b) : h.put i b = hdOf (h.val ^^^ 2 ^ (103 - i)) := by
  unfold Hd.put
  rw [bit_val ho hi] at hb
  rw [setB_other hb]
/-- The byte in which a bit is turned. -/
theorem byte_xor (v i k : Nat) (hk : k < 13) (hi : i < 104) : (v ^^^ 2 ^ (103 - i)) / 256 ^ (12 - k) % 256 = if k = i / 8 then (v / 256 ^ (12 - k) % 256) ^^^ 2 ^ (7 - i % 8) else v / 256 ^ (12 - k) % 256 := by
  rw [show (256 : Nat) ^ (12 - k) = 2 ^ (8 * (12 - k)) by rw [Nat.pow_mul], show (256 : Nat) = 2 ^ 8 from rfl]
  refine Nat.eq_of_testBit_eq fun j => ?_
  rw [Nat.testBit_mod_two_pow, Nat.testBit_div_two_pow, Nat.testBit_xor, Nat.testBit_two_pow]
  split
  · rename_i e
    rw [Nat.testBit_xor, Nat.testBit_mod_two_pow, Nat.testBit_div_two_pow, Nat.testBit_two_pow]
    by_cases hj : j < 8
    · simp only [hj, decide_true, Bool.true_and]
      congr 1
      rw [decide_eq_decide]
      omega
    · simp only [hj, decide_false, Bool.false_and]
      rw [show decide (7 - i % 8 = j) = false from decide_eq_false (by omega)]
      rfl
  · rename_i e
    rw [Nat.testBit_mod_two_pow, Nat.testBit_div_two_pow]
    by_cases hj : j < 8
    · simp only [hj, decide_true, Bool.true_and]
      rw [show decide (103 - i = j + 8 * (12 - k)) = false from decide_eq_false (by omega)]
      simp
    · simp only [hj, decide_false, Bool.false_and]
theorem xor_lt {v i : Nat} (h : v < hdAll) (hi : i < 104) : v ^^^ 2 ^ (103 - i) < hdAll := by
  rw [hdAll_pow] at *
  exact Nat.xor_lt_two_pow h (Nat.pow_lt_pow_right (by decide) (by omega))
/-- The bytes of a header of which a bit is turned. -/
theorem bytes_xor {h : Hd} (ho : h.ok) {i : Nat} (hi : i < 104) {x : Nat} (hx : h.bytes[i / 8]? = some (x : Int)) : (hdOf (h.val ^^^ 2 ^ (103 - i))).bytes = h.bytes.set (i / 8) ((x ^^^ 2 ^ (7 - i % 8) : Nat) : Int) := by
  have hl := xor_lt (val_lt ho) hi
  refine List.ext_getElem? fun k => ?_
  by_cases hk : k < 13
  · rw [bytes_val (hdOf_ok hl) hk, val_hdOf hl, byte_xor _ _ _ hk hi, List.getElem?_set]
    split
    · rename_i e
      subst e
      rw [bytes_val ho (by omega)] at hx
      rw [if_pos rfl, if_pos (show i / 8 < h.bytes.length from by show i / 8 < 13; omega)]
      have hx' : h.val / 256 ^ (12 - i / 8) % 256 = x := by injection hx with hx; omega
      rw [hx']
    · rename_i e
      rw [if_neg (fun h => e h.symm), bytes_val ho hk]
  · rw [List.getElem?_eq_none (by show 13 ≤ k; omega), List.getElem?_eq_none (by rw [List.length_set]; show 13 ≤ k; omega)]
/-- The header of bytes. -/
def ofB (l : List Int) : Hd := ⟨((l.getD 0 0 * 256 + l.getD 1 0) * 256 + l.getD 2 0) * 256 + l.getD 3 0, ((l.getD 4 0 * 256 + l.getD 5 0) * 256 + l.getD 6 0) * 256 + l.getD 7 0, l.getD 8 0, l.getD 9 0 * 256 + l.getD 10 0, l.getD 11 0 * 256 + l.getD 12 0⟩
theorem ofB_bytes {h : Hd} (ho : h.ok) : ofB h.bytes = h := by
  obtain ⟨s0, s1, d0, d1, p0, p1, a0, a1, b0, b1⟩ := ho
  apply hd_ext <;> simp only [ofB, Hd.bytes, List.getD, List.getElem?_cons_zero, List.getElem?_cons_succ, Option.getD_some] <;> omega
theorem ofB_ok {b0 b1 b2 b3 b4 b5 b6 b7 b8 b9 b10 b11 b12 : Int} (h : ∀ x ∈ [b0, b1, b2, b3, b4, b5, b6, b7, b8, b9, b10, b11, b12], 0 ≤ x ∧ x < 256) : (ofB [b0, b1, b2, b3, b4, b5, b6, b7, b8, b9, b10, b11, b12]).ok := by
  simp only [List.mem_cons, List.mem_nil_iff, or_false, forall_eq_or_imp, forall_eq] at h
  refine ⟨?_, ?_, ?_, ?_, ?_, ?_, ?_, ?_, ?_, ?_⟩ <;> simp only [ofB, List.getD, List.getElem?_cons_zero, List.getElem?_cons_succ, Option.getD_some] <;> omega
theorem bytes_ofB {b0 b1 b2 b3 b4 b5 b6 b7 b8 b9 b10 b11 b12 : Int} (h : ∀ x ∈ [b0, b1, b2, b3, b4, b5, b6, b7, b8, b9, b10, b11, b12], 0 ≤ x ∧ x < 256) : (ofB [b0, b1, b2, b3, b4, b5, b6, b7, b8, b9, b10, b11, b12]).bytes = [b0, b1, b2, b3, b4, b5, b6, b7, b8, b9, b10, b11, b12] := by
  simp only [List.mem_cons, List.mem_nil_iff, or_false, forall_eq_or_imp, forall_eq] at h
  simp only [Hd.bytes, ofB, List.getD, List.getElem?_cons_zero, List.getElem?_cons_succ, Option.getD_some, List.cons.injEq, and_true]
  refine ⟨?_, ?_, ?_, ?_, ?_, ?_, ?_, ?_, ?_, ?_, ?_, ?_, ?_⟩ <;> first | trivial | omega
/-- The order of numbers. -/
def cmpN (a b : Nat) : Int := if a < b then -1 else if b < a then 1 else 0
/-- The order of lists of numbers, byte for byte. -/
def cmpL : List Int → List Int → Int
  | x :: l, y :: r => if x < y then -1 else if y < x then 1 else cmpL l r
  | _, _ => 0
def valL (l : List Int) : Int := l.foldl (fun a b => a * 256 + b) 0
theorem foldl_val : ∀ (l : List Int) (a : Int), l.foldl (fun a b => a * 256 + b) a = a * 256 ^ l.length + valL l
  | [], a => by simp [valL]
  | x :: l, a => by
    have h1 := foldl_val l (a * 256 + x)
    have h2 := foldl_val l (0 * 256 + x)
    have h3 : valL (x :: l) = (0 * 256 + x) * 256 ^ l.length + valL l := h2
    rw [List.foldl_cons, h1, h3, List.length_cons, Int.pow_succ, Int.add_mul, Int.add_mul, Int.mul_assoc, Int.mul_comm 256]
    simp [Int.add_assoc]
theorem valL_cons (x : Int) (l : List Int) : valL (x :: l) = x * 256 ^ l.length + valL l := by
  rw [valL, List.foldl_cons, foldl_val]; simp
theorem valL_range : ∀ (l : List Int), (∀ x ∈ l, 0 ≤ x ∧ x < 256) → 0 ≤ valL l ∧ valL l < 256 ^ l.length
  | [], _ => by simp [valL]
  | x :: l, h => by
    have h1 := valL_range l (fun y hy => h y (List.mem_cons_of_mem _ hy))
    have hx := h x (List.mem_cons_self ..)
    rw [valL_cons, List.length_cons, Int.pow_succ]
    have h0 : (0 : Int) ≤ x * 256 ^ l.length := Int.mul_nonneg hx.1 (by omega)
    have h2 : x * 256 ^ l.length ≤ 255 * 256 ^ l.length := Int.mul_le_mul_of_nonneg_right (by omega) (by omega)
    omega
theorem cmpL_val : ∀ (l r : List Int), l.length = r.length → (∀ x ∈ l, 0 ≤ x ∧ x < 256) → (∀ x ∈ r, 0 ≤ x ∧ x < 256) → cmpL l r = if valL l < valL r then -1 else if valL r < valL l then 1 else 0
  | [], [], _, _, _ => by simp [cmpL, valL]
  | [], _ :: _, h, _, _ => by simp at h
  | _ :: _, [], h, _, _ => by simp at h
  | x :: l, y :: r, h, hl, hr => by
    have hlen : l.length = r.length := by simpa using h
    have hl' := fun z hz => hl z (List.mem_cons_of_mem x hz)
    have hr' := fun z hz => hr z (List.mem_cons_of_mem y hz)
    have ih := cmpL_val l r hlen hl' hr'
    have a := valL_range l hl'
    have b := valL_range r hr'
    rw [cmpL, valL_cons, valL_cons, ← hlen]
    rw [← hlen] at b
    generalize (256 : Int) ^ l.length = P at *
    have hP : 0 < P := by omega
    by_cases h1 : x < y
    · have h2 : (x + 1) * P ≤ y * P := Int.mul_le_mul_of_nonneg_right (by omega) (by omega)
      rw [Int.add_mul] at h2
      rw [if_pos h1, if_pos (by omega)]
    · by_cases h2 : y < x
      · have h3 : (y + 1) * P ≤ x * P := Int.mul_le_mul_of_nonneg_right (by omega) (by omega)
        rw [Int.add_mul] at h3
        rw [if_neg h1, if_pos h2, if_neg (by omega), if_pos (by omega)]
      · have e : x = y := by omega
        subst e
        rw [if_neg h1, if_neg h2, ih]
        generalize x * P = Q
        by_cases h3 : valL l < valL r
        · rw [if_pos h3, if_pos (show Q + valL l < Q + valL r by omega)]
        · rw [if_neg h3, if_neg (show ¬ Q + valL l < Q + valL r by omega)]
          by_cases h4 : valL r < valL l
          · rw [if_pos h4, if_pos (show Q + valL r < Q + valL l by omega)]
          · rw [if_neg h4, if_neg (show ¬ Q + valL r < Q + valL l by omega)]
theorem valL_bytes {h : Hd} (ho : h.ok) : valL h.bytes = h.val := by
  obtain ⟨s0, s1, d0, d1, p0, p1, a0, a1, b0, b1⟩ := ho
  unfold valL Hd.bytes Hd.val
  simp only [List.foldl_cons, List.foldl_nil]
  omega
theorem cmpL_bytes {a b : Hd} (ha : a.ok) (hb : b.ok) : cmpL a.bytes b.bytes = cmpN a.val b.val := by
  have h := cmpL_val a.bytes b.bytes rfl (bytes_range a ha) (bytes_range b hb)
  rw [valL_bytes ha, valL_bytes hb] at h
  rw [h]
  unfold cmpN
  by_cases h1 : a.val < b.val
  · rw [if_pos h1, if_pos (show (a.val : Int) < b.val by omega)]
  · rw [if_neg h1, if_neg (show ¬ (a.val : Int) < b.val by omega)]
    by_cases h2 : b.val < a.val
    · rw [if_pos h2, if_pos (show (b.val : Int) < a.val by omega)]
    · rw [if_neg h2, if_neg (show ¬ (b.val : Int) < a.val by omega)]
/-- A header whose first bits are another's. -/
def Hd.mix (a c : Hd) (i : Nat) : Hd := hdOf (a.val / 2 ^ (104 - i) * 2 ^ (104 - i) + c.val % 2 ^ (104 - i))
theorem mix_aux (A C P Q : Nat) (hA : A < Q * P) (hP : 0 < P) : A / P * P + C % P < Q * P := by
  have h1 : C % P < P := Nat.mod_lt _ hP
  have h2 : A / P + 1 ≤ Q := (Nat.div_lt_iff_lt_mul hP).2 hA
  have h3 := Nat.mul_le_mul_right P h2
  rw [Nat.add_mul, Nat.one_mul] at h3
  omega
theorem pow_split {i : Nat} (hi : i ≤ 104) : hdAll = 2 ^ i * 2 ^ (104 - i) := by
  rw [hdAll_pow, ← Nat.pow_add]
  congr 1
  omega
theorem mix_lt {a c : Hd} (ha : a.ok) {i : Nat} (hi : i ≤ 104) : a.val / 2 ^ (104 - i) * 2 ^ (104 - i) + c.val % 2 ^ (104 - i) < hdAll := by
  have h := val_lt ha
  rw [pow_split hi] at *
  exact mix_aux _ _ _ _ h (Nat.two_pow_pos _)
theorem mix_ok {a c : Hd} (ha : a.ok) {i : Nat} (hi : i ≤ 104) : (a.mix c i).ok := hdOf_ok (mix_lt ha hi)
theorem mix_aux2 (A C p k : Nat) : (A / 2 ^ p * 2 ^ p + C % 2 ^ p).testBit k = if k < p then C.testBit k else A.testBit k := by
  have h1 : C % 2 ^ p < 2 ^ p := Nat.mod_lt _ (Nat.two_pow_pos _)
  have h2 := Nat.testBit_two_pow_mul_add (A / 2 ^ p) h1 k
  rw [Nat.mul_comm (A / 2 ^ p), h2]
  by_cases h : k < p
  · rw [if_pos h, if_pos h, Nat.testBit_mod_two_pow, decide_eq_true h, Bool.true_and]
  · rw [if_neg h, if_neg h, Nat.testBit_div_two_pow, Nat.sub_add_cancel (by omega)]
theorem mix_val {a c : Hd} (ha : a.ok) {i : Nat} (hi : i ≤ 104) : (a.mix c i).val = a.val / 2 ^ (104 - i) * 2 ^ (104 - i) + c.val % 2 ^ (104 - i) := val_hdOf (mix_lt ha hi)
theorem mix_bit {a c : Hd} (ha : a.ok) (hc : c.ok) {i j : Nat} (hi : i ≤ 104) (hj : j < 104) : (a.mix c i).bit j = if j < i then a.bit j else c.bit j := by
  have h1 := bit_val (mix_ok (c := c) ha hi) hj
  have h2 := bit_val ha hj
  have h3 := bit_val hc hj
  rw [mix_val ha hi, mix_aux2] at h1
  rw [h1, h2, h3]
  by_cases h : j < i
  · rw [if_pos h, if_neg (show ¬ 103 - j < 104 - i by omega)]
  · rw [if_neg h, if_pos (show 103 - j < 104 - i by omega)]
theorem mix_zero {a c : Hd} (ha : a.ok) (hc : c.ok) : a.mix c 0 = c := hd_bits (mix_ok ha (by omega)) hc fun j hj => by rw [mix_bit ha hc (by omega) hj, if_neg (by omega)]
theorem mix_full {a c : Hd} (ha : a.ok) (hc : c.ok) : a.mix c 104 = a := hd_bits (mix_ok ha (by omega)) ha fun j hj => by rw [mix_bit ha hc (by omega) hj, if_pos (by omega)]
theorem mix_put {a c : Hd} (ha : a.ok) (hc : c.ok) {i : Nat} (hi : i < 104) : (a.mix c i).put i (a.bit i) = a.mix c (i + 1) := hd_bits (put_ok (mix_ok ha (by omega)) hi) (mix_ok ha (by omega)) fun j hj => by
  rw [put_bit (mix_ok ha (by omega)) hi hj, mix_bit ha hc (by omega) hj, mix_bit ha hc (by omega) hj]
  by_cases h : j = i
  · subst h; rw [if_pos rfl, if_pos (by omega)]
  · rw [if_neg h]
    by_cases h2 : j < i
    · rw [if_pos h2, if_pos (by omega)]
    · rw [if_neg h2, if_neg (by omega)]
theorem mix_at {a c : Hd} (ha : a.ok) (hc : c.ok) {i : Nat} (hi : i < 104) : (a.mix c i).bit i = c.bit i := by
  rw [mix_bit ha hc (by omega) hi, if_neg (by omega)]
theorem cmpN_lt {a b : Nat} (h : a < b) : cmpN a b = -1 := by unfold cmpN; rw [if_pos h]
theorem cmpN_gt {a b : Nat} (h : b < a) : cmpN a b = 1 := by unfold cmpN; rw [if_neg (by omega), if_pos h]
theorem cmpN_eq (a : Nat) : cmpN a a = 0 := by unfold cmpN; rw [if_neg (by omega), if_neg (by omega)]
theorem cmpN_zero {a b : Nat} : cmpN a b = 0 ↔ a = b := by
  unfold cmpN; split
  · constructor
    · intro h; omega
    · intro h; omega
  · split
    · constructor
      · intro h; omega
      · intro h; omega
    · constructor
      · intro _; omega
      · intro _; rfl
theorem cmpN_neg (a b : Nat) : cmpN a b = - cmpN b a := by
  unfold cmpN
  by_cases h1 : a < b
  · rw [if_pos h1, if_neg (by omega), if_pos h1]
  · by_cases h2 : b < a
    · rw [if_neg h1, if_pos h2, if_pos h2]; rfl
    · rw [if_neg h1, if_neg h2, if_neg h2, if_neg h1]; rfl
theorem cmpN_le {a b : Nat} : cmpN a b ≤ 0 ↔ a ≤ b := by
  unfold cmpN
  by_cases h1 : a < b
  · rw [if_pos h1]; constructor <;> intro <;> omega
  · by_cases h2 : b < a
    · rw [if_neg h1, if_pos h2]; constructor <;> intro <;> omega
    · rw [if_neg h1, if_neg h2]; constructor <;> intro <;> omega
theorem turn_bit (v k j : Nat) : (v ^^^ 2 ^ k).testBit j = if k = j then !v.testBit k else v.testBit j := by
  rw [Nat.testBit_xor, Nat.testBit_two_pow]
  by_cases h : k = j
  · subst h; rw [if_pos rfl, decide_eq_true rfl, Bool.xor_true]
  · rw [if_neg h, decide_eq_false h, Bool.xor_false]
/-- A bit that is turned moves the number as the bit says. -/
theorem turn_lt {v k : Nat} (h : v.testBit k = true) : v ^^^ 2 ^ k < v := by
  refine Nat.lt_of_le_of_ne (Nat.le_of_testBit fun j hj => ?_) (fun e => ?_)
  · rw [turn_bit] at hj
    split at hj
    · rw [h] at hj; cases hj
    · exact hj
  · have e2 := congrArg (fun x => x.testBit k) e
    simp only [turn_bit, if_pos, h] at e2
    cases e2
theorem turn_gt {v k : Nat} (h : v.testBit k = false) : v < v ^^^ 2 ^ k := by
  refine Nat.lt_of_le_of_ne (Nat.le_of_testBit fun j hj => ?_) (fun e => ?_)
  · rw [turn_bit]
    split
    · rename_i e; rw [h]; rfl
    · exact hj
  · have e2 := congrArg (fun x => x.testBit k) e
    simp only [turn_bit, if_pos, h] at e2
    cases e2
/-- A byte that is set anew. -/
theorem valL_set : ∀ (l : List Int) (i : Nat) (x y : Int), l[i]? = some x → valL (l.set i y) = valL l + (y - x) * 256 ^ (l.length - 1 - i)
  | [], i, x, y, h => by simp at h
  | a :: l, 0, x, y, h => by
    simp at h; subst h
    rw [List.set_cons_zero, valL_cons, valL_cons, List.length_cons, Nat.add_sub_cancel, Nat.sub_zero, Int.sub_mul]
    omega
  | a :: l, i + 1, x, y, h => by
    simp only [List.getElem?_cons_succ] at h
    rw [List.set_cons_succ, valL_cons, valL_cons, valL_set l i x y h, List.length_set, List.length_cons, show l.length + 1 - 1 - (i + 1) = l.length - 1 - i by omega]
    omega
theorem len13 {l : List Int} (h : l.length = 13) : ∃ b0 b1 b2 b3 b4 b5 b6 b7 b8 b9 b10 b11 b12, l = [b0, b1, b2, b3, b4, b5, b6, b7, b8, b9, b10, b11, b12] := by
  match l, h with
  | [b0, b1, b2, b3, b4, b5, b6, b7, b8, b9, b10, b11, b12], _ => exact ⟨_, _, _, _, _, _, _, _, _, _, _, _, _, rfl⟩
theorem ofB_val {l : List Int} (h : l.length = 13) (hr : ∀ x ∈ l, 0 ≤ x ∧ x < 256) : (ofB l).ok ∧ ((ofB l).val : Int) = valL l ∧ (ofB l).bytes = l := by
  obtain ⟨b0, b1, b2, b3, b4, b5, b6, b7, b8, b9, b10, b11, b12, rfl⟩ := len13 h
  have ho := ofB_ok hr
  exact ⟨ho, by rw [← valL_bytes ho, bytes_ofB hr], bytes_ofB hr⟩
theorem ofB_is {l : List Int} (h : l.length = 13) (hr : ∀ x ∈ l, 0 ≤ x ∧ x < 256) {n : Nat} (hn : valL l = n) : ofB l = hdOf n := by
  obtain ⟨ho, hv, _⟩ := ofB_val h hr
  rw [← hdOf_val ho]
  congr 1
  omega
end Go.Proofs.YthgmmajoinkblaaDoor
