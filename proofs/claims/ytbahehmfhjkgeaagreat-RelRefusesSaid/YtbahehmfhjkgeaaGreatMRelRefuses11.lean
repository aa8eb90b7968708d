/-
  Joined texts: HdMath, Hd4, Hd5, Re2, Re3, Re4, Ct12, Rr1, Ex1, Ex2.
-/
import Derived.Test.YtbahehmfhjkgeaaGreatMRelRefuses10
import Derived.Deep.RegionHeldLaw
import Derived.Test.YtbahehmfhjkgeaaGreatMRelRefuses5
import Derived.Test.YtbahehmfhjkgeaaGreatMRelRefuses3
import Derived.Test.YtbahehmfhjkgeaaGreatMRelRefuses9
import Derived.Test.YtbahehmfhjkgeaaGreatMRelRefuses8
import Derived.Test.YtbahehmfhjkgeaaGreatMRelRefuses4
import Derived.Test.YtbahehmfhjkgeaaGreatMRelRefuses2
/-
  Headers as numbers: plain laws on their bytes and bits; no walk.
-/
namespace Go.Proofs.YtbahehmfhjkgeaaGreat
open Go Go.RowKit Go.Sort

/-- A header as one number. -/
def Hd.val (h : Hd) : Nat := (((h.src.toNat * 4294967296 + h.dst.toNat) * 256 + h.proto.toNat) * 65536 + h.sp.toNat) * 65536 + h.dp.toNat
/-- The header of a number. -/
def hdOf (n : Nat) : Hd := ⟨((n / 4722366482869645213696 : Nat) : Int), ((n / 1099511627776 % 4294967296 : Nat) : Int), ((n / 4294967296 % 256 : Nat) : Int), ((n / 65536 % 65536 : Nat) : Int), ((n % 65536 : Nat) : Int)⟩
/-- How many headers there are. -/
def hdAll : Nat := 20282409603651670423947251286016
theorem hdAll_pow : hdAll = 2 ^ 104 := by decide
theorem hdOf_ok {n : Nat} (h : n < hdAll) : (hdOf n).ok := by
  unfold hdAll at h
  refine ⟨?_, ?_, ?_, ?_, ?_, ?_, ?_, ?_, ?_, ?_⟩ <;> dsimp only [hdOf] <;> omega
theorem val_lt {h : Hd} (ho : h.ok) : h.val < hdAll := by
  obtain ⟨s0, s1, d0, d1, p0, p1, a0, a1, b0, b1⟩ := ho
  unfold Hd.val hdAll
  omega
theorem hd_ext {a b : Hd} (h1 : a.src = b.src) (h2 : a.dst = b.dst) (h3 : a.proto = b.proto) (h4 : a.sp = b.sp) (h5 : a.dp = b.dp) : a = b := by
  cases a; cases b; simp at *; exact ⟨h1, h2, h3, h4, h5⟩
theorem hdOf_val {h : Hd} (ho : h.ok) : hdOf h.val = h := by
  obtain ⟨s0, s1, d0, d1, p0, p1, a0, a1, b0, b1⟩ := ho
  obtain ⟨s, d, p, a, b⟩ := h
  simp only at *
  obtain ⟨s, rfl⟩ := Int.eq_ofNat_of_zero_le s0
  obtain ⟨d, rfl⟩ := Int.eq_ofNat_of_zero_le d0
  obtain ⟨p, rfl⟩ := Int.eq_ofNat_of_zero_le p0
  obtain ⟨a, rfl⟩ := Int.eq_ofNat_of_zero_le a0
  obtain ⟨b, rfl⟩ := Int.eq_ofNat_of_zero_le b0
  apply hd_ext <;> dsimp only [hdOf, Hd.val, Int.toNat_natCast] <;> omega
theorem val_hdOf {n : Nat} (h : n < hdAll) : (hdOf n).val = n := by
  unfold hdAll at h
  dsimp only [hdOf, Hd.val, Int.toNat_natCast]
  omega
theorem val_inj {a b : Hd} (ha : a.ok) (hb : b.ok) (h : a.val = b.val) : a = b := by rw [← hdOf_val ha, h, hdOf_val hb]
theorem bytes_val {h : Hd} (ho : h.ok) {k : Nat} (hk : k < 13) : h.bytes[k]? = some ((h.val / 256 ^ (12 - k) % 256 : Nat) : Int) := by
  obtain ⟨s0, s1, d0, d1, p0, p1, a0, a1, b0, b1⟩ := ho
  obtain ⟨s, d, p, a, b⟩ := h
  simp only at *
  obtain ⟨s, rfl⟩ := Int.eq_ofNat_of_zero_le s0
  obtain ⟨d, rfl⟩ := Int.eq_ofNat_of_zero_le d0
  obtain ⟨p, rfl⟩ := Int.eq_ofNat_of_zero_le p0
  obtain ⟨a, rfl⟩ := Int.eq_ofNat_of_zero_le a0
  obtain ⟨b, rfl⟩ := Int.eq_ofNat_of_zero_le b0
  have e (x y : Int) (h : x = y) : some x = some y := by rw [h]
  match k, hk with
  | 0, _ => exact e _ _ (by dsimp only [Hd.val, Int.toNat_natCast, Nat.reduceSub, Nat.reducePow]; omega)
  | 1, _ => exact e _ _ (by dsimp only [Hd.val, Int.toNat_natCast, Nat.reduceSub, Nat.reducePow]; omega)
  | 2, _ => exact e _ _ (by dsimp only [Hd.val, Int.toNat_natCast, Nat.reduceSub, Nat.reducePow]; omega)
  | 3, _ => exact e _ _ (by dsimp only [Hd.val, Int.toNat_natCast, Nat.reduceSub, Nat.reducePow]; omega)
  | 4, _ => exact e _ _ (by dsimp only [Hd.val, Int.toNat_natCast, Nat.reduceSub, Nat.reducePow]; omega)
  | 5, _ => exact e _ _ (by dsimp only [Hd.val, Int.toNat_natCast, Nat.reduceSub, Nat.reducePow]; omega)
  | 6, _ => exact e _ _ (by dsimp only [Hd.val, Int.toNat_natCast, Nat.reduceSub, Nat.reducePow]; omega)
  | 7, _ => exact e _ _ (by dsimp only [Hd.val, Int.toNat_natCast, Nat.reduceSub, Nat.reducePow]; omega)
  | 8, _ => exact e _ _ (by dsimp only [Hd.val, Int.toNat_natCast, Nat.reduceSub, Nat.reducePow]; omega)
  | 9, _ => exact e _ _ (by dsimp only [Hd.val, Int.toNat_natCast, Nat.reduceSub, Nat.reducePow]; omega)
  | 10, _ => exact e _ _ (by dsimp only [Hd.val, Int.toNat_natCast, Nat.reduceSub, Nat.reducePow]; omega)
  | 11, _ => exact e _ _ (by dsimp only [Hd.val, Int.toNat_natCast, Nat.reduceSub, Nat.reducePow]; omega)
  | 12, _ => exact e _ _ (by dsimp only [Hd.val, Int.toNat_natCast, Nat.reduceSub, Nat.reducePow]; omega)
theorem bit_val {h : Hd} (ho : h.ok) {i : Nat} (hi : i < 104) : h.bit i = h.val.testBit (103 - i) := by
  unfold Hd.bit
  rw [List.getD, bytes_val ho (by omega), Option.getD_some, Nat.testBit_eq_decide_div_mod_eq]
  have e : (((h.val / 256 ^ (12 - i / 8) % 256 : Nat) : Int) / 2 ^ (7 - i % 8) % 2) = (((h.val / 256 ^ (12 - i / 8) % 256) / 2 ^ (7 - i % 8) % 2 : Nat) : Int) := by simp
  rw [e]
  have h2 : (h.val / 256 ^ (12 - i / 8) % 256) / 2 ^ (7 - i % 8) % 2 = h.val / 2 ^ (103 - i) % 2 := by
    rw [show (256 : Nat) = 2 ^ 8 from rfl, ← Nat.pow_mul]
    have a1 := Nat.testBit_mod_two_pow (h.val / 2 ^ (8 * (12 - i / 8))) 8 (7 - i % 8)
    rw [Nat.testBit_div_two_pow, Nat.testBit_eq_decide_div_mod_eq, Nat.testBit_eq_decide_div_mod_eq] at a1
    rw [show 7 - i % 8 + 8 * (12 - i / 8) = 103 - i by omega] at a1
    have a2 : (7 - i % 8 < 8) := by omega
    simp only [a2, decide_true, Bool.true_and, decide_eq_decide] at a1
    have b1 := Nat.mod_lt ((h.val / 2 ^ (8 * (12 - i / 8)) % 2 ^ 8) / 2 ^ (7 - i % 8)) (show 0 < 2 by decide)
    have b2 := Nat.mod_lt (h.val / 2 ^ (103 - i)) (show 0 < 2 by decide)
    omega
  rw [h2]
  rcases Nat.mod_two_eq_zero_or_one (h.val / 2 ^ (103 - i)) with h | h <;> rw [h] <;> rfl
/-- A number with a bit set so. -/
def setB (v k : Nat) (b : Bool) : Nat := if v.testBit k = b then v else v ^^^ 2 ^ k
theorem setB_same {v k : Nat} {b : Bool} (h : v.testBit k = b) : setB v k b = v := if_pos h
theorem setB_other {v k : Nat} {b : Bool} (h : v.testBit k ≠ b) : setB v k b = v ^^^ 2 ^ k := if_neg h
theorem setB_bit (v k j : Nat) (b : Bool) : (setB v k b).testBit j = if j = k then b else v.testBit j := by
  unfold setB
  split
  · rename_i h
    split
    · rename_i e; rw [e, h]
    · rfl
  · rename_i h
    rw [Nat.testBit_xor, Nat.testBit_two_pow]
    split
    · rename_i e; subst e; simp only [decide_true, Bool.xor_true]
      revert h; cases v.testBit j <;> cases b <;> simp
    · rename_i e
      rw [show decide (k = j) = false from decide_eq_false (fun h => e h.symm)]
      simp
theorem setB_lt {v k : Nat} {b : Bool} (h : v < hdAll) (hk : k < 104) : setB v k b < hdAll := by
  rw [hdAll_pow] at *
  unfold setB
  split
  · exact h
  · exact Nat.xor_lt_two_pow h (Nat.pow_lt_pow_right (by decide) hk)
/-- Numbers with the same bits. -/
theorem val_bits {u v : Nat} (hu : u < hdAll) (hv : v < hdAll) (h : ∀ j, j < 104 → u.testBit j = v.testBit j) : u = v := by
  rw [hdAll_pow] at *
  refine Nat.eq_of_testBit_eq fun j => ?_
  by_cases hj : j < 104
  · exact h j hj
  · rw [Nat.testBit_lt_two_pow (Nat.lt_of_lt_of_le hu (Nat.pow_le_pow_right (by decide) (by omega))), Nat.testBit_lt_two_pow (Nat.lt_of_lt_of_le hv (Nat.pow_le_pow_right (by decide) (by omega)))]
theorem hd_bits {a b : Hd} (ha : a.ok) (hb : b.ok) (h : ∀ i, i < 104 → a.bit i = b.bit i) : a = b :=
  val_inj ha hb (val_bits (val_lt ha) (val_lt hb) (fun j hj => by
    have := h (103 - j) (by omega)
    rw [bit_val ha (by omega), bit_val hb (by omega), show 103 - (103 - j) = j by omega] at this
    exact this))
/-- A header with a bit set so. -/
def Hd.put (h : Hd) (i : Nat) (b : Bool) : Hd := hdOf (setB h.val (103 - i) b)
theorem put_ok {h : Hd} (ho : h.ok) {i : Nat} {b : Bool} (hi : i < 104) : (h.put i b).ok := hdOf_ok (setB_lt (val_lt ho) (by omega))
theorem put_bit {h : Hd} (ho : h.ok) {i j : Nat} {b : Bool} (hi : i < 104) (hj : j < 104) : (h.put i b).bit j = if j = i then b else h.bit j := by
  rw [bit_val (put_ok ho hi) hj]
  unfold Hd.put
  rw [val_hdOf (setB_lt (val_lt ho) (by omega)), setB_bit, bit_val ho hj]
  by_cases h : j = i
  · rw [if_pos h, if_pos (by omega)]
  · rw [if_neg h, if_neg (by omega)]
theorem hdPut_same {h : Hd} (ho : h.ok) {i : Nat} {b : Bool} (hi : i < 104) (hb : h.bit i = b) : h.put i b = h := by
  unfold Hd.put
  rw [bit_val ho hi] at hb
  rw [setB_same hb, hdOf_val ho]
theorem hdPut_other {h : Hd} (ho : h.ok) {i : Nat} {b : Bool} (hi : i < 104) (hb : h.bit i ≠ b) : h.put i b = hdOf (h.val ^^^ 2 ^ (103 - i)) := by
  unfold Hd.put
  rw [bit_val ho hi] at hb
  rw [setB_other hb]
/-- The byte in which a bit is turned. -/
theorem byte_xor (v i k : Nat) (hk : k < 13) (hi : i < 104) : (v ^^^ 2 ^ (103 - i)) / 256 ^ (12 - k) % 256 = if k = i / 8 then (v / 256 ^ (12 - k) % 256) ^^^ 2 ^ (7 - i % 8) else v / 256 ^ (12 - k) % 256 := by
  rw [show (256 : Nat) ^ (12 - k) = 2 ^ (8 * (12 - k)) by rw [Nat.pow_mul], show (256 : Nat) = 2 ^ 8 from rfl]
  refine Nat.eq_of_testBit_eq fun j => ?_
  rw [Nat.testBit_mod_two_pow, Nat.testBit_div_two_pow, Nat.testBit_xor, Nat.testBit_two_pow]
  split
  · rename_i e
    rw [Nat.testBit_xor, Nat.testBit_mod_two_pow, Nat.testBit_div_two_pow, Nat.testBit_two_pow]
    by_cases hj : j < 8
    · simp only [hj, decide_true, Bool.true_and]
      congr 1
      rw [decide_eq_decide]
      omega
    · simp only [hj, decide_false, Bool.false_and]
      rw [show decide (7 - i % 8 = j) = false from decide_eq_false (by omega)]
      rfl
  · rename_i e
    rw [Nat.testBit_mod_two_pow, Nat.testBit_div_two_pow]
    by_cases hj : j < 8
    · simp only [hj, decide_true, Bool.true_and]
      rw [show decide (103 - i = j + 8 * (12 - k)) = false from decide_eq_false (by omega)]
      simp
    · simp only [hj, decide_false, Bool.false_and]
theorem xor_lt {v i : Nat} (h : v < hdAll) (hi : i < 104) : v ^^^ 2 ^ (103 - i) < hdAll := by
  rw [hdAll_pow] at *
  exact Nat.xor_lt_two_pow h (Nat.pow_lt_pow_right (by decide) (by omega))
/-- The bytes of a header of which a bit is turned. -/
theorem bytes_xor {h : Hd} (ho : h.ok) {i : Nat} (hi : i < 104) {x : Nat} (hx : h.bytes[i / 8]? = some (x : Int)) : (hdOf (h.val ^^^ 2 ^ (103 - i))).bytes = h.bytes.set (i / 8) ((x ^^^ 2 ^ (7 - i % 8) : Nat) : Int) := by
  have hl := xor_lt (val_lt ho) hi
  refine List.ext_getElem? fun k => ?_
  by_cases hk : k < 13
  · rw [bytes_val (hdOf_ok hl) hk, val_hdOf hl, byte_xor _ _ _ hk hi, List.getElem?_set]
    split
    · rename_i e
      subst e
      rw [bytes_val ho (by omega)] at hx
      rw [if_pos rfl, if_pos (show i / 8 < h.bytes.length from by show i / 8 < 13; omega)]
      have hx' : h.val / 256 ^ (12 - i / 8) % 256 = x := by injection hx with hx; omega
      rw [hx']
    · rename_i e
      rw [if_neg (fun h => e h.symm), bytes_val ho hk]
  · rw [List.getElem?_eq_none (by show 13 ≤ k; omega), List.getElem?_eq_none (by rw [List.length_set]; show 13 ≤ k; omega)]
/-- The header of bytes. -/
def ofB (l : List Int) : Hd := ⟨((l.getD 0 0 * 256 + l.getD 1 0) * 256 + l.getD 2 0) * 256 + l.getD 3 0, ((l.getD 4 0 * 256 + l.getD 5 0) * 256 + l.getD 6 0) * 256 + l.getD 7 0, l.getD 8 0, l.getD 9 0 * 256 + l.getD 10 0, l.getD 11 0 * 256 + l.getD 12 0⟩
theorem ofB_bytes {h : Hd} (ho : h.ok) : ofB h.bytes = h := by
  obtain ⟨s0, s1, d0, d1, p0, p1, a0, a1, b0, b1⟩ := ho
  apply hd_ext <;> simp only [ofB, Hd.bytes, List.getD, List.getElem?_cons_zero, List.getElem?_cons_succ, Option.getD_some] <;> omega
/-- The order of numbers. -/
def cmpN (a b : Nat) : Int := if a < b then -1 else if b < a then 1 else 0
/-- The order of lists of numbers, byte for byte. -/
def cmpL : List Int → List Int → Int
  | x :: l, y :: r => if x < y then -1 else if y < x then 1 else cmpL l r
  | _, _ => 0
def valL (l : List Int) : Int := l.foldl (fun a b => a * 256 + b) 0
/-- A header whose first bits are another's. -/
def Hd.mix (a c : Hd) (i : Nat) : Hd := hdOf (a.val / 2 ^ (104 - i) * 2 ^ (104 - i) + c.val % 2 ^ (104 - i))
end Go.Proofs.YtbahehmfhjkgeaaGreat

/-
  Walks over headers: Of.
-/
namespace Go.Proofs.YtbahehmfhjkgeaaGreat
open Go Go.RowKit Go.Sort

structure OfSt (l : List Int) (h : Hd) (g : Nat) (w W : World) : Prop where
  a : W.heap[g]? = some (arr l)
  r : W.heap[g + 1]? = some (Hd.cells ⟨0, 0, 0, 0, 0⟩)
  b : W.heap[g + 2]? = some h.cells
  n : Below w.heap.size w W
theorem hd_cell {w : World} {g : Nat} {h : Hd} (H : w.heap[g]? = some h.cells) : w.cell? ⟨g, 0, none⟩ = some (.int .u32 h.src) ∧ w.cell? ⟨g, 1, none⟩ = some (.int .u32 h.dst) ∧ w.cell? ⟨g, 2, none⟩ = some (.int .u8 h.proto) ∧ w.cell? ⟨g, 3, none⟩ = some (.int .u16 h.sp) ∧ w.cell? ⟨g, 4, none⟩ = some (.int .u16 h.dp) := by
  refine ⟨?_, ?_, ?_, ?_, ?_⟩ <;> (rw [cell_of_row w g _ _ _ _ H]; rfl)
theorem hd_frozen {w : World} {g : Nat} {h : Hd} (H : w.heap[g]? = some h.cells) (k : Nat) : w.frozen? ⟨g, k, none⟩ = false := frozen_row H k
theorem hd_set0 {w : World} {g : Nat} {h : Hd} (H : w.heap[g]? = some h.cells) (x : Int) : (w.setCell ⟨g, 0, none⟩ (.int .u32 x)).heap[g]? = some (Hd.cells { h with src := x }) := by rw [heap_setCell_same _ _ _ _ _ _ H]; rfl
theorem hd_set1 {w : World} {g : Nat} {h : Hd} (H : w.heap[g]? = some h.cells) (x : Int) : (w.setCell ⟨g, 1, none⟩ (.int .u32 x)).heap[g]? = some (Hd.cells { h with dst := x }) := by rw [heap_setCell_same _ _ _ _ _ _ H]; rfl
theorem hd_set2 {w : World} {g : Nat} {h : Hd} (H : w.heap[g]? = some h.cells) (x : Int) : (w.setCell ⟨g, 2, none⟩ (.int .u8 x)).heap[g]? = some (Hd.cells { h with proto := x }) := by rw [heap_setCell_same _ _ _ _ _ _ H]; rfl
theorem hd_set3 {w : World} {g : Nat} {h : Hd} (H : w.heap[g]? = some h.cells) (x : Int) : (w.setCell ⟨g, 3, none⟩ (.int .u16 x)).heap[g]? = some (Hd.cells { h with sp := x }) := by rw [heap_setCell_same _ _ _ _ _ _ H]; rfl
theorem hd_set4 {w : World} {g : Nat} {h : Hd} (H : w.heap[g]? = some h.cells) (x : Int) : (w.setCell ⟨g, 4, none⟩ (.int .u16 x)).heap[g]? = some (Hd.cells { h with dp := x }) := by rw [heap_setCell_same _ _ _ _ _ _ H]; rfl
theorem ofst_move {l : List Int} {h h' : Hd} {g : Nat} {w W W' : World} (H : OfSt l h g w W) (hb : W'.heap[g + 2]? = some h'.cells) (h0 : ∀ i, i ≠ g + 2 → W'.heap[i]? = W.heap[i]?) (hn : Below w.heap.size w W') : OfSt l h' g w W' :=
  ⟨(h0 g (by omega)).trans H.a, (h0 (g + 1) (by omega)).trans H.r, hb, hn⟩
theorem set_heap (w : World) (b k : Nat) (v : Value) (i : Nat) (h : i ≠ b) : (w.setCell ⟨b, k, none⟩ v).heap[i]? = w.heap[i]? := heap_setCell_other _ _ _ _ h
theorem ofst_both {l : List Int} {h : Hd} {g : Nat} {w W : World} (H : OfSt l h g w W) (hg : w.heap.size ≤ g) (x y : Int) : OfSt l { h with src := x, dst := y } g w ((W.setCell ⟨g + 1 + 1, 0, none⟩ (.int .u32 x)).setCell ⟨g + 1 + 1, 1, none⟩ (.int .u32 y)).drew ∧ OfSt l { h with src := x, dst := y } g w ((W.setCell ⟨g + 1 + 1, 1, none⟩ (.int .u32 y)).setCell ⟨g + 1 + 1, 0, none⟩ (.int .u32 x)).drew :=
  ⟨ofst_move H (hd_set1 (hd_set0 H.b x) y) (fun i hi => (set_heap _ _ _ _ _ hi).trans (set_heap _ _ _ _ _ hi)) (((H.n.setCell (p := ⟨g + 1 + 1, 0, none⟩) (by show w.heap.size ≤ g + 1 + 1; omega) _).setCell (p := ⟨g + 1 + 1, 1, none⟩) (by show w.heap.size ≤ g + 1 + 1; omega) _).drew),
   ofst_move H (hd_set0 (hd_set1 H.b y) x) (fun i hi => (set_heap _ _ _ _ _ hi).trans (set_heap _ _ _ _ _ hi)) (((H.n.setCell (p := ⟨g + 1 + 1, 1, none⟩) (by show w.heap.size ≤ g + 1 + 1; omega) _).setCell (p := ⟨g + 1 + 1, 0, none⟩) (by show w.heap.size ≤ g + 1 + 1; omega) _).drew)⟩
theorem ofst_ports {l : List Int} {h : Hd} {g : Nat} {w W : World} (H : OfSt l h g w W) (hg : w.heap.size ≤ g) (x y : Int) : OfSt l { h with sp := x, dp := y } g w ((W.setCell ⟨g + 1 + 1, 3, none⟩ (.int .u16 x)).setCell ⟨g + 1 + 1, 4, none⟩ (.int .u16 y)).drew ∧ OfSt l { h with sp := x, dp := y } g w ((W.setCell ⟨g + 1 + 1, 4, none⟩ (.int .u16 y)).setCell ⟨g + 1 + 1, 3, none⟩ (.int .u16 x)).drew :=
  ⟨ofst_move H (hd_set4 (hd_set3 H.b x) y) (fun i hi => (set_heap _ _ _ _ _ hi).trans (set_heap _ _ _ _ _ hi)) (((H.n.setCell (p := ⟨g + 1 + 1, 3, none⟩) (by show w.heap.size ≤ g + 1 + 1; omega) _).setCell (p := ⟨g + 1 + 1, 4, none⟩) (by show w.heap.size ≤ g + 1 + 1; omega) _).drew),
   ofst_move H (hd_set3 (hd_set4 H.b y) x) (fun i hi => (set_heap _ _ _ _ _ hi).trans (set_heap _ _ _ _ _ hi)) (((H.n.setCell (p := ⟨g + 1 + 1, 4, none⟩) (by show w.heap.size ≤ g + 1 + 1; omega) _).setCell (p := ⟨g + 1 + 1, 3, none⟩) (by show w.heap.size ≤ g + 1 + 1; omega) _).drew)⟩
theorem results_hd {fn : Func} {tmps : Array Value} {w : World} {g : Nat} {h : Hd} {t1 : Nat} (hf : fn.results = #[.cell t1 82]) (h1 : tmps.getD t1 undef = .pointer (some ⟨g, 0, none⟩)) (k1 : w.heap[g]? = some h.cells) :
    (results fn tmps).run Tryz.prog w = .ok (.agg #[.int .u32 h.src, .int .u32 h.dst, .int .u8 h.proto, .int .u16 h.sp, .int .u16 h.dp]) w := by
  obtain ⟨c0, c1, c2, c3, c4⟩ := hd_cell k1
  have h1' : tmps[t1]?.getD undef = .pointer (some ⟨g, 0, none⟩) := by simpa using h1
  simp [results, hf, h1', go_sem, c0, c1, c2, c3, c4]
theorem wrap32_s (x : Int) (h0 : 0 ≤ x) (h1 : x < 4294967296) : IntKind.u32.wrap x = x := by simp [IntKind.wrap, IntKind.bits, IntKind.signed]; omega
theorem wrap16_s (x : Int) (h0 : 0 ≤ x) (h1 : x < 65536) : IntKind.u16.wrap x = x := by simp [IntKind.wrap, IntKind.bits, IntKind.signed]; omega
theorem or32 (x b : Int) (h0 : 0 ≤ x) (h1 : x < 16777216) (h2 : 0 ≤ b) (h3 : b < 256) : bits .or .u32 (IntKind.u32.wrap (x * 256)) (IntKind.u32.wrap b) = x * 256 + b := by
  obtain ⟨x, rfl⟩ := Int.eq_ofNat_of_zero_le h0
  obtain ⟨b, rfl⟩ := Int.eq_ofNat_of_zero_le h2
  have h := or_byte x b (by omega) (by omega)
  have e1 : IntKind.u32.wrap ((x : Int) * 256) = (x : Int) * 256 % 4294967296 := by simp [IntKind.wrap, IntKind.bits, IntKind.signed]
  have e2 : IntKind.u32.wrap (b : Int) = (b : Int) % 4294967296 := by simp [IntKind.wrap, IntKind.bits, IntKind.signed]
  rw [e1, e2, h]
  omega
theorem or32z (b : Int) (h2 : 0 ≤ b) (h3 : b < 256) : bits .or .u32 (IntKind.u32.wrap 0) (IntKind.u32.wrap b) = b := by
  have h := or32 0 b (by omega) (by omega) h2 h3
  simpa using h
theorem or16 (x b : Int) (h0 : 0 ≤ x) (h1 : x < 256) (h2 : 0 ≤ b) (h3 : b < 256) : bits .or .u16 (IntKind.u16.wrap (x * 256)) (IntKind.u16.wrap b) = x * 256 + b := by
  obtain ⟨x, rfl⟩ := Int.eq_ofNat_of_zero_le h0
  obtain ⟨b, rfl⟩ := Int.eq_ofNat_of_zero_le h2
  have e1 : IntKind.u16.wrap ((x : Int) * 256) = ((x * 256 : Nat) : Int) := by simp [IntKind.wrap, IntKind.bits, IntKind.signed]; omega
  have e2 : IntKind.u16.wrap (b : Int) = (b : Int) := by simp [IntKind.wrap, IntKind.bits, IntKind.signed]; omega
  have h := Nat.shiftLeft_add_eq_or_of_lt (b := b) (i := 8) (by omega) x
  rw [Nat.shiftLeft_eq, show (2 : Nat) ^ 8 = 256 from rfl] at h
  rw [e1, e2, u16_or _ _ (by omega) (by omega) (by omega) (by omega), Int.toNat_natCast, Int.toNat_natCast, ← h]
  simp
theorem or16z (b : Int) (h2 : 0 ≤ b) (h3 : b < 256) : bits .or .u16 (IntKind.u16.wrap 0) (IntKind.u16.wrap b) = b := by
  have h := or16 0 b (by omega) (by omega) h2 h3
  simpa using h
set_option maxRecDepth 100000 in
set_option maxHeartbeats 4000000 in
theorem of_any (b0 b1 b2 b3 b4 b5 b6 b7 b8 b9 b10 b11 b12 : Int) (hr : ∀ x ∈ [b0, b1, b2, b3, b4, b5, b6, b7, b8, b9, b10, b11, b12], 0 ≤ x ∧ x < 256) (w : World) :
    Calls Tryz.prog 176 #[.agg #[.int .u8 b0, .int .u8 b1, .int .u8 b2, .int .u8 b3, .int .u8 b4, .int .u8 b5, .int .u8 b6, .int .u8 b7, .int .u8 b8, .int .u8 b9, .int .u8 b10, .int .u8 b11, .int .u8 b12]] w fun e w' => e = .returned (.agg (ofB [b0, b1, b2, b3, b4, b5, b6, b7, b8, b9, b10, b11, b12]).enc.toArray) ∧ Below w.heap.size w w' := by
  go_enter Tryz.func176, Tryz.ntmps176
  go_wp2
  have hS : Hid (OfSt [b0, b1, b2, b3, b4, b5, b6, b7, b8, b9, b10, b11, b12] ⟨0, 0, b8, 0, 0⟩ w.heap.size w (((w.alloc (.cells #[.int .u8 b0, .int .u8 b1, .int .u8 b2, .int .u8 b3, .int .u8 b4, .int .u8 b5, .int .u8 b6, .int .u8 b7, .int .u8 b8, .int .u8 b9, .int .u8 b10, .int .u8 b11, .int .u8 b12] 276)).alloc (.cells #[.int .u32 0, .int .u32 0, .int .u8 0, .int .u16 0, .int .u16 0] 82)).alloc (.cells #[.int .u32 0, .int .u32 0, .int .u8 b8, .int .u16 0, .int .u16 0] 82))) := by
    obtain ⟨k0, k1, k2⟩ := blk3 w (.cells #[.int .u8 b0, .int .u8 b1, .int .u8 b2, .int .u8 b3, .int .u8 b4, .int .u8 b5, .int .u8 b6, .int .u8 b7, .int .u8 b8, .int .u8 b9, .int .u8 b10, .int .u8 b11, .int .u8 b12] 276) (.cells #[.int .u32 0, .int .u32 0, .int .u8 0, .int .u16 0, .int .u16 0] 82) (.cells #[.int .u32 0, .int .u32 0, .int .u8 b8, .int .u16 0, .int .u16 0] 82)
    exact Lib.hid ⟨k0, k1, k2, below3 w _ _ _⟩
  generalize (((w.alloc (.cells #[.int .u8 b0, .int .u8 b1, .int .u8 b2, .int .u8 b3, .int .u8 b4, .int .u8 b5, .int .u8 b6, .int .u8 b7, .int .u8 b8, .int .u8 b9, .int .u8 b10, .int .u8 b11, .int .u8 b12] 276)).alloc (.cells #[.int .u32 0, .int .u32 0, .int .u8 0, .int .u16 0, .int .u16 0] 82)).alloc (.cells #[.int .u32 0, .int .u32 0, .int .u8 b8, .int .u16 0, .int .u16 0] 82)) = W at *
  simp only [List.mem_cons, List.mem_nil_iff, or_false, forall_eq_or_imp, forall_eq] at hr
  obtain ⟨⟨e0, l0⟩, ⟨e1, l1⟩, ⟨e2, l2⟩, ⟨e3, l3⟩, ⟨e4, l4⟩, ⟨e5, l5⟩, ⟨e6, l6⟩, ⟨e7, l7⟩, ⟨e8, l8⟩, ⟨e9, l9⟩, ⟨e10, l10⟩, ⟨e11, l11⟩, ⟨e12, l12⟩⟩ := hr
  go_loopw [9] (fun i wr => ∃ k : Nat, i = .int .i64 k ∧ k ≤ 4 ∧ Hid (OfSt [b0, b1, b2, b3, b4, b5, b6, b7, b8, b9, b10, b11, b12] (match k with | 0 => ⟨0, 0, b8, 0, 0⟩ | 1 => ⟨b0, b4, b8, 0, 0⟩ | 2 => ⟨(b0 * 256 + b1), (b4 * 256 + b5), b8, 0, 0⟩ | 3 => ⟨((b0 * 256 + b1) * 256 + b2), ((b4 * 256 + b5) * 256 + b6), b8, 0, 0⟩ | _ => ⟨(((b0 * 256 + b1) * 256 + b2) * 256 + b3), (((b4 * 256 + b5) * 256 + b6) * 256 + b7), b8, 0, 0⟩) w.heap.size w wr)) (fun i _ => 4 - (intOf i).toNat)
  case atStart => exact ⟨0, rfl, by omega, hS⟩
  case round =>
    obtain ⟨k, rfl, hk, hSr⟩ := hrel
    clear hS
    by_cases hlt : k < 4
    · have hI : (k : Int) < 4 := by omega
      rcases (show k = 0 ∨ k = 1 ∨ k = 2 ∨ k = 3 by omega) with rfl | rfl | rfl | rfl
      · have hSk : OfSt [b0, b1, b2, b3, b4, b5, b6, b7, b8, b9, b10, b11, b12] ⟨0, 0, b8, 0, 0⟩ w.heap.size w wr := hSr.out
        obtain ⟨c0, c1, c2, c3, c4⟩ := hd_cell hSk.b
        have z0 := hd_frozen hSk.b 0
        have z1 := hd_frozen hSk.b 1
        have q0 := arr_cell hSk.a (k := 0) (x := b0) rfl
        have q4 := arr_cell hSk.a (k := 4) (x := b4) rfl
        have n1 : w.heap.size ≠ w.heap.size + 1 + 1 := by omega
        have n2 : w.heap.size + 1 + 1 ≠ w.heap.size := by omega
        have y0 : IntKind.i64.wrap 0 = 0 := by decide
        have y4 : IntKind.i64.wrap 4 = 4 := by decide
        have e1 : (bits .or .u32 (IntKind.u32.wrap (0)) (IntKind.u32.wrap b0)) = b0 := or32z b0 (by omega) (by omega)
        have e2 : (bits .or .u32 (IntKind.u32.wrap (0)) (IntKind.u32.wrap b4)) = b4 := or32z b4 (by omega) (by omega)
        have hA : OfSt [b0, b1, b2, b3, b4, b5, b6, b7, b8, b9, b10, b11, b12] ⟨b0, b4, b8, 0, 0⟩ w.heap.size w ((wr.setCell ⟨w.heap.size + 1 + 1, 0, none⟩ (.int .u32 (bits .or .u32 (IntKind.u32.wrap (0)) (IntKind.u32.wrap b0)))).setCell ⟨w.heap.size + 1 + 1, 1, none⟩ (.int .u32 (bits .or .u32 (IntKind.u32.wrap (0)) (IntKind.u32.wrap b4)))).drew := by
          have hN := (ofst_both hSk (Nat.le_refl _) (bits .or .u32 (IntKind.u32.wrap (0)) (IntKind.u32.wrap b0)) (bits .or .u32 (IntKind.u32.wrap (0)) (IntKind.u32.wrap b4))).1
          rw [e1, e2] at hN ⊢
          exact hN
        have hB : OfSt [b0, b1, b2, b3, b4, b5, b6, b7, b8, b9, b10, b11, b12] ⟨b0, b4, b8, 0, 0⟩ w.heap.size w ((wr.setCell ⟨w.heap.size + 1 + 1, 0, none⟩ (.int .u32 (bits .or .u32 (0) b0))).setCell ⟨w.heap.size + 1 + 1, 1, none⟩ (.int .u32 (bits .or .u32 (0) b4))).drew := by
          have hN := hA
          rw [wrap32_s b0 (by omega) (by omega), wrap32_s b4 (by omega) (by omega), wrap32_s (0) (by omega) (by omega)] at hN
          exact hN
        have hN2 := Lib.hid hA
        have hN3 := Lib.hid hB
        clear hA hB hSk hSr e1 e2
        go_upto_region 5 with fail
        go_region
        all_goals (clear q0 q4 z0 z1 c0 c1 c2 c3 c4; go_wp2; first | exact ⟨⟨1, rfl, by omega, hN3⟩, by simp only [intOf]; omega⟩ | exact ⟨⟨1, rfl, by omega, hN2⟩, by simp only [intOf]; omega⟩)
      · have hSk : OfSt [b0, b1, b2, b3, b4, b5, b6, b7, b8, b9, b10, b11, b12] ⟨b0, b4, b8, 0, 0⟩ w.heap.size w wr := hSr.out
        obtain ⟨c0, c1, c2, c3, c4⟩ := hd_cell hSk.b
        have z0 := hd_frozen hSk.b 0
        have z1 := hd_frozen hSk.b 1
        have q0 := arr_cell hSk.a (k := 1) (x := b1) rfl
        have q4 := arr_cell hSk.a (k := 5) (x := b5) rfl
        have n1 : w.heap.size ≠ w.heap.size + 1 + 1 := by omega
        have n2 : w.heap.size + 1 + 1 ≠ w.heap.size := by omega
        have y1 : IntKind.i64.wrap 1 = 1 := by decide
        have y5 : IntKind.i64.wrap 5 = 5 := by decide
        have e1 : (bits .or .u32 (IntKind.u32.wrap (b0 * 256)) (IntKind.u32.wrap b1)) = (b0 * 256 + b1) := or32 (b0) b1 (by omega) (by omega) (by omega) (by omega)
        have e2 : (bits .or .u32 (IntKind.u32.wrap (b4 * 256)) (IntKind.u32.wrap b5)) = (b4 * 256 + b5) := or32 (b4) b5 (by omega) (by omega) (by omega) (by omega)
        have hA : OfSt [b0, b1, b2, b3, b4, b5, b6, b7, b8, b9, b10, b11, b12] ⟨(b0 * 256 + b1), (b4 * 256 + b5), b8, 0, 0⟩ w.heap.size w ((wr.setCell ⟨w.heap.size + 1 + 1, 0, none⟩ (.int .u32 (bits .or .u32 (IntKind.u32.wrap (b0 * 256)) (IntKind.u32.wrap b1)))).setCell ⟨w.heap.size + 1 + 1, 1, none⟩ (.int .u32 (bits .or .u32 (IntKind.u32.wrap (b4 * 256)) (IntKind.u32.wrap b5)))).drew := by
          have hN := (ofst_both hSk (Nat.le_refl _) (bits .or .u32 (IntKind.u32.wrap (b0 * 256)) (IntKind.u32.wrap b1)) (bits .or .u32 (IntKind.u32.wrap (b4 * 256)) (IntKind.u32.wrap b5))).1
          rw [e1, e2] at hN ⊢
          exact hN
        have hB : OfSt [b0, b1, b2, b3, b4, b5, b6, b7, b8, b9, b10, b11, b12] ⟨(b0 * 256 + b1), (b4 * 256 + b5), b8, 0, 0⟩ w.heap.size w ((wr.setCell ⟨w.heap.size + 1 + 1, 0, none⟩ (.int .u32 (bits .or .u32 (b0 * 256) b1))).setCell ⟨w.heap.size + 1 + 1, 1, none⟩ (.int .u32 (bits .or .u32 (b4 * 256) b5))).drew := by
          have hN := hA
          rw [wrap32_s b1 (by omega) (by omega), wrap32_s b5 (by omega) (by omega), wrap32_s (b0 * 256) (by omega) (by omega), wrap32_s (b4 * 256) (by omega) (by omega)] at hN
          exact hN
        have hN2 := Lib.hid hA
        have hN3 := Lib.hid hB
        clear hA hB hSk hSr e1 e2
        go_upto_region 5 with fail
        go_region
        all_goals (clear q0 q4 z0 z1 c0 c1 c2 c3 c4; go_wp2; first | exact ⟨⟨2, rfl, by omega, hN3⟩, by simp only [intOf]; omega⟩ | exact ⟨⟨2, rfl, by omega, hN2⟩, by simp only [intOf]; omega⟩)
      · have hSk : OfSt [b0, b1, b2, b3, b4, b5, b6, b7, b8, b9, b10, b11, b12] ⟨(b0 * 256 + b1), (b4 * 256 + b5), b8, 0, 0⟩ w.heap.size w wr := hSr.out
        obtain ⟨c0, c1, c2, c3, c4⟩ := hd_cell hSk.b
        have z0 := hd_frozen hSk.b 0
        have z1 := hd_frozen hSk.b 1
        have q0 := arr_cell hSk.a (k := 2) (x := b2) rfl
        have q4 := arr_cell hSk.a (k := 6) (x := b6) rfl
        have n1 : w.heap.size ≠ w.heap.size + 1 + 1 := by omega
        have n2 : w.heap.size + 1 + 1 ≠ w.heap.size := by omega
        have y2 : IntKind.i64.wrap 2 = 2 := by decide
        have y6 : IntKind.i64.wrap 6 = 6 := by decide
        have e1 : (bits .or .u32 (IntKind.u32.wrap ((b0 * 256 + b1) * 256)) (IntKind.u32.wrap b2)) = ((b0 * 256 + b1) * 256 + b2) := or32 ((b0 * 256 + b1)) b2 (by omega) (by omega) (by omega) (by omega)
        have e2 : (bits .or .u32 (IntKind.u32.wrap ((b4 * 256 + b5) * 256)) (IntKind.u32.wrap b6)) = ((b4 * 256 + b5) * 256 + b6) := or32 ((b4 * 256 + b5)) b6 (by omega) (by omega) (by omega) (by omega)
        have hA : OfSt [b0, b1, b2, b3, b4, b5, b6, b7, b8, b9, b10, b11, b12] ⟨((b0 * 256 + b1) * 256 + b2), ((b4 * 256 + b5) * 256 + b6), b8, 0, 0⟩ w.heap.size w ((wr.setCell ⟨w.heap.size + 1 + 1, 0, none⟩ (.int .u32 (bits .or .u32 (IntKind.u32.wrap ((b0 * 256 + b1) * 256)) (IntKind.u32.wrap b2)))).setCell ⟨w.heap.size + 1 + 1, 1, none⟩ (.int .u32 (bits .or .u32 (IntKind.u32.wrap ((b4 * 256 + b5) * 256)) (IntKind.u32.wrap b6)))).drew := by
          have hN := (ofst_both hSk (Nat.le_refl _) (bits .or .u32 (IntKind.u32.wrap ((b0 * 256 + b1) * 256)) (IntKind.u32.wrap b2)) (bits .or .u32 (IntKind.u32.wrap ((b4 * 256 + b5) * 256)) (IntKind.u32.wrap b6))).1
          rw [e1, e2] at hN ⊢
          exact hN
        have hB : OfSt [b0, b1, b2, b3, b4, b5, b6, b7, b8, b9, b10, b11, b12] ⟨((b0 * 256 + b1) * 256 + b2), ((b4 * 256 + b5) * 256 + b6), b8, 0, 0⟩ w.heap.size w ((wr.setCell ⟨w.heap.size + 1 + 1, 0, none⟩ (.int .u32 (bits .or .u32 ((b0 * 256 + b1) * 256) b2))).setCell ⟨w.heap.size + 1 + 1, 1, none⟩ (.int .u32 (bits .or .u32 ((b4 * 256 + b5) * 256) b6))).drew := by
          have hN := hA
          rw [wrap32_s b2 (by omega) (by omega), wrap32_s b6 (by omega) (by omega), wrap32_s ((b0 * 256 + b1) * 256) (by omega) (by omega), wrap32_s ((b4 * 256 + b5) * 256) (by omega) (by omega)] at hN
          exact hN
        have hN2 := Lib.hid hA
        have hN3 := Lib.hid hB
        clear hA hB hSk hSr e1 e2
        go_upto_region 5 with fail
        go_region
        all_goals (clear q0 q4 z0 z1 c0 c1 c2 c3 c4; go_wp2; first | exact ⟨⟨3, rfl, by omega, hN3⟩, by simp only [intOf]; omega⟩ | exact ⟨⟨3, rfl, by omega, hN2⟩, by simp only [intOf]; omega⟩)
      · have hSk : OfSt [b0, b1, b2, b3, b4, b5, b6, b7, b8, b9, b10, b11, b12] ⟨((b0 * 256 + b1) * 256 + b2), ((b4 * 256 + b5) * 256 + b6), b8, 0, 0⟩ w.heap.size w wr := hSr.out
        obtain ⟨c0, c1, c2, c3, c4⟩ := hd_cell hSk.b
        have z0 := hd_frozen hSk.b 0
        have z1 := hd_frozen hSk.b 1
        have q0 := arr_cell hSk.a (k := 3) (x := b3) rfl
        have q4 := arr_cell hSk.a (k := 7) (x := b7) rfl
        have n1 : w.heap.size ≠ w.heap.size + 1 + 1 := by omega
        have n2 : w.heap.size + 1 + 1 ≠ w.heap.size := by omega
        have y3 : IntKind.i64.wrap 3 = 3 := by decide
        have y7 : IntKind.i64.wrap 7 = 7 := by decide
        have e1 : (bits .or .u32 (IntKind.u32.wrap (((b0 * 256 + b1) * 256 + b2) * 256)) (IntKind.u32.wrap b3)) = (((b0 * 256 + b1) * 256 + b2) * 256 + b3) := or32 (((b0 * 256 + b1) * 256 + b2)) b3 (by omega) (by omega) (by omega) (by omega)
        have e2 : (bits .or .u32 (IntKind.u32.wrap (((b4 * 256 + b5) * 256 + b6) * 256)) (IntKind.u32.wrap b7)) = (((b4 * 256 + b5) * 256 + b6) * 256 + b7) := or32 (((b4 * 256 + b5) * 256 + b6)) b7 (by omega) (by omega) (by omega) (by omega)
        have hA : OfSt [b0, b1, b2, b3, b4, b5, b6, b7, b8, b9, b10, b11, b12] ⟨(((b0 * 256 + b1) * 256 + b2) * 256 + b3), (((b4 * 256 + b5) * 256 + b6) * 256 + b7), b8, 0, 0⟩ w.heap.size w ((wr.setCell ⟨w.heap.size + 1 + 1, 0, none⟩ (.int .u32 (bits .or .u32 (IntKind.u32.wrap (((b0 * 256 + b1) * 256 + b2) * 256)) (IntKind.u32.wrap b3)))).setCell ⟨w.heap.size + 1 + 1, 1, none⟩ (.int .u32 (bits .or .u32 (IntKind.u32.wrap (((b4 * 256 + b5) * 256 + b6) * 256)) (IntKind.u32.wrap b7)))).drew := by
          have hN := (ofst_both hSk (Nat.le_refl _) (bits .or .u32 (IntKind.u32.wrap (((b0 * 256 + b1) * 256 + b2) * 256)) (IntKind.u32.wrap b3)) (bits .or .u32 (IntKind.u32.wrap (((b4 * 256 + b5) * 256 + b6) * 256)) (IntKind.u32.wrap b7))).1
          rw [e1, e2] at hN ⊢
          exact hN
        have hB : OfSt [b0, b1, b2, b3, b4, b5, b6, b7, b8, b9, b10, b11, b12] ⟨(((b0 * 256 + b1) * 256 + b2) * 256 + b3), (((b4 * 256 + b5) * 256 + b6) * 256 + b7), b8, 0, 0⟩ w.heap.size w ((wr.setCell ⟨w.heap.size + 1 + 1, 0, none⟩ (.int .u32 (bits .or .u32 (((b0 * 256 + b1) * 256 + b2) * 256) b3))).setCell ⟨w.heap.size + 1 + 1, 1, none⟩ (.int .u32 (bits .or .u32 (((b4 * 256 + b5) * 256 + b6) * 256) b7))).drew := by
          have hN := hA
          rw [wrap32_s b3 (by omega) (by omega), wrap32_s b7 (by omega) (by omega), wrap32_s (((b0 * 256 + b1) * 256 + b2) * 256) (by omega) (by omega), wrap32_s (((b4 * 256 + b5) * 256 + b6) * 256) (by omega) (by omega)] at hN
          exact hN
        have hN2 := Lib.hid hA
        have hN3 := Lib.hid hB
        clear hA hB hSk hSr e1 e2
        go_upto_region 5 with fail
        go_region
        all_goals (clear q0 q4 z0 z1 c0 c1 c2 c3 c4; go_wp2; first | exact ⟨⟨4, rfl, by omega, hN3⟩, by simp only [intOf]; omega⟩ | exact ⟨⟨4, rfl, by omega, hN2⟩, by simp only [intOf]; omega⟩)
    · obtain rfl : k = 4 := by omega
      have hSk : Hid (OfSt [b0, b1, b2, b3, b4, b5, b6, b7, b8, b9, b10, b11, b12] ⟨(((b0 * 256 + b1) * 256 + b2) * 256 + b3), (((b4 * 256 + b5) * 256 + b6) * 256 + b7), b8, 0, 0⟩ w.heap.size w wr) := hSr
      clear hSr
      go_wp2
      go_loopw [32] (fun i wr => ∃ k : Nat, i = .int .i64 k ∧ k ≤ 2 ∧ Hid (OfSt [b0, b1, b2, b3, b4, b5, b6, b7, b8, b9, b10, b11, b12] (match k with | 0 => ⟨(((b0 * 256 + b1) * 256 + b2) * 256 + b3), (((b4 * 256 + b5) * 256 + b6) * 256 + b7), b8, 0, 0⟩ | 1 => ⟨(((b0 * 256 + b1) * 256 + b2) * 256 + b3), (((b4 * 256 + b5) * 256 + b6) * 256 + b7), b8, b9, b11⟩ | _ => ⟨(((b0 * 256 + b1) * 256 + b2) * 256 + b3), (((b4 * 256 + b5) * 256 + b6) * 256 + b7), b8, (b9 * 256 + b10), (b11 * 256 + b12)⟩) w.heap.size w wr)) (fun i _ => 2 - (intOf i).toNat)
      case atStart => exact ⟨0, rfl, by omega, hSk⟩
      case round =>
        clear hSk
        obtain ⟨k, rfl, hk2, hSr⟩ := hrel
        by_cases hlt2 : k < 2
        · have hI : (k : Int) < 2 := by omega
          rcases (show k = 0 ∨ k = 1 by omega) with rfl | rfl
          · have hSk : OfSt [b0, b1, b2, b3, b4, b5, b6, b7, b8, b9, b10, b11, b12] ⟨(((b0 * 256 + b1) * 256 + b2) * 256 + b3), (((b4 * 256 + b5) * 256 + b6) * 256 + b7), b8, 0, 0⟩ w.heap.size w wr := hSr.out
            obtain ⟨c0, c1, c2, c3, c4⟩ := hd_cell hSk.b
            have z0 := hd_frozen hSk.b 3
            have z1 := hd_frozen hSk.b 4
            have q0 := arr_cell hSk.a (k := 9) (x := b9) rfl
            have q4 := arr_cell hSk.a (k := 11) (x := b11) rfl
            have n1 : w.heap.size ≠ w.heap.size + 1 + 1 := by omega
            have n2 : w.heap.size + 1 + 1 ≠ w.heap.size := by omega
            have y9 : IntKind.i64.wrap 9 = 9 := by decide
            have y11 : IntKind.i64.wrap 11 = 11 := by decide
            have e1 : (bits .or .u16 (IntKind.u16.wrap (0)) (IntKind.u16.wrap b9)) = b9 := or16z b9 (by omega) (by omega)
            have e2 : (bits .or .u16 (IntKind.u16.wrap (0)) (IntKind.u16.wrap b11)) = b11 := or16z b11 (by omega) (by omega)
            have hA : OfSt [b0, b1, b2, b3, b4, b5, b6, b7, b8, b9, b10, b11, b12] ⟨(((b0 * 256 + b1) * 256 + b2) * 256 + b3), (((b4 * 256 + b5) * 256 + b6) * 256 + b7), b8, b9, b11⟩ w.heap.size w ((wr.setCell ⟨w.heap.size + 1 + 1, 3, none⟩ (.int .u16 (bits .or .u16 (IntKind.u16.wrap (0)) (IntKind.u16.wrap b9)))).setCell ⟨w.heap.size + 1 + 1, 4, none⟩ (.int .u16 (bits .or .u16 (IntKind.u16.wrap (0)) (IntKind.u16.wrap b11)))).drew := by
              have hN := (ofst_ports hSk (Nat.le_refl _) (bits .or .u16 (IntKind.u16.wrap (0)) (IntKind.u16.wrap b9)) (bits .or .u16 (IntKind.u16.wrap (0)) (IntKind.u16.wrap b11))).1
              rw [e1, e2] at hN ⊢
              exact hN
            have hB : OfSt [b0, b1, b2, b3, b4, b5, b6, b7, b8, b9, b10, b11, b12] ⟨(((b0 * 256 + b1) * 256 + b2) * 256 + b3), (((b4 * 256 + b5) * 256 + b6) * 256 + b7), b8, b9, b11⟩ w.heap.size w ((wr.setCell ⟨w.heap.size + 1 + 1, 3, none⟩ (.int .u16 (bits .or .u16 (0) b9))).setCell ⟨w.heap.size + 1 + 1, 4, none⟩ (.int .u16 (bits .or .u16 (0) b11))).drew := by
              have hN := hA
              rw [wrap16_s b9 (by omega) (by omega), wrap16_s b11 (by omega) (by omega), wrap16_s (0) (by omega) (by omega)] at hN
              exact hN
            have hN2 := Lib.hid hA
            have hN3 := Lib.hid hB
            clear hA hB hSk hSr e1 e2
            go_upto_region 10 with fail
            go_region
            all_goals (clear q0 q4 z0 z1 c0 c1 c2 c3 c4; go_wp2; go_roundw)
            all_goals first
              | (exact ⟨1, rfl, by omega, hN3⟩)
              | (exact ⟨1, rfl, by omega, hN2⟩)
              | ((repeat apply Exists.intro); first | exact ⟨⟨1, rfl, by omega, hN3⟩, rfl⟩ | exact ⟨⟨1, rfl, by omega, hN2⟩, rfl⟩)
              | (change 2 - (intOf (Value.int .i64 1)).toNat < 2 - (intOf (Value.int .i64 ((0 : Nat) : Int))).toNat; simp only [intOf]; omega)
          · have hSk : OfSt [b0, b1, b2, b3, b4, b5, b6, b7, b8, b9, b10, b11, b12] ⟨(((b0 * 256 + b1) * 256 + b2) * 256 + b3), (((b4 * 256 + b5) * 256 + b6) * 256 + b7), b8, b9, b11⟩ w.heap.size w wr := hSr.out
            obtain ⟨c0, c1, c2, c3, c4⟩ := hd_cell hSk.b
            have z0 := hd_frozen hSk.b 3
            have z1 := hd_frozen hSk.b 4
            have q0 := arr_cell hSk.a (k := 10) (x := b10) rfl
            have q4 := arr_cell hSk.a (k := 12) (x := b12) rfl
            have n1 : w.heap.size ≠ w.heap.size + 1 + 1 := by omega
            have n2 : w.heap.size + 1 + 1 ≠ w.heap.size := by omega
            have y10 : IntKind.i64.wrap 10 = 10 := by decide
            have y12 : IntKind.i64.wrap 12 = 12 := by decide
            have e1 : (bits .or .u16 (IntKind.u16.wrap (b9 * 256)) (IntKind.u16.wrap b10)) = (b9 * 256 + b10) := or16 (b9) b10 (by omega) (by omega) (by omega) (by omega)
            have e2 : (bits .or .u16 (IntKind.u16.wrap (b11 * 256)) (IntKind.u16.wrap b12)) = (b11 * 256 + b12) := or16 (b11) b12 (by omega) (by omega) (by omega) (by omega)
            have hA : OfSt [b0, b1, b2, b3, b4, b5, b6, b7, b8, b9, b10, b11, b12] ⟨(((b0 * 256 + b1) * 256 + b2) * 256 + b3), (((b4 * 256 + b5) * 256 + b6) * 256 + b7), b8, (b9 * 256 + b10), (b11 * 256 + b12)⟩ w.heap.size w ((wr.setCell ⟨w.heap.size + 1 + 1, 3, none⟩ (.int .u16 (bits .or .u16 (IntKind.u16.wrap (b9 * 256)) (IntKind.u16.wrap b10)))).setCell ⟨w.heap.size + 1 + 1, 4, none⟩ (.int .u16 (bits .or .u16 (IntKind.u16.wrap (b11 * 256)) (IntKind.u16.wrap b12)))).drew := by
              have hN := (ofst_ports hSk (Nat.le_refl _) (bits .or .u16 (IntKind.u16.wrap (b9 * 256)) (IntKind.u16.wrap b10)) (bits .or .u16 (IntKind.u16.wrap (b11 * 256)) (IntKind.u16.wrap b12))).1
              rw [e1, e2] at hN ⊢
              exact hN
            have hB : OfSt [b0, b1, b2, b3, b4, b5, b6, b7, b8, b9, b10, b11, b12] ⟨(((b0 * 256 + b1) * 256 + b2) * 256 + b3), (((b4 * 256 + b5) * 256 + b6) * 256 + b7), b8, (b9 * 256 + b10), (b11 * 256 + b12)⟩ w.heap.size w ((wr.setCell ⟨w.heap.size + 1 + 1, 3, none⟩ (.int .u16 (bits .or .u16 (b9 * 256) b10))).setCell ⟨w.heap.size + 1 + 1, 4, none⟩ (.int .u16 (bits .or .u16 (b11 * 256) b12))).drew := by
              have hN := hA
              rw [wrap16_s b10 (by omega) (by omega), wrap16_s b12 (by omega) (by omega), wrap16_s (b9 * 256) (by omega) (by omega), wrap16_s (b11 * 256) (by omega) (by omega)] at hN
              exact hN
            have hN2 := Lib.hid hA
            have hN3 := Lib.hid hB
            clear hA hB hSk hSr e1 e2
            go_upto_region 10 with fail
            go_region
            all_goals (clear q0 q4 z0 z1 c0 c1 c2 c3 c4; go_wp2; go_roundw)
            all_goals first
              | (exact ⟨2, rfl, by omega, hN3⟩)
              | (exact ⟨2, rfl, by omega, hN2⟩)
              | ((repeat apply Exists.intro); first | exact ⟨⟨2, rfl, by omega, hN3⟩, rfl⟩ | exact ⟨⟨2, rfl, by omega, hN2⟩, rfl⟩)
              | (change 2 - (intOf (Value.int .i64 2)).toNat < 2 - (intOf (Value.int .i64 ((1 : Nat) : Int))).toNat; simp only [intOf]; omega)
        · obtain rfl : k = 2 := by omega
          have hSk : OfSt [b0, b1, b2, b3, b4, b5, b6, b7, b8, b9, b10, b11, b12] ⟨(((b0 * 256 + b1) * 256 + b2) * 256 + b3), (((b4 * 256 + b5) * 256 + b6) * 256 + b7), b8, (b9 * 256 + b10), (b11 * 256 + b12)⟩ w.heap.size w wr := hSr.out
          obtain ⟨c0, c1, c2, c3, c4⟩ := hd_cell hSk.b
          obtain ⟨d0, d1, d2, d3, d4⟩ := hd_cell hSk.r
          have z0 := hd_frozen hSk.r 0
          have z1 := hd_frozen hSk.r 1
          have z2 := hd_frozen hSk.r 2
          have z3 := hd_frozen hSk.r 3
          have z4 := hd_frozen hSk.r 4
          clear hSk
          go_wp2
          have hSk : OfSt [b0, b1, b2, b3, b4, b5, b6, b7, b8, b9, b10, b11, b12] ⟨(((b0 * 256 + b1) * 256 + b2) * 256 + b3), (((b4 * 256 + b5) * 256 + b6) * 256 + b7), b8, (b9 * 256 + b10), (b11 * 256 + b12)⟩ w.heap.size w wr := hSr.out
          have hb := hSk.n
          exact bodyPost_ret (results_hd (t1 := 2) (g := w.heap.size + 1) Tryz.results176 rfl (hd_set4 (hd_set3 (hd_set2 (hd_set1 (hd_set0 hSk.r _) _) _) _) _)) rfl ⟨rfl, ((((hb.setCell (p := ⟨w.heap.size + 1, 0, none⟩) (Nat.le_succ _) _).setCell (p := ⟨w.heap.size + 1, 1, none⟩) (Nat.le_succ _) _).setCell (p := ⟨w.heap.size + 1, 2, none⟩) (Nat.le_succ _) _).setCell (p := ⟨w.heap.size + 1, 3, none⟩) (Nat.le_succ _) _).setCell (p := ⟨w.heap.size + 1, 4, none⟩) (Nat.le_succ _) _⟩
end Go.Proofs.YtbahehmfhjkgeaaGreat

/-
  Walks over headers: With.
-/
namespace Go.Proofs.YtbahehmfhjkgeaaGreat
open Go Go.RowKit Go.Sort

set_option maxRecDepth 100000 in
set_option maxHeartbeats 2000000 in
theorem of_bytes (h : Hd) (ho : h.ok) (w : World) :
    Calls Tryz.prog 176 #[.agg #[.int .u8 (h.src / 16777216), .int .u8 (h.src / 65536 % 256), .int .u8 (h.src / 256 % 256), .int .u8 (h.src % 256), .int .u8 (h.dst / 16777216), .int .u8 (h.dst / 65536 % 256), .int .u8 (h.dst / 256 % 256), .int .u8 (h.dst % 256), .int .u8 (h.proto), .int .u8 (h.sp / 256), .int .u8 (h.sp % 256), .int .u8 (h.dp / 256), .int .u8 (h.dp % 256)]] w fun e w' => e = .returned (.agg #[.int .u32 h.src, .int .u32 h.dst, .int .u8 h.proto, .int .u16 h.sp, .int .u16 h.dp]) ∧ Below w.heap.size w w' := by
  have h1 := of_any (h.src / 16777216) (h.src / 65536 % 256) (h.src / 256 % 256) (h.src % 256) (h.dst / 16777216) (h.dst / 65536 % 256) (h.dst / 256 % 256) (h.dst % 256) h.proto (h.sp / 256) (h.sp % 256) (h.dp / 256) (h.dp % 256) (bytes_range h ho) w
  have h2 : ofB [h.src / 16777216, h.src / 65536 % 256, h.src / 256 % 256, h.src % 256, h.dst / 16777216, h.dst / 65536 % 256, h.dst / 256 % 256, h.dst % 256, h.proto, h.sp / 256, h.sp % 256, h.dp / 256, h.dp % 256] = h := ofB_bytes ho
  rw [h2] at h1
  exact h1
/-- The cells of an array of a header's bytes. -/
theorem bytes_cells {w : World} {g : Nat} {h : Hd} (H : w.heap[g]? = some (arr h.bytes)) : w.cell? ⟨g, 0, none⟩ = some (.int .u8 (h.src / 16777216)) ∧ w.cell? ⟨g, 1, none⟩ = some (.int .u8 (h.src / 65536 % 256)) ∧ w.cell? ⟨g, 2, none⟩ = some (.int .u8 (h.src / 256 % 256)) ∧ w.cell? ⟨g, 3, none⟩ = some (.int .u8 (h.src % 256)) ∧ w.cell? ⟨g, 4, none⟩ = some (.int .u8 (h.dst / 16777216)) ∧ w.cell? ⟨g, 5, none⟩ = some (.int .u8 (h.dst / 65536 % 256)) ∧ w.cell? ⟨g, 6, none⟩ = some (.int .u8 (h.dst / 256 % 256)) ∧ w.cell? ⟨g, 7, none⟩ = some (.int .u8 (h.dst % 256)) ∧ w.cell? ⟨g, 8, none⟩ = some (.int .u8 h.proto) ∧ w.cell? ⟨g, 9, none⟩ = some (.int .u8 (h.sp / 256)) ∧ w.cell? ⟨g, 10, none⟩ = some (.int .u8 (h.sp % 256)) ∧ w.cell? ⟨g, 11, none⟩ = some (.int .u8 (h.dp / 256)) ∧ w.cell? ⟨g, 12, none⟩ = some (.int .u8 (h.dp % 256)) := by
  refine ⟨arr_cell H (k := 0) rfl, arr_cell H (k := 1) rfl, arr_cell H (k := 2) rfl, arr_cell H (k := 3) rfl, arr_cell H (k := 4) rfl, arr_cell H (k := 5) rfl, arr_cell H (k := 6) rfl, arr_cell H (k := 7) rfl, arr_cell H (k := 8) rfl, arr_cell H (k := 9) rfl, arr_cell H (k := 10) rfl, arr_cell H (k := 11) rfl, arr_cell H (k := 12) rfl⟩
theorem results_hd2 {fn : Func} {tmps : Array Value} {w : World} {g : Nat} {h : Hd} {e : Value} {t1 t3 : Nat} (hf : fn.results = #[.cell t1 82, .tmp t3]) (h1 : tmps.getD t1 undef = .pointer (some ⟨g, 0, none⟩)) (h3 : tmps.getD t3 undef = e) (k1 : w.heap[g]? = some h.cells) :
    (results fn tmps).run Tryz.prog w = .ok (.tuple #[.agg #[.int .u32 h.src, .int .u32 h.dst, .int .u8 h.proto, .int .u16 h.sp, .int .u16 h.dp], e]) w := by
  obtain ⟨c0, c1, c2, c3, c4⟩ := hd_cell k1
  have h1' : tmps[t1]?.getD undef = .pointer (some ⟨g, 0, none⟩) := by simpa using h1
  have h3' : tmps[t3]?.getD undef = e := by simpa using h3
  simp [results, hf, h1', h3', go_sem, c0, c1, c2, c3, c4]
theorem xor_bit (v r : Nat) (hr : r < 8) (hv : (v : Int) < 256) : bits .xor .u8 (v : Int) (128 / 2 ^ r) = ((v ^^^ 2 ^ (7 - r) : Nat) : Int) := by
  have e : (128 : Int) / 2 ^ r = ((2 ^ (7 - r) : Nat) : Int) := by
    match r, hr with
    | 0, _ => rfl
    | 1, _ => rfl
    | 2, _ => rfl
    | 3, _ => rfl
    | 4, _ => rfl
    | 5, _ => rfl
    | 6, _ => rfl
    | 7, _ => rfl
  have hp : 2 ^ (7 - r) < 256 := Nat.lt_of_le_of_lt (Nat.pow_le_pow_right (by decide) (show 7 - r ≤ 7 by omega)) (by decide)
  rw [e]
  generalize (2 ^ (7 - r) : Nat) = P at hp ⊢
  rw [u8_xor _ _ (by omega) hv (by omega) (by omega), Int.toNat_natCast, Int.toNat_natCast]
set_option maxRecDepth 100000 in
set_option maxHeartbeats 2000000 in
theorem with_same (h : Hd) (ho : h.ok) (i : Nat) (b : Bool) (w : World) (hi : i < 104) (hb : h.bit i = b) :
    Calls Tryz.prog 86 #[.agg #[.int .u32 h.src, .int .u32 h.dst, .int .u8 h.proto, .int .u16 h.sp, .int .u16 h.dp], .int .i64 i, .bool b] w fun e w' => e = .returned (.tuple #[.agg #[.int .u32 h.src, .int .u32 h.dst, .int .u8 h.proto, .int .u16 h.sp, .int .u16 h.dp], .int .i64 0]) ∧ Below w.heap.size w w' := by
  have hB := Lib.hid (fun v => bit_yes h ho i v hi)
  rw [hb] at hB
  clear hb
  cases b
  · go_enter Tryz.func86, Tryz.ntmps86
    go_wp2_with fail
    refine (hB.out _).mono ?_
    rintro e w1 ⟨rfl, hb1⟩
    have hk := blk2 w h.cells (Hd.cells ⟨0, 0, 0, 0, 0⟩)
    have J0 : w1.heap[w.heap.size]? = some h.cells := blk_below hb1 hk.1
    have J1 : w1.heap[w.heap.size + 1]? = some (Hd.cells ⟨0, 0, 0, 0, 0⟩) := blk_below hb1 hk.2
    have hbw := below_call (below2 w _ _) hb1
    clear hb1 hk
    obtain ⟨c0, c1, c2, c3, c4⟩ := hd_cell J0
    obtain ⟨d0, d1, d2, d3, d4⟩ := hd_cell J1
    have f0 := hd_frozen J0
    have f1 := hd_frozen J1
    have lt := lt_of_block J1
    have K0 := Lib.hid J0
    have K1 := Lib.hid J1
    clear J0 J1
    go_wp2
    exact bodyPost_ret (results_hd2 (t1 := 6) (t3 := 7) (g := w.heap.size + 1) Tryz.results86 rfl rfl (hd_set4 (hd_set3 (hd_set2 (hd_set1 (hd_set0 K1.out _) _) _) _) _)) rfl ⟨rfl, (((((hbw.setCell (p := ⟨w.heap.size + 1, 0, none⟩) (by first | exact Nat.le_refl _ | exact Nat.le_succ _) _).setCell (p := ⟨w.heap.size + 1, 1, none⟩) (by first | exact Nat.le_refl _ | exact Nat.le_succ _) _).setCell (p := ⟨w.heap.size + 1, 2, none⟩) (by first | exact Nat.le_refl _ | exact Nat.le_succ _) _).setCell (p := ⟨w.heap.size + 1, 3, none⟩) (by first | exact Nat.le_refl _ | exact Nat.le_succ _) _).setCell (p := ⟨w.heap.size + 1, 4, none⟩) (by first | exact Nat.le_refl _ | exact Nat.le_succ _) _)⟩
  · go_enter Tryz.func86, Tryz.ntmps86
    go_wp2_with fail
    refine (hB.out _).mono ?_
    rintro e w1 ⟨rfl, hb1⟩
    have hk := blk2 w h.cells (Hd.cells ⟨0, 0, 0, 0, 0⟩)
    have J0 : w1.heap[w.heap.size]? = some h.cells := blk_below hb1 hk.1
    have J1 : w1.heap[w.heap.size + 1]? = some (Hd.cells ⟨0, 0, 0, 0, 0⟩) := blk_below hb1 hk.2
    have hbw := below_call (below2 w _ _) hb1
    clear hb1 hk
    obtain ⟨c0, c1, c2, c3, c4⟩ := hd_cell J0
    obtain ⟨d0, d1, d2, d3, d4⟩ := hd_cell J1
    have f0 := hd_frozen J0
    have f1 := hd_frozen J1
    have lt := lt_of_block J1
    have K0 := Lib.hid J0
    have K1 := Lib.hid J1
    clear J0 J1
    go_wp2
    exact bodyPost_ret (results_hd2 (t1 := 6) (t3 := 7) (g := w.heap.size + 1) Tryz.results86 rfl rfl (hd_set4 (hd_set3 (hd_set2 (hd_set1 (hd_set0 K1.out _) _) _) _) _)) rfl ⟨rfl, (((((hbw.setCell (p := ⟨w.heap.size + 1, 0, none⟩) (by first | exact Nat.le_refl _ | exact Nat.le_succ _) _).setCell (p := ⟨w.heap.size + 1, 1, none⟩) (by first | exact Nat.le_refl _ | exact Nat.le_succ _) _).setCell (p := ⟨w.heap.size + 1, 2, none⟩) (by first | exact Nat.le_refl _ | exact Nat.le_succ _) _).setCell (p := ⟨w.heap.size + 1, 3, none⟩) (by first | exact Nat.le_refl _ | exact Nat.le_succ _) _).setCell (p := ⟨w.heap.size + 1, 4, none⟩) (by first | exact Nat.le_refl _ | exact Nat.le_succ _) _)⟩
set_option maxRecDepth 100000 in
set_option maxHeartbeats 2000000 in
theorem with_turn (h : Hd) (ho : h.ok) (i : Nat) (b : Bool) (w : World) (hi : i < 104) (hb : h.bit i = !b) (p : Hd) (hp : p.ok) (hpb : ∀ x : Nat, h.bytes[i / 8]? = some (x : Int) → p.bytes = h.bytes.set (i / 8) ((x ^^^ 2 ^ (7 - i % 8) : Nat) : Int)) :
    Calls Tryz.prog 86 #[.agg #[.int .u32 h.src, .int .u32 h.dst, .int .u8 h.proto, .int .u16 h.sp, .int .u16 h.dp], .int .i64 i, .bool b] w fun e w' => e = .returned (.tuple #[.agg #[.int .u32 p.src, .int .u32 p.dst, .int .u8 p.proto, .int .u16 p.sp, .int .u16 p.dp], .int .i64 0]) ∧ Below w.heap.size w w' := by
  have hB := Lib.hid (fun v => bit_yes h ho i v hi)
  have hY : Hid (∀ v : World, Calls Tryz.prog 175 #[.agg #[.int .u32 h.src, .int .u32 h.dst, .int .u8 h.proto, .int .u16 h.sp, .int .u16 h.dp]] v fun e w' => e = .returned (.agg #[.int .u8 (h.src / 16777216), .int .u8 (h.src / 65536 % 256), .int .u8 (h.src / 256 % 256), .int .u8 (h.src % 256), .int .u8 (h.dst / 16777216), .int .u8 (h.dst / 65536 % 256), .int .u8 (h.dst / 256 % 256), .int .u8 (h.dst % 256), .int .u8 (h.proto), .int .u8 (h.sp / 256), .int .u8 (h.sp % 256), .int .u8 (h.dp / 256), .int .u8 (h.dp % 256)]) ∧ Below v.heap.size v w') := Lib.hid (fun v => bytes_any h ho v)
  have hO := Lib.hid (fun v => of_bytes p hp v)
  have hR := Lib.hid (bytes_range h ho)
  have hH := Lib.hid hpb
  rw [hb] at hB
  clear hb hpb ho hp
  cases b
  · go_enter Tryz.func86, Tryz.ntmps86
    go_wp2_with fail
    refine (hB.out _).mono ?_
    rintro e w1 ⟨rfl, hb1⟩
    have hk := blk2 w h.cells (Hd.cells ⟨0, 0, 0, 0, 0⟩)
    have J0 : w1.heap[w.heap.size]? = some h.cells := blk_below hb1 hk.1
    have J1 : w1.heap[w.heap.size + 1]? = some (Hd.cells ⟨0, 0, 0, 0, 0⟩) := blk_below hb1 hk.2
    have hbw := below_call (below2 w _ _) hb1
    clear hb1 hk
    obtain ⟨c0, c1, c2, c3, c4⟩ := hd_cell J0
    obtain ⟨d0, d1, d2, d3, d4⟩ := hd_cell J1
    have f0 := hd_frozen J0
    have f1 := hd_frozen J1
    have lt := lt_of_block J1
    have K0 := Lib.hid J0
    have K1 := Lib.hid J1
    clear J0 J1
    go_wp2_with fail
    refine (hY.out _).mono ?_
    rintro e w2 ⟨rfl, hb2⟩
    have J0 := blk_below hb2 K0.out
    have J1 := blk_below hb2 K1.out
    have hbw2 := below_call hbw hb2
    clear hb2 hbw c0 c1 c2 c3 c4 d0 d1 d2 d3 d4 f0 f1 lt K0 K1
    go_upto_region 7 with fail
    have Jb := heap_alloc_new w2 (arr h.bytes)
    have J0' : (w2.alloc (arr h.bytes)).heap[w.heap.size]? = some h.cells := (Below.heap_alloc _ _ _ (lt_of_block J0)).trans J0
    have J1' : (w2.alloc (arr h.bytes)).heap[w.heap.size + 1]? = some (Hd.cells ⟨0, 0, 0, 0, 0⟩) := (Below.heap_alloc _ _ _ (lt_of_block J1)).trans J1
    have hbw3 := hbw2.alloc hbw2.size (arr h.bytes)
    have lt1 := lt_of_block J1
    generalize hg3 : w2.heap.size = g3 at *
    change World at w2
    generalize hW3 : w2.alloc (arr h.bytes) = W3 at *
    have hW4 : (w2.alloc (.cells #[.int .u8 (h.src / 16777216), .int .u8 (h.src / 65536 % 256), .int .u8 (h.src / 256 % 256), .int .u8 (h.src % 256), .int .u8 (h.dst / 16777216), .int .u8 (h.dst / 65536 % 256), .int .u8 (h.dst / 256 % 256), .int .u8 (h.dst % 256), .int .u8 (h.proto), .int .u8 (h.sp / 256), .int .u8 (h.sp % 256), .int .u8 (h.dp / 256), .int .u8 (h.dp % 256)] 276)) = W3 := hW3
    rw [hW4]
    clear hW3 hW4 J0 J1 hbw2
    obtain ⟨v, hv⟩ : ∃ v, h.bytes[i / 8]? = some v := ⟨_, List.getElem?_eq_getElem (by rw [bytes_len]; omega)⟩
    have hr := hR.out v (List.mem_of_getElem? hv)
    obtain ⟨v, rfl⟩ := Int.eq_ofNat_of_zero_le hr.1
    have hH2 := hH.out v hv
    have hc := arr_cell Jb hv
    have fz := frozen_row Jb (i / 8)
    obtain ⟨q, hq⟩ : ∃ q, q = i / 8 := ⟨_, rfl⟩
    obtain ⟨r, hr8⟩ : ∃ r, r = i % 8 := ⟨_, rfl⟩
    have e1 : (i : Int).tdiv 8 = (q : Int) := by rw [Int.tdiv_eq_ediv_of_nonneg (by omega)]; omega
    have e2 : (i : Int).tmod 8 = (r : Int) := by rw [Int.tmod_eq_emod_of_nonneg (by omega)]; omega
    have e3 : (i : Int) / 8 = (q : Int) := by omega
    have e4 : (i : Int) % 8 = (r : Int) := by omega
    have e6 : ((r : Int) < 0) = False := by simp
    have e7 : (q : Int) < 13 := by omega
    have e8 : (0 : Int) ≤ (q : Int) := by omega
    rw [← hq] at hc fz hH2
    rw [← hr8] at hH2
    have hr7 := Lib.hid (show r < 8 by omega)
    have HR := Lib.hid hr
    have HH := Lib.hid hH2
    have KB := Lib.hid Jb
    have K0 := Lib.hid J0'
    have K1 := Lib.hid J1'
    clear hq hr8 hv hr hH2 Jb J0' J1'
    go_region
    have hx : bits .xor .u8 (v : Int) (128 / 2 ^ r) = ((v ^^^ 2 ^ (7 - r) : Nat) : Int) := xor_bit v r hr7.out HR.out.2
    have Jb : ((W3.setCell ⟨g3, q, none⟩ (.int .u8 (bits .xor .u8 (v : Int) (128 / 2 ^ r)))).drew).heap[g3]? = some (arr p.bytes) := by
      rw [hx, HH.out]
      exact arr_set KB.out q _
    have J0 : ((W3.setCell ⟨g3, q, none⟩ (.int .u8 (bits .xor .u8 (v : Int) (128 / 2 ^ r)))).drew).heap[w.heap.size]? = some h.cells := (set_heap _ _ _ _ _ (by omega)).trans K0.out
    have J1 : ((W3.setCell ⟨g3, q, none⟩ (.int .u8 (bits .xor .u8 (v : Int) (128 / 2 ^ r)))).drew).heap[w.heap.size + 1]? = some (Hd.cells ⟨0, 0, 0, 0, 0⟩) := (set_heap _ _ _ _ _ (by omega)).trans K1.out
    have hbw4 := (hbw3.setCell (p := ⟨g3, q, none⟩) (by show w.heap.size ≤ g3; omega) (.int .u8 (bits .xor .u8 (v : Int) (128 / 2 ^ r)))).drew
    generalize (W3.setCell ⟨g3, q, none⟩ (.int .u8 (bits .xor .u8 (v : Int) (128 / 2 ^ r)))).drew = W4 at *
    clear hx hc fz hbw3 KB K0 K1 HH HR hr7 e1 e2 e3 e4 e6 e7 e8
    obtain ⟨c0, c1, c2, c3, c4, c5, c6, c7, c8, c9, c10, c11, c12⟩ := bytes_cells Jb
    obtain ⟨d0, d1, d2, d3, d4⟩ := hd_cell J1
    have f1 := hd_frozen J1
    have K1 := Lib.hid J1
    clear J1 J0 Jb
    go_wp2_with fail
    refine (hO.out _).mono ?_
    rintro e w5 ⟨rfl, hb5⟩
    have J1 := blk_below hb5 K1.out
    have hbw5 := below_call hbw4 hb5
    clear hb5 hbw4 c0 c1 c2 c3 c4 c5 c6 c7 c8 c9 c10 c11 c12 d0 d1 d2 d3 d4 f1 K1
    obtain ⟨d0, d1, d2, d3, d4⟩ := hd_cell J1
    have f1 := hd_frozen J1
    have K1 := Lib.hid J1
    clear J1
    go_wp2
    exact bodyPost_ret (results_hd2 (t1 := 6) (t3 := 7) (g := w.heap.size + 1) Tryz.results86 rfl rfl (hd_set4 (hd_set3 (hd_set2 (hd_set1 (hd_set0 K1.out _) _) _) _) _)) rfl ⟨rfl, (((((hbw5.setCell (p := ⟨w.heap.size + 1, 0, none⟩) (by first | exact Nat.le_refl _ | exact Nat.le_succ _) _).setCell (p := ⟨w.heap.size + 1, 1, none⟩) (by first | exact Nat.le_refl _ | exact Nat.le_succ _) _).setCell (p := ⟨w.heap.size + 1, 2, none⟩) (by first | exact Nat.le_refl _ | exact Nat.le_succ _) _).setCell (p := ⟨w.heap.size + 1, 3, none⟩) (by first | exact Nat.le_refl _ | exact Nat.le_succ _) _).setCell (p := ⟨w.heap.size + 1, 4, none⟩) (by first | exact Nat.le_refl _ | exact Nat.le_succ _) _)⟩
  · go_enter Tryz.func86, Tryz.ntmps86
    go_wp2_with fail
    refine (hB.out _).mono ?_
    rintro e w1 ⟨rfl, hb1⟩
    have hk := blk2 w h.cells (Hd.cells ⟨0, 0, 0, 0, 0⟩)
    have J0 : w1.heap[w.heap.size]? = some h.cells := blk_below hb1 hk.1
    have J1 : w1.heap[w.heap.size + 1]? = some (Hd.cells ⟨0, 0, 0, 0, 0⟩) := blk_below hb1 hk.2
    have hbw := below_call (below2 w _ _) hb1
    clear hb1 hk
    obtain ⟨c0, c1, c2, c3, c4⟩ := hd_cell J0
    obtain ⟨d0, d1, d2, d3, d4⟩ := hd_cell J1
    have f0 := hd_frozen J0
    have f1 := hd_frozen J1
    have lt := lt_of_block J1
    have K0 := Lib.hid J0
    have K1 := Lib.hid J1
    clear J0 J1
    go_wp2_with fail
    refine (hY.out _).mono ?_
    rintro e w2 ⟨rfl, hb2⟩
    have J0 := blk_below hb2 K0.out
    have J1 := blk_below hb2 K1.out
    have hbw2 := below_call hbw hb2
    clear hb2 hbw c0 c1 c2 c3 c4 d0 d1 d2 d3 d4 f0 f1 lt K0 K1
    go_upto_region 7 with fail
    have Jb := heap_alloc_new w2 (arr h.bytes)
    have J0' : (w2.alloc (arr h.bytes)).heap[w.heap.size]? = some h.cells := (Below.heap_alloc _ _ _ (lt_of_block J0)).trans J0
    have J1' : (w2.alloc (arr h.bytes)).heap[w.heap.size + 1]? = some (Hd.cells ⟨0, 0, 0, 0, 0⟩) := (Below.heap_alloc _ _ _ (lt_of_block J1)).trans J1
    have hbw3 := hbw2.alloc hbw2.size (arr h.bytes)
    have lt1 := lt_of_block J1
    generalize hg3 : w2.heap.size = g3 at *
    change World at w2
    generalize hW3 : w2.alloc (arr h.bytes) = W3 at *
    have hW4 : (w2.alloc (.cells #[.int .u8 (h.src / 16777216), .int .u8 (h.src / 65536 % 256), .int .u8 (h.src / 256 % 256), .int .u8 (h.src % 256), .int .u8 (h.dst / 16777216), .int .u8 (h.dst / 65536 % 256), .int .u8 (h.dst / 256 % 256), .int .u8 (h.dst % 256), .int .u8 (h.proto), .int .u8 (h.sp / 256), .int .u8 (h.sp % 256), .int .u8 (h.dp / 256), .int .u8 (h.dp % 256)] 276)) = W3 := hW3
    rw [hW4]
    clear hW3 hW4 J0 J1 hbw2
    obtain ⟨v, hv⟩ : ∃ v, h.bytes[i / 8]? = some v := ⟨_, List.getElem?_eq_getElem (by rw [bytes_len]; omega)⟩
    have hr := hR.out v (List.mem_of_getElem? hv)
    obtain ⟨v, rfl⟩ := Int.eq_ofNat_of_zero_le hr.1
    have hH2 := hH.out v hv
    have hc := arr_cell Jb hv
    have fz := frozen_row Jb (i / 8)
    obtain ⟨q, hq⟩ : ∃ q, q = i / 8 := ⟨_, rfl⟩
    obtain ⟨r, hr8⟩ : ∃ r, r = i % 8 := ⟨_, rfl⟩
    have e1 : (i : Int).tdiv 8 = (q : Int) := by rw [Int.tdiv_eq_ediv_of_nonneg (by omega)]; omega
    have e2 : (i : Int).tmod 8 = (r : Int) := by rw [Int.tmod_eq_emod_of_nonneg (by omega)]; omega
    have e3 : (i : Int) / 8 = (q : Int) := by omega
    have e4 : (i : Int) % 8 = (r : Int) := by omega
    have e6 : ((r : Int) < 0) = False := by simp
    have e7 : (q : Int) < 13 := by omega
    have e8 : (0 : Int) ≤ (q : Int) := by omega
    rw [← hq] at hc fz hH2
    rw [← hr8] at hH2
    have hr7 := Lib.hid (show r < 8 by omega)
    have HR := Lib.hid hr
    have HH := Lib.hid hH2
    have KB := Lib.hid Jb
    have K0 := Lib.hid J0'
    have K1 := Lib.hid J1'
    clear hq hr8 hv hr hH2 Jb J0' J1'
    go_region
    have hx : bits .xor .u8 (v : Int) (128 / 2 ^ r) = ((v ^^^ 2 ^ (7 - r) : Nat) : Int) := xor_bit v r hr7.out HR.out.2
    have Jb : ((W3.setCell ⟨g3, q, none⟩ (.int .u8 (bits .xor .u8 (v : Int) (128 / 2 ^ r)))).drew).heap[g3]? = some (arr p.bytes) := by
      rw [hx, HH.out]
      exact arr_set KB.out q _
    have J0 : ((W3.setCell ⟨g3, q, none⟩ (.int .u8 (bits .xor .u8 (v : Int) (128 / 2 ^ r)))).drew).heap[w.heap.size]? = some h.cells := (set_heap _ _ _ _ _ (by omega)).trans K0.out
    have J1 : ((W3.setCell ⟨g3, q, none⟩ (.int .u8 (bits .xor .u8 (v : Int) (128 / 2 ^ r)))).drew).heap[w.heap.size + 1]? = some (Hd.cells ⟨0, 0, 0, 0, 0⟩) := (set_heap _ _ _ _ _ (by omega)).trans K1.out
    have hbw4 := (hbw3.setCell (p := ⟨g3, q, none⟩) (by show w.heap.size ≤ g3; omega) (.int .u8 (bits .xor .u8 (v : Int) (128 / 2 ^ r)))).drew
    generalize (W3.setCell ⟨g3, q, none⟩ (.int .u8 (bits .xor .u8 (v : Int) (128 / 2 ^ r)))).drew = W4 at *
    clear hx hc fz hbw3 KB K0 K1 HH HR hr7 e1 e2 e3 e4 e6 e7 e8
    obtain ⟨c0, c1, c2, c3, c4, c5, c6, c7, c8, c9, c10, c11, c12⟩ := bytes_cells Jb
    obtain ⟨d0, d1, d2, d3, d4⟩ := hd_cell J1
    have f1 := hd_frozen J1
    have K1 := Lib.hid J1
    clear J1 J0 Jb
    go_wp2_with fail
    refine (hO.out _).mono ?_
    rintro e w5 ⟨rfl, hb5⟩
    have J1 := blk_below hb5 K1.out
    have hbw5 := below_call hbw4 hb5
    clear hb5 hbw4 c0 c1 c2 c3 c4 c5 c6 c7 c8 c9 c10 c11 c12 d0 d1 d2 d3 d4 f1 K1
    obtain ⟨d0, d1, d2, d3, d4⟩ := hd_cell J1
    have f1 := hd_frozen J1
    have K1 := Lib.hid J1
    clear J1
    go_wp2
    exact bodyPost_ret (results_hd2 (t1 := 6) (t3 := 7) (g := w.heap.size + 1) Tryz.results86 rfl rfl (hd_set4 (hd_set3 (hd_set2 (hd_set1 (hd_set0 K1.out _) _) _) _) _)) rfl ⟨rfl, (((((hbw5.setCell (p := ⟨w.heap.size + 1, 0, none⟩) (by first | exact Nat.le_refl _ | exact Nat.le_succ _) _).setCell (p := ⟨w.heap.size + 1, 1, none⟩) (by first | exact Nat.le_refl _ | exact Nat.le_succ _) _).setCell (p := ⟨w.heap.size + 1, 2, none⟩) (by first | exact Nat.le_refl _ | exact Nat.le_succ _) _).setCell (p := ⟨w.heap.size + 1, 3, none⟩) (by first | exact Nat.le_refl _ | exact Nat.le_succ _) _).setCell (p := ⟨w.heap.size + 1, 4, none⟩) (by first | exact Nat.le_refl _ | exact Nat.le_succ _) _)⟩
set_option maxRecDepth 100000 in
set_option maxHeartbeats 2000000 in
theorem with_yes (h : Hd) (ho : h.ok) (i : Nat) (b : Bool) (w : World) (hi : i < 104) :
    Calls Tryz.prog 86 #[.agg #[.int .u32 h.src, .int .u32 h.dst, .int .u8 h.proto, .int .u16 h.sp, .int .u16 h.dp], .int .i64 i, .bool b] w fun e w' => e = .returned (.tuple #[.agg #[.int .u32 (h.put i b).src, .int .u32 (h.put i b).dst, .int .u8 (h.put i b).proto, .int .u16 (h.put i b).sp, .int .u16 (h.put i b).dp], .int .i64 0]) ∧ Below w.heap.size w w' := by
  by_cases hb : h.bit i = b
  · rw [hdPut_same ho hi hb]
    exact with_same h ho i b w hi hb
  · rw [hdPut_other ho hi hb]
    exact with_turn h ho i b w hi (by revert hb; cases h.bit i <;> cases b <;> simp) _ (hdOf_ok (xor_lt (val_lt ho) hi)) (fun x hx => bytes_xor ho hi hx)
end Go.Proofs.YtbahehmfhjkgeaaGreat

/-
  A header's bits laid among values.
-/
namespace Go.Proofs.YtbahehmfhjkgeaaGreat
open Go Go.RowKit Go.ChangeMaps Go.MapKept Go.Maps Go.Lib Go.Sort

def bcells (f : Nat → Bool) : Array Value := ((List.range 208).map fun k => Value.bool (f k)).toArray
theorem bcells_size (f : Nat → Bool) : (bcells f).size = 208 := by simp [bcells]
theorem bcells_get (f : Nat → Bool) {k : Nat} (h : k < 208) : (bcells f)[k]? = some (.bool (f k)) := by simp [bcells, h]
theorem bcells_set (f : Nat → Bool) (k : Nat) (b : Bool) : (bcells f).setIfInBounds k (.bool b) = bcells (put f k b) := by
  apply Array.ext
  · simp [bcells_size]
  · intro i h1 h2
    have hi : i < 208 := by rw [bcells_size] at h2; exact h2
    have hi' : i < (bcells f).size := by rw [bcells_size]; exact hi
    have e1 : (bcells (put f k b))[i]'h2 = .bool (put f k b i) := by
      have := bcells_get (put f k b) hi
      rw [Array.getElem?_eq_getElem h2] at this
      exact Option.some.inj this
    have e2 : (bcells f)[i]'hi' = .bool (f i) := by
      have := bcells_get f hi
      rw [Array.getElem?_eq_getElem hi'] at this
      exact Option.some.inj this
    rw [e1, Array.getElem_setIfInBounds]
    by_cases hik : k = i
    · subst hik; rw [if_pos rfl, put_same]
    · rw [if_neg hik, e2, put_other (fun e => hik e.symm)]
    · exact hi'
/-- The values with the first m bits laid. -/
def layF (h : Hd) (o : Nat) (f : Nat → Bool) (m : Nat) : Nat → Bool := fun k => if k % 2 = o ∧ k / 2 < m then h.bit (k / 2) else f k
theorem layF_zero (h : Hd) (o : Nat) (f : Nat → Bool) : layF h o f 0 = f := funext fun k => by simp [layF]
theorem layF_succ (h : Hd) (o : Nat) (ho : o < 2) (f : Nat → Bool) (m : Nat) : put (layF h o f m) (2 * m + o) (h.bit m) = layF h o f (m + 1) := funext fun k => by
  unfold put layF
  by_cases hk : k = 2 * m + o
  · subst hk
    rw [if_pos rfl, if_pos ⟨by omega, by omega⟩, show (2 * m + o) / 2 = m by omega]
  · rw [if_neg hk]
    by_cases h1 : k % 2 = o ∧ k / 2 < m
    · rw [if_pos h1, if_pos ⟨h1.1, by omega⟩]
    · rw [if_neg h1, if_neg (fun h2 => by
        have : k / 2 < m ∨ k / 2 = m := by omega
        rcases this with h3 | h3
        · exact h1 ⟨h2.1, h3⟩
        · omega)]
def BRow (w : World) (g : Nat) (f : Nat → Bool) : Prop := w.heap[g]? = some (.cells (bcells f) 4 (0, 0))
theorem BRow.cell {w : World} {g : Nat} {f : Nat → Bool} (h : BRow w g f) {k : Nat} (hk : k < 208) : w.cell? ⟨g, k, none⟩ = some (.bool (f k)) := by
  rw [cell_of_row w _ k _ _ (0, 0) h]
  exact bcells_get f hk
theorem BRow.set {w : World} {g : Nat} {f : Nat → Bool} (h : BRow w g f) (k : Nat) (b : Bool) : BRow (w.setCell ⟨g, k, none⟩ (.bool b)) g (put f k b) := by
  unfold BRow
  rw [heap_setCell_same _ _ _ _ _ _ h, bcells_set]
theorem BRow.below {w w' : World} {g : Nat} {f : Nat → Bool} (h : BRow w g f) (hb : Below w.heap.size w w') : BRow w' g f := blk_below hb h
set_option maxRecDepth 100000 in
set_option maxHeartbeats 4000000 in
theorem lay_any {w : World} {vf : FuncId} {o : Nat} (V : VarF vf o) (h : Hd) (ho : h.ok) (f : Nat → Bool) (g : Nat) (hg : BRow w g f) :
    Calls Tryz.prog 87 #[.slice (some ⟨g, 0, none⟩) 208 208, .agg #[.int .u32 h.src, .int .u32 h.dst, .int .u8 h.proto, .int .u16 h.sp, .int .u16 h.dp], .func (.func vf) #[] #[]] w fun e w' => e = .returned (.tuple #[]) ∧ BRow w' g (layF h o f 104) ∧ w.grownBy w' (some g) := by
  have hen := V.en
  have HV := Lib.hid V
  have HO := Lib.hid ho
  have hlg := lt_of_block hg
  have hbw := below1 w h.cells
  have hbk := blk1 w h.cells
  have HG := Lib.hid (hg.below hbw)
  have HGR := Lib.hid (show w.grownBy (w.alloc h.cells) (some g) from World.grownBy_alloc w _ _)
  have HNE : Hid (w.heap.size ≠ g) := Lib.hid (by omega)
  have HBK := Lib.hid hbk
  clear V ho hg hbw hbk
  have hW : w.alloc (.cells #[.int .u32 h.src, .int .u32 h.dst, .int .u8 h.proto, .int .u16 h.sp, .int .u16 h.dp] 82) = w.alloc h.cells := rfl
  go_enter Tryz.func87, Tryz.ntmps87
  go_upto_region 1 with fail
  clear hW
  generalize hw0 : w.alloc h.cells = w0 at *
  clear hw0
  go_wp2
  go_loopw [7] (fun i wr => ∃ m : Nat, m ≤ 104 ∧ i = .int .i64 m ∧ Hid (BRow wr g (layF h o f m)) ∧ Hid (w0.grownBy wr (some g))) (fun i _ => 104 - (intOf i).toNat)
  case atStart => exact ⟨0, by omega, rfl, Lib.hid (by rw [layF_zero]; exact HG.out), Lib.hid (World.grownBy.refl _ _)⟩
  case round =>
    obtain ⟨m, hm, rfl, HR, HW⟩ := hrel
    by_cases hlt : m < 104
    · have hI : (m : Int) < 104 := by omega
      obtain ⟨x, hx⟩ : ∃ x, x = 2 * m + o := ⟨_, rfl⟩
      have ho2 := HV.out.o2
      have hxl : (x : Int) < 208 := by omega
      have hxn : x < 208 := by omega
      have HN := Lib.hid (show ∀ W, Calls Tryz.prog vf #[.int .i64 m] W (fun e w' => e = .returned (.int .i64 (x : Int)) ∧ Below W.heap.size W w') from fun W => by
        have := HV.out.calls m W (by omega)
        rw [← hx] at this
        refine this.mono ?_
        rintro e w' ⟨rfl, rfl⟩
        exact ⟨rfl, Below.refl _ _⟩)
      have HBIT := Lib.hid (fun W => bit_yes h HO.out m W hlt)
      have HX := Lib.hid hx
      have hk := (HW.out.block _ (lt_of_block HBK.out) (fun e => HNE.out (by injection e))).trans HBK.out
      have hne : Nonempty (InW (fun x => wr.grownBy x (some g))) := ⟨⟨wr, World.grownBy.refl _ _⟩⟩
      have hlw := lt_of_block hk
      have kk : ∀ p : InW (fun x => wr.grownBy x (some g)), p.w.heap[w.heap.size]? = some h.cells := fun p => (p.h.block _ hlw (fun e => HNE.out (by injection e))).trans hk
      have c0 : ∀ p : InW (fun x => wr.grownBy x (some g)), p.w.cell? ⟨w.heap.size, 0, none⟩ = some (.int .u32 h.src) := fun p => by rw [cell_of_row _ _ 0 _ _ (0, 0) (kk p)]; rfl
      have c1 : ∀ p : InW (fun x => wr.grownBy x (some g)), p.w.cell? ⟨w.heap.size, 1, none⟩ = some (.int .u32 h.dst) := fun p => by rw [cell_of_row _ _ 1 _ _ (0, 0) (kk p)]; rfl
      have c2 : ∀ p : InW (fun x => wr.grownBy x (some g)), p.w.cell? ⟨w.heap.size, 2, none⟩ = some (.int .u8 h.proto) := fun p => by rw [cell_of_row _ _ 2 _ _ (0, 0) (kk p)]; rfl
      have c3 : ∀ p : InW (fun x => wr.grownBy x (some g)), p.w.cell? ⟨w.heap.size, 3, none⟩ = some (.int .u16 h.sp) := fun p => by rw [cell_of_row _ _ 3 _ _ (0, 0) (kk p)]; rfl
      have c4 : ∀ p : InW (fun x => wr.grownBy x (some g)), p.w.cell? ⟨w.heap.size, 4, none⟩ = some (.int .u16 h.dp) := fun p => by rw [cell_of_row _ _ 4 _ _ (0, 0) (kk p)]; rfl
      clear hx hk ho2 kk hlw
      go_upto_region 4 with fail
      refine wp_region_mixS (fun x => wr.grownBy x (some g)) [(0, false), (1, false), (2, false), (4, false), (5, false), (3, true), (6, true), (7, false), (8, false), (9, false), (10, false), (11, true)] (by kernel_rfl) (by kernel_rfl) ⟨rfl, rfl, rfl, Nat.le_refl _, fun _ _ _ => rfl⟩ ?_
      have hdr : wr.grownBy { wr with drawn := wr.drawn + 1 } (some g) := ⟨rfl, rfl, rfl, Nat.le_refl _, fun _ _ _ => rfl⟩
      have hdb : Below wr.heap.size wr { wr with drawn := wr.drawn + 1 } := ⟨rfl, rfl, rfl, Nat.le_refl _, fun _ _ => rfl⟩
      have HR1 := Lib.hid (HR.out.below hdb)
      generalize { wr with drawn := wr.drawn + 1 } = V0 at *
      refine mix_take [0, 1, 2, 4, 5] [_, _, _, _, _] rfl rfl ?_
      simp only [List.getElem_toArray, List.getElem_cons_zero, List.getElem_cons_succ]
      repeat (go_big_quiet_step (fail))
      refine wpQuiet_nil ?_
      refine mix_barS rfl (by rfl) ?_
      simp only [List.getElem_toArray, List.getElem_cons_zero, List.getElem_cons_succ]
      go_simp
      refine (HN.out _).mono ?_
      rintro e V1 ⟨rfl, hb1⟩
      have hg1 : wr.grownBy V1 (some g) := hdr.trans ⟨hb1.os, hb1.tape, hb1.output, hb1.size, fun i hi _ => hb1.block i hi⟩
      refine ⟨fun x => wr.grownBy x (some g), hg1, fun _ h => h, ?_⟩
      refine mix_barS rfl (by rfl) ?_
      simp only [List.getElem_toArray, List.getElem_cons_zero, List.getElem_cons_succ]
      go_simp
      refine (HBIT.out _).mono ?_
      rintro e V2 ⟨rfl, hb2⟩
      have hg2 : wr.grownBy V2 (some g) := hg1.trans ⟨hb2.os, hb2.tape, hb2.output, hb2.size, fun i hi _ => hb2.block i hi⟩
      refine ⟨fun x => wr.grownBy x (some g), hg2, fun _ h => h, ?_⟩
      refine mix_take [7, 8, 9, 10] [_, _, _, _] rfl rfl ?_
      simp only [List.getElem_toArray, List.getElem_cons_zero, List.getElem_cons_succ]
      repeat (go_big_quiet_step (fail))
      refine wpQuiet_nil ?_
      have HR3 := Lib.hid ((HR1.out.below hb1).below hb2)
      have cx := HR3.out.cell hxn
      have fx := frozen_of_row V2 _ x _ _ HR3.out
      have HRF := HR3.out.set x (h.bit m)
      have hg3 : wr.grownBy (V2.setCell ⟨g, x, none⟩ (.bool (h.bit m))) (some g) := ⟨hg2.os, hg2.tape, hg2.output, by have := hg2.size; simpa [World.setCell] using this, fun i hi hne => (Below.heap_setCell V2 ⟨g, x, none⟩ _ i (fun e => hne (by rw [e]))).trans (hg2.block i hi hne)⟩
      rw [HX.out, layF_succ h o HV.out.o2] at HRF
      rw [← HX.out] at HRF
      have HS := Lib.hid HRF
      have HG3 := Lib.hid hg3
      have HWF := Lib.hid (HW.out.trans hg3)
      clear HRF hg3
      refine mix_barS rfl (by rfl) ?_
      simp only [List.getElem_toArray, List.getElem_cons_zero, List.getElem_cons_succ]
      go_simp
      refine ⟨fun x => wr.grownBy x (some g), HG3.out, fun _ h => h, ?_⟩
      refine mix_end ?_
      go_wp2
      exact ⟨⟨m + 1, by omega, by go_num, HS, HWF⟩, by simp only [intOf]; omega⟩
    · obtain rfl : m = 104 := by omega
      have hI : ¬ ((104 : Nat) : Int) < 104 := by omega
      go_wp2
      go_end0
      exact ⟨rfl, HR.out, HGR.out.trans HW.out⟩
end Go.Proofs.YtbahehmfhjkgeaaGreat

/-
  What a diagram says of values; whether a header is in a set; whether a relation leads from one to another.
-/
namespace Go.Proofs.YtbahehmfhjkgeaaGreat
open Go Go.RowKit Go.ChangeMaps Go.MapKept Go.Maps Go.Lib Go.Sort

theorem cutN_at (N : List Nd) (i : Nat) (b : Bool) : cutN N i (nd N i).v b = if b then (nd N i).hi else (nd N i).lo := by
  unfold cutN
  rw [if_neg (fun h => h rfl)]
set_option maxRecDepth 100000 in
set_option maxHeartbeats 4000000 in
theorem At_any {w : World} {B : Nat} {A : Blks} {Mo : Nat} {N : List Nd} {H G : List Nat} (f g : Nat) (s : Nat → Bool) (hA : ArAt w B A 208 Mo N H G) (hf : f ∈ G ∧ f < N.length) (hh : Hangs (fun s => ev N s f) 0 208) (hg : BRow w g s) :
    Calls Tryz.prog 88 #[A.val, .int .i64 f, .slice (some ⟨g, 0, none⟩) 208 208] w fun e w' => e = .returned (.tuple #[.bool (ev N s f), .int .i64 0]) ∧ Below w.heap.size w w' := by
  have hwf : WF N := by obtain ⟨_, h⟩ := hA; exact h.wf
  have hle : N.length ≤ 2147483647 := by obtain ⟨_, h⟩ := hA; exact h.le
  have HL : Hid (∀ i, 2 ≤ i → Rch N f i → (nd N i).v < 208) := Lib.hid fun i h2 hr => by
    rcases Nat.lt_or_ge (nd N i).v 208 with h | h
    · exact h
    · exact absurd (hh.free (.inr h)) (not_free hwf hf.2 hr h2)
  have hb1 := below1 w (.cells ([f].map fun (n : Nat) => Value.int .i64 (n : Int)).toArray 3)
  have hA1 := hA.below hb1
  have hck := check_any hA1 [f] w.heap.size 1 (new_cells w [f] 3) (by
    intro x hx
    simp at hx
    subst hx
    exact ⟨hf.1, by omega⟩) (by simp)
  have hck : Calls Tryz.prog 166 #[A.val, .slice (some ⟨w.heap.size, 0, none⟩) 1 1] (w.alloc (.cells #[.int .i64 f] 3)) fun e w' => e = .returned (.int .i64 0) ∧ Below (w.alloc (.cells #[.int .i64 f] 3)).heap.size (w.alloc (.cells #[.int .i64 f] 3)) w' := hck
  have HB1 := Lib.hid hb1
  have HCK := Lib.hid hck
  have HA := Lib.hid hA
  have HG := Lib.hid hg
  have f1 := hf.2
  have f2 : (f : Int) ≤ 2147483646 := by omega
  have HWF := Lib.hid hwf
  clear hA hA1 hb1 hck hf hh hg hwf
  unfold Blks.val at *
  go_enter Tryz.func88, Tryz.ntmps88
  go_upto_region 4 with ((with_reducible refine HCK.out.mono ?_); rintro e W2 ⟨rfl, hb2⟩; have HB2 := Lib.hid (HB1.out.trans (hb2.mono HB1.out.size)); clear hb2)
  have HA2 := Lib.hid (HA.out.below HB2.out)
  have a0 : W2.cell? ⟨A.a, 0, none⟩ = some (.int .i64 (208 : Nat)) := by obtain ⟨_, h⟩ := HA2.out; exact h.cellAt rfl
  have a0 : W2.cell? ⟨A.a, 0, none⟩ = some (.int .i64 208) := a0
  go_upto_region 6 with fail
  clear HCK HB1
  go_wp2
  go_loopw [9] (fun i wr => ∃ k : Nat, i = .int .i32 k ∧ k < N.length ∧ Hid (Rch N f k) ∧ Hid (ev N s k = ev N s f) ∧ Hid (Below w.heap.size w wr)) (fun i _ => (intOf i).toNat)
  case atStart => exact ⟨f, rfl, f1, Lib.hid (.refl f), Lib.hid rfl, HB2⟩
  case round =>
    obtain ⟨k, rfl, hk, HR, HE, HB⟩ := hrel
    by_cases hlt : 2 ≤ k
    · have hI : (k : Int) > 1 := by omega
      have HAR := Lib.hid (HA.out.below HB.out)
      obtain ⟨nv, hN⟩ := HAR.out
      obtain ⟨ng, cp, rfl, hat⟩ := hN.at_node
      obtain ⟨x0, x1, x2⟩ := hat k hk
      have c3 : wr.cell? ⟨A.a, 2, none⟩ = some (.slice (some ⟨ng, 0, none⟩) N.length cp) := hN.cellAt rfl
      have hI2 : (k : Int) < (N.length : Int) := by omega
      have hkb : (k : Int) ≤ 2147483646 := by omega
      clear hN hat
      go_upto_region 9 with fail
      have hbn := below1 wr (.cells #[.int .i32 (nd N k).v, .int .i32 (nd N k).lo, .int .i32 (nd N k).hi] 188)
      have hkn := blk1 wr (.cells #[.int .i32 (nd N k).v, .int .i32 (nd N k).lo, .int .i32 (nd N k).hi] 188)
      have n0 := cell_of_row _ _ 0 _ _ (0, 0) hkn
      have n0 : (wr.alloc (.cells #[.int .i32 (nd N k).v, .int .i32 (nd N k).lo, .int .i32 (nd N k).hi] 188)).cell? ⟨wr.heap.size, 0, none⟩ = some (.int .i32 (nd N k).v) := n0
      have hBW := HB.out.trans (hbn.mono HB.out.size)
      have HBW := Lib.hid hBW
      have HAW := Lib.hid (HA.out.below hBW)
      have hlb := HL.out k hlt HR.out
      have hv := (HG.out.below hBW).cell hlb
      have hI3 : ((nd N k).v : Int) < 208 := by omega
      clear x0 x1 x2 c3 hbn hkn hBW
      generalize wr.alloc (.cells #[.int .i32 (nd N k).v, .int .i32 (nd N k).lo, .int .i32 (nd N k).hi] 188) = W4 at *
      have N0 := cell_regrown n0
      have HV := cell_regrown hv
      have HCUT := Lib.hid (fun (W : World) (hb : Below W4.heap.size W4 W) => (show Calls Tryz.prog 173 #[.pointer (some ⟨A.a, 0, none⟩), .int .i32 k, .int .i32 (nd N k).v, .bool (s (nd N k).v)] W (fun e w' => e = .returned (.int .i32 (cutN N k (nd N k).v (s (nd N k).v))) ∧ Below W.heap.size W w') from ncut_any k (nd N k).v (s (nd N k).v) (HAW.out.below hb) hk))
      generalize hvv : (nd N k).v = v at *
      have HVV := Lib.hid hvv
      clear hvv
      refine wp_region_quiet_below (by kernel_rfl) (by kernel_rfl) ?_
      repeat (first
        | go_big_quiet_step ((with_reducible exact Calls.regrown_of (HCUT.out _ (below_regrown W4 _ _))))
        | quiet_step ((with_reducible exact Calls.regrown_of (HCUT.out _ (below_regrown W4 _ _)))))
      refine wpQuiet_nil ?_
      intro W5 hw'
      obtain ⟨⟨nq, osq⟩, hw''⟩ := hw'
      subst hw''
      have HB5 := Lib.hid (HBW.out.trans ((below_regrown W4 nq osq).mono HBW.out.size))
      have HCN := Lib.hid (cutN_at N k (s (nd N k).v))
      rw [HVV.out] at HCN
      have hlo := HWF.out.lo k hlt hk
      have hhi := HWF.out.hi k hlt hk
      have HEV := Lib.hid (ev_node HWF.out s hlt hk)
      rw [HVV.out] at HEV
      clear N0 HV n0 hv
      generalize grow (redrawn W4 nq) osq = W5 at *
      go_wp2
      refine ⟨⟨cutN N k v (s v), rfl, ?_, Lib.hid ?_, Lib.hid ?_, HB5⟩, ?_⟩
      · rw [HCN.out]; split <;> omega
      · refine HR.out.trans ?_
        rw [HCN.out]
        split
        · exact .hi hlt hk (.refl _)
        · exact .lo hlt hk (.refl _)
      · rw [← HE.out, HEV.out, HCN.out]
        split <;> rfl
      · simp only [intOf]
        rw [HCN.out]
        split <;> omega
    · have hI : ¬ (k : Int) > 1 := by omega
      have HB9 := Lib.hid HB.out
      obtain rfl | rfl : k = 0 ∨ k = 1 := by omega
      · have HF : Hid (ev N s f = false) := Lib.hid (by rw [← HE.out]; rfl)
        go_wp2
        go_ret2
        exact ⟨by rw [HF.out]; rfl, HB9.out⟩
      · have HF : Hid (ev N s f = true) := Lib.hid (by rw [← HE.out]; rfl)
        go_wp2
        go_ret2
        exact ⟨by rw [HF.out]; rfl, HB9.out⟩
theorem Tryz.infoBool : (Tryz.prog.info? 4).map (fun i => (i.zero, i.size, i.bytes)) = some (some (.bool false), 1, 1) := by kernel_rfl
def boolsW (w : World) : World := w.alloc (.cells (bcells fun _ => false) 4)
theorem boolsW_row (w : World) : BRow (boolsW w) w.heap.size fun _ => false := blk1 w _
theorem boolsW_below (w : World) : Below w.heap.size w (boolsW w) := below1 w _
theorem mkBools (w : World) : (Instr.makeSlice 78 (.int .i64 208) (.int .i64 208)).run Tryz.prog w = .ok (.slice (some ⟨w.heap.size, 0, none⟩) 208 208) (boolsW w) := by
  obtain ⟨i0, hi, hz0, hz1, hz2⟩ := info_parts Tryz.infoBool
  have hb : (i0.bytes : Int) * (208 : Int) ≤ 281474976710656 := by rw [hz2]; omega
  have h := run_make (P := Tryz.prog) w 78 4 i0 _ Tryz.underlying78 hi hz0 .i64 .i64 (208 : Int) (208 : Int) (by omega) (Int.le_refl _) hb (by omega)
  have e : madeCells (Value.bool false).cells ((208 : Int).toNat * i0.size) = bcells fun _ => false := by
    rw [hz1]
    apply Array.ext'
    rw [show ((208 : Int).toNat * 1) = 208 from rfl]
    refine (toList_madeCells_one _ _).trans ?_
    apply List.ext_getElem?
    intro i
    simp only [bcells, List.getElem?_replicate, List.getElem?_map]
    by_cases hi : i < 208
    · simp [hi]
    · simp [hi]
  rw [e] at h
  exact h
/-- A header's values, and those of the one behind. -/
def nowS (h : Hd) : Nat → Bool := layF h 0 (fun _ => false) 104
def bothS (h g : Hd) : Nat → Bool := layF g 1 (nowS h) 104
section
variable {w : World} {B S km : Nat} {A : Blks} {Mo : Nat} {σ : Sg}
set_option maxRecDepth 100000
set_option maxHeartbeats 2000000
/-- What a question comes to: the space knows more, and nothing else. -/
def AskRes (w : World) (B S km : Nat) (A : Blks) (Mo : Nat) (σ : Sg) (v : Value) (e : Ending) (w' : World) : Prop := e = .returned v ∧ ∃ K, SpOk w' B S km A Mo (σ.know K) ∧ KeptS A km w w'
theorem SpOk.at {w : World} (h : SpOk w B S km A Mo σ) {f : Nat} {F : Fun} (hf : Den σ f F) (g : Nat) (s : Nat → Bool) (hg : BRow w g s) :
    Calls Tryz.prog 88 #[.pointer (some ⟨A.a, 0, none⟩), .int .i64 f, .slice (some ⟨g, 0, none⟩) 208 208] w fun e w' => e = .returned (.tuple #[.bool (F s), .int .i64 0]) ∧ Below w.heap.size w w' := by
  have := At_any f g s h.sp.ar ⟨hf.1, (h.ok.g f hf.1).1⟩ (h.ok.g f hf.1).2.2 hg
  rw [hf.2] at this
  exact this
theorem grown_space {g : Nat} {w' : World} (h : SpOk w B S km A Mo σ) (hgr : w.grownBy w' (some g)) (hf : Foreign A w g) (hne : g ≠ km) (hS : g ≠ S) : SpOk w' B S km A Mo σ ∧ (∀ k, Foreign A w k → Foreign A w' k) := by
  obtain ⟨nv, hA⟩ := h.sp.ar
  obtain ⟨a1, a2, a3⟩ := hA.calm hgr.size fun k hk hn => hgr.block k hk (fun e => hn (by injection e with e; rw [e]; exact hf))
  exact ⟨⟨⟨⟨nv, a1⟩, (hgr.block S (lt_of_block h.sp.cells) (fun e => hS (by injection e with e; exact e.symm))).trans h.sp.cells, a2 _ h.sp.fs, h.sp.known.same (hgr.block km h.sp.fk.1 (fun e => hne (by injection e with e; exact e.symm))), a2 _ h.sp.fk, h.sp.ne⟩, h.ok⟩, a2⟩
theorem keptG {W3 W4 : World} {g : Nat} (h : KeptS A km w W3) (hg : W3.grownBy W4 (some g)) (hs : w.heap.size ≤ g) (hf : ∀ k, Foreign A W3 k → Foreign A W4 k) : KeptS A km w W4 :=
  ⟨hg.os.trans h.os, hg.tape.trans h.tape, hg.output.trans h.output, Nat.le_trans h.size hg.size, fun k hk hn => ⟨(hg.block k (Nat.lt_of_lt_of_le hk.1 h.size) (fun e => by injection e with e; have := hk.1; omega)).trans (h.same k hk hn).1, hf k (h.same k hk hn).2⟩⟩
theorem has_yes (h : SpOk w B S km A Mo σ) {f : Nat} {F : Fun} (hf : Den σ f F) (sf : SetF F) (hd : Hd) (ho : hd.ok) :
    Calls Tryz.prog 26 #[.pointer (some ⟨S, 0, none⟩), .int .i64 f, .agg #[.int .u32 hd.src, .int .u32 hd.dst, .int .u8 hd.proto, .int .u16 hd.sp, .int .u16 hd.dp]] w (AskRes w B S km A Mo σ (.tuple #[.bool (F (nowS hd)), .int .i64 0])) := by
  have hfl := hf.lt64 h.ok
  have hW : w.alloc (.cells #[.int .u32 hd.src, .int .u32 hd.dst, .int .u8 hd.proto, .int .u16 hd.sp, .int .u16 hd.dp] 82) = w.alloc hd.cells := rfl
  have hbw := below1 w hd.cells
  have hbk := blk1 w hd.cells
  have HFO := Lib.hid (h.sp.ar.foreign_new hbw (Nat.le_refl _) (lt_of_block hbk))
  have HNE : Hid (w.heap.size ≠ km) := Lib.hid (by have := h.sp.fk.1; omega)
  have HBK := Lib.hid hbk
  have HCK := Lib.hid ((h.below hbw).check1 f (by unfold I64; omega))
  have HK0 := Lib.hid (h.kept hbw)
  have HA := Lib.hid (And.intro hf sf)
  have HH := Lib.hid ho
  have hmk := mkBools
  clear h hbw hbk hf sf ho
  go_enter Tryz.func26, Tryz.ntmps26
  go_upto_region 1 with fail
  clear hW
  generalize w.alloc hd.cells = w0 at *
  go_upto_region 4 with ((with_reducible refine HCK.out.mono ?_); rintro e W2 hr; obtain ⟨he, K, hs2, hk2⟩ := hr.yes (allOk1 HA.out.1 HA.out.2); subst he; have HS2 := Lib.hid hs2; have HK2 := Lib.hid hk2; clear hr hs2 hk2)
  go_upto_region 5 with fail
  have HB3 := Lib.hid (boolsW_below W2)
  have HR3 := Lib.hid (boolsW_row W2)
  have hls := lt_of_block HS2.out.sp.cells
  have HF3 := Lib.hid (HS2.out.sp.ar.foreign_new HB3.out (Nat.le_refl _) (lt_of_block HR3.out))
  have HN3 : Hid (W2.heap.size ≠ km ∧ W2.heap.size ≠ S) := Lib.hid (by have := HS2.out.sp.fk.1; omega)
  have HS3 := Lib.hid (HS2.out.below HB3.out)
  have HK3 := Lib.hid (HK0.out.trans (HK2.out.trans (HS2.out.kept HB3.out)))
  have hk3 := blk_below HB3.out ((HK2.out.same _ HFO.out HNE.out).1.trans HBK.out)
  unfold Hd.cells at hk3
  clear hls hmk
  generalize boolsW W2 = W3 at *
  have e0 : W3.cell? ⟨w.heap.size, 0, none⟩ = some (.int .u32 hd.src) := cell_of_row _ _ 0 _ _ (0, 0) hk3
  have e1 : W3.cell? ⟨w.heap.size, 1, none⟩ = some (.int .u32 hd.dst) := cell_of_row _ _ 1 _ _ (0, 0) hk3
  have e2 : W3.cell? ⟨w.heap.size, 2, none⟩ = some (.int .u8 hd.proto) := cell_of_row _ _ 2 _ _ (0, 0) hk3
  have e3 : W3.cell? ⟨w.heap.size, 3, none⟩ = some (.int .u16 hd.sp) := cell_of_row _ _ 3 _ _ (0, 0) hk3
  have e4 : W3.cell? ⟨w.heap.size, 4, none⟩ = some (.int .u16 hd.dp) := cell_of_row _ _ 4 _ _ (0, 0) hk3
  have HLAY := Lib.hid (lay_any nowF hd HH.out (fun _ => false) W2.heap.size HR3.out)
  clear hk3
  go_upto_region 6 with ((with_reducible refine HLAY.out.mono ?_); rintro e W4 ⟨rfl, hr4, hg4⟩; have HR4 := Lib.hid hr4; have HG4 := Lib.hid hg4; clear hr4 hg4)
  obtain ⟨hs4, hf4⟩ := grown_space HS3.out HG4.out HF3.out HN3.out.1 HN3.out.2
  have c0 := hs4.sp.c0
  have HS4 := Lib.hid hs4
  have HK4 : Hid (KeptS A km w W4) := Lib.hid (keptG HK3.out HG4.out (by have := HK0.out.size; have := HK2.out.size; omega) hf4)
  have HAT := Lib.hid (hs4.at (HA.out.1.known K) W2.heap.size (nowS hd) HR4.out)
  clear hs4 hf4 e0 e1 e2 e3 e4
  go_wp2_with ((with_reducible refine HAT.out.mono ?_); rintro e W5 ⟨rfl, hb5⟩; have HS5 := Lib.hid (HS4.out.below hb5); have HK5 := Lib.hid (HK4.out.trans (HS4.out.kept hb5)); clear hb5)
  go_ret2
  exact ⟨rfl, K, HS5.out, HK5.out⟩
end
end Go.Proofs.YtbahehmfhjkgeaaGreat

/-
  Whether a relation leads from a header to another one; the refusals (written by wip/gen/genre4.py).
-/
namespace Go.Proofs.YtbahehmfhjkgeaaGreat
open Go Go.RowKit Go.ChangeMaps Go.MapKept Go.Maps Go.Lib Go.Sort

section
variable {w : World} {B S km : Nat} {A : Blks} {Mo : Nat} {σ : Sg}
set_option maxRecDepth 100000
set_option maxHeartbeats 2000000
theorem has_no (h : SpOk w B S km A Mo σ) (x : Int) (hx : I64 x) (ok : ¬ AllNum σ [x] []) (hd : Hd) :
    Calls Tryz.prog 26 #[.pointer (some ⟨S, 0, none⟩), .int .i64 x, .agg #[.int .u32 hd.src, .int .u32 hd.dst, .int .u8 hd.proto, .int .u16 hd.sp, .int .u16 hd.dp]] w (AskRes w B S km A Mo σ (.tuple #[.bool false, .int .i64 1])) := by
  have hW : w.alloc (.cells #[.int .u32 hd.src, .int .u32 hd.dst, .int .u8 hd.proto, .int .u16 hd.sp, .int .u16 hd.dp] 82) = w.alloc hd.cells := rfl
  have hbw := below1 w hd.cells
  have HCK := Lib.hid ((h.below hbw).check1 x hx)
  have HK0 := Lib.hid (h.kept hbw)
  clear h hbw
  go_enter Tryz.func26, Tryz.ntmps26
  go_upto_region 1 with fail
  clear hW
  generalize w.alloc hd.cells = w0 at *
  go_wp2_with ((with_reducible refine HCK.out.mono ?_); rintro e W2 hr; obtain ⟨he, K, hs2, hk2⟩ := hr.no ok; subst he; have HS2 := Lib.hid hs2; have HK2 := Lib.hid hk2; clear hr hs2 hk2)
  go_ret2
  exact ⟨rfl, K, HS2.out, HK0.out.trans HK2.out⟩
theorem leads_no (h : SpOk w B S km A Mo σ) (x : Int) (hx : I64 x) (ok : ¬ AllNum σ [] [x]) (hd hg : Hd) :
    Calls Tryz.prog 35 #[.pointer (some ⟨S, 0, none⟩), .int .i64 x, .agg #[.int .u32 hd.src, .int .u32 hd.dst, .int .u8 hd.proto, .int .u16 hd.sp, .int .u16 hd.dp], .agg #[.int .u32 hg.src, .int .u32 hg.dst, .int .u8 hg.proto, .int .u16 hg.sp, .int .u16 hg.dp]] w (AskRes w B S km A Mo σ (.tuple #[.bool false, .int .i64 1])) := by
  have hW : (w.alloc (.cells #[.int .u32 hd.src, .int .u32 hd.dst, .int .u8 hd.proto, .int .u16 hd.sp, .int .u16 hd.dp] 82)).alloc (.cells #[.int .u32 hg.src, .int .u32 hg.dst, .int .u8 hg.proto, .int .u16 hg.sp, .int .u16 hg.dp] 82) = (w.alloc hd.cells).alloc hg.cells := rfl
  have hbw := below2 w hd.cells hg.cells
  have HCK := Lib.hid ((h.below hbw).checkN1 x hx)
  have HK0 := Lib.hid (h.kept hbw)
  clear h hbw
  go_enter Tryz.func35, Tryz.ntmps35
  go_upto_region 1 with fail
  clear hW
  generalize (w.alloc hd.cells).alloc hg.cells = w0 at *
  go_wp2_with ((with_reducible refine HCK.out.mono ?_); rintro e W2 hr; obtain ⟨he, K, hs2, hk2⟩ := hr.no ok; subst he; have HS2 := Lib.hid hs2; have HK2 := Lib.hid hk2; clear hr hs2 hk2)
  go_ret2
  exact ⟨rfl, K, HS2.out, HK0.out.trans HK2.out⟩
theorem leads_yes (h : SpOk w B S km A Mo σ) {f : Nat} {F : Fun} (hf : Den σ f F) (hd hg : Hd) (ho : hd.ok) (hgo : hg.ok) :
    Calls Tryz.prog 35 #[.pointer (some ⟨S, 0, none⟩), .int .i64 f, .agg #[.int .u32 hd.src, .int .u32 hd.dst, .int .u8 hd.proto, .int .u16 hd.sp, .int .u16 hd.dp], .agg #[.int .u32 hg.src, .int .u32 hg.dst, .int .u8 hg.proto, .int .u16 hg.sp, .int .u16 hg.dp]] w (AskRes w B S km A Mo σ (.tuple #[.bool (F (bothS hd hg)), .int .i64 0])) := by
  have hfl := hf.lt64 h.ok
  have hW : (w.alloc (.cells #[.int .u32 hd.src, .int .u32 hd.dst, .int .u8 hd.proto, .int .u16 hd.sp, .int .u16 hd.dp] 82)).alloc (.cells #[.int .u32 hg.src, .int .u32 hg.dst, .int .u8 hg.proto, .int .u16 hg.sp, .int .u16 hg.dp] 82) = (w.alloc hd.cells).alloc hg.cells := rfl
  have hbw := below2 w hd.cells hg.cells
  have hs1 : (w.alloc hd.cells).heap.size = w.heap.size + 1 := by simp
  have hbk := blk_below (below1 (w.alloc hd.cells) hg.cells) (blk1 w hd.cells)
  have hbk2 := blk1 (w.alloc hd.cells) hg.cells
  rw [hs1] at hbk2
  have HFO := Lib.hid (And.intro (h.sp.ar.foreign_new hbw (Nat.le_refl _) (lt_of_block hbk)) (h.sp.ar.foreign_new hbw (show w.heap.size ≤ w.heap.size + 1 by omega) (lt_of_block hbk2)))
  have HNE : Hid (w.heap.size ≠ km ∧ w.heap.size + 1 ≠ km) := Lib.hid (by have := h.sp.fk.1; omega)
  have HBK := Lib.hid (And.intro hbk hbk2)
  have HCK := Lib.hid ((h.below hbw).checkN1 f (by unfold I64; omega))
  have HK0 := Lib.hid (h.kept hbw)
  have HA := Lib.hid hf
  have HH := Lib.hid (And.intro ho hgo)
  have hmk := mkBools
  clear h hbw hbk hbk2 hf ho hgo hs1
  go_enter Tryz.func35, Tryz.ntmps35
  go_upto_region 1 with fail
  clear hW
  generalize (w.alloc hd.cells).alloc hg.cells = w0 at *
  go_upto_region 4 with ((with_reducible refine HCK.out.mono ?_); rintro e W2 hr; obtain ⟨he, K, hs2, hk2⟩ := hr.yes (allOkN1 HA.out); subst he; have HS2 := Lib.hid hs2; have HK2 := Lib.hid hk2; clear hr hs2 hk2)
  go_upto_region 5 with fail
  have HB3 := Lib.hid (boolsW_below W2)
  have HR3 := Lib.hid (boolsW_row W2)
  have hls := lt_of_block HS2.out.sp.cells
  have HF3 := Lib.hid (HS2.out.sp.ar.foreign_new HB3.out (Nat.le_refl _) (lt_of_block HR3.out))
  have HN3 : Hid (W2.heap.size ≠ km ∧ W2.heap.size ≠ S) := Lib.hid (by have := HS2.out.sp.fk.1; omega)
  have HS3 := Lib.hid (HS2.out.below HB3.out)
  have HK3 := Lib.hid (HK0.out.trans (HK2.out.trans (HS2.out.kept HB3.out)))
  have hk3 := blk_below HB3.out ((HK2.out.same _ HFO.out.1 HNE.out.1).1.trans HBK.out.1)
  have hg3 := blk_below HB3.out ((HK2.out.same _ HFO.out.2 HNE.out.2).1.trans HBK.out.2)
  have hl3 : w.heap.size + 1 < W2.heap.size := (HK2.out.same _ HFO.out.2 HNE.out.2).2.1
  unfold Hd.cells at hk3 hg3
  clear hls hmk
  generalize boolsW W2 = W3 at *
  have e0 : W3.cell? ⟨w.heap.size, 0, none⟩ = some (.int .u32 hd.src) := cell_of_row _ _ 0 _ _ (0, 0) hk3
  have e1 : W3.cell? ⟨w.heap.size, 1, none⟩ = some (.int .u32 hd.dst) := cell_of_row _ _ 1 _ _ (0, 0) hk3
  have e2 : W3.cell? ⟨w.heap.size, 2, none⟩ = some (.int .u8 hd.proto) := cell_of_row _ _ 2 _ _ (0, 0) hk3
  have e3 : W3.cell? ⟨w.heap.size, 3, none⟩ = some (.int .u16 hd.sp) := cell_of_row _ _ 3 _ _ (0, 0) hk3
  have e4 : W3.cell? ⟨w.heap.size, 4, none⟩ = some (.int .u16 hd.dp) := cell_of_row _ _ 4 _ _ (0, 0) hk3
  have HLAY := Lib.hid (lay_any nowF hd HH.out.1 (fun _ => false) W2.heap.size HR3.out)
  clear hk3
  go_upto_region 6 with ((with_reducible refine HLAY.out.mono ?_); rintro e W4 ⟨rfl, hr4, hg4⟩; have HR4 := Lib.hid hr4; have HG4 := Lib.hid hg4; clear hr4 hg4)
  have hs4 := grown_space HS3.out HG4.out HF3.out HN3.out.1 HN3.out.2
  have hg4 := (HG4.out.block _ (lt_of_block hg3) (fun e => by injection e; omega)).trans hg3
  have g0 : W4.cell? ⟨w.heap.size + 1, 0, none⟩ = some (.int .u32 hg.src) := cell_of_row _ _ 0 _ _ (0, 0) hg4
  have g1 : W4.cell? ⟨w.heap.size + 1, 1, none⟩ = some (.int .u32 hg.dst) := cell_of_row _ _ 1 _ _ (0, 0) hg4
  have g2 : W4.cell? ⟨w.heap.size + 1, 2, none⟩ = some (.int .u8 hg.proto) := cell_of_row _ _ 2 _ _ (0, 0) hg4
  have g3 : W4.cell? ⟨w.heap.size + 1, 3, none⟩ = some (.int .u16 hg.sp) := cell_of_row _ _ 3 _ _ (0, 0) hg4
  have g4 : W4.cell? ⟨w.heap.size + 1, 4, none⟩ = some (.int .u16 hg.dp) := cell_of_row _ _ 4 _ _ (0, 0) hg4
  have HS4 := Lib.hid hs4
  have HLAY2 := Lib.hid (lay_any thenF hg HH.out.2 (nowS hd) W2.heap.size HR4.out)
  clear hs4 hg3 hg4 e0 e1 e2 e3 e4 hl3 HLAY
  go_upto_region 7 with ((with_reducible refine HLAY2.out.mono ?_); rintro e W5 ⟨rfl, hr5, hg5⟩; have HR5 := Lib.hid hr5; have HG5 := Lib.hid (HG4.out.trans hg5); clear hr5 hg5)
  obtain ⟨hs5, hf5⟩ := grown_space HS3.out HG5.out HF3.out HN3.out.1 HN3.out.2
  have c0 := hs5.sp.c0
  have HS5 := Lib.hid hs5
  have HK5 : Hid (KeptS A km w W5) := Lib.hid (keptG HK3.out HG5.out (by have := HK0.out.size; have := HK2.out.size; omega) hf5)
  have HAT := Lib.hid (hs5.at (HA.out.known K) W2.heap.size (bothS hd hg) HR5.out)
  clear hs5 hf5 g0 g1 g2 g3 g4
  go_wp2_with ((with_reducible refine HAT.out.mono ?_); rintro e W6 ⟨rfl, hb6⟩; have HS6 := Lib.hid (HS5.out.below hb6); have HK6 := Lib.hid (HK5.out.trans (HS5.out.kept hb6)); clear hb6)
  go_ret2
  exact ⟨rfl, K, HS6.out, HK6.out⟩
end
end Go.Proofs.YtbahehmfhjkgeaaGreat

/-
  A space's Least of any set.
-/
namespace Go.Proofs.YtbahehmfhjkgeaaGreat
open Go Go.RowKit Go.ChangeMaps Go.MapKept Go.Maps Go.Lib Go.Sort

/-- The header as it is made bit by bit. -/
noncomputable def lstH (N : List Nd) (f : Nat) : Nat → Hd
  | 0 => ⟨0, 0, 0, 0, 0⟩
  | k + 1 => (lstH N f k).put k (lstB N f k)
theorem hd0_ok : (⟨0, 0, 0, 0, 0⟩ : Hd).ok := ⟨by decide, by decide, by decide, by decide, by decide, by decide, by decide, by decide, by decide, by decide⟩
theorem lstH_ok (N : List Nd) (f : Nat) : ∀ k, k ≤ 104 → (lstH N f k).ok
  | 0, _ => hd0_ok
  | k + 1, h => put_ok (lstH_ok N f k (by omega)) (by omega)
theorem lstH_bit (N : List Nd) (f : Nat) : ∀ k, k ≤ 104 → ∀ j, j < k → (lstH N f k).bit j = lstB N f j
  | 0, _, j, hj => absurd hj (by omega)
  | k + 1, h, j, hj => by
    show ((lstH N f k).put k (lstB N f k)).bit j = _
    rw [put_bit (lstH_ok N f k (by omega)) (by omega) (by omega)]
    by_cases e : j = k
    · rw [if_pos e, e]
    · rw [if_neg e]
      exact lstH_bit N f k (by omega) j (by omega)
def Hd.val5 (h : Hd) : Value := .agg #[.int .u32 h.src, .int .u32 h.dst, .int .u8 h.proto, .int .u16 h.sp, .int .u16 h.dp]
section
set_option maxRecDepth 100000
set_option maxHeartbeats 8000000
variable {w : World} {B S km : Nat} {A : Blks} {Mo : Nat} {σ : Sg}
theorem relLeast_yes (h : SpOk w B S km A Mo σ) {a : Nat} {F : Fun} (hd : Den σ a F) (sf : SetF F) (ha0 : a ≠ 0) :
    Calls Tryz.prog 25 #[.pointer (some ⟨S, 0, none⟩), .int .i64 a] w (SpSame w B S km A Mo σ (.tuple #[(lstH σ.N a 104).val5, .int .i64 0])) := by
  have hlt := (h.ok.g a hd.1).1
  have hfl := hd.lt64 h.ok
  have hsup := hd.supE h.ok sf
  have HD0 := Lib.hid (And.intro hd.1 hlt)
  have HSUP := Lib.hid hsup
  have hb := below1 w (.cells #[.int .u32 0, .int .u32 0, .int .u8 0, .int .u16 0, .int .u16 0] 82)
  have hk := blk1 w (.cells #[.int .u32 0, .int .u32 0, .int .u8 0, .int .u16 0, .int .u16 0] 82)
  have h1 := h.below hb
  have HK0 := Lib.hid (h.kept hb)
  have HF := Lib.hid (h.sp.ar.foreign_new hb (Nat.le_refl _) (lt_of_block hk))
  have HN : Hid (w.heap.size ≠ km ∧ w.heap.size ≠ S) := Lib.hid ⟨by have := h.sp.fk.1; omega, by have := lt_of_block h.sp.cells; omega⟩
  have HB := Lib.hid hk
  have HCK := Lib.hid (h1.check1 a (by unfold I64; omega))
  have OK : Hid (AllNum σ [(a : Int)] []) := Lib.hid (allOk1 hd sf)
  clear hb hk h1 h hd sf hsup hlt
  go_enter Tryz.func25, Tryz.ntmps25
  go_upto_region 1 with fail
  generalize w.alloc (.cells #[.int .u32 0, .int .u32 0, .int .u8 0, .int .u16 0, .int .u16 0] 82) = w1 at *
  go_upto_region 2 with ((with_reducible refine HCK.out.mono ?_); rintro e W2 hr; obtain ⟨he, K, hs2, hk2⟩ := hr.yes OK.out; subst he; have HS2 := Lib.hid hs2; have HK2 := Lib.hid (HK0.out.trans hk2); have HX2 := Lib.hid (hk2.same _ HF.out HN.out.1); clear hr hs2 hk2)
  clear HCK OK
  go_upto_region 4 with fail
  have c0 := HS2.out.sp.c0
  have kr := HX2.out.1.trans HB.out
  obtain ⟨S', hS⟩ : ∃ S' : World → Prop, S' = fun x => x.cell? ⟨S, 0, none⟩ = some (.pointer (some ⟨A.a, 0, none⟩)) := ⟨_, rfl⟩
  have hSI : ∀ x : World, x.cell? ⟨S, 0, none⟩ = some (.pointer (some ⟨A.a, 0, none⟩)) → S' x := fun x h => by rw [hS]; exact h
  have hSP : ∀ x : World, S' x → x.cell? ⟨S, 0, none⟩ = some (.pointer (some ⟨A.a, 0, none⟩)) := fun x h => by rw [hS] at h; exact h
  have hne : Nonempty (InW S') := ⟨⟨_, hSI _ c0⟩⟩
  have hdb : Below W2.heap.size W2 { W2 with drawn := W2.drawn + 1 } := ⟨rfl, rfl, rfl, Nat.le_refl _, fun _ _ => rfl⟩
  refine wp_region_mixS S' [(0, false), (1, false), (2, false), (3, false), (4, false), (5, true), (6, true), (7, false), (8, false), (9, false), (10, false), (11, false)] (by kernel_rfl) (by kernel_rfl) (hSI _ ((hdb.cell (p := ⟨S, 0, none⟩) (World.block_lt_of_cell? _ _ c0)).trans c0)) ?_
  have L0 : ∀ p : InW S', p.w.cell? ⟨S, 0, none⟩ = some (.pointer (some ⟨A.a, 0, none⟩)) := fun p => hSP _ p.h
  have HSI := Lib.hid hSI
  clear hSI hSP hS
  generalize { W2 with drawn := W2.drawn + 1 } = V0 at *
  refine mix_take [0, 1, 2, 3, 4] [_, _, _, _, _] rfl rfl ?_
  simp only [List.getElem_toArray, List.getElem_cons_zero, List.getElem_cons_succ]
  repeat (go_big_quiet_step (fail))
  refine wpQuiet_nil ?_
  have HDB := Lib.hid hdb
  have KR := Lib.hid kr
  have HNE := Lib.hid hne
  clear L0 hdb c0 kr hne
  refine mix_barS rfl (by rfl) ?_
  simp only [List.getElem_toArray, List.getElem_cons_zero, List.getElem_cons_succ]
  go_simp
  refine (all_any V0 nowF).mono ?_
  rintro e V1 ⟨v1, rfl, ho1, hb1⟩
  obtain ⟨P1, c1, hv1, _⟩ := owns_form ho1
  subst hv1
  have HD1 := Lib.hid (HDB.out.trans (hb1.mono HDB.out.size))
  have HS1 := Lib.hid (HS2.out.below HD1.out)
  have hrd := Rd.of_own ho1
  have hc1 := Least_any HS1.out.sp.ar a HD0.out ha0 104 (by omega) (.slice P1 104 c1) (by rw [varsL_len]; exact hrd) (by omega) HSUP.out
  unfold Blks.val at hc1
  have HC := Lib.hid hc1
  clear hb1 ho1 hrd hc1
  refine ⟨S', HSI.out _ HS1.out.sp.c0, fun _ h => h, ?_⟩
  refine mix_barS rfl (by rfl) ?_
  simp only [List.getElem_toArray, List.getElem_cons_zero, List.getElem_cons_succ]
  go_simp
  refine HC.out.mono ?_
  rintro e V2 ⟨gb, rfl, hgb, hbk, hb2⟩
  have HD2 := Lib.hid (HD1.out.trans (hb2.mono HD1.out.size))
  have HS3 := Lib.hid (HS2.out.below HD2.out)
  have HBK := Lib.hid hbk
  clear hb2 HC hbk
  refine ⟨S', HSI.out _ HS3.out.sp.c0, fun _ h => h, ?_⟩
  have hne := HNE.out
  refine mix_take [7, 8, 9, 10, 11] [_, _, _, _, _] rfl rfl ?_
  simp only [List.getElem_toArray, List.getElem_cons_zero, List.getElem_cons_succ]
  repeat (go_big_quiet_step (fail))
  refine wpQuiet_nil ?_
  refine mix_end ?_
  clear hne
  go_upto_region 8 with fail
  have hb8 := below1 V2 (.cells #[.int .u32 0, .int .u32 0, .int .u8 0, .int .u16 0, .int .u16 0] 82)
  have k8 := blk1 V2 (.cells #[.int .u32 0, .int .u32 0, .int .u8 0, .int .u16 0, .int .u16 0] 82)
  have hg8 : W2.grownBy (V2.alloc (.cells #[.int .u32 0, .int .u32 0, .int .u8 0, .int .u16 0, .int .u16 0] 82)) none := only_of_below (HD2.out.trans (hb8.mono HD2.out.size)) _
  obtain ⟨s8, f8, n8⟩ := HS2.out.others hg8 (fun g hg => by cases hg)
  have HS8 := Lib.hid s8
  have HN8 := Lib.hid (n8 V2.heap.size HD2.out.size (lt_of_block k8))
  have HR8 := Lib.hid (And.intro (blk_below hb8 (blk_below HD2.out KR.out)) (f8 _ HX2.out.2))
  have HBK8 := Lib.hid (And.intro (blk_below hb8 HBK.out) (lt_of_block HBK.out))
  have HK8 := Lib.hid (HK2.out.others hg8 (fun g hg => by cases hg) f8)
  have HZ8 : Hid (w.heap.size < V2.heap.size) := Lib.hid (Nat.lt_of_lt_of_le (lt_of_block KR.out) HD2.out.size)
  have HH8 : Hid ((V2.alloc (.cells #[.int .u32 0, .int .u32 0, .int .u8 0, .int .u16 0, .int .u16 0] 82)).heap[V2.heap.size]? = some (lstH σ.N a 0).cells) := Lib.hid k8
  clear hb8 k8 hg8 s8 f8 n8 HBK HS3 HS1 HD1 HD2 HDB KR HX2 HS2 HB HF HSI HK2
  generalize V2.alloc (.cells #[.int .u32 0, .int .u32 0, .int .u8 0, .int .u16 0, .int .u16 0] 82) = W8 at *
  generalize V2.heap.size = hb at *
  go_wp2
  go_loopw [36] (fun i wr => ∃ k : Nat, i = .int .i64 k ∧ k ≤ 104 ∧ Hid (wr.heap[hb]? = some (lstH σ.N a k).cells ∧ W8.grownBy wr (some hb))) (fun i _ => 104 - (intOf i).toNat)
  case atStart => exact ⟨0, rfl, by omega, Lib.hid ⟨HH8.out, World.grownBy.refl _ _⟩⟩
  case round =>
    obtain ⟨k, rfl, hk, HI⟩ := hrel
    have hge : wr.heap[gb]? = some (.cells (blsL (lstL σ.N a 104 104)) 4 (0, 0)) := (HI.out.2.block _ (lt_of_block HBK8.out.1) (fun e => by injection e with e; have := HBK8.out.2; omega)).trans HBK8.out.1
    by_cases hlt : k < 104
    · have hI : (k : Int) < 104 := by omega
      have e0 : wr.cell? ⟨gb, k, none⟩ = some (.bool (lstB σ.N a k)) := (cell_of_row _ _ _ _ _ (0, 0) hge).trans (blsL_get (by unfold lstL; rw [List.getElem?_map, List.getElem?_range hlt]; simp [hlt]))
      obtain ⟨hh, hhe⟩ : ∃ hh, lstH σ.N a k = hh := ⟨_, rfl⟩
      have hho : hh.ok := hhe ▸ lstH_ok σ.N a k hk
      have hnx : lstH σ.N a (k + 1) = hh.put k (lstB σ.N a k) := by rw [← hhe]; rfl
      obtain ⟨b, hbe⟩ : ∃ b, lstB σ.N a k = b := ⟨_, rfl⟩
      rw [hbe] at e0 hnx
      have hcells := HI.out.1
      rw [hhe] at hcells
      obtain ⟨d0, d1, d2, d3, d4⟩ := hd_cell hcells
      have HC0 := Lib.hid hcells
      have HW := Lib.hid (with_yes hh hho k b wr hlt)
      have HNX := Lib.hid hnx
      clear hge hcells hbe hnx
      go_upto_region 12 with ((with_reducible refine HW.out.mono ?_); rintro e w6 ⟨rfl, hb6⟩; have HB6 := Lib.hid hb6; have hk6 := blk_below hb6 HC0.out; have HK6 := Lib.hid hk6; have q := hd_cell hk6; have q0 := q.1; have q1 := q.2.1; have q2 := q.2.2.1; have q3 := q.2.2.2.1; have q4 := q.2.2.2.2; have g0 := hd_frozen hk6 0; have g1 := hd_frozen hk6 1; have g2 := hd_frozen hk6 2; have g3 := hd_frozen hk6 3; have g4 := hd_frozen hk6 4; clear q hb6 hk6)
      have G0 : W8.grownBy w6 (some hb) := HI.out.2.trans (only_of_below HB6.out _)
      have G1 : W8.grownBy (w6.setCell ⟨hb, 0, none⟩ (.int .u32 (hh.put k b).src)) (some hb) := only_setCell G0 (.inl rfl) _
      have G2 : W8.grownBy ((w6.setCell ⟨hb, 0, none⟩ (.int .u32 (hh.put k b).src)).setCell ⟨hb, 1, none⟩ (.int .u32 (hh.put k b).dst)) (some hb) := only_setCell G1 (.inl rfl) _
      have G3 : W8.grownBy (((w6.setCell ⟨hb, 0, none⟩ (.int .u32 (hh.put k b).src)).setCell ⟨hb, 1, none⟩ (.int .u32 (hh.put k b).dst)).setCell ⟨hb, 2, none⟩ (.int .u8 (hh.put k b).proto)) (some hb) := only_setCell G2 (.inl rfl) _
      have G4 : W8.grownBy ((((w6.setCell ⟨hb, 0, none⟩ (.int .u32 (hh.put k b).src)).setCell ⟨hb, 1, none⟩ (.int .u32 (hh.put k b).dst)).setCell ⟨hb, 2, none⟩ (.int .u8 (hh.put k b).proto)).setCell ⟨hb, 3, none⟩ (.int .u16 (hh.put k b).sp)) (some hb) := only_setCell G3 (.inl rfl) _
      have G5 : W8.grownBy (((((w6.setCell ⟨hb, 0, none⟩ (.int .u32 (hh.put k b).src)).setCell ⟨hb, 1, none⟩ (.int .u32 (hh.put k b).dst)).setCell ⟨hb, 2, none⟩ (.int .u8 (hh.put k b).proto)).setCell ⟨hb, 3, none⟩ (.int .u16 (hh.put k b).sp)).setCell ⟨hb, 4, none⟩ (.int .u16 (hh.put k b).dp)) (some hb) := only_setCell G4 (.inl rfl) _
      have hkf : (((((w6.setCell ⟨hb, 0, none⟩ (.int .u32 (hh.put k b).src)).setCell ⟨hb, 1, none⟩ (.int .u32 (hh.put k b).dst)).setCell ⟨hb, 2, none⟩ (.int .u8 (hh.put k b).proto)).setCell ⟨hb, 3, none⟩ (.int .u16 (hh.put k b).sp)).setCell ⟨hb, 4, none⟩ (.int .u16 (hh.put k b).dp)).heap[hb]? = some (lstH σ.N a (k + 1)).cells := by
        rw [HNX.out]
        exact hd_set4 (hd_set3 (hd_set2 (hd_set1 (hd_set0 HK6.out _) _) _) _) _
      have HFI := Lib.hid (And.intro hkf G5)
      clear q0 q1 q2 q3 q4 g0 g1 g2 g3 g4 d0 d1 d2 d3 d4 hkf G0 G1 G2 G3 G4 G5 e0
      generalize (((((w6.setCell ⟨hb, 0, none⟩ (.int .u32 (hh.put k b).src)).setCell ⟨hb, 1, none⟩ (.int .u32 (hh.put k b).dst)).setCell ⟨hb, 2, none⟩ (.int .u8 (hh.put k b).proto)).setCell ⟨hb, 3, none⟩ (.int .u16 (hh.put k b).sp)).setCell ⟨hb, 4, none⟩ (.int .u16 (hh.put k b).dp)) = w7 at *
      go_wp2
      exact ⟨⟨k + 1, by go_num, by omega, HFI⟩, by simp only [intOf]; omega⟩
    · obtain rfl : k = 104 := by omega
      have hI : ¬ (104 : Int) < 104 := by omega
      obtain ⟨s9, f9, _⟩ := HS8.out.others HI.out.2 (fun g hg => by injection hg with hg; subst hg; exact HN8.out)
      have hr9 : wr.heap[w.heap.size]? = some (Hd.cells ⟨0, 0, 0, 0, 0⟩) := (HI.out.2.block _ (lt_of_block HR8.out.1) (fun e => by injection e with e; have := HZ8.out; omega)).trans HR8.out.1
      have HK9 := Lib.hid (HK8.out.others HI.out.2 (fun g hg => by injection hg with hg; have := HZ8.out; omega) f9)
      have HF9 := Lib.hid (f9 _ HR8.out.2)
      have HS9 := Lib.hid s9
      obtain ⟨hh, hhe⟩ : ∃ hh, lstH σ.N a 104 = hh := ⟨_, rfl⟩
      have hcells := HI.out.1
      rw [hhe] at hcells
      obtain ⟨d0, d1, d2, d3, d4⟩ := hd_cell hcells
      obtain ⟨q0, q1, q2, q3, q4⟩ := hd_cell hr9
      have g0 := hd_frozen hr9 0
      have g1 := hd_frozen hr9 1
      have g2 := hd_frozen hr9 2
      have g3 := hd_frozen hr9 3
      have g4 := hd_frozen hr9 4
      have G0 := World.grownBy.refl wr (some w.heap.size)
      have G1 : wr.grownBy (wr.setCell ⟨w.heap.size, 0, none⟩ (.int .u32 hh.src)) (some w.heap.size) := only_setCell G0 (.inl rfl) _
      have G2 : wr.grownBy ((wr.setCell ⟨w.heap.size, 0, none⟩ (.int .u32 hh.src)).setCell ⟨w.heap.size, 1, none⟩ (.int .u32 hh.dst)) (some w.heap.size) := only_setCell G1 (.inl rfl) _
      have G3 : wr.grownBy (((wr.setCell ⟨w.heap.size, 0, none⟩ (.int .u32 hh.src)).setCell ⟨w.heap.size, 1, none⟩ (.int .u32 hh.dst)).setCell ⟨w.heap.size, 2, none⟩ (.int .u8 hh.proto)) (some w.heap.size) := only_setCell G2 (.inl rfl) _
      have G4 : wr.grownBy ((((wr.setCell ⟨w.heap.size, 0, none⟩ (.int .u32 hh.src)).setCell ⟨w.heap.size, 1, none⟩ (.int .u32 hh.dst)).setCell ⟨w.heap.size, 2, none⟩ (.int .u8 hh.proto)).setCell ⟨w.heap.size, 3, none⟩ (.int .u16 hh.sp)) (some w.heap.size) := only_setCell G3 (.inl rfl) _
      have G5 : wr.grownBy (((((wr.setCell ⟨w.heap.size, 0, none⟩ (.int .u32 hh.src)).setCell ⟨w.heap.size, 1, none⟩ (.int .u32 hh.dst)).setCell ⟨w.heap.size, 2, none⟩ (.int .u8 hh.proto)).setCell ⟨w.heap.size, 3, none⟩ (.int .u16 hh.sp)).setCell ⟨w.heap.size, 4, none⟩ (.int .u16 hh.dp)) (some w.heap.size) := only_setCell G4 (.inl rfl) _
      obtain ⟨s10, f10, _⟩ := HS9.out.others G5 (fun g hg => by injection hg with hg; subst hg; exact ⟨HF9.out, HN.out⟩)
      have HY := Lib.hid (hd_set4 (hd_set3 (hd_set2 (hd_set1 (hd_set0 hr9 hh.src) hh.dst) hh.proto) hh.sp) hh.dp)
      have HFIN := Lib.hid (And.intro s10 (HK9.out.others G5 (fun g hg => by injection hg with hg; omega) f10))
      have HHE := Lib.hid hhe
      clear G0 G1 G2 G3 G4 G5 s9 f9 s10 f10 hr9 hcells hge hhe
      go_wp2
      exact bodyPost_ret (results_hd2 (t1 := 4) (t3 := 5) (g := w.heap.size) Tryz.results25 rfl rfl HY.out) rfl ⟨by rw [HHE.out]; rfl, _, HFIN.out⟩
end
end Go.Proofs.YtbahehmfhjkgeaaGreat

/-
  Plain: the headers of one protocol: how many, and the least one.
-/
namespace Go.Proofs.YtbahehmfhjkgeaaGreat
open Go

theorem hput_swap (s : Nat → Bool) {i j : Nat} (h : i ≠ j) (a b : Bool) : put (put s i a) j b = put (put s j b) i a := by
  funext u
  by_cases e1 : u = i
  · subst e1
    rw [put_other h, put_same, put_same]
  · by_cases e2 : u = j
    · subst e2
      rw [put_same, put_other e1, put_same]
    · rw [put_other e2, put_other e1, put_other e1, put_other e2]
/-- A variable ahead that does not matter. -/
theorem numF_free {F : Fun} {j : Nat} (hF : Free F (2 * j)) (b : Bool) : ∀ (m i : Nat) (s : Nat → Bool), j < i → numF F m i (put s (2 * j) b) = numF F m i s
  | 0, _, s, _ => by rw [numF, numF, hF]
  | m + 1, i, s, h => by
    rw [numF, numF, hput_swap s (show 2 * j ≠ 2 * i by omega) b false, hput_swap s (show 2 * j ≠ 2 * i by omega) b true, numF_free hF b m (i + 1) _ (by omega), numF_free hF b m (i + 1) _ (by omega)]
/-- Variables ahead that do not matter. -/
theorem numF_skip {F : Fun} : ∀ (a m i : Nat) (s : Nat → Bool), (∀ j, i ≤ j → j < i + a → Free F (2 * j)) → numF F (a + m) i s = 2 ^ a * numF F m (i + a) s
  | 0, m, i, s, _ => by simp
  | a + 1, m, i, s, h => by
    rw [show a + 1 + m = (a + m) + 1 by omega, numF, numF_free (h i (Nat.le_refl _) (by omega)) _ _ _ _ (Nat.lt_succ_self _), numF_free (h i (Nat.le_refl _) (by omega)) _ _ _ _ (Nat.lt_succ_self _),
      numF_skip a m (i + 1) s (fun j h1 h2 => h j (by omega) (by omega)), show i + 1 + a = i + (a + 1) by omega, Nat.pow_succ, ← Nat.two_mul, ← Nat.mul_assoc, Nat.mul_comm 2]
/-- What stands behind is so many times as much. -/
theorem numF_tail {F : Fun} {c m k : Nat} (h : ∀ t, numF F m k t = c * numF F 0 k t) : ∀ (a i : Nat) (s : Nat → Bool), i + a = k → numF F (a + m) i s = c * numF F a i s
  | 0, i, s, hi => by
    subst hi
    rw [Nat.zero_add]
    exact h s
  | a + 1, i, s, hi => by
    rw [show a + 1 + m = (a + m) + 1 by omega, numF, numF_tail h a (i + 1) _ (by omega), numF_tail h a (i + 1) _ (by omega)]
    conv => rhs; rw [numF]
    rw [Nat.mul_add]
/-- Of eight bits. -/
def sel8 (b0 b1 b2 b3 b4 b5 b6 b7 : Bool) : Nat → Bool := fun u => if u = 128 then b0 else if u = 130 then b1 else if u = 132 then b2 else if u = 134 then b3 else if u = 136 then b4 else if u = 138 then b5 else if u = 140 then b6 else if u = 142 then b7 else false
def pro6 : Fun := fun s => !s 128 && !s 130 && !s 132 && !s 134 && !s 136 && s 138 && s 140 && !s 142
set_option maxRecDepth 100000 in
theorem pro6_all : ∀ b0 b1 b2 b3 b4 b5 b6 b7 : Bool, spanF 64 8 6 6 (sel8 b0 b1 b2 b3 b4 b5 b6 b7) = pro6 (sel8 b0 b1 b2 b3 b4 b5 b6 b7) := by decide +kernel
theorem sel8_at (s : Nat → Bool) : ∀ u, 128 ≤ u → u < 144 → u % 2 = 0 → s u = sel8 (s 128) (s 130) (s 132) (s 134) (s 136) (s 138) (s 140) (s 142) u := fun u h1 h2 h3 => by
  obtain rfl | rfl | rfl | rfl | rfl | rfl | rfl | rfl : u = 128 ∨ u = 130 ∨ u = 132 ∨ u = 134 ∨ u = 136 ∨ u = 138 ∨ u = 140 ∨ u = 142 := by omega
  all_goals rfl
/-- A set's function: the even variables tell. -/
theorem evenF {F : Fun} {a b : Nat} {s t : Nat → Bool} (hs : SetF F) (he : ∀ u, a ≤ u → u < b → u % 2 = 0 → s u = t u) (hh : Hangs F a b) : F s = F t := by
  have key : ∀ k, F (fun u => if u < k ∧ u % 2 = 1 then t u else s u) = F s := by
    intro k
    induction k with
    | zero => rw [show (fun u => if u < 0 ∧ u % 2 = 1 then t u else s u) = s from funext fun u => if_neg (by omega)]
    | succ k ih =>
      by_cases ho : k % 2 = 1
      · have e : (fun u => if u < k + 1 ∧ u % 2 = 1 then t u else s u) = put (fun u => if u < k ∧ u % 2 = 1 then t u else s u) k (t k) := by
          funext u
          by_cases h : u = k
          · subst h
            rw [put_same, if_pos ⟨Nat.lt_succ_self _, ho⟩]
          · rw [put_other h]
            have : (u < k + 1 ∧ u % 2 = 1) ↔ (u < k ∧ u % 2 = 1) := by omega
            simp only [this]
        rw [e, hs k ho]
        exact ih
      · have this : ∀ u, (u < k + 1 ∧ u % 2 = 1) ↔ (u < k ∧ u % 2 = 1) := fun u => by
          constructor
          · rintro ⟨h1, h2⟩
            refine ⟨?_, h2⟩
            rcases Nat.lt_or_ge u k with h | h
            · exact h
            · obtain rfl : u = k := by omega
              exact absurd h2 ho
          · rintro ⟨h1, h2⟩
            exact ⟨by omega, h2⟩
        simp only [this]
        exact ih
  rw [← key b]
  refine hh _ _ fun u h1 h2 => ?_
  by_cases ho : u % 2 = 1
  · simp only [h2, ho, and_self, if_true]
  · simp only [ho, and_false, if_false]
    exact he u h1 h2 (by omega)
theorem pro6_true {s : Nat → Bool} (h : pro6 s = true) : s 138 = true ∧ s 140 = true := by
  unfold pro6 at h
  simp only [Bool.and_eq_true] at h
  exact ⟨h.1.1.2, h.1.2⟩
/-- The protocol's functions. -/
theorem pro6_is : spanF 64 8 6 6 = pro6 := by
  funext s
  have hs : SetF (spanF 64 8 6 6) := spanF_set 64 8 6 6
  have e : spanF 64 8 6 6 s = spanF 64 8 6 6 (sel8 (s 128) (s 130) (s 132) (s 134) (s 136) (s 138) (s 140) (s 142)) := by
    have h1 := evenF hs (fun u h1 h2 h3 => sel8_at s u h1 h2 h3) (spanF_seg 64 8 6 6)
    exact h1
  rw [e, pro6_all]
  rfl
theorem pro6_free {u : Nat} (h : u < 128 ∨ 144 ≤ u ∨ u % 2 = 1) : Free pro6 u := fun s b => by
  unfold pro6
  rw [put_other (by omega), put_other (by omega), put_other (by omega), put_other (by omega), put_other (by omega), put_other (by omega), put_other (by omega), put_other (by omega)]
set_option maxRecDepth 100000 in
theorem pro6_one : numF pro6 8 64 (fun _ => false) = 1 := by decide +kernel
theorem pro6_num : numF pro6 104 0 (fun _ => false) = 2 ^ 96 := by
  have h1 := numF_skip (F := pro6) 64 40 0 (fun _ => false) fun j _ hj => pro6_free (.inl (by omega))
  have h2 := numF_tail (F := pro6) (c := 2 ^ 32) (m := 32) (k := 72) (fun t => by
    have h := numF_skip (F := pro6) 32 0 72 t fun j hj _ => pro6_free (.inr (.inl (by omega)))
    rw [show 32 + 0 = 32 from rfl] at h
    rw [h]
    rfl) 8 64 (fun _ => false) rfl
  rw [show 64 + 40 = 104 from rfl, show 0 + 64 = 64 from rfl] at h1
  rw [show 8 + 32 = 40 from rfl, pro6_one] at h2
  rw [h1, h2, Nat.mul_one, ← Nat.pow_add]
def hd6 : Hd := ⟨0, 0, 6, 0, 0⟩
theorem hd6_ok : hd6.ok := ⟨by decide, by decide, by decide, by decide, by decide, by decide, by decide, by decide, by decide, by decide⟩
set_option maxRecDepth 100000 in
theorem hd6_bits : ∀ j, j < 104 → (hd6.bit j = true ↔ j = 69 ∨ j = 70) := by decide +kernel
theorem nowS_even (h : Hd) {j : Nat} (hj : j < 104) : nowS h (2 * j) = h.bit j := by
  unfold nowS layF
  rw [if_pos ⟨by omega, by omega⟩, show 2 * j / 2 = j by omega]
theorem hd6_in : pro6 (nowS hd6) = true := by
  unfold pro6
  have hb := hd6_bits
  have f : ∀ j, j < 104 → ¬ (j = 69 ∨ j = 70) → nowS hd6 (2 * j) = false := fun j hj h => by
    rw [nowS_even _ hj]
    exact Bool.eq_false_iff.2 fun e => h ((hb j hj).1 e)
  have g : ∀ j, j < 104 → (j = 69 ∨ j = 70) → nowS hd6 (2 * j) = true := fun j hj h => by
    rw [nowS_even _ hj]
    exact (hb j hj).2 h
  rw [show (128 : Nat) = 2 * 64 from rfl, show (130 : Nat) = 2 * 65 from rfl, show (132 : Nat) = 2 * 66 from rfl, show (134 : Nat) = 2 * 67 from rfl, show (136 : Nat) = 2 * 68 from rfl, show (138 : Nat) = 2 * 69 from rfl, show (140 : Nat) = 2 * 70 from rfl, show (142 : Nat) = 2 * 71 from rfl,
    f 64 (by omega) (by omega), f 65 (by omega) (by omega), f 66 (by omega) (by omega), f 67 (by omega) (by omega), f 68 (by omega) (by omega), g 69 (by omega) (by omega), g 70 (by omega) (by omega), f 71 (by omega) (by omega)]
  rfl
/-- The least header of the protocol. -/
theorem pro6_least {N : List Nd} {f : Nat} (wf : WF N) (hf : f < N.length) (hF : ∀ s, ev N s f = pro6 s) (hs : SupE N f 104) : lstH N f 104 = hd6 := by
  have h0 : f ≠ 0 := fun e => by
    subst e
    have := hF (nowS hd6)
    rw [hd6_in, ev_zero] at this
    cases this
  have ok := lstH_ok N f 104 (Nat.le_refl _)
  have hag : ∀ j, j < 104 → nowS (lstH N f 104) (2 * j) = lstB N f j := fun j hj => by rw [nowS_even _ hj]; exact lstH_bit N f 104 (Nat.le_refl _) j hj
  have ht := lst_true wf hf h0 hs (nowS (lstH N f 104)) hag
  rw [hF] at ht
  obtain ⟨t1, t2⟩ := pro6_true ht
  rcases lst_least wf hf h0 hs (nowS hd6) (by rw [hF]; exact hd6_in) 104 (Nat.le_refl _) with h | ⟨k, hk, h1, h2, h3⟩
  · refine hd_bits ok hd6_ok fun j hj => ?_
    rw [← nowS_even _ hj, hag j hj, ← h j hj, nowS_even _ hj]
  · exfalso
    rw [nowS_even _ hk] at h3
    have h69 := hag 69 (by omega)
    have h70 := hag 70 (by omega)
    rcases (hd6_bits k hk).1 h3 with rfl | rfl
    · rw [show 2 * 69 = 138 from rfl, t1, h2] at h69
      cases h69
    · rw [show 2 * 70 = 140 from rfl, t2, h2] at h70
      cases h70
end Go.Proofs.YtbahehmfhjkgeaaGreat

/-
  Plain: a function where some values of the even (or odd) variables may be chosen; what is left of the relation that keeps.
-/
namespace Go.Proofs.YtbahehmfhjkgeaaGreat
open Go

/-- True for some values of the variables that are o mod 2. -/
noncomputable def exF (o : Nat) (G : Fun) : Fun := fun s => @decide (∃ t : Nat → Bool, (∀ u, u % 2 ≠ o → t u = s u) ∧ G t = true) (Classical.propDecidable _)
theorem exF_iff {o : Nat} {G : Fun} {s : Nat → Bool} : exF o G s = true ↔ ∃ t : Nat → Bool, (∀ u, u % 2 ≠ o → t u = s u) ∧ G t = true := by
  exact @decide_eq_true_iff _ (Classical.propDecidable _)
theorem exF_const (o : Nat) (c : Bool) : exF o (fun _ => c) = fun _ => c := by
  funext s
  cases c
  · refine Bool.eq_false_iff.2 fun h => ?_
    obtain ⟨_, _, h⟩ := exF_iff.1 h
    cases h
  · exact exF_iff.2 ⟨s, fun _ _ => rfl, rfl⟩
theorem exF_hangs {o a b : Nat} {G : Fun} (h : Hangs G a b) : Hangs (exF o G) a b := by
  have one : ∀ s t : Nat → Bool, (∀ u, a ≤ u → u < b → s u = t u) → exF o G s = true → exF o G t = true := fun s t e hs => by
    obtain ⟨x, hx, hg⟩ := exF_iff.1 hs
    refine exF_iff.2 ⟨fun u => if a ≤ u ∧ u < b then x u else t u, fun u hu => ?_, ?_⟩
    · by_cases c : a ≤ u ∧ u < b
      · simp only [c, and_self, if_true]
        rw [hx u hu, e u c.1 c.2]
      · simp only [c, if_false]
    · rw [← hg]
      refine h _ _ fun u h1 h2 => ?_
      simp only [h1, h2, and_self, if_true]
  intro s t e
  cases h1 : exF o G s
  · cases h2 : exF o G t
    · rfl
    · rw [one t s (fun u p q => (e u p q).symm) h2] at h1
      cases h1
  · rw [one s t e h1]
/-- A node whose variable may be chosen. -/
theorem exF_in {o v : Nat} {G L H : Fun} (hv : v % 2 = o) (hG : ∀ s, G s = if s v then H s else L s) (hL : Free L v) (hH : Free H v) : exF o G = fun s => if exF o L s then true else exF o H s := by
  funext s
  apply Bool.eq_iff_iff.2
  rw [exF_iff]
  constructor
  · rintro ⟨t, ht, hg⟩
    rw [hG] at hg
    by_cases hl : exF o L s = true
    · rw [if_pos hl]
    · rw [if_neg hl]
      by_cases hb : t v = true
      · rw [if_pos hb] at hg
        exact exF_iff.2 ⟨t, ht, hg⟩
      · rw [if_neg hb] at hg
        exact absurd (exF_iff.2 ⟨t, ht, hg⟩) hl
  · intro h
    have put_off : ∀ (t : Nat → Bool) (c : Bool), (∀ u, u % 2 ≠ o → t u = s u) → ∀ u, u % 2 ≠ o → put t v c u = s u := fun t c ht u hu => by
      rw [put_other (by intro e; subst e; exact hu hv)]
      exact ht u hu
    by_cases hl : exF o L s = true
    · obtain ⟨t, ht, hg⟩ := exF_iff.1 hl
      refine ⟨put t v false, put_off t false ht, ?_⟩
      rw [hG, put_same, if_neg (by simp), hL]
      exact hg
    · rw [if_neg hl] at h
      obtain ⟨t, ht, hg⟩ := exF_iff.1 h
      refine ⟨put t v true, put_off t true ht, ?_⟩
      rw [hG, put_same, if_pos rfl, hH]
      exact hg
/-- A node whose variable stays. -/
theorem exF_out {o v : Nat} {G L H : Fun} (hv : v % 2 ≠ o) (hG : ∀ s, G s = if s v then H s else L s) : exF o G = fun s => if s v then exF o H s else exF o L s := by
  funext s
  by_cases hb : s v = true
  · rw [if_pos hb]
    apply Bool.eq_iff_iff.2
    rw [exF_iff, exF_iff]
    constructor <;> rintro ⟨t, ht, hg⟩ <;> refine ⟨t, ht, ?_⟩
    · rw [hG, if_pos (by rw [ht v hv]; exact hb)] at hg
      exact hg
    · rw [hG, if_pos (by rw [ht v hv]; exact hb)]
      exact hg
  · rw [if_neg hb]
    apply Bool.eq_iff_iff.2
    rw [exF_iff, exF_iff]
    constructor <;> rintro ⟨t, ht, hg⟩ <;> refine ⟨t, ht, ?_⟩
    · rw [hG, if_neg (by rw [ht v hv]; exact hb)] at hg
      exact hg
    · rw [hG, if_neg (by rw [ht v hv]; exact hb)]
      exact hg
theorem same_iff (s : Nat → Bool) : ∀ m, m ≤ 104 → (sameF 0 0 m s = true ↔ ∀ j, 104 - m ≤ j → j < 104 → s (2 * j) = s (2 * j + 1))
  | 0, _ => ⟨fun _ j h1 h2 => absurd h1 (by omega), fun _ => rfl⟩
  | m + 1, hm => by
    have ih := same_iff s m (by omega)
    have e : sameF 0 0 (m + 1) = eqF (2 * (103 - m)) (sameF 0 0 m) := by
      show (if 0 ≤ 103 - m ∧ 103 - m < 0 + 0 then sameF 0 0 m else eqF (2 * (103 - m)) (sameF 0 0 m)) = _
      rw [if_neg (by omega)]
    rw [e]
    unfold eqF
    rw [Bool.and_eq_true, ih, beq_iff_eq]
    constructor
    · rintro ⟨h1, h2⟩ j h3 h4
      by_cases hj : j = 103 - m
      · subst hj; exact h1
      · exact h2 j (by omega) h4
    · intro h
      exact ⟨h (103 - m) (by omega) (by omega), fun j h3 h4 => h j (by omega) h4⟩
/-- A value of one variable. -/
theorem lit_wid {F : Fun} {v : Nat} (hv : v < 256) (h : Hangs F v (v + 1)) : Wid F 2 :=
  (Wid.seg (k := 2) h (by omega) fun u => by
    rcases Nat.lt_or_ge v u with h1 | h1
    · exact h.behind (by omega)
    · exact (h.ahead h1).mono (by omega)).mono (by omega)
theorem const_wid (c : Bool) : Wid (fun _ => c) 0 :=
  (Wid.of_hangs (k := 0) (Hangs.const c 0 0) (by omega) fun v _ h => absurd h (by omega)).mono (by omega)
/-- Where the ones ahead may be chosen, what is left of keep is narrow. -/
theorem keep_left (v : Nat) (s : Nat → Bool) : (∃ c, exF 0 (fun t => sameF 0 0 104 (mixS v s t)) = fun _ => c) ∨ (v < 208 ∧ ∃ b, exF 0 (fun t => sameF 0 0 104 (mixS v s t)) = fun x => b == x v) := by
  by_cases hA : ∃ j, 2 * j + 1 < v ∧ j < 104 ∧ s (2 * j) ≠ s (2 * j + 1)
  · left
    refine ⟨false, ?_⟩
    obtain ⟨j, h1, h2, h3⟩ := hA
    rw [show (fun t => sameF 0 0 104 (mixS v s t)) = fun _ => false from funext fun t => Bool.eq_false_iff.2 fun h => h3 (by
      have := (same_iff _ 104 (by omega)).1 h j (by omega) h2
      rw [mixS_low _ _ (by omega), mixS_low _ _ (by omega)] at this
      exact this)]
    exact exF_const 0 false
  · have hA' : ∀ j, 2 * j + 1 < v → j < 104 → s (2 * j) = s (2 * j + 1) := fun j h1 h2 => by
      by_cases h : s (2 * j) = s (2 * j + 1)
      · exact h
      · exact absurd ⟨j, h1, h2, h⟩ hA
    -- the one that is chosen
    have key : ∀ x : Nat → Bool, (∀ j, 2 * j + 1 = v → j < 104 → s (2 * j) = x (2 * j + 1)) → exF 0 (fun t => sameF 0 0 104 (mixS v s t)) x = true := fun x hx => by
      refine exF_iff.2 ⟨fun u => if u % 2 = 0 then x (u + 1) else x u, fun u hu => by simp only [hu, if_false], ?_⟩
      refine (same_iff _ 104 (by omega)).2 fun j _ hj => ?_
      have o1 : ¬ (2 * j + 1) % 2 = 0 := by omega
      have o2 : (2 * j) % 2 = 0 := by omega
      rcases Nat.lt_trichotomy (2 * j + 1) v with h | h | h
      · rw [mixS_low _ _ h, mixS_low _ _ (by omega)]
        exact hA' j h hj
      · rw [mixS_low _ _ (show 2 * j < v by omega), mixS_high _ _ (show v ≤ 2 * j + 1 by omega)]
        simp only [o1, if_false]
        exact hx j h hj
      · rw [mixS_high _ _ (show v ≤ 2 * j by omega), mixS_high _ _ (show v ≤ 2 * j + 1 by omega)]
        simp only [o1, o2, if_false, if_true]
    by_cases hv : v % 2 = 1 ∧ v < 208
    · right
      refine ⟨hv.2, s (v - 1), ?_⟩
      funext x
      have ev1 : 2 * (v / 2) + 1 = v := by omega
      have ev2 : 2 * (v / 2) = v - 1 := by omega
      by_cases hb : s (v - 1) = x v
      · rw [key x fun j h1 h2 => by
          obtain rfl : j = v / 2 := by omega
          rw [ev1, ev2]; exact hb, hb]
        simp
      · have : exF 0 (fun t => sameF 0 0 104 (mixS v s t)) x = false := Bool.eq_false_iff.2 fun h => hb (by
          obtain ⟨t, ht, hg⟩ := exF_iff.1 h
          have := (same_iff _ 104 (by omega)).1 hg (v / 2) (by omega) (by omega)
          rw [mixS_low _ _ (by omega), mixS_high _ _ (by omega), ev1, ev2, ht v (by omega)] at this
          exact this)
        rw [this]
        simp [hb]
    · left
      refine ⟨true, ?_⟩
      funext x
      exact key x fun j h1 h2 => absurd (show v % 2 = 1 ∧ v < 208 by omega) hv
theorem keep_wid (v : Nat) (s : Nat → Bool) : Wid (exF 0 (fun t => sameF 0 0 104 (mixS v s t))) 2 := by
  rcases keep_left v s with ⟨c, h⟩ | ⟨h1, b, h⟩
  · rw [h]; exact (const_wid c).mono (by omega)
  · rw [h]
    exact lit_wid (v := v) (by omega) ((Hangs.var v).op1 (fun x => b == x))
theorem keepEx_all : exF 0 (sameF 0 0 104) = fun _ => true := by
  funext x
  refine exF_iff.2 ⟨fun u => if u % 2 = 0 then x (u + 1) else x u, fun u hu => by simp only [hu, if_false], ?_⟩
  refine (same_iff _ 104 (by omega)).2 fun j _ hj => ?_
  have o1 : ¬ (2 * j + 1) % 2 = 0 := by omega
  have o2 : (2 * j) % 2 = 0 := by omega
  simp only [o1, o2, if_false, if_true]
end Go.Proofs.YtbahehmfhjkgeaaGreat

/-
  each: a function made anew, where made keeps to what it should come to.
-/
namespace Go.Proofs.YtbahehmfhjkgeaaGreat
open Go Go.RowKit Go.ChangeMaps Go.MapKept Go.Maps Go.Lib Go.Sort

/-- All but the arena's blocks and one block stand as they stood. -/
structure KeptM (A : Blks) (bm : Nat) (w w' : World) : Prop where
  os : w'.os = w.os
  tape : w'.tape = w.tape
  output : w'.output = w.output
  size : w.heap.size ≤ w'.heap.size
  same : ∀ k, Foreign A w k → Foreign A w' k ∧ (k ≠ bm → w'.heap[k]? = w.heap[k]?)
theorem KeptM.trans {A : Blks} {bm : Nat} {a b c : World} (h : KeptM A bm a b) (g : KeptM A bm b c) : KeptM A bm a c :=
  ⟨g.os.trans h.os, g.tape.trans h.tape, g.output.trans h.output, Nat.le_trans h.size g.size, fun k hk => ⟨(g.same k (h.same k hk).1).1, fun hn => ((g.same k (h.same k hk).1).2 hn).trans ((h.same k hk).2 hn)⟩⟩
theorem Kept.toM {A : Blks} {bm : Nat} {w w' : World} (h : Kept A w w') : KeptM A bm w w' := ⟨h.os, h.tape, h.output, h.size, fun k hk => ⟨(h.same k hk).2, fun _ => (h.same k hk).1⟩⟩
theorem KeptM.refl (A : Blks) (bm : Nat) (w : World) : KeptM A bm w w := (Kept.refl A w).toM
/-- What made does to two parts. -/
structure MadeOk (fid : FuncId) (caps : Array Value) (B : Nat) (A : Blks) (V Mo : Nat) (N0 : List Nd) (H G : List Nat) (f0 c lim : Nat) (X : Nat → Fun) (P : World → Prop) : Prop where
  en : ∀ (args : Array Value) (w : World), (callFunc fid args).run Tryz.prog w = .ok (.enter fid args) w
  calm : ∀ bm W W', lim ≤ bm → P W → KeptM A bm W W' → P W'
  step : ∀ (i lo hi : Nat) (N : List Nd) (W : World), 2 ≤ i → i < N0.length → Rch N0 f0 i → Ext N0 N → ArAt W B A V Mo N H G → P W → lo < N.length → hi < N.length → (∀ s, ev N s lo = X (nd N0 i).lo s) → (∀ s, ev N s hi = X (nd N0 i).hi s) → N.length + c ≤ 2147483647 →
    Calls Tryz.prog fid (#[.int .i32 (nd N0 i).v, .int .i32 lo, .int .i32 hi] ++ caps) W fun e W' => ∃ (r : Nat) (N' : List Nd), e = .returned (.int .i32 r) ∧ Ext N N' ∧ r < N'.length ∧ (∀ s, ev N' s r = X i s) ∧ N'.length ≤ N.length + c ∧ ArAt W' B A V Mo N' H G ∧ Kept A W W'
/-- What is done, and what is not. -/
structure DoneE (N0 N : List Nd) (X : Nat → Fun) (c : Nat) (D : List Nat) (K : List (Value × Value)) : Prop where
  ok : ∀ i : Nat, i < N0.length → (getM K (.int .i32 i) = none ∧ 2 ≤ i ∧ i ∉ D) ∨ ∃ r : Nat, getM K (.int .i32 i) = some (.int .i32 r) ∧ r < N.length ∧ ∀ s, ev N s r = X i s
  kn : (K.map (·.1)).Nodup
  nd : D.Nodup
  lt : ∀ i ∈ D, i < N0.length
  len : N.length ≤ N0.length + c * D.length
theorem DoneE.more {N0 N N' : List Nd} {X : Nat → Fun} {c : Nat} {D : List Nat} {K : List (Value × Value)} (h : DoneE N0 N X c D K) (e : Ext N N') (w : WF N) (w' : WF N') (hl : N'.length ≤ N0.length + c * D.length) : DoneE N0 N' X c D K :=
  ⟨fun i hi => by
    rcases h.ok i hi with h1 | ⟨r, h1, h2, h3⟩
    · exact .inl h1
    · exact .inr ⟨r, h1, Nat.lt_of_lt_of_le h2 e.len, fun s => (e.ev w w' s h2).trans (h3 s)⟩, h.kn, h.nd, h.lt, hl⟩
theorem DoneE.put {N0 N N' : List Nd} {X : Nat → Fun} {c f r : Nat} {D : List Nat} {K : List (Value × Value)} (h : DoneE N0 N X c D K) (e : Ext N N') (w : WF N) (w' : WF N') (hN : N'.length ≤ N.length + c) (hr : r < N'.length) (hs : ∀ s, ev N' s r = X f s) (hf : f < N0.length) (hn : f ∉ D)
    (hk : ((putM K (.int .i32 f) (.int .i32 r)).map (·.1)).Nodup) : DoneE N0 N' X c (f :: D) (putM K (.int .i32 f) (.int .i32 r)) := by
  refine ⟨fun i hi => ?_, hk, List.nodup_cons.2 ⟨hn, h.nd⟩, fun i hi => ?_, ?_⟩
  · by_cases he : i = f
    · subst he
      exact .inr ⟨r, getM_put_same _ _ _ h.kn, hr, hs⟩
    · rw [getM_put_other _ _ _ (by intro h; injection h with _ h; omega)]
      rcases h.ok i hi with ⟨h1, h2, h3⟩ | ⟨q, h1, h2, h3⟩
      · exact .inl ⟨h1, h2, fun h4 => by
          rcases List.mem_cons.1 h4 with h5 | h5
          · exact he h5
          · exact h3 h5⟩
      · exact .inr ⟨q, h1, Nat.lt_of_lt_of_le h2 e.len, fun s => (e.ev w w' s h2).trans (h3 s)⟩
  · rcases List.mem_cons.1 hi with h5 | h5
    · subst h5; exact hf
    · exact h.lt i h5
  · have := h.len
    rw [List.length_cons, Nat.mul_succ]
    omega
theorem DoneE.room {N0 N : List Nd} {X : Nat → Fun} {c : Nat} {D : List Nat} {K : List (Value × Value)} (h : DoneE N0 N X c D K) {f : Nat} (hf : f < N0.length) (hn : f ∉ D) : N.length + c ≤ N0.length + c * N0.length := by
  have h1 := nodup_le N0.length (f :: D) (List.nodup_cons.2 ⟨hn, h.nd⟩) fun x hx => by
    rcases List.mem_cons.1 hx with h5 | h5
    · subst h5; exact hf
    · exact h.lt x h5
  rw [List.length_cons] at h1
  have h2 : c * (D.length + 1) ≤ c * N0.length := Nat.mul_le_mul_left _ h1
  rw [Nat.mul_succ] at h2
  have := h.len
  omega
theorem DoneE.room0 {N0 N : List Nd} {X : Nat → Fun} {c : Nat} {D : List Nat} {K : List (Value × Value)} (h : DoneE N0 N X c D K) : N.length ≤ N0.length + c * N0.length := by
  have h1 := nodup_le N0.length D h.nd h.lt
  have h2 : c * D.length ≤ c * N0.length := Nat.mul_le_mul_left _ h1
  have := h.len
  omega
/-- The frame of each's walk. -/
structure ESt (fid : FuncId) (caps : Array Value) (B : Nat) (A : Blks) (V Mo : Nat) (N0 : List Nd) (H G : List Nat) (X : Nat → Fun) (c lim : Nat) (P : World → Prop) (bd ba bw bf bm : Nat) (N : List Nd) (D : List Nat) (K : List (Value × Value)) (W : World) : Prop where
  ar : ArAt W B A V Mo N H G
  ext : Ext N0 N
  fr : Foreign A W bd ∧ Foreign A W ba ∧ Foreign A W bw ∧ Foreign A W bf ∧ Foreign A W bm
  ne : bd ≠ bm ∧ ba ≠ bm ∧ bw ≠ bm ∧ bf ≠ bm
  d : W.heap[bd]? = some (.cells #[.map (some bm)] 284 (0, 0))
  a : W.heap[ba]? = some (.cells #[.pointer (some ⟨A.a, 0, none⟩)] 108 (0, 0))
  k : W.heap[bw]? = some (.cells #[.func (.func 212) #[] #[.pointer (some ⟨bd, 0, none⟩), .pointer (some ⟨ba, 0, none⟩), .pointer (some ⟨bw, 0, none⟩), .pointer (some ⟨bf, 0, none⟩)]] 307 (0, 0))
  f : W.heap[bf]? = some (.cells #[.func (.func fid) #[] caps] 280 (0, 0))
  m : MapAt Tryz.prog 21 W bm K
  ok : DoneE N0 N X c D K
  p : P W
  lm : lim ≤ bm
section
variable {fid : FuncId} {caps : Array Value} {B : Nat} {A : Blks} {V Mo : Nat} {N0 : List Nd} {H G : List Nat} {X : Nat → Fun} {c lim f0 : Nat} {P : World → Prop} {bd ba bw bf bm : Nat} {N N' : List Nd} {D D' : List Nat} {K K' : List (Value × Value)} {W W' : World}
theorem ESt.next (M : MadeOk fid caps B A V Mo N0 H G f0 c lim X P) (h : ESt fid caps B A V Mo N0 H G X c lim P bd ba bw bf bm N D K W) (hk : KeptM A bm W W') (hA : ArAt W' B A V Mo N' H G) (he : Ext N N') (hm : MapAt Tryz.prog 21 W' bm K') (hok : DoneE N0 N' X c D' K') : ESt fid caps B A V Mo N0 H G X c lim P bd ba bw bf bm N' D' K' W' := by
  obtain ⟨f1, f2, f3, f4, f5⟩ := h.fr
  obtain ⟨n1, n2, n3, n4⟩ := h.ne
  exact ⟨hA, h.ext.trans he, ⟨(hk.same _ f1).1, (hk.same _ f2).1, (hk.same _ f3).1, (hk.same _ f4).1, (hk.same _ f5).1⟩, h.ne, ((hk.same _ f1).2 n1).trans h.d, ((hk.same _ f2).2 n2).trans h.a, ((hk.same _ f3).2 n3).trans h.k, ((hk.same _ f4).2 n4).trans h.f, hm, hok, M.calm bm W W' h.lm h.p hk, h.lm⟩
theorem ESt.below (M : MadeOk fid caps B A V Mo N0 H G f0 c lim X P) (h : ESt fid caps B A V Mo N0 H G X c lim P bd ba bw bf bm N D K W) (hb : Below W.heap.size W W') : ESt fid caps B A V Mo N0 H G X c lim P bd ba bw bf bm N D K W' :=
  h.next M (Kept.of_below h.ar.a_lt hb).toM (h.ar.below hb) (Ext.refl _) (h.m.same (hb.block _ h.m.lt)) h.ok
/-- A block of nobody's turned, and nothing else. -/
theorem ArAt.turned (hA : ArAt W B A V Mo N H G) (hf : Foreign A W bm) (hg : W.grownBy W' (some bm)) : KeptM A bm W W' ∧ ArAt W' B A V Mo N H G := by
  obtain ⟨nv, hA⟩ := hA
  obtain ⟨a1, a2, _⟩ := hA.calm hg.size fun k hk hn => hg.block k hk (fun e => hn (by injection e with e; rw [e]; exact hf))
  exact ⟨⟨hg.os, hg.tape, hg.output, hg.size, fun k hk => ⟨a2 k hk, fun hn => hg.block k hk.1 (fun e => hn (by injection e))⟩⟩, nv, a1⟩
end
theorem three_cells {w : World} {b : Nat} {x y z : Value} {t : TypeId} (h : w.heap[b]? = some (.cells #[x, y, z] t (0, 0))) : w.cell? ⟨b, 0, none⟩ = some x ∧ w.cell? ⟨b, 1, none⟩ = some y ∧ w.cell? ⟨b, 2, none⟩ = some z := by
  refine ⟨?_, ?_, ?_⟩ <;> (rw [cell_of_row w b _ _ _ (0, 0) h]; rfl)
set_option maxRecDepth 100000 in
set_option maxHeartbeats 8000000 in
theorem eachWalk_any {fid : FuncId} {caps : Array Value} {B : Nat} {A : Blks} {V Mo : Nat} {N0 : List Nd} {H G : List Nat} {X : Nat → Fun} {c lim f0 : Nat} {P : World → Prop} (M : MadeOk fid caps B A V Mo N0 H G f0 c lim X P) (hroom : N0.length + c * N0.length ≤ 2147483647) (w0 : WF N0) {bd ba bw bf bm : Nat} :
    ∀ (q f : Nat) (N : List Nd) (D : List Nat) (K : List (Value × Value)) (W : World), f < q → f < N0.length → Rch N0 f0 f → ESt fid caps B A V Mo N0 H G X c lim P bd ba bw bf bm N D K W →
    Calls Tryz.prog 212 #[.int .i32 f, .pointer (some ⟨bd, 0, none⟩), .pointer (some ⟨ba, 0, none⟩), .pointer (some ⟨bw, 0, none⟩), .pointer (some ⟨bf, 0, none⟩)] W
      fun e W' => ∃ (r : Nat) (N' : List Nd) (D' : List Nat) (K' : List (Value × Value)), e = .returned (.int .i32 r) ∧ ESt fid caps B A V Mo N0 H G X c lim P bd ba bw bf bm N' D' K' W' ∧ Ext N N' ∧ r < N'.length ∧ (∀ s, ev N' s r = X f s) ∧ KeptM A bm W W' ∧ (∀ i ∈ D', i ∈ D ∨ i ≤ f) := by
  intro q
  induction q with
  | zero => intro f N D K W hf; omega
  | succ q ih =>
    intro f N D K W hfq hf hr hg
    have hle : N.length ≤ 2147483647 := by obtain ⟨_, h⟩ := hg.ar; exact h.le
    have hwf : WF N := by obtain ⟨_, h⟩ := hg.ar; exact h.wf
    have hl0 := hg.ext.len
    have hkf := key_i32 (a := (f : Int)) (by omega)
    have hl := hg.m.look i32_keyed Tryz.underlying284 (zero_i32 W) true hkf
    have HG := Lib.hid hg
    have c1 := cell0 hg.d
    rcases hg.ok.ok f hf with ⟨hno, hf2, hfD⟩ | ⟨r, hyes, hrl, hrs⟩
    · rw [hno] at hl
      have L1 : (Instr.lookup 284 (.map (some bm)) (.int .i32 f) true).run Tryz.prog W = .ok (.tuple #[.int .i32 0, .bool false]) W := hl
      clear hl hg hno
      have hfI : (f : Int) < (N.length : Int) := by omega
      have hfb : (f : Int) ≤ 2147483646 := by omega
      obtain ⟨nv, hN⟩ := HG.out.ar
      obtain ⟨ng, cp, rfl, hat⟩ := hN.at_node
      obtain ⟨x0, x1, x2⟩ := hat f (by omega)
      have hnd : nd N f = nd N0 f := HG.out.ext.nd hf
      rw [hnd] at x0 x1 x2
      have c2 : W.cell? ⟨A.a, 2, none⟩ = some (.slice (some ⟨ng, 0, none⟩) N.length cp) := hN.cellAt rfl
      have c3 := cell0 HG.out.a
      clear hN hat
      go_enter Tryz.func212, Tryz.ntmps212
      go_upto_region 5 with fail
      have hb1 := below1 W (.cells #[.int .i32 ((nd N0 f).v : Int), .int .i32 ((nd N0 f).lo : Int), .int .i32 ((nd N0 f).hi : Int)] 188)
      have k1 := blk1 W (.cells #[.int .i32 ((nd N0 f).v : Int), .int .i32 ((nd N0 f).lo : Int), .int .i32 ((nd N0 f).hi : Int)] 188)
      have HG1 := Lib.hid (HG.out.below M hb1)
      have HF1 := Lib.hid (HG.out.ar.foreign_new hb1 (Nat.le_refl _) (lt_of_block k1))
      have HK1 := Lib.hid ((Kept.of_below HG.out.ar.a_lt hb1).toM (bm := bm))
      have HB1 := Lib.hid k1
      have HNE : Hid (W.heap.size ≠ bm) := Lib.hid (by have := HG.out.m.lt; omega)
      clear c1 c2 c3 x0 x1 x2 L1 hb1 k1
      generalize W.alloc (.cells #[.int .i32 ((nd N0 f).v : Int), .int .i32 ((nd N0 f).lo : Int), .int .i32 ((nd N0 f).hi : Int)] 188) = w1 at *
      have c1 := cell0 HG1.out.k
      obtain ⟨_, x1, _⟩ := three_cells HB1.out
      have clo := w0.lo f hf2 hf
      have chi := w0.hi f hf2 hf
      have HRL := Lib.hid (hr.trans (.lo hf2 hf (.refl _)))
      have HRH := Lib.hid (hr.trans (.hi hf2 hf (.refl _)))
      go_upto_region 6 with ((with_reducible refine (ih (nd N0 f).lo N D K w1 (by omega) (by omega) HRL.out HG1.out).mono ?_); rintro e w2 ⟨rl, N1, D1, K1, rfl, hg2, he1, hl1, hs1, hk1, hd1⟩)
      have HB2 := Lib.hid (((hk1.same _ HF1.out).2 HNE.out).trans HB1.out)
      have HF2 := Lib.hid (hk1.same _ HF1.out).1
      have HK2 := Lib.hid (HK1.out.trans hk1)
      have HG2 := Lib.hid hg2
      have HS1 := Lib.hid hs1
      clear c1 x1 hk1 hg2 hs1
      obtain ⟨S, hS⟩ : ∃ S : World → Prop, S = fun x => x.heap[bf]? = some (.cells #[.func (.func fid) #[] caps] 280 (0, 0)) ∧ x.heap[bw]? = some (.cells #[.func (.func 212) #[] #[.pointer (some ⟨bd, 0, none⟩), .pointer (some ⟨ba, 0, none⟩), .pointer (some ⟨bw, 0, none⟩), .pointer (some ⟨bf, 0, none⟩)]] 307 (0, 0)) ∧ x.heap[W.heap.size]? = some (.cells #[.int .i32 ((nd N0 f).v : Int), .int .i32 ((nd N0 f).lo : Int), .int .i32 ((nd N0 f).hi : Int)] 188 (0, 0)) := ⟨_, rfl⟩
      have hSP : ∀ x : World, S x → x.heap[bf]? = some (.cells #[.func (.func fid) #[] caps] 280 (0, 0)) ∧ x.heap[bw]? = some (.cells #[.func (.func 212) #[] #[.pointer (some ⟨bd, 0, none⟩), .pointer (some ⟨ba, 0, none⟩), .pointer (some ⟨bw, 0, none⟩), .pointer (some ⟨bf, 0, none⟩)]] 307 (0, 0)) ∧ x.heap[W.heap.size]? = some (.cells #[.int .i32 ((nd N0 f).v : Int), .int .i32 ((nd N0 f).lo : Int), .int .i32 ((nd N0 f).hi : Int)] 188 (0, 0)) := fun x h => by rw [hS] at h; exact h
      have hdr : Below w2.heap.size w2 { w2 with drawn := w2.drawn + 1 } := ⟨rfl, rfl, rfl, Nat.le_refl _, fun _ _ => rfl⟩
      have hgd := HG2.out.below M hdr
      have hbd := blk_below hdr HB2.out
      have hkd := (Kept.of_below HG2.out.ar.a_lt hdr).toM (bm := bm)
      have hne : Nonempty (InW S) := ⟨⟨_, by rw [hS]; exact ⟨hgd.f, hgd.k, hbd⟩⟩⟩
      refine wp_region_mixS S [(0, false), (1, false), (2, false), (3, false), (4, false), (5, false), (6, false), (7, true), (8, true), (9, false)] (by kernel_rfl) (by kernel_rfl) (by rw [hS]; exact ⟨hgd.f, hgd.k, hbd⟩) ?_
      have L0 : ∀ p : InW S, p.w.cell? ⟨bf, 0, none⟩ = some (.func (.func fid) #[] caps) := fun p => cell0 (hSP _ p.h).1
      have L1 : ∀ p : InW S, p.w.cell? ⟨bw, 0, none⟩ = some (.func (.func 212) #[] #[.pointer (some ⟨bd, 0, none⟩), .pointer (some ⟨ba, 0, none⟩), .pointer (some ⟨bw, 0, none⟩), .pointer (some ⟨bf, 0, none⟩)]) := fun p => cell0 (hSP _ p.h).2.1
      have L2 : ∀ p : InW S, p.w.cell? ⟨W.heap.size, 0, none⟩ = some (.int .i32 ((nd N0 f).v : Int)) := fun p => (three_cells (hSP _ p.h).2.2).1
      have L3 : ∀ p : InW S, p.w.cell? ⟨W.heap.size, 2, none⟩ = some (.int .i32 ((nd N0 f).hi : Int)) := fun p => (three_cells (hSP _ p.h).2.2).2.2
      have HGD := Lib.hid hgd
      have HBD := Lib.hid hbd
      have HFD := Lib.hid (hkd.same _ HF2.out).1
      have HKD := Lib.hid (HK2.out.trans hkd)
      have HSS := Lib.hid hS
      clear hdr hgd hbd hkd hS hSP
      generalize { w2 with drawn := w2.drawn + 1 } = V0 at *
      refine mix_take [0, 1, 2, 3, 4, 5, 6] [_, _, _, _, _, _, _] rfl rfl ?_
      simp only [List.getElem_toArray, List.getElem_cons_zero, List.getElem_cons_succ]
      repeat (go_big_quiet_step (fail))
      refine wpQuiet_nil ?_
      have HN := Lib.hid hne
      clear L0 L1 L2 L3 hne
      refine mix_barS rfl (by rfl) ?_
      simp only [List.getElem_toArray, List.getElem_cons_zero, List.getElem_cons_succ]
      go_simp
      refine (ih (nd N0 f).hi N1 D1 K1 V0 (by omega) (by omega) HRH.out HGD.out).mono ?_
      rintro e V1 ⟨rh, N2, D2, K2, rfl, hg3, he2, hl2, hs2, hk2, hd2⟩
      have HB3 := Lib.hid (((hk2.same _ HFD.out).2 HNE.out).trans HBD.out)
      have HF3 := Lib.hid (hk2.same _ HFD.out).1
      have HK3 := Lib.hid (HKD.out.trans hk2)
      have HG3 := Lib.hid hg3
      have HS2 := Lib.hid hs2
      clear hg3 hs2 hk2
      refine ⟨S, by rw [HSS.out]; exact ⟨HG3.out.f, HG3.out.k, HB3.out⟩, fun _ h => h, ?_⟩
      have hw1 : WF N1 := by obtain ⟨_, h⟩ := HG2.out.ar; exact h.wf
      have hw2 : WF N2 := by obtain ⟨_, h⟩ := HG3.out.ar; exact h.wf
      have HFD2 : Hid (f ∉ D2) := Lib.hid fun h => by
        rcases hd2 f h with h | h
        · rcases hd1 f h with h | h
          · exact hfD h
          · omega
        · omega
      have HRM := Lib.hid (HG3.out.ok.room hf HFD2.out)
      have HST := Lib.hid (M.step f rl rh N2 V1 hf2 hf hr HG3.out.ext HG3.out.ar HG3.out.p (Nat.lt_of_lt_of_le hl1 he2.len) hl2 (fun s => (he2.ev hw1 hw2 s hl1).trans (HS1.out s)) HS2.out (Nat.le_trans HRM.out hroom))
      have hen := M.en
      refine mix_barS rfl (by rfl) ?_
      simp only [List.getElem_toArray, List.getElem_cons_zero, List.getElem_cons_succ]
      go_simp
      refine HST.out.mono ?_
      rintro e V2 ⟨r, N3, rfl, he3, hl3, hs3, hlen3, hA3, hk3⟩
      have hw3 : WF N3 := by obtain ⟨_, h⟩ := hA3; exact h.wf
      have HA3 := Lib.hid hA3
      have HSM := Lib.hid hs3
      have HFM := Lib.hid (hk3.same _ HF3.out).2
      have HKM := Lib.hid (HK3.out.trans (hk3.toM (bm := bm)))
      have HB4 := Lib.hid ((hk3.same _ HF3.out).1.trans HB3.out)
      have hm3 : MapAt Tryz.prog 21 V2 bm K2 := HG3.out.m.same (hk3.same _ HG3.out.fr.2.2.2.2).1
      have HM3 := Lib.hid hm3
      have HX3 := Lib.hid (And.intro (((hk3.same _ HG3.out.fr.1).1).trans HG3.out.d) (And.intro (((hk3.same _ HG3.out.fr.2.2.2.1).1).trans HG3.out.f) (((hk3.same _ HG3.out.fr.2.2.1).1).trans HG3.out.k)))
      have HKX := Lib.hid (hk3.toM (bm := bm))
      have HFB := Lib.hid (hk3.same _ HG3.out.fr.2.2.2.2).2
      clear hm3 hA3 hs3 hk3
      refine ⟨S, by rw [HSS.out]; exact ⟨HX3.out.2.1, HX3.out.2.2, HB4.out⟩, fun _ h => h, ?_⟩
      have hne2 := HN.out
      refine mix_take [9] [_] rfl rfl ?_
      simp only [List.getElem_toArray, List.getElem_cons_zero, List.getElem_cons_succ]
      repeat (go_big_quiet_step (fail))
      refine wpQuiet_nil ?_
      refine mix_end ?_
      clear hne2
      have c1 := cell0 HX3.out.1
      have hrb : (r : Int) ≤ 2147483647 := by have : N3.length ≤ 2147483647 := by { obtain ⟨_, h⟩ := HA3.out; exact h.le }; omega
      go_upto_region 8 with (refine wpList_mapAt rfl _ _ _ 284 21 rfl i32_keyed Tryz.underlying284 rfl (show MapAt _ _ V2 _ _ from HM3.out) (.int .i32 f) (.int .i32 r) _ rfl rfl hkf ?_; intro V3 hm4 hg4)
      obtain ⟨hk4, hA4⟩ := HA3.out.turned HFB.out hg4
      have hes := HG3.out.next M (HKX.out.trans hk4) hA4 he3 hm4 (HG3.out.ok.put he3 hw2 hw3 hlen3 hl3 HSM.out hf HFD2.out (by obtain ⟨_, _, _, _, _, h⟩ := hm4; exact h))
      have HES := Lib.hid hes
      have HKF := Lib.hid (HKM.out.trans hk4)
      have HD3 : Hid (∀ i ∈ f :: D2, i ∈ D ∨ i ≤ f) := Lib.hid fun i hi => by
        rcases List.mem_cons.1 hi with h | h
        · exact .inr (by omega)
        · rcases hd2 i h with h | h
          · rcases hd1 i h with h | h
            · exact .inl h
            · exact .inr (by omega)
          · exact .inr (by omega)
      clear hk4 hA4 hes hm4 hg4
      go_wp2
      go_ret
      exact ⟨r, N3, f :: D2, _, rfl, HES.out, he1.trans (he2.trans he3), hl3, HSM.out, HKF.out, HD3.out⟩
    · rw [hyes] at hl
      have L1 : (Instr.lookup 284 (.map (some bm)) (.int .i32 f) true).run Tryz.prog W = .ok (.tuple #[.int .i32 r, .bool true]) W := hl
      have HS := Lib.hid hrs
      clear hl hg hyes hrs
      go_enter Tryz.func212, Tryz.ntmps212
      go_wp2
      go_ret
      exact ⟨r, N, D, K, rfl, HG.out, Ext.refl _, hrl, HS.out, KeptM.refl _ _ _, fun i hi => .inl hi⟩
end Go.Proofs.YtbahehmfhjkgeaaGreat
