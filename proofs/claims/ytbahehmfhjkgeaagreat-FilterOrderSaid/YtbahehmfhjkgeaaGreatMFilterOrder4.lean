/-
  Joined texts: Rb3, Math, A1, Bits, Addr, Addr2, MixS, Rb4, Rb2, Wid3, Rb5.
-/
import Derived.Test.YtbahehmfhjkgeaaGreatMFilterOrder3
import Derived.Below
import Derived.Test.YtbahehmfhjkgeaaGreatProg
import Derived.WalkKit
import Derived.WalkSpells
import Derived.WalkLawsBesides
import Derived.Lib.Hide
import Derived.Test.YtbahehmfhjkgeaaGreatMFilterOrder1
import Derived.Test.YtbahehmfhjkgeaaGreatShelf
import Derived.Test.YtbahehmfhjkgeaaGreatMFilterOrder2
/-
  From each header to those with the same bits, but for those of a part (written by wip/gen/genrb3.py).
-/
namespace Go.Proofs.YtbahehmfhjkgeaaGreat
open Go Go.RowKit Go.ChangeMaps Go.MapKept Go.Maps Go.Lib Go.Sort

theorem sumTo_two (a p q : Nat) : ∀ n, sumTo (fun v => if v = a then p else if v = a + 1 then q else 0) n ≤ (if a < n then p else 0) + (if a + 1 < n then q else 0)
  | 0 => by simp [sumTo]
  | n + 1 => by
    have ih := sumTo_two a p q n
    show sumTo _ n + (if n = a then p else if n = a + 1 then q else 0) ≤ _
    by_cases h1 : n = a
    · subst h1
      rw [if_neg (by omega), if_neg (by omega)] at ih
      rw [if_pos rfl, if_pos (by omega), if_neg (by omega)]
      omega
    · rw [if_neg h1]
      by_cases h2 : n = a + 1
      · subst h2
        rw [if_pos (by omega), if_neg (by omega)] at ih
        rw [if_pos rfl, if_pos (by omega), if_pos (by omega)]
        omega
      · rw [if_neg h2]
        by_cases l1 : a < n
        · by_cases l2 : a + 1 < n
          · rw [if_pos l1, if_pos l2] at ih
            rw [if_pos (by omega), if_pos (by omega)]
            exact ih
          · omega
        · rw [if_neg l1, if_neg (by omega)] at ih
          rw [if_neg (by omega), if_neg (by omega)]
          exact ih
theorem Wid.two {F : Fun} {a p q : Nat} (ha : a + 1 < 256) (h : Hangs F a (a + 2)) (h1 : CutLe F a p) (h2 : CutLe F (a + 1) q) : Wid F (p + q) := by
  refine ⟨_, fun v hv => ?_, Nat.le_trans (sumTo_two a p q 256) (by rw [if_pos (by omega), if_pos ha]; exact Nat.le_refl _)⟩
  by_cases e1 : v = a
  · subst e1
    refine .inr ?_
    simp only [if_true]
    exact h1
  · by_cases e2 : v = a + 1
    · subst e2
      refine .inr ?_
      simp only [e1, if_false, if_true]
      exact h2
    · exact .inl (h.free (by omega))
/-- Two cofactors at the second of two variables. -/
theorem CutLe.second {F : Fun} {a b : Nat} (h : Hangs F a b) : CutLe F (a + 1) 2 := by
  refine ⟨[fun t => F (put t a false), fun t => F (put t a true)], Nat.le_refl _, fun s => ?_⟩
  have e : cof F (a + 1) s = fun t => F (put t a (s a)) := funext fun t => h _ _ fun u h1 h2 => by
    rcases Nat.eq_or_lt_of_le h1 with e | e
    · subst e
      rw [mixS_low _ _ (by omega), put_same]
    · rw [mixS_high _ _ (by omega), put_other (by omega)]
  rw [e]
  cases s a <;> simp
def xorF (a : Nat) : Fun := fun s => s a != s (a + 1)
/-- The bits i of 2 i and 2 i + 1 are the same, and more. -/
def eqF (a : Nat) (F : Fun) : Fun := fun s => (s a == s (a + 1)) && F s
def sameF (a nb : Nat) : Nat → Fun
  | 0 => fun _ => true
  | m + 1 => if a ≤ 103 - m ∧ 103 - m < a + nb then sameF a nb m else eqF (2 * (103 - m)) (sameF a nb m)
theorem Hangs.eqF {F : Fun} {x a b : Nat} (h : Hangs F a b) (h1 : x + 2 ≤ a) (h2 : x + 2 ≤ b) : Hangs (eqF x F) x b := fun s t e => by
  unfold Go.Proofs.YtbahehmfhjkgeaaGreat.eqF
  rw [e x (by omega) (by omega), e (x + 1) (by omega) (by omega), h s t fun u h3 h4 => e u (by omega) h4]
theorem sumTo_pair (a p q : Nat) : sumTo (fun v => if v = a then p else if v = a + 1 then q else 0) (a + 2) ≤ p + q := by
  have := sumTo_two a p q (a + 2)
  rw [if_pos (by omega), if_pos (by omega)] at this
  exact this
/-- Two variables ahead of a node that is held: three nodes more. -/
theorem Den.pair {Mo : Nat} {σ : Sg} {g a : Nat} {F G : Fun} (d : Den σ g F) (o : SgOk Mo σ) (ha : a + 2 ≤ 208) (hG : Hangs G a 208) (hc : ∀ s, (∀ t, G (mixS (a + 1 + 1) s t) = F t) ∨ (∀ t, G (mixS (a + 1 + 1) s t) = false)) : Grow σ.N σ.H G 3 3 := by
  refine (Grow.top (u := a + 1) o.wf o.cl (fun i hi => (o.hok.2 i hi).2) (fun v => if v = a then 1 else if v = a + 1 then 2 else 0) (fun v hv => ?_) fun s => ?_).mono (sumTo_pair a 1 2) (sumTo_pair a 1 2)
  · by_cases e1 : v = a
    · subst e1
      refine .inr ?_
      simp only [if_true]
      exact hG.ahead (Nat.le_refl _)
    · by_cases e2 : v = a + 1
      · subst e2
        refine .inr ?_
        simp only [e1, if_false, if_true]
        exact CutLe.second hG
      · exact .inl (hG.free (by omega))
  · rcases hc s with h | h
    · exact ⟨g, (o.g g d.1).1, (o.g g d.1).2.1, fun t => by rw [h t, d.2]⟩
    · exact ⟨0, by have := o.wf.two; omega, .inl (by omega), fun t => by rw [h t, ev_zero]⟩
end Go.Proofs.YtbahehmfhjkgeaaGreat

/-
  Plain lemmas on numbers that the walks of this seat use; no program in sight.
-/
namespace Go.Proofs.YtbahehmfhjkgeaaGreat
open Go.RowKit

/-- Two to the k, as an integer, behind a name. -/
def p2 (k : Nat) : Int := 2 ^ k
theorem p2_zero : p2 0 = 1 := rfl
theorem p2_succ (k : Nat) : p2 (k + 1) = 2 * p2 k := by unfold p2; rw [Int.pow_succ]; omega
theorem p2_pos (k : Nat) : 1 ≤ p2 k := by
  induction k with
  | zero => simp [p2_zero]
  | succ k ih => rw [p2_succ]; omega
theorem p2_mono {j k : Nat} (h : j ≤ k) : p2 j ≤ p2 k := by
  induction k with
  | zero => have : j = 0 := by omega
            subst this; exact Int.le_refl _
  | succ k ih =>
    rcases Nat.lt_or_ge j (k + 1) with h1 | h1
    · have := ih (by omega); have := p2_pos k; rw [p2_succ]; omega
    · have : j = k + 1 := by omega
      subst this; exact Int.le_refl _
theorem p2_32 : p2 32 = 4294967296 := by decide
theorem p2_le32 {k : Nat} (h : k ≤ 32) : p2 k ≤ 4294967296 := by have := p2_mono h; rw [p2_32] at this; exact this


/-- How many addresses are in a prefix of n bits. -/
def sz (n : Int) : Int := p2 (32 - n.toNat)
theorem sz_pos (n : Int) : 1 ≤ sz n := p2_pos _
theorem sz_le (n : Int) : sz n ≤ 4294967296 := p2_le32 (by omega)
/-- The refusal of a prefix: 0, 1 (bits out of range), 10 (bits behind the mask). -/
def chk (a n : Int) : Int := if n < 0 ∨ 32 < n then 1 else if a % sz n = 0 then 0 else 10
theorem chk_range (a n : Int) (h : n < 0 ∨ 32 < n) : chk a n = 1 := by unfold chk; rw [if_pos h]
theorem chk_zero (a n : Int) (h0 : 0 ≤ n) (h1 : n ≤ 32) (h : a % sz n = 0) : chk a n = 0 := by unfold chk; rw [if_neg (by omega), if_pos h]
theorem chk_mask (a n : Int) (h0 : 0 ≤ n) (h1 : n ≤ 32) (h : ¬ a % sz n = 0) : chk a n = 10 := by unfold chk; rw [if_neg (by omega), if_neg h]
theorem chk_ok {a n : Int} (h : chk a n = 0) : 0 ≤ n ∧ n ≤ 32 ∧ a % sz n = 0 := by
  unfold chk at h
  split at h
  · simp at h
  · split at h
    · rename_i h1 h2; exact ⟨by omega, by omega, h2⟩
    · simp at h
/-- Is an address in a prefix? -/
def inB (x a n : Int) : Bool := decide (chk a n = 0 ∧ a ≤ x ∧ x < a + sz n)


/-- The exponent of the greatest power of two, at most 2^k, that divides the place and does not go beyond the end. -/
def pick (a e : Int) : Nat → Nat
  | 0 => 0
  | k + 1 => if a % p2 (k + 1) = 0 ∧ a + p2 (k + 1) ≤ e then k + 1 else pick a e k
/-- The prefixes of the places from a up to (not with) e. -/
def cutL (e : Int) : Nat → Int → List (Int × Int)
  | 0, _ => []
  | f + 1, a => if a < e then (a, 32 - (pick a e 32 : Int)) :: cutL e f (a + p2 (pick a e 32)) else []
end Go.Proofs.YtbahehmfhjkgeaaGreat

/-
  Walks over the leaves of the addresses' layer: the reference's size, the program's behind.
-/
namespace Go.Proofs.YtbahehmfhjkgeaaGreat
open Go.RowKit

set_option maxHeartbeats 400000 in
theorem size_any (n : Int) (w : World) (h0 : 0 ≤ n) (h1 : n ≤ 32) :
    Calls Tryz.prog 101 #[.int .i64 n] w fun e w' => e = .returned (.int .u64 (sz n)) ∧ w = w' := by
  obtain ⟨m, rfl⟩ := Int.eq_ofNat_of_zero_le h0
  have hm : m ≤ 32 := by omega
  clear h0
  go_enter Tryz.func101, Tryz.ntmps101
  go_wp2
  go_loop [3, 4] (fun out i => ∃ j : Nat, m + j ≤ 32 ∧ i = .int .i64 ↑(m + j) ∧ out = .int .u64 (p2 j)) (fun _ i => 32 - (intOf i).toNat)
  case atStart => exact ⟨0, by omega, rfl, rfl⟩
  case round =>
    obtain ⟨j, hj, rfl, rfl⟩ := hrel
    have hp := p2_pos j
    have hq := p2_le32 (k := j) (by omega)
    by_cases hlt : m + j < 32
    · go_wp2
      go_round
      case rel => exact ⟨j + 1, by omega, by go_num, by rw [p2_succ]⟩
      case measure => simp [intOf]; omega
    · have e : 32 - m = j := by omega
      have E := Lib.hid e
      clear e
      go_wp2
      go_ret
      unfold sz
      rw [Int.toNat_natCast, E.out]
      exact ⟨rfl, rfl⟩

end Go.Proofs.YtbahehmfhjkgeaaGreat

/-
  Plain lemmas on bits and powers of two, in the words of the model's operations on numbers; no program in sight.
-/
namespace Go.Proofs.YtbahehmfhjkgeaaGreat
open Go Go.RowKit

theorem p2_cast (k : Nat) : p2 k = ((2 ^ k : Nat) : Int) := by unfold p2; simp
theorem sz_nat (n : Int) : sz n = ((2 ^ (32 - n.toNat) : Nat) : Int) := p2_cast _

theorem nat_high (a k : Nat) (hk : k ≤ 32) (ha : a < 2 ^ 32) : a &&& (2 ^ 32 - 1 - (2 ^ k - 1)) = a - a % 2 ^ k := by
  have h1 : a - a % 2 ^ k = (a >>> k) <<< k := by
    rw [Nat.shiftLeft_eq, Nat.shiftRight_eq_div_pow]
    have := Nat.div_add_mod a (2 ^ k)
    rw [Nat.mul_comm] at this
    omega
  rw [h1]
  apply Nat.eq_of_testBit_eq
  intro i
  rw [Nat.testBit_and, Nat.testBit_shiftLeft, Nat.testBit_shiftRight]
  have hm : 2 ^ 32 - 1 - (2 ^ k - 1) = 2 ^ 32 - 2 ^ k := by
    have := Nat.two_pow_pos k; omega
  have hs : 2 ^ 32 - 2 ^ k = (2 ^ (32 - k) - 1) <<< k := by
    rw [Nat.shiftLeft_eq, Nat.sub_mul, ← Nat.pow_add]; congr 1
    · congr 1; omega
    · omega
  rw [hm, hs, Nat.testBit_shiftLeft, Nat.testBit_two_pow_sub_one]
  by_cases hi : k ≤ i
  · have e : k + (i - k) = i := by omega
    rw [e]
    by_cases h32 : i < 32
    · simp [hi]; omega
    · have : a.testBit i = false := Nat.testBit_lt_two_pow (Nat.lt_of_lt_of_le ha (Nat.pow_le_pow_right (by omega) (by omega)))
      simp [this]
  · simp [hi]

theorem and_sz (a n : Int) (ha : 0 ≤ a) (hb : a < 4294967296) : bits .and .u32 a (sz n - 1) = a % sz n := by
  obtain ⟨a, rfl⟩ := Int.eq_ofNat_of_zero_le ha
  have hp := sz_pos n
  have hq := sz_le n
  rw [u32_and _ _ ha hb (by omega) (by omega), sz_nat]
  have e : (((2 ^ (32 - n.toNat) : Nat) : Int) - 1).toNat = 2 ^ (32 - n.toNat) - 1 := by omega
  rw [e, Int.toNat_natCast, Nat.and_two_pow_sub_one_eq_mod]
  exact Int.natCast_emod _ _

theorem andNot_sz (a n : Int) (ha : 0 ≤ a) (hb : a < 4294967296) : bits .andNot .u32 a (sz n - 1) = a - a % sz n := by
  obtain ⟨a, rfl⟩ := Int.eq_ofNat_of_zero_le ha
  have hp := sz_pos n
  have hq := sz_le n
  rw [u32_andNot _ _ ha hb (by omega) (by omega), sz_nat]
  have e : (((2 ^ (32 - n.toNat) : Nat) : Int) - 1).toNat = 2 ^ (32 - n.toNat) - 1 := by omega
  rw [e, Int.toNat_natCast]
  have h := nat_high a (32 - n.toNat) (by omega) (by omega)
  rw [show (4294967295 : Nat) = 2 ^ 32 - 1 by decide, h, ← Int.natCast_emod]
  have := Nat.mod_le a (2 ^ (32 - n.toNat))
  omega


/-- The leading zeros of a number of 32 bits. -/
def lz32 (x : Int) : Int := 32 - (Lib.bitLen x.toNat : Int)
end Go.Proofs.YtbahehmfhjkgeaaGreat

/-
  Walks over the addresses' layer: behind, Check, In, Within; the program's and the reference's.
-/
namespace Go.Proofs.YtbahehmfhjkgeaaGreat
open Go Go.RowKit Go.Sort

theorem behind_val (n : Int) (h0 : 0 ≤ n) (h1 : n ≤ 32) : IntKind.u64.wrap (IntKind.u64.wrap (2 ^ (32 - n).toNat) - 1) % 4294967296 = sz n - 1 := by
  have e : (32 - n).toNat = 32 - n.toNat := by omega
  have hp := p2_pos (32 - n.toNat)
  have hq := p2_le32 (k := 32 - n.toNat) (by omega)
  rw [e]
  show IntKind.u64.wrap (IntKind.u64.wrap (p2 (32 - n.toNat)) - 1) % 4294967296 = p2 (32 - n.toNat) - 1
  simp only [IntKind.wrap, IntKind.bits, IntKind.signed]
  omega
set_option maxHeartbeats 400000 in
theorem behind_any (n : Int) (w : World) (h0 : 0 ≤ n) (h1 : n ≤ 32) :
    Calls Tryz.prog 187 #[.int .i64 n] w fun e w' => e = .returned (.int .u32 (sz n - 1)) ∧ w = w' := by
  have hv := Lib.hid (behind_val n h0 h1)
  go_enter Tryz.func187, Tryz.ntmps187
  go_wp2
  go_ret
  exact ⟨ret_int hv.out, rfl⟩

set_option maxHeartbeats 400000 in
theorem addrCheck_any (a n : Int) (w : World) (ha : 0 ≤ a) (hb : a < 4294967296) :
    Calls Tryz.prog 96 #[.agg #[.int .u32 a, .int .i64 n]] w fun e w' => e = .returned (.int .i64 (chk a n)) ∧ Below w.heap.size w w' := by
  by_cases hr : n < 0 ∨ 32 < n
  · have hc := Lib.hid (chk_range a n hr)
    rcases hr with hr | hr
    · go_enter Tryz.func96, Tryz.ntmps96
      go_wp2
      go_ret
      exact ⟨ret_int hc.out.symm, (Below.refl _ _).alloc (Nat.le_refl _) _⟩
    · have hr' : ¬ n < 0 := by omega
      go_enter Tryz.func96, Tryz.ntmps96
      go_wp2
      go_ret
      exact ⟨ret_int hc.out.symm, (Below.refl _ _).alloc (Nat.le_refl _) _⟩
  · have h0 : 0 ≤ n := by omega
    have h1 : n ≤ 32 := by omega
    clear hr
    have ea := and_sz a n ha hb
    by_cases hm : a % sz n = 0
    · have hc := Lib.hid (chk_zero a n h0 h1 hm)
      have hd : (bits .and .u32 a (sz n - 1) != 0) = false := by rw [ea, hm]; rfl
      clear ea hm
      go_enter Tryz.func96, Tryz.ntmps96
      go_wp2
      go_quiet ((go_at_call 187; exact quiet_left (behind_any _ _ (by omega) (by omega))))
      go_wp2
      go_ret
      exact ⟨ret_int hc.out.symm, below_drewN ((Below.refl _ _).alloc (Nat.le_refl _) _) _⟩
    · have hc := Lib.hid (chk_mask a n h0 h1 hm)
      have hd : (bits .and .u32 a (sz n - 1) != 0) = true := by rw [ea]; simp [hm]
      clear ea hm
      go_enter Tryz.func96, Tryz.ntmps96
      go_wp2
      go_quiet ((go_at_call 187; exact quiet_left (behind_any _ _ (by omega) (by omega))))
      go_wp2
      go_ret
      exact ⟨ret_int hc.out.symm, below_drewN ((Below.refl _ _).alloc (Nat.le_refl _) _) _⟩

set_option maxHeartbeats 400000 in
theorem refCheck_any (a n : Int) (w : World) (ha : 0 ≤ a) (hb : a < 4294967296) :
    Calls Tryz.prog 41 #[.agg #[.int .u32 a, .int .i64 n]] w fun e w' => e = .returned (.int .i64 (chk a n)) ∧ Below w.heap.size w w' := by
  by_cases hr : n < 0 ∨ 32 < n
  · have hc := Lib.hid (chk_range a n hr)
    rcases hr with hr | hr
    · go_enter Tryz.func41, Tryz.ntmps41
      go_wp2
      go_ret
      exact ⟨ret_int hc.out.symm, (Below.refl _ _).alloc (Nat.le_refl _) _⟩
    · have hr' : ¬ n < 0 := by omega
      go_enter Tryz.func41, Tryz.ntmps41
      go_wp2
      go_ret
      exact ⟨ret_int hc.out.symm, (Below.refl _ _).alloc (Nat.le_refl _) _⟩
  · have h0 : 0 ≤ n := by omega
    have h1 : n ≤ 32 := by omega
    have hp := sz_pos n
    have hq := sz_le n
    clear hr
    by_cases hm : a % sz n = 0
    · have hc := Lib.hid (chk_zero a n h0 h1 hm)
      have hd : (a % sz n != 0) = false := by rw [hm]; rfl
      clear hm
      go_enter Tryz.func41, Tryz.ntmps41
      go_wp2
      go_quiet ((go_at_call 101; exact quiet_left (size_any _ _ (by omega) (by omega))))
      go_wp2
      go_ret
      exact ⟨ret_int hc.out.symm, below_drewN ((Below.refl _ _).alloc (Nat.le_refl _) _) _⟩
    · have hc := Lib.hid (chk_mask a n h0 h1 hm)
      have hd : (a % sz n != 0) = true := by simp [hm]
      clear hm
      go_enter Tryz.func41, Tryz.ntmps41
      go_wp2
      go_quiet ((go_at_call 101; exact quiet_left (size_any _ _ (by omega) (by omega))))
      go_wp2
      go_ret
      exact ⟨ret_int hc.out.symm, below_drewN ((Below.refl _ _).alloc (Nat.le_refl _) _) _⟩

end Go.Proofs.YtbahehmfhjkgeaaGreat

/-
  Walks over the addresses' layer: In; the program's and the reference's.
-/
namespace Go.Proofs.YtbahehmfhjkgeaaGreat
open Go Go.RowKit Go.Sort

theorem in_no (x a n : Int) (h : ¬ chk a n = 0) : false = inB x a n := by unfold inB; simp [h]
theorem in_andNot (x a n : Int) (hx : 0 ≤ x) (hx' : x < 4294967296) (hr : chk a n = 0) : (bits .andNot .u32 x (sz n - 1) == a) = inB x a n := by
  obtain ⟨_, _, h2⟩ := chk_ok hr
  rw [andNot_sz x n hx hx']
  unfold inB
  rw [Bool.eq_iff_iff, beq_iff_eq, decide_eq_true_iff]
  have hp := sz_pos n
  have e1 := Int.emod_add_mul_ediv x (sz n)
  have l1 := Int.emod_nonneg x (by omega : sz n ≠ 0)
  have l2 := Int.emod_lt_of_pos x (by omega : 0 < sz n)
  constructor
  · intro h
    exact ⟨hr, by omega, by omega⟩
  · intro ⟨_, h3, h4⟩
    have e2 := Int.emod_add_mul_ediv a (sz n)
    rw [h2] at e2
    have h5 : x % sz n = x - a := by
      have : (x - a + sz n * (a / sz n)) % sz n = (x - a) % sz n := Int.add_mul_emod_self_left ..
      rw [show x - a + sz n * (a / sz n) = x by omega, Int.emod_eq_of_lt (a := x - a) (by omega) (by omega)] at this
      exact this
    omega

set_option maxHeartbeats 400000 in
theorem addrIn_any (x a n : Int) (w : World) (hx : 0 ≤ x) (hx' : x < 4294967296) (ha : 0 ≤ a) (hb : a < 4294967296) :
    Calls Tryz.prog 192 #[.int .u32 x, .agg #[.int .u32 a, .int .i64 n]] w fun e w' => e = .returned (.bool (inB x a n)) ∧ Below w.heap.size w w' := by
  by_cases hr : chk a n = 0
  · obtain ⟨h0, h1, h2⟩ := chk_ok hr
    have hd : (chk a n == 0) = true := by simp [hr]
    have hE := Lib.hid (in_andNot x a n hx hx' hr)
    clear hr h2
    go_enter Tryz.func192, Tryz.ntmps192
    go_wp2
    have c0 : (w.alloc (.cells #[.int .u32 a, .int .i64 n] 39)).cell? ⟨w.heap.size, 0, none⟩ = some (.int .u32 a) := by simp
    have c1 : (w.alloc (.cells #[.int .u32 a, .int .i64 n] 39)).cell? ⟨w.heap.size, 1, none⟩ = some (.int .i64 n) := by simp
    have hbW : Below w.heap.size w (w.alloc (.cells #[.int .u32 a, .int .i64 n] 39)) := (Below.refl _ _).alloc (Nat.le_refl _) _
    generalize w.alloc (.cells #[.int .u32 a, .int .i64 n] 39) = W at *
    have F0 := cell_regrown c0
    have F1 := cell_regrown c1
    refine wp_region_quiet_below (by kernel_rfl) (by kernel_rfl) ?_
    repeat (first | go_big_quiet_step ((first | (go_at_call 96; exact Calls.regrown_of (addrCheck_any _ _ _ (by omega) (by omega))) | (go_at_call 187; exact regrown_left (behind_any _ _ (by omega) (by omega))))) | quiet_step ((first | (go_at_call 96; exact Calls.regrown_of (addrCheck_any _ _ _ (by omega) (by omega))) | (go_at_call 187; exact regrown_left (behind_any _ _ (by omega) (by omega))))))
    refine wpQuiet_nil ?_
    intro _ hw'
    obtain ⟨⟨nq, osq⟩, hw''⟩ := hw'
    subst hw''
    go_wp2
    go_ret
    exact ⟨ret_bool (hE.out), (hbW.trans ((below_regrown W nq osq).mono hbW.size))⟩
  · have hd : (chk a n == 0) = false := by simp [hr]
    have hE := Lib.hid (in_no x a n hr)
    clear hr
    go_enter Tryz.func192, Tryz.ntmps192
    go_wp2
    have c0 : (w.alloc (.cells #[.int .u32 a, .int .i64 n] 39)).cell? ⟨w.heap.size, 0, none⟩ = some (.int .u32 a) := by simp
    have c1 : (w.alloc (.cells #[.int .u32 a, .int .i64 n] 39)).cell? ⟨w.heap.size, 1, none⟩ = some (.int .i64 n) := by simp
    have hbW : Below w.heap.size w (w.alloc (.cells #[.int .u32 a, .int .i64 n] 39)) := (Below.refl _ _).alloc (Nat.le_refl _) _
    generalize w.alloc (.cells #[.int .u32 a, .int .i64 n] 39) = W at *
    have F0 := cell_regrown c0
    have F1 := cell_regrown c1
    refine wp_region_quiet_below (by kernel_rfl) (by kernel_rfl) ?_
    repeat (first | go_big_quiet_step (((go_at_call 96; exact Calls.regrown_of (addrCheck_any _ _ _ (by omega) (by omega))))) | quiet_step (((go_at_call 96; exact Calls.regrown_of (addrCheck_any _ _ _ (by omega) (by omega))))))
    refine wpQuiet_nil ?_
    intro _ hw'
    obtain ⟨⟨nq, osq⟩, hw''⟩ := hw'
    subst hw''
    go_wp2
    go_ret
    exact ⟨ret_bool (hE.out), (hbW.trans ((below_regrown W nq osq).mono hbW.size))⟩

end Go.Proofs.YtbahehmfhjkgeaaGreat

/-
  A region that draws its order, walked in the order of the text: the class of worlds is any that the prover names. No program in sight.
-/
namespace Go.Proofs.YtbahehmfhjkgeaaGreat
open Go Go.RowKit Go.Sort

section
variable {P : Program} {ops : Array Oper} {Q : Exit → Act → World → Prop}
/-- The worlds that meet S. -/
structure InW (S : World → Prop) where
  w : World
  h : S w
@[reducible] def InS (S : World → Prop) : World → Prop := fun w' => ∃ p : InW S, w' = p.w
theorem inS {S : World → Prop} {w : World} (h : S w) : InS S w := ⟨⟨w, h⟩, rfl⟩
theorem inS_sub {S S' : World → Prop} (h : ∀ v, S' v → S v) : ∀ v, InS S' v → InS S v := by
  intro v hv
  obtain ⟨p, hp⟩ := hv
  exact ⟨⟨p.w, h _ p.h⟩, hp⟩
theorem wp_region_mixS {id : Nat} {a : Act} {w : World} {l : List Oper} (S : World → Prop) (m : List (Nat × Bool)) (hm : P.follows .mixedOrders = true) (hB : mixOk l m = true) (hS : S { w with drawn := w.drawn + 1 })
    (h : mixW P l.toArray (NoPanic Q) m (fun w' => ∃ p : InW S, w' = p.w) a { w with drawn := w.drawn + 1 }) : (Code.region id l.toArray true).wp P Q a w := by
  simp only [mixOk, Bool.and_eq_true, decide_eq_true_eq] at hB
  obtain ⟨⟨hs, hlen⟩, hmix⟩ := hB
  refine wp_region_noPanic (wp_region_held (S := InS S) hm ?_)
  have H := mix_sound (md := .any) hs (fun d v c a w hh => hh) m _ (Array.replicate l.length false) a { w with drawn := w.drawn + 1 } hmix (inS hS) h
  rw [hlen] at H
  simpa using H
/-- A barrier behind which the class may be narrower. -/
theorem mix_barS {m : List (Nat × Bool)} {k : Nat} {o : Oper} {a : Act} {S : World → Prop} {w : World} (ho : ops[k]? = some o) (hw : Region.wanted o (yielded ops a.tmps) = true)
    (h : o.wp P a w (fun a' w' => ∃ S' : World → Prop, S' w' ∧ (∀ v, S' v → S v) ∧ mixW P ops Q m (fun w' => ∃ p : InW S', w' = p.w) a' w') Q) : mixW P ops Q ((k, true) :: m) (fun w' => ∃ p : InW S, w' = p.w) a w := by
  simp only [mixW]
  refine ⟨o, ho, ?_⟩
  rw [if_pos hw]
  exact Oper.wp_mono (fun a' w' hh => by obtain ⟨S', h1, h2, h3⟩ := hh; exact ⟨_, inS h1, inS_sub h2, h3⟩) h
end
end Go.Proofs.YtbahehmfhjkgeaaGreat

/-
  A space's fields' places; Keep, and Prefix.
-/
namespace Go.Proofs.YtbahehmfhjkgeaaGreat
open Go Go.RowKit Go.ChangeMaps Go.MapKept Go.Maps Go.Lib Go.Sort

instance (A : Blks) (km : Nat) (V : World) : Nonempty (InW (KeptS A km V)) := ⟨⟨V, KeptS.refl A km V⟩⟩
def partsObj : Obj := .cells #[.int .i64 0, .int .i64 32, .int .i64 32, .int .i64 32, .int .i64 64, .int .i64 8, .int .i64 72, .int .i64 16, .int .i64 88, .int .i64 16] 175
set_option maxHeartbeats 400000 in
theorem parts_any (w : World) : Calls Tryz.prog 98 #[] w fun e w' => e = .returned (.slice (some ⟨w.heap.size, 0, none⟩) 5 5) ∧ w' = w.alloc partsObj := by
  unfold partsObj
  go_enter Tryz.func98, Tryz.ntmps98
  go_wp2
  go_ret
  exact ⟨rfl, rfl⟩
/-- Where a field's bits begin; how many there are. -/
def fAt : Nat → Nat
  | 0 => 0
  | 1 => 32
  | 2 => 64
  | 3 => 72
  | _ => 88
def fBits : Nat → Nat
  | 0 => 32
  | 1 => 32
  | 2 => 8
  | _ => 16
theorem parts_at (w : World) (f : Nat) (hf : f < 5) : (w.alloc partsObj).cell? ⟨w.heap.size, f * 2, none⟩ = some (.int .i64 (fAt f)) ∧ (w.alloc partsObj).cell? ⟨w.heap.size, f * 2 + 1, none⟩ = some (.int .i64 (fBits f)) := by
  have hb := blk1 w (.cells #[.int .i64 0, .int .i64 32, .int .i64 32, .int .i64 32, .int .i64 64, .int .i64 8, .int .i64 72, .int .i64 16, .int .i64 88, .int .i64 16] 175)
  unfold partsObj
  obtain rfl | rfl | rfl | rfl | rfl : f = 0 ∨ f = 1 ∨ f = 2 ∨ f = 3 ∨ f = 4 := by omega
  all_goals exact ⟨by rw [cell_of_row _ _ _ _ _ (0, 0) hb]; rfl, by rw [cell_of_row _ _ _ _ _ (0, 0) hb]; rfl⟩
section
variable {w : World} {B S km : Nat} {A : Blks} {Mo : Nat} {σ : Sg}
set_option maxRecDepth 100000
set_option maxHeartbeats 2000000
theorem prefix_yes (h : SpOk w B S km A Mo σ) (f a n : Nat) (hf : f < 2) (ha : a < 4294967296) (hn : n ≤ 32) (hc : chk a n = 0) (hl : σ.N.length + 96 ≤ 2147483647) :
    Calls Tryz.prog 38 #[.pointer (some ⟨S, 0, none⟩), .int .i64 f, .agg #[.int .u32 a, .int .i64 n]] w (SpRes w B S km A Mo σ (bitsF (32 * f) 0 n (a / 2 ^ (32 - n)) n) (3 * n) (3 * n)) := by
  have hbw := below1 w (.cells #[.int .u32 a, .int .i64 n] 39)
  have hbk := blk1 w (.cells #[.int .u32 a, .int .i64 n] 39)
  have hfo := h.sp.ar.foreign_new hbw (Nat.le_refl _) (lt_of_block hbk)
  have HCK := Lib.hid (fun W => addrCheck_any (a : Int) (n : Int) W (by omega) (by omega))
  rw [hc] at HCK
  have HK0 := Lib.hid (h.kept hbw)
  have HS := Lib.hid (h.below hbw)
  have HBK := Lib.hid hbk
  have b0 : (w.alloc (.cells #[.int .u32 a, .int .i64 n] 39)).cell? ⟨w.heap.size, 0, none⟩ = some (.int .u32 a) := by rw [cell_of_row _ _ 0 _ _ (0, 0) hbk]; rfl
  have b1 : (w.alloc (.cells #[.int .u32 a, .int .i64 n] 39)).cell? ⟨w.heap.size, 1, none⟩ = some (.int .i64 n) := by rw [cell_of_row _ _ 1 _ _ (0, 0) hbk]; rfl
  have hn1 : (n : Int) ≤ 32 := by omega
  have HNE : Hid (w.heap.size ≠ km) := Lib.hid (by have := h.sp.fk.1; omega)
  have HFK : Hid (∀ W, Below (w.alloc (.cells #[.int .u32 a, .int .i64 n] 39)).heap.size (w.alloc (.cells #[.int .u32 a, .int .i64 n] 39)) W → Foreign A W w.heap.size ∧ w.heap.size ≠ km) := Lib.hid fun W hb => ⟨((HS.out.kept hb).same _ hfo HNE.out).2, HNE.out⟩
  have f1 : ¬ (f : Int) ≠ 0 ∨ (f : Int) ≠ 0 ∧ ¬ (f : Int) ≠ 1 := by omega
  clear h hbw hfo hbk hc
  go_enter Tryz.func38, Tryz.ntmps38
  go_upto_region 1 with fail
  generalize w.alloc (.cells #[.int .u32 a, .int .i64 n] 39) = w0 at *
  obtain rfl | rfl : f = 0 ∨ f = 1 := by omega
  · go_upto_region 8 with ((with_reducible refine (HCK.out _).mono ?_); rintro e W2 ⟨rfl, hb2⟩; have HS2 := Lib.hid (HS.out.below hb2); have HK2 := Lib.hid (HK0.out.trans (HS.out.kept hb2)); have HB2 := Lib.hid hb2; clear hb2)
    have hk2 := blk_below HB2.out HBK.out
    have hwd : Below W2.heap.size W2 { W2 with drawn := W2.drawn + 1 } := ⟨rfl, rfl, rfl, Nat.le_refl _, fun _ _ => rfl⟩
    have HSV := Lib.hid (HS2.out.below hwd)
    have HKV := Lib.hid (HK2.out.trans (HS2.out.kept hwd))
    have hk3 := blk_below hwd hk2
    have HFO := Lib.hid ((KeptS.same (HS2.out.kept hwd) _ (HFK.out W2 HB2.out).1 (HFK.out W2 HB2.out).2).2)
    clear hk2 hwd b0 b1
    refine wp_region_mixS (KeptS A km { W2 with drawn := W2.drawn + 1 }) [(0, false), (2, false), (6, false), (7, false), (8, false), (9, false), (10, false), (11, false), (12, false), (13, false), (14, false), (1, true), (3, false), (4, false), (5, false), (15, true), (16, false), (17, false), (18, false), (19, false)] (by kernel_rfl) (by kernel_rfl) (KeptS.refl _ _ _) ?_
    generalize { W2 with drawn := W2.drawn + 1 } = V0 at *
    have d0 : ∀ p : InW (KeptS A km V0), p.w.cell? ⟨w.heap.size, 0, none⟩ = some (.int .u32 a) := fun p => by rw [cell_of_row _ _ 0 _ _ (0, 0) ((p.h.same _ HFO.out HNE.out).1.trans hk3)]; rfl
    have d1 : ∀ p : InW (KeptS A km V0), p.w.cell? ⟨w.heap.size, 1, none⟩ = some (.int .i64 n) := fun p => by rw [cell_of_row _ _ 1 _ _ (0, 0) ((p.h.same _ HFO.out HNE.out).1.trans hk3)]; rfl
    refine mix_take [0, 2, 6, 7, 8, 9, 10, 11, 12, 13, 14] [_, _, _, _, _, _, _, _, _, _, _] rfl rfl ?_
    simp only [List.getElem_toArray, List.getElem_cons_zero, List.getElem_cons_succ]
    repeat (go_big_quiet_step (fail))
    refine wpQuiet_nil ?_
    refine mix_barS rfl (by rfl) ?_
    simp only [List.getElem_toArray, List.getElem_cons_zero, List.getElem_cons_succ]
    go_simp
    have hbp := below1 V0 partsObj
    have HSP := Lib.hid (HSV.out.below hbp)
    have HKP := Lib.hid (HSV.out.kept hbp)
    have hpk := blk1 V0 partsObj
    have hpf := HSV.out.sp.ar.foreign_new hbp (Nat.le_refl _) (lt_of_block hpk)
    have hpn : V0.heap.size ≠ km := by have := HSV.out.sp.fk.1; omega
    have hpp := (parts_at V0 0 (by omega)).1
    refine (parts_any _).mono ?_
    rintro e _ ⟨rfl, rfl⟩
    refine ⟨KeptS A km (V0.alloc partsObj), KeptS.refl _ _ _, fun v hv => HKP.out.trans hv, ?_⟩
    have p0 : ∀ p : InW (KeptS A km (V0.alloc partsObj)), p.w.cell? ⟨V0.heap.size, 0, none⟩ = some (.int .i64 0) := fun p => (World.cell?_of_block (p.h.same _ hpf hpn).1).trans hpp
    clear hbp hpk hpf hpn hpp d0 d1 hk3
    generalize V0.alloc partsObj = V1 at *
    refine mix_take [3, 4, 5] [_, _, _] rfl rfl ?_
    simp only [List.getElem_toArray, List.getElem_cons_zero, List.getElem_cons_succ]
    repeat (go_big_quiet_step (fail))
    refine wpQuiet_nil ?_
    refine mix_barS rfl (by rfl) ?_
    simp only [List.getElem_toArray, List.getElem_cons_zero, List.getElem_cons_succ]
    go_simp
    have hdl : a / 2 ^ (32 - n) ≤ a := Nat.div_le_self _ _
    have hdv : ((a / 2 ^ (32 - n) : Nat) : Int) = (a : Int) / 2 ^ (32 - n) := by simp
    have hbits := bits_any HSP.out nowF (32 * 0) n (a / 2 ^ (32 - n)) (by omega) hn (by omega) (by omega)
    rw [hdv] at hbits
    have HBITS := Lib.hid (show Calls Tryz.prog 97 #[.pointer (some ⟨S, 0, none⟩), .int .i64 0, .int .i64 n, .int .u64 ((a : Int) / 2 ^ (32 - n)), .func (.func 84) #[] #[]] V1 _ from hbits)
    clear hdl hdv hbits
    refine HBITS.out.mono ?_
    rintro e W5 hr5
    have HR5 := Lib.hid (hr5.after (To.refl σ) (HKV.out.trans HKP.out))
    obtain ⟨q5, c5, rfl⟩ := hr5.form
    refine ⟨KeptS A km V1, hr5.1, fun _ h => h, ?_⟩
    clear hr5
    refine mix_take [16, 17, 18, 19] [_, _, _, _] rfl rfl ?_
    simp only [List.getElem_toArray, List.getElem_cons_zero, List.getElem_cons_succ]
    repeat (go_big_quiet_step (fail))
    refine wpQuiet_nil ?_
    refine mix_end ?_
    go_wp2
    go_ret2
    simpa using HR5.out
  · go_upto_region 8 with ((with_reducible refine (HCK.out _).mono ?_); rintro e W2 ⟨rfl, hb2⟩; have HS2 := Lib.hid (HS.out.below hb2); have HK2 := Lib.hid (HK0.out.trans (HS.out.kept hb2)); have HB2 := Lib.hid hb2; clear hb2)
    have hk2 := blk_below HB2.out HBK.out
    have hwd : Below W2.heap.size W2 { W2 with drawn := W2.drawn + 1 } := ⟨rfl, rfl, rfl, Nat.le_refl _, fun _ _ => rfl⟩
    have HSV := Lib.hid (HS2.out.below hwd)
    have HKV := Lib.hid (HK2.out.trans (HS2.out.kept hwd))
    have hk3 := blk_below hwd hk2
    have HFO := Lib.hid ((KeptS.same (HS2.out.kept hwd) _ (HFK.out W2 HB2.out).1 (HFK.out W2 HB2.out).2).2)
    clear hk2 hwd b0 b1
    refine wp_region_mixS (KeptS A km { W2 with drawn := W2.drawn + 1 }) [(0, false), (2, false), (6, false), (7, false), (8, false), (9, false), (10, false), (11, false), (12, false), (13, false), (14, false), (1, true), (3, false), (4, false), (5, false), (15, true), (16, false), (17, false), (18, false), (19, false)] (by kernel_rfl) (by kernel_rfl) (KeptS.refl _ _ _) ?_
    generalize { W2 with drawn := W2.drawn + 1 } = V0 at *
    have d0 : ∀ p : InW (KeptS A km V0), p.w.cell? ⟨w.heap.size, 0, none⟩ = some (.int .u32 a) := fun p => by rw [cell_of_row _ _ 0 _ _ (0, 0) ((p.h.same _ HFO.out HNE.out).1.trans hk3)]; rfl
    have d1 : ∀ p : InW (KeptS A km V0), p.w.cell? ⟨w.heap.size, 1, none⟩ = some (.int .i64 n) := fun p => by rw [cell_of_row _ _ 1 _ _ (0, 0) ((p.h.same _ HFO.out HNE.out).1.trans hk3)]; rfl
    refine mix_take [0, 2, 6, 7, 8, 9, 10, 11, 12, 13, 14] [_, _, _, _, _, _, _, _, _, _, _] rfl rfl ?_
    simp only [List.getElem_toArray, List.getElem_cons_zero, List.getElem_cons_succ]
    repeat (go_big_quiet_step (fail))
    refine wpQuiet_nil ?_
    refine mix_barS rfl (by rfl) ?_
    simp only [List.getElem_toArray, List.getElem_cons_zero, List.getElem_cons_succ]
    go_simp
    have hbp := below1 V0 partsObj
    have HSP := Lib.hid (HSV.out.below hbp)
    have HKP := Lib.hid (HSV.out.kept hbp)
    have hpk := blk1 V0 partsObj
    have hpf := HSV.out.sp.ar.foreign_new hbp (Nat.le_refl _) (lt_of_block hpk)
    have hpn : V0.heap.size ≠ km := by have := HSV.out.sp.fk.1; omega
    have hpp := (parts_at V0 1 (by omega)).1
    refine (parts_any _).mono ?_
    rintro e _ ⟨rfl, rfl⟩
    refine ⟨KeptS A km (V0.alloc partsObj), KeptS.refl _ _ _, fun v hv => HKP.out.trans hv, ?_⟩
    have p0 : ∀ p : InW (KeptS A km (V0.alloc partsObj)), p.w.cell? ⟨V0.heap.size, 2, none⟩ = some (.int .i64 32) := fun p => (World.cell?_of_block (p.h.same _ hpf hpn).1).trans hpp
    clear hbp hpk hpf hpn hpp d0 d1 hk3
    generalize V0.alloc partsObj = V1 at *
    refine mix_take [3, 4, 5] [_, _, _] rfl rfl ?_
    simp only [List.getElem_toArray, List.getElem_cons_zero, List.getElem_cons_succ]
    repeat (go_big_quiet_step (fail))
    refine wpQuiet_nil ?_
    refine mix_barS rfl (by rfl) ?_
    simp only [List.getElem_toArray, List.getElem_cons_zero, List.getElem_cons_succ]
    go_simp
    have hdl : a / 2 ^ (32 - n) ≤ a := Nat.div_le_self _ _
    have hdv : ((a / 2 ^ (32 - n) : Nat) : Int) = (a : Int) / 2 ^ (32 - n) := by simp
    have hbits := bits_any HSP.out nowF (32 * 1) n (a / 2 ^ (32 - n)) (by omega) hn (by omega) (by omega)
    rw [hdv] at hbits
    have HBITS := Lib.hid (show Calls Tryz.prog 97 #[.pointer (some ⟨S, 0, none⟩), .int .i64 32, .int .i64 n, .int .u64 ((a : Int) / 2 ^ (32 - n)), .func (.func 84) #[] #[]] V1 _ from hbits)
    clear hdl hdv hbits
    refine HBITS.out.mono ?_
    rintro e W5 hr5
    have HR5 := Lib.hid (hr5.after (To.refl σ) (HKV.out.trans HKP.out))
    obtain ⟨q5, c5, rfl⟩ := hr5.form
    refine ⟨KeptS A km V1, hr5.1, fun _ h => h, ?_⟩
    clear hr5
    refine mix_take [16, 17, 18, 19] [_, _, _, _] rfl rfl ?_
    simp only [List.getElem_toArray, List.getElem_cons_zero, List.getElem_cons_succ]
    repeat (go_big_quiet_step (fail))
    refine wpQuiet_nil ?_
    refine mix_end ?_
    go_wp2
    go_ret2
    simpa using HR5.out
end
end Go.Proofs.YtbahehmfhjkgeaaGreat

/-
  A field's values from a number up, or up to a number (written by wip/gen/genrb2.py).
-/
namespace Go.Proofs.YtbahehmfhjkgeaaGreat
open Go Go.RowKit Go.ChangeMaps Go.MapKept Go.Maps Go.Lib Go.Sort

def stepF (x : Nat) (up b : Bool) (F : Fun) : Fun := fun s => if s x then (if b then F s else up) else (if b then !up else F s)
/-- The last m bits of a field's n are not below (up), not above v's. -/
def reachF (a n v : Nat) (up : Bool) : Nat → Fun
  | 0 => fun _ => true
  | m + 1 => stepF (2 * (a + (n - 1 - m))) up (v.testBit m) (reachF a n v up m)
theorem Hangs.step {F : Fun} {x a b : Nat} (up c : Bool) (h : Hangs F a b) (h1 : x ≤ a) (h2 : x < b) : Hangs (stepF x up c F) x b := fun s t e => by
  unfold stepF
  rw [e x (Nat.le_refl _) h2, h s t fun u h3 h4 => e u (by omega) h4]
theorem reachF_hangs (a n v : Nat) (up : Bool) : ∀ m, m ≤ n → Hangs (reachF a n v up m) (2 * (a + (n - m))) (2 * (a + n))
  | 0, _ => Hangs.const true _ _
  | m + 1, hm => by
    have := reachF_hangs a n v up m (by omega)
    rw [show n - (m + 1) = n - 1 - m from by omega]
    exact this.step _ _ (by omega) (by omega)
theorem bit_u64' (v m : Nat) (hv : v < 4294967296) (b : Bool) (hb : v.testBit m = b) : bits .and .u64 ((v : Int) / 2 ^ m) 1 = if b then 1 else 0 := by rw [bit_u64 v m hv, hb]
set_option maxRecDepth 100000 in
set_option maxHeartbeats 4000000 in
theorem reach_any {w : World} {B S km : Nat} {A : Blks} {Mo : Nat} {σ : Sg} (h : SpOk w B S km A Mo σ) (a n v : Nat) (up : Bool) (hn : a + n ≤ 104) (hn32 : n ≤ 32) (hv : v < 4294967296) (hl : σ.N.length + 2 * n ≤ 2147483647) :
    Calls Tryz.prog 100 #[.pointer (some ⟨S, 0, none⟩), .agg #[.int .i64 a, .int .i64 n], .int .u64 v, .bool up] w (SpRes w B S km A Mo σ (reachF a n v up n) (2 * n) (2 * n)) := by
  have hbw := below1 w (.cells #[.int .i64 a, .int .i64 n] 175)
  have hbk := blk1 w (.cells #[.int .i64 a, .int .i64 n] 175)
  have hfo := h.sp.ar.foreign_new hbw (Nat.le_refl _) (lt_of_block hbk)
  have hfk := h.sp.fk.1
  have HBX : Hid (∀ W, KeptS A km (w.alloc (.cells #[.int .i64 a, .int .i64 n] 175)) W → W.cell? ⟨w.heap.size, 0, none⟩ = some (.int .i64 a) ∧ W.cell? ⟨w.heap.size, 1, none⟩ = some (.int .i64 n)) := Lib.hid fun W hW => by
    have hk := (hW.same _ hfo (by omega)).1.trans hbk
    exact ⟨by rw [cell_of_row W _ 0 _ _ (0, 0) hk]; rfl, by rw [cell_of_row W _ 1 _ _ (0, 0) hk]; rfl⟩
  have HK0 := Lib.hid (h.kept hbw)
  have HS := Lib.hid (h.below hbw)
  have HBK := Lib.hid hbk
  have hn1 : (n : Int) ≤ 104 := by omega
  have ha1 : (a : Int) ≤ 104 := by omega
  clear h hbw hfo hfk hbk
  go_enter Tryz.func100, Tryz.ntmps100
  obtain ⟨b0, b1⟩ := HBX.out _ (KeptS.refl _ _ _)
  go_upto_region 2 with fail
  generalize w.alloc (.cells #[.int .i64 a, .int .i64 n] 175) = w0 at *
  go_wp2
  clear b0 b1
  go_loopw [10, 11] (fun f i wr => ∃ m : Nat, m ≤ n ∧ i = .int .i64 ((n : Int) - 1 - m) ∧ ∃ (r : Nat) (τ : Sg), f = .int .i64 r ∧ Hid (SpOk wr B S km A Mo τ) ∧ Hid (To (2 * m) (2 * m) σ τ) ∧ Hid (Den τ r (reachF a n v up m)) ∧ Hid (KeptS A km w0 wr)) (fun _ i _ => (intOf i + 1).toNat)
  case atStart => exact ⟨0, by omega, by simp, 1, σ, rfl, HS, Lib.hid (To.refl σ), Lib.hid (Den.one HS.out.ok), Lib.hid (KeptS.refl _ _ _)⟩
  case round =>
    obtain ⟨m, hm, rfl, r, τ, rfl, HS1, HT1, HD1, HK1⟩ := hrel
    by_cases hlt : m < n
    · have hI : (n : Int) - 1 - m ≥ 0 := by omega
      have c0 := HS1.out.sp.c0
      obtain ⟨b0, b1⟩ := HBX.out wr HK1.out
      obtain ⟨x, hx⟩ : ∃ x, x = 2 * (a + (n - 1 - m)) := ⟨_, rfl⟩
      have hxi : ((a + (n - 1 - m) : Nat) : Int) = (a : Int) + ((n : Int) - 1 - m) := by omega
      have HN := Lib.hid (show ∀ W, Calls Tryz.prog 84 #[.int .i64 ((a : Int) + ((n : Int) - 1 - m))] W (fun e w' => e = .returned (.int .i64 (x : Int)) ∧ w' = W) from fun W => by
        have := now_any (a + (n - 1 - m)) W (by omega)
        rw [hxi, Nat.add_zero, ← hx] at this
        exact this)
      have hwd : Below wr.heap.size wr wr.drew := ⟨rfl, rfl, rfl, Nat.le_refl _, fun _ _ => rfl⟩
      have HSD := Lib.hid (HS1.out.below hwd)
      have HKD := Lib.hid (HK1.out.trans (HS1.out.kept hwd))
      have hnl := HT1.out.nl
      have hvar := Lib.hid (HSD.out.var x (by omega) (by omega))
      have hw1 : IntKind.i64.wrap ((a : Int) + ((n : Int) - 1 - m)) = (a : Int) + ((n : Int) - 1 - m) := IntWalk.i64_in _ (by omega)
      have HX := Lib.hid hx
      clear hxi hnl hwd hx
      go_upto_region 5 with fail
      go_region_held3 (fun w' => w'.cell? ⟨S, 0, none⟩ = some (.pointer (some ⟨A.a, 0, none⟩)) ∧ w'.cell? ⟨w.heap.size, 0, none⟩ = some (.int .i64 a)) (first | exact hcs | go_keep) ((first
        | ((with_reducible refine (HN.out _).mono ?_); rintro e _ ⟨rfl, rfl⟩)
        | ((with_reducible refine hvar.out.mono ?_); rintro e W5 hr5; obtain ⟨q5, c5, he5⟩ := hr5.form; have HR5 := Lib.hid hr5; subst he5; have hcs : W5.cell? ⟨S, 0, none⟩ = some (.pointer (some ⟨A.a, 0, none⟩)) ∧ W5.cell? ⟨w.heap.size, 0, none⟩ = some (.int .i64 a) := ⟨hr5.c0, (HBX.out _ (HKD.out.trans hr5.1)).1⟩; clear hr5)))
      have hfin5 := HR5.out.two
      clear hcs
      rcases hfin5 with ⟨rfl, rfl, hlt5, τ5, hs5, ht5⟩ | ⟨r5, τ5, rfl, rfl, hs5, ht5, hd5⟩
      · have HFIN := Lib.hid (SpRes.full (F := reachF a n v up n) (HK0.out.trans (HKD.out.trans HR5.out.1)) rfl (by have := HT1.out.hl; omega) hs5 ((HT1.out.trans ht5).mono (show 2 * m + 1 ≤ 2 * n by omega) (show 2 * m + 1 ≤ 2 * n by omega)))
        clear hlt5 hs5 ht5
        go_wp2
        go_ret2
        exact HFIN.out
      · have HS5 := Lib.hid hs5
        have HT5 := Lib.hid (HT1.out.trans ht5)
        have HD5 := Lib.hid hd5
        have HK5 := Lib.hid (HKD.out.trans HR5.out.1)
        have c5 := hs5.sp.c0
        have HD5r := Lib.hid (HD1.out.to ht5 HS1.out.ok hs5.ok)
        obtain ⟨d0, d1⟩ := HBX.out W5 HK5.out
        clear hs5 ht5 hd5 HR5 hvar HN c0 b0 b1 HSD HS1 HT1 HD1 HK1
        have hsh : (n : Int) - 1 - ((n : Int) - 1 - m) = m := by omega
        have hn5 := HT5.out.nl
        have hh5 := HT5.out.hl
        have hxl : x < 208 := by have := HX.out; omega
        have HLF : Hid (∀ (b : Bool) (hi lo : Nat) (F G : Fun), v.testBit m = b → Den τ5 hi F → Den τ5 lo G → Hangs F (x + 1) 256 → Hangs G (x + 1) 256 → stepF x up b (reachF a n v up m) = (fun s => if s x then F s else G s) → Calls Tryz.prog 92 #[.pointer (some ⟨A.a, 0, none⟩), .int .i64 r5, .int .i64 hi, .int .i64 lo] W5 (fun e w' => ∃ Q C : Int, e = .returned (.tuple #[.int .i64 Q, .int .i64 C]) ∧ ((Q = 0 ∧ C = 3 ∧ SpRes w B S km A Mo σ (reachF a n v up n) (2 * n) (2 * n) e w') ∨
            ∃ (r' : Nat) (τ' : Sg), Q = r' ∧ C = 0 ∧ SpOk w' B S km A Mo τ' ∧ To (2 * (m + 1)) (2 * (m + 1)) σ τ' ∧ Den τ' r' (reachF a n v up (m + 1)) ∧ KeptS A km w0 w'))) := Lib.hid (by
          intro b hi lo F G hb dh dl hF hG he
          have hgr := dh.step dl HS5.out.ok hxl hF hG
          refine (HS5.out.ite HD5.out dh dl (a := 1) (b := 1) hgr (by omega)).mono fun e w' hr => ?_
          obtain ⟨Q, C, rfl⟩ := hr.form
          refine ⟨Q, C, rfl, ?_⟩
          rcases hr.two with ⟨h1, h2, h3, τ', h4, h5⟩ | ⟨r', τ', h1, h2, h4, h5, h6⟩
          · subst h1 h2
            exact .inl ⟨rfl, rfl, SpRes.full (HK0.out.trans (HK5.out.trans hr.1)) rfl (by omega) h4 ((HT5.out.trans h5).mono (by omega) (by omega))⟩
          · refine .inr ⟨r', τ', h1, h2, h4, (HT5.out.trans h5).mono (by omega) (by omega), ?_, HK5.out.trans hr.1⟩
            have : reachF a n v up (m + 1) = fun s => if s x then F s else G s := by rw [← he, ← hb, HX.out]; rfl
            rw [this]
            exact h6)
        have HHF := Lib.hid ((reachF_hangs a n v up m hm).mono (show x + 1 ≤ 2 * (a + (n - m)) by have := HX.out; omega) (show 2 * (a + n) ≤ 256 by omega))
        have HD0 := Lib.hid (Den.zero HS5.out.ok)
        have HD1' := Lib.hid (Den.one HS5.out.ok)
        clear hn5 hh5 hxl
        cases up with
        | false =>
          cases hb : v.testBit m with
          | false =>
            have hbit : bits .and .u64 ((v : Int) / 2 ^ m) 1 = 0 := bit_u64' v m hv false hb
            have HITE := Lib.hid (show Calls Tryz.prog 92 #[.pointer (some ⟨A.a, 0, none⟩), .int .i64 r5, .int .i64 0, .int .i64 r] W5 _ from HLF.out false 0 r (fun _ => false) (reachF a n v false m) hb HD0.out HD5r.out (Hangs.const false _ _) HHF.out (funext fun s => by unfold stepF; cases s x <;> rfl))
            clear HLF hb
            go_upto_region 18 with ((with_reducible refine HITE.out.mono ?_); rintro e W7 ⟨q7, c7, he7, hr7⟩; subst he7; have HR7 := Lib.hid hr7; clear hr7)
            rcases HR7.out with ⟨rfl, rfl, hr⟩ | ⟨r7, τ7, rfl, rfl, hs7, ht7, hd7, hk7⟩
            · have HFIN := Lib.hid hr
              clear hr HR7
              go_wp2
              go_ret2
              exact HFIN.out
            · have HS7 := Lib.hid hs7
              have HT7 := Lib.hid ht7
              have HD7 := Lib.hid hd7
              have HK7 := Lib.hid hk7
              clear hs7 ht7 hd7 hk7 HR7 HITE
              go_wp2
              exact ⟨⟨m + 1, by omega, by go_num, r7, τ7, rfl, HS7, HT7, HD7, HK7⟩, by simp only [intOf]; omega⟩
          | true =>
            have hbit : bits .and .u64 ((v : Int) / 2 ^ m) 1 = 1 := bit_u64' v m hv true hb
            have HITE := Lib.hid (show Calls Tryz.prog 92 #[.pointer (some ⟨A.a, 0, none⟩), .int .i64 r5, .int .i64 r, .int .i64 1] W5 _ from HLF.out true r 1 (reachF a n v false m) (fun _ => true) hb HD5r.out HD1'.out HHF.out (Hangs.const true _ _) (funext fun s => by unfold stepF; cases s x <;> rfl))
            clear HLF hb
            go_upto_region 18 with ((with_reducible refine HITE.out.mono ?_); rintro e W7 ⟨q7, c7, he7, hr7⟩; subst he7; have HR7 := Lib.hid hr7; clear hr7)
            rcases HR7.out with ⟨rfl, rfl, hr⟩ | ⟨r7, τ7, rfl, rfl, hs7, ht7, hd7, hk7⟩
            · have HFIN := Lib.hid hr
              clear hr HR7
              go_wp2
              go_ret2
              exact HFIN.out
            · have HS7 := Lib.hid hs7
              have HT7 := Lib.hid ht7
              have HD7 := Lib.hid hd7
              have HK7 := Lib.hid hk7
              clear hs7 ht7 hd7 hk7 HR7 HITE
              go_wp2
              exact ⟨⟨m + 1, by omega, by go_num, r7, τ7, rfl, HS7, HT7, HD7, HK7⟩, by simp only [intOf]; omega⟩
        | true =>
          cases hb : v.testBit m with
          | false =>
            have hbit : bits .and .u64 ((v : Int) / 2 ^ m) 1 = 0 := bit_u64' v m hv false hb
            have HITE := Lib.hid (show Calls Tryz.prog 92 #[.pointer (some ⟨A.a, 0, none⟩), .int .i64 r5, .int .i64 1, .int .i64 r] W5 _ from HLF.out false 1 r (fun _ => true) (reachF a n v true m) hb HD1'.out HD5r.out (Hangs.const true _ _) HHF.out (funext fun s => by unfold stepF; cases s x <;> rfl))
            clear HLF hb
            go_upto_region 18 with ((with_reducible refine HITE.out.mono ?_); rintro e W7 ⟨q7, c7, he7, hr7⟩; subst he7; have HR7 := Lib.hid hr7; clear hr7)
            rcases HR7.out with ⟨rfl, rfl, hr⟩ | ⟨r7, τ7, rfl, rfl, hs7, ht7, hd7, hk7⟩
            · have HFIN := Lib.hid hr
              clear hr HR7
              go_wp2
              go_ret2
              exact HFIN.out
            · have HS7 := Lib.hid hs7
              have HT7 := Lib.hid ht7
              have HD7 := Lib.hid hd7
              have HK7 := Lib.hid hk7
              clear hs7 ht7 hd7 hk7 HR7 HITE
              go_wp2
              exact ⟨⟨m + 1, by omega, by go_num, r7, τ7, rfl, HS7, HT7, HD7, HK7⟩, by simp only [intOf]; omega⟩
          | true =>
            have hbit : bits .and .u64 ((v : Int) / 2 ^ m) 1 = 1 := bit_u64' v m hv true hb
            have HITE := Lib.hid (show Calls Tryz.prog 92 #[.pointer (some ⟨A.a, 0, none⟩), .int .i64 r5, .int .i64 r, .int .i64 0] W5 _ from HLF.out true r 0 (reachF a n v true m) (fun _ => false) hb HD5r.out HD0.out HHF.out (Hangs.const false _ _) (funext fun s => by unfold stepF; cases s x <;> rfl))
            clear HLF hb
            go_upto_region 18 with ((with_reducible refine HITE.out.mono ?_); rintro e W7 ⟨q7, c7, he7, hr7⟩; subst he7; have HR7 := Lib.hid hr7; clear hr7)
            rcases HR7.out with ⟨rfl, rfl, hr⟩ | ⟨r7, τ7, rfl, rfl, hs7, ht7, hd7, hk7⟩
            · have HFIN := Lib.hid hr
              clear hr HR7
              go_wp2
              go_ret2
              exact HFIN.out
            · have HS7 := Lib.hid hs7
              have HT7 := Lib.hid ht7
              have HD7 := Lib.hid hd7
              have HK7 := Lib.hid hk7
              clear hs7 ht7 hd7 hk7 HR7 HITE
              go_wp2
              exact ⟨⟨m + 1, by omega, by go_num, r7, τ7, rfl, HS7, HT7, HD7, HK7⟩, by simp only [intOf]; omega⟩
    · obtain rfl : m = n := by omega
      have hI : ¬ (m : Int) - 1 - m ≥ 0 := by omega
      have HFIN : Hid (SpRes w B S km A Mo σ (reachF a m v up m) (2 * m) (2 * m) (.returned (.tuple #[.int .i64 r, .int .i64 0])) wr) := Lib.hid ⟨HK0.out.trans HK1.out, .inr ⟨r, τ, rfl, HS1.out, HT1.out, HD1.out⟩⟩
      go_wp2
      go_ret2
      exact HFIN.out
end Go.Proofs.YtbahehmfhjkgeaaGreat

/-
  How many nodes stand for what is made of bits.
-/
namespace Go.Proofs.YtbahehmfhjkgeaaGreat

theorem CutF.mono {F : Fun} {v k m : Nat} (h : CutF F v k) (hk : k ≤ m) : CutF F v m := by
  obtain ⟨L, a, b⟩ := h
  exact ⟨L, by omega, b⟩
theorem CutF.const (b : Bool) (v : Nat) : CutF (fun _ => b) v 1 := ⟨[fun _ => b], Nat.le_refl _, fun _ => List.mem_cons_of_mem _ (List.mem_singleton.2 rfl)⟩
theorem CutF.lit {F : Fun} {x c v k : Nat} (b : Bool) (hF : Hangs F (x + 1) c) (hc : x < c) (h : CutF F v k) (hk : 1 ≤ k) : CutF (litF x b F) v k := by
  rcases Nat.lt_or_ge x v with hv | hv
  · obtain ⟨L, h1, h2⟩ := h
    refine ⟨L, h1, fun s => ?_⟩
    cases hs : (s x == b)
    · have : cof (litF x b F) v s = fun _ => false := funext fun t => by
        show ((mixS v s t x == b) && F (mixS v s t)) = false
        rw [mixS_low _ _ hv, hs]; rfl
      rw [this]
      exact List.mem_cons_self ..
    · have : cof (litF x b F) v s = cof F v s := funext fun t => by
        show ((mixS v s t x == b) && F (mixS v s t)) = F (mixS v s t)
        rw [mixS_low _ _ hv, hs]; rfl
      rw [this]
      exact h2 s
  · exact ((hF.lit b (by omega) hc).aheadF hv).mono hk
theorem CutF.eq {F : Fun} {x v k : Nat} (hF : Hangs F (x + 2) 208) (hx : x + 2 ≤ 208) (h : CutF F v k) (hk : 2 ≤ k) : CutF (eqF x F) v k := by
  rcases Nat.lt_or_ge x v with hv | hv
  · rcases Nat.lt_or_ge (x + 1) v with hv2 | hv2
    · obtain ⟨L, h1, h2⟩ := h
      refine ⟨L, h1, fun s => ?_⟩
      cases hs : (s x == s (x + 1))
      · have : cof (eqF x F) v s = fun _ => false := funext fun t => by
          show ((mixS v s t x == mixS v s t (x + 1)) && F (mixS v s t)) = false
          rw [mixS_low _ _ hv, mixS_low _ _ hv2, hs]; rfl
        rw [this]
        exact List.mem_cons_self ..
      · have : cof (eqF x F) v s = cof F v s := funext fun t => by
          show ((mixS v s t x == mixS v s t (x + 1)) && F (mixS v s t)) = F (mixS v s t)
          rw [mixS_low _ _ hv, mixS_low _ _ hv2, hs]; rfl
        rw [this]
        exact h2 s
    · obtain rfl : v = x + 1 := by omega
      obtain ⟨L, h1, h2⟩ := CutLe.second (hF.eqF (Nat.le_refl _) hx)
      exact ⟨L, by omega, fun s => List.mem_cons_of_mem _ (h2 s)⟩
  · exact ((hF.eqF (Nat.le_refl _) hx).aheadF hv).mono (by omega)
/-- All that is left is true, false, or one more. -/
theorem reachF_cut (a n v u : Nat) (up : Bool) : ∀ m, m ≤ n → CutLe (reachF a n v up m) u 3
  | 0, _ => (CutLe.const true u).mono (by omega)
  | m + 1, hm => by
    have H : ∀ m, m ≤ n → ∃ G : Fun, ∀ s, cof (reachF a n v up m) u s = (fun _ => true) ∨ cof (reachF a n v up m) u s = (fun _ => false) ∨ cof (reachF a n v up m) u s = G := by
      intro m
      induction m with
      | zero => exact fun _ => ⟨fun _ => true, fun s => .inl rfl⟩
      | succ m ih =>
        intro hm
        have hh := (reachF_hangs a n v up m (by omega)).mono (show 2 * (a + (n - 1 - m)) + 1 ≤ 2 * (a + (n - m)) by omega) (Nat.le_refl _)
        rcases Nat.lt_or_ge (2 * (a + (n - 1 - m))) u with hv | hv
        · obtain ⟨G, hG⟩ := ih (by omega)
          refine ⟨G, fun s => ?_⟩
          have e : cof (reachF a n v up (m + 1)) u s = fun t => if s (2 * (a + (n - 1 - m))) then (if v.testBit m then reachF a n v up m (mixS u s t) else up) else (if v.testBit m then !up else reachF a n v up m (mixS u s t)) := funext fun t => by
            show stepF (2 * (a + (n - 1 - m))) up (v.testBit m) (reachF a n v up m) (mixS u s t) = _
            unfold stepF
            rw [mixS_low _ _ hv]
          rw [e]
          cases s (2 * (a + (n - 1 - m))) <;> cases v.testBit m <;> cases up
          all_goals first
            | exact hG s
            | exact .inl rfl
            | exact .inr (.inl rfl)
        · obtain ⟨L, h1, h2⟩ := (Hangs.step up (v.testBit m) hh (by omega) (by omega)).ahead hv
          refine ⟨reachF a n v up (m + 1), fun s => .inr (.inr ?_)⟩
          have hh2 := Hangs.step up (v.testBit m) hh (show 2 * (a + (n - 1 - m)) ≤ 2 * (a + (n - 1 - m)) + 1 by omega) (by omega)
          exact funext fun t => hh2 _ _ fun w h1 _ => mixS_high _ _ (by omega)
    obtain ⟨G, hG⟩ := H (m + 1) hm
    refine ⟨[fun _ => true, fun _ => false, G], Nat.le_refl _, fun s => ?_⟩
    rcases hG s with h | h | h <;> simp [h]
theorem sumTo_seg (k a b : Nat) : ∀ n, sumTo (fun v => if a ≤ v ∧ v < b then k else 0) n = (min n b - a) * k
  | 0 => by simp [sumTo]
  | n + 1 => by
    show sumTo _ n + (if a ≤ n ∧ n < b then k else 0) = _
    rw [sumTo_seg k a b n]
    by_cases h : a ≤ n ∧ n < b
    · rw [if_pos h, show min (n + 1) b - a = (min n b - a) + 1 by omega, Nat.add_mul, Nat.one_mul]
    · rw [if_neg h, show min (n + 1) b - a = min n b - a by omega, Nat.add_zero]
theorem Wid.seg {F : Fun} {a b k : Nat} (h : Hangs F a b) (hb : b ≤ 256) (hc : ∀ v, CutLe F v k) : Wid F ((b - a) * k) := by
  refine ⟨fun v => if a ≤ v ∧ v < b then k else 0, fun v hv => ?_, by rw [sumTo_seg, Nat.min_eq_right hb]; exact Nat.le_refl _⟩
  by_cases h1 : a ≤ v ∧ v < b
  · refine .inr ?_
    simp only [h1, and_self, if_true]
    exact hc v
  · exact .inl (h.free (by omega))
theorem Wid.all {F : Fun} {k : Nat} (h : Hangs F 0 208) (hc : ∀ v, CutLe F v k) : Wid F (208 * k) := Wid.of_hangs h (by omega) fun v _ _ => hc v
/-- With the value v in the field of n bits from a on. -/
def putF (a n v : Nat) : Fun := fun s => sameF a n 104 s && bitsF a 1 n v n s
end Go.Proofs.YtbahehmfhjkgeaaGreat

/-
  A value put into a field of all headers (written by wip/gen/genrb5.py).
-/
namespace Go.Proofs.YtbahehmfhjkgeaaGreat
open Go Go.RowKit Go.ChangeMaps Go.MapKept Go.Maps Go.Lib Go.Sort

section
variable {w : World} {B S km : Nat} {A : Blks} {Mo : Nat} {σ : Sg}
set_option maxRecDepth 100000
set_option maxHeartbeats 4000000
end
end Go.Proofs.YtbahehmfhjkgeaaGreat
