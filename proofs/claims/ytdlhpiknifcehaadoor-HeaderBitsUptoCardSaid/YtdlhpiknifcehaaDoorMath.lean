/-
  Plain lemmas on numbers that the walks of this seat use; no program in sight.
-/
import Derived.Below
namespace Go.Proofs.YtdlhpiknifcehaaDoor
open Go.RowKit

/-- Two to the k, as an integer, behind a name. -/
def p2 (k : Nat) : Int := 2 ^ k
theorem p2_zero : p2 0 = 1 := rfl
theorem p2_succ (k : Nat) : p2 (k + 1) = 2 * p2 k := by unfold p2; rw [Int.pow_succ]; omega
theorem p2_pos (k : Nat) : 1 ≤ p2 k := by
  induction k with
  | zero => simp [p2_zero]
  | succ k ih => rw [p2_succ]; omega
theorem p2_mono {j k : Nat} (h : j ≤ k) : p2 j ≤ p2 k := by
  induction k with
  | zero => have : j = 0 := by omega
            subst this; exact Int.le_refl _
  | succ k ih =>
    rcases Nat.lt_or_ge j (k + 1) with h1 | h1
    · have := ih (by omega); have := p2_pos k; rw [p2_succ]; omega
    · have : j = k + 1 := by omega
      subst this; exact Int.le_refl _
theorem p2_32 : p2 32 = 4294967296 := by decide
theorem p2_le32 {k : Nat} (h : k ≤ 32) : p2 k ≤ 4294967296 := by have := p2_mono h; rw [p2_32] at this; exact this


/-- How many addresses are in a prefix of n bits. -/
def sz (n : Int) : Int := p2 (32 - n.toNat)
theorem sz_pos (n : Int) : 1 ≤ sz n := p2_pos _
theorem sz_le (n : Int) : sz n ≤ 4294967296 := p2_le32 (by omega)
theorem sz_dvd (n : Int) : sz n ∣ 4294967296 := by
  refine ⟨p2 (32 - (32 - n.toNat)), ?_⟩
  rw [← p2_32]; unfold sz p2
  rw [← Int.pow_add]; congr 1; omega
/-- The refusal of a prefix: 0, 1 (bits out of range), 10 (bits behind the mask). -/
def chk (a n : Int) : Int := if n < 0 ∨ 32 < n then 1 else if a % sz n = 0 then 0 else 10
theorem chk_range (a n : Int) (h : n < 0 ∨ 32 < n) : chk a n = 1 := by unfold chk; rw [if_pos h]
theorem chk_zero (a n : Int) (h0 : 0 ≤ n) (h1 : n ≤ 32) (h : a % sz n = 0) : chk a n = 0 := by unfold chk; rw [if_neg (by omega), if_pos h]
theorem chk_mask (a n : Int) (h0 : 0 ≤ n) (h1 : n ≤ 32) (h : ¬ a % sz n = 0) : chk a n = 10 := by unfold chk; rw [if_neg (by omega), if_neg h]
theorem chk_ok {a n : Int} (h : chk a n = 0) : 0 ≤ n ∧ n ≤ 32 ∧ a % sz n = 0 := by
  unfold chk at h
  split at h
  · simp at h
  · split at h
    · rename_i h1 h2; exact ⟨by omega, by omega, h2⟩
    · simp at h
/-- Is an address in a prefix? -/
def inB (x a n : Int) : Bool := decide (chk a n = 0 ∧ a ≤ x ∧ x < a + sz n)


/-- The exponent of the greatest power of two, at most 2^k, that divides the place and does not go beyond the end. -/
def pick (a e : Int) : Nat → Nat
  | 0 => 0
  | k + 1 => if a % p2 (k + 1) = 0 ∧ a + p2 (k + 1) ≤ e then k + 1 else pick a e k
theorem pick_le (a e : Int) (k : Nat) : pick a e k ≤ k := by
  induction k with
  | zero => exact Nat.le_refl _
  | succ k ih => unfold pick; split <;> omega
theorem pick_hit (a e : Int) (k : Nat) (h : a % p2 k = 0) (h' : a + p2 k ≤ e) : pick a e k = k := by
  cases k with
  | zero => rfl
  | succ k => unfold pick; rw [if_pos ⟨h, h'⟩]
theorem pick_miss (a e : Int) (k : Nat) (h : ¬ (a % p2 (k + 1) = 0 ∧ a + p2 (k + 1) ≤ e)) : pick a e (k + 1) = pick a e k := by
  conv => lhs; unfold pick
  rw [if_neg h]
theorem pick_ok (a e : Int) (k : Nat) (h : a < e) : a % p2 (pick a e k) = 0 ∧ a + p2 (pick a e k) ≤ e := by
  induction k with
  | zero => simp [pick, p2_zero]; omega
  | succ k ih =>
    unfold pick
    split
    · rename_i h; exact h
    · exact ih
/-- The prefixes of the places from a up to (not with) e. -/
def cutL (e : Int) : Nat → Int → List (Int × Int)
  | 0, _ => []
  | f + 1, a => if a < e then (a, 32 - (pick a e 32 : Int)) :: cutL e f (a + p2 (pick a e 32)) else []
theorem cutL_done (e a : Int) (f : Nat) (h : e ≤ a) : cutL e f a = [] := by
  cases f with
  | zero => rfl
  | succ f => unfold cutL; rw [if_neg (by omega)]
theorem cutL_step (e a : Int) (f : Nat) (h : a < e) : cutL e (f + 1) a = (a, 32 - (pick a e 32 : Int)) :: cutL e f (a + p2 (pick a e 32)) := by
  conv => lhs; unfold cutL
  rw [if_pos h]

end Go.Proofs.YtdlhpiknifcehaaDoor
