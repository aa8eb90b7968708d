/-
  Walks over the addresses' layer: Mask, Bits, Subnet; the program's and the reference's.
-/
import Derived.Test.YtdlhpiknifcehaaDoorAddr2
import Derived.Deep.RegionHeld3
namespace Go.Proofs.YtdlhpiknifcehaaDoor
open Go Go.RowKit Go.Sort

/-- The mask of so many bits, and the refusal. -/
def maskA (n : Int) : Int := if n < 0 ∨ 32 < n then 0 else 4294967296 - sz n
def argE (n : Int) : Int := if n < 0 ∨ 32 < n then 1 else 0
theorem mask_no {n : Int} (h : n < 0 ∨ 32 < n) : maskA n = 0 ∧ argE n = 1 := ⟨if_pos h, if_pos h⟩
theorem mask_yes {n : Int} (h0 : 0 ≤ n) (h1 : n ≤ 32) : maskA n = 4294967296 - sz n ∧ argE n = 0 := ⟨if_neg (by omega), if_neg (by omega)⟩
theorem ret2 {v v' u u' : Value} (h : v = v' ∧ u = u') : Ending.returned (.tuple #[v, u]) = .returned (.tuple #[v', u']) := by rw [h.1, h.2]
theorem vint {k : IntKind} {a b : Int} (h : a = b) : Value.int k a = .int k b := by rw [h]

set_option maxHeartbeats 400000 in
theorem addrMask_any (n : Int) (w : World) : Calls Tryd.prog 22 #[.int .i64 n] w fun e w' => e = .returned (.tuple #[.int .u32 (maskA n), .int .i64 (argE n)]) ∧ w = w' := by
  by_cases hr : n < 0 ∨ 32 < n
  · have hm := Lib.hid (mask_no hr)
    rcases hr with hr | hr
    · go_enter Tryd.func22, Tryd.ntmps22
      go_wp2
      go_ret2
      exact ⟨ret2 ⟨vint hm.out.1.symm, vint hm.out.2.symm⟩, rfl⟩
    · have hr' : ¬ n < 0 := by omega
      go_enter Tryd.func22, Tryd.ntmps22
      go_wp2
      go_ret2
      exact ⟨ret2 ⟨vint hm.out.1.symm, vint hm.out.2.symm⟩, rfl⟩
  · have h0 : 0 ≤ n := by omega
    have h1 : n ≤ 32 := by omega
    have hm := Lib.hid (mask_yes h0 h1)
    have hp := sz_pos n
    have hq := sz_le n
    clear hr
    go_enter Tryd.func22, Tryd.ntmps22
    go_wp2_with (go_at_call 61; refine (behind_any _ _ (by omega) (by omega)).mono ?_; rintro e w' ⟨rfl, rfl⟩)
    go_ret2
    exact ⟨ret2 ⟨vint (by rw [hm.out.1, not32 _ (by omega) (by omega)]; omega), vint hm.out.2.symm⟩, rfl⟩

theorem mask_range (n : Int) : 0 ≤ maskA n ∧ maskA n < 4294967296 := by
  unfold maskA
  have hp := sz_pos n
  have hq := sz_le n
  split <;> omega
/-- Of how many bits a mask is, and the refusal. -/
def bitsN (m : Int) : Int := if maskA (lz32 (4294967295 - m)) = m then lz32 (4294967295 - m) else 0
def bitsE (m : Int) : Int := if maskA (lz32 (4294967295 - m)) = m then 0 else 10
theorem bits_yes {m : Int} (h : maskA (lz32 (4294967295 - m)) = m) : bitsN m = lz32 (4294967295 - m) ∧ bitsE m = 0 := ⟨if_pos h, if_pos h⟩
theorem bits_no {m : Int} (h : ¬ maskA (lz32 (4294967295 - m)) = m) : bitsN m = 0 ∧ bitsE m = 10 := ⟨if_neg h, if_neg h⟩
theorem mask_lz (n : Int) (h0 : 0 ≤ n) (h1 : n ≤ 32) : lz32 (4294967295 - maskA n) = n := by
  rw [(mask_yes h0 h1).1, show 4294967295 - (4294967296 - sz n) = sz n - 1 by omega]
  exact lz32_mask n h0 h1

set_option maxHeartbeats 400000 in
theorem addrBits_any (m : Int) (w : World) (h0 : 0 ≤ m) (h1 : m < 4294967296) : Calls Tryd.prog 37 #[.int .u32 m] w fun e w' => e = .returned (.tuple #[.int .i64 (bitsN m), .int .i64 (bitsE m)]) ∧ w = w' := by
  have en : bits .xor .u32 IntKind.u32.max m = 4294967295 - m := not32 m h0 h1
  have hl := lz32_range (4294967295 - m) (by omega)
  have hp := sz_pos (lz32 (4294967295 - m))
  have hq := sz_le (lz32 (4294967295 - m))
  have em : bits .xor .u32 IntKind.u32.max (sz (lz32 (4294967295 - m)) - 1) = maskA (lz32 (4294967295 - m)) := by
    rw [not32 _ (by omega) (by omega), (mask_yes hl.1 hl.2).1]; omega
  by_cases h : maskA (lz32 (4294967295 - m)) = m
  · have hb := Lib.hid (bits_yes h)
    have hd : (maskA (lz32 (4294967295 - m)) != m) = false := by simp [h]
    clear h
    go_enter Tryd.func37, Tryd.ntmps37
    go_wp2_with (first | (go_at_call 66; refine (lz32_any _ _ (by omega) (by omega)).mono ?_; rintro e w' ⟨rfl, rfl⟩) | (go_at_call 61; refine (behind_any _ _ (by omega) (by omega)).mono ?_; rintro e w' ⟨rfl, rfl⟩))
    go_ret2
    exact ⟨ret2 ⟨vint hb.out.1.symm, vint hb.out.2.symm⟩, rfl⟩
  · have hb := Lib.hid (bits_no h)
    have hd : (maskA (lz32 (4294967295 - m)) != m) = true := by simp [h]
    clear h
    go_enter Tryd.func37, Tryd.ntmps37
    go_wp2_with (first | (go_at_call 66; refine (lz32_any _ _ (by omega) (by omega)).mono ?_; rintro e w' ⟨rfl, rfl⟩) | (go_at_call 61; refine (behind_any _ _ (by omega) (by omega)).mono ?_; rintro e w' ⟨rfl, rfl⟩))
    go_ret2
    exact ⟨ret2 ⟨vint hb.out.1.symm, vint hb.out.2.symm⟩, rfl⟩

end Go.Proofs.YtdlhpiknifcehaaDoor
