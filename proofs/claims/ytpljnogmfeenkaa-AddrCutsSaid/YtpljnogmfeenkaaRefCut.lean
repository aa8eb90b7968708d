/-
  The walk of the reference's Cut.
-/
import Derived.Test.YtpljnogmfeenkaaCut
import Derived.Test.YtpljnogmfeenkaaA1
namespace Go.Proofs.Ytpljnogmfeenkaa
open Go Go.RowKit

set_option maxRecDepth 100000 in
set_option maxHeartbeats 1000000 in
theorem refCut_any (lo hi : Int) (w : World) (h0 : 0 ≤ lo) (h1 : lo ≤ hi) (h2 : hi < 4294967296) :
    Calls Try.prog 16 #[.int .u32 lo, .int .u32 hi] w (CutRes (cutP lo hi) w) := by
  obtain ⟨i0, hi0, hz0, hz1, hz2⟩ := info_parts Try.infoPrefix
  go_enter Try.func16, Try.ntmps16
  go_wp2
  go_loopw [6, 7] (fun v at' wr => ∃ (a : Int) (f : Nat) (L : List (Int × Int)), at' = .int .u64 a ∧ lo ≤ a ∧ a ≤ hi + 1 ∧ hi + 1 - a ≤ f ∧ L.length ≤ a - lo ∧ Hid (L ++ cutL (hi + 1) f a = cutP lo hi) ∧
      wr.ownsRow w.heap.size 30 2 v L.length (pcells L) ∧ Below w.heap.size w wr)
    (fun _ at' _ => (hi + 1 - intOf at').toNat)
  case atStart => exact ⟨lo, (hi + 1 - lo).toNat, [], rfl, by omega, by omega, by omega, by simp, rfl, World.ownsRow_nil _ _ _ _, Below.refl _ _⟩
  case round =>
    obtain ⟨a, f, L, rfl, ha0, ha1, hf, hL, hcut, hown, hnx⟩ := hrel
    by_cases hlt : a < hi + 1
    · cases f with
      | zero => omega
      | succ f =>
        have hle : a ≤ hi := by omega
        go_wp2
        go_loop [6, 7, 8] (fun v' at' n => ∃ j : Nat, v' = u6 ∧ at' = .int .u64 a ∧ n = .int .i64 j ∧ j ≤ 32 ∧ Hid (pick a (hi + 1) 32 = pick a (hi + 1) (32 - j))) (fun _ _ n => 33 - (intOf n).toNat)
        case atStart => exact ⟨0, rfl, rfl, rfl, by omega, rfl⟩
        case round =>
          obtain ⟨j, rfl, rfl, rfl, hj, hpk⟩ := hrel
          have hp := sz_pos (j : Int)
          have hq := sz_le (j : Int)
          have hs := Lib.hid (show sz (j : Int) = p2 (32 - j) by unfold sz; simp)
          by_cases hm : a % sz j = 0
          · by_cases hg : a + sz j - 1 ≤ hi
            · go_wp2_with (first | (go_at_call 93; refine (size_any _ _ (by omega) (by omega)).mono ?_; rintro e w' ⟨rfl, rfl⟩) | (at_builtin; refine wpList_append_own _ rfl _ _ 24 rfl w.heap.size 30 i0 _ 2 16 Try.underlying24 hi0 hz0 hz1 hz2 rfl (by decide) _ _ _ rfl (hown.alloc _) ⟨wr.heap.size, 0, none⟩ 1 1 [.int .u32 a, .int .i64 j] rfl rfl ?c1 ?c2 ?c3 ?c4 ?c5 ?_))
              case c1 => exact cells_new wr [.int .u32 a, .int .i64 j] 30
              case c2 => intro u hu; simp at hu; rcases hu with rfl | rfl <;> rfl
              case c3 => unfold maxLen; omega
              case c4 => omega
              case c5 => have := hnx.size; simp; omega
              intro v2 w2 hown2 hg2 _
              have hnx2 := below_row (hnx.alloc hnx.size (.cells #[.int .u32 a, .int .i64 j] 30)) (hown.alloc _) hg2 (by have := hnx.size; simp; omega) (by omega)
              clear hown hg2 hnx
              go_wp2_with (go_at_call 93; refine (size_any _ _ (by omega) (by omega)).mono ?_; rintro e w' ⟨rfl, rfl⟩)
              go_roundw
              case rel =>
                have hs' := hs.out
                have ek : pick a (hi + 1) 32 = 32 - j := by
                  rw [hpk.out]
                  rw [hs'] at hm
                  exact pick_hit _ _ _ hm (by rw [← hs']; omega)
                have ej : (32 - ((32 - j : Nat) : Int)) = j := by omega
                refine ⟨a + sz j, f, L ++ [(a, (j : Int))], rfl, by omega, by omega, by omega, by simp; omega, ?_, by rw [pcells_snoc]; simpa using hown2, hnx2⟩
                show L ++ [_] ++ _ = _
                rw [← hcut.out, cutL_step _ _ _ hlt, List.append_assoc, ek, ej, ← hs']; rfl
              case measure => simp only [intOf]; omega
            · go_wp2_with (go_at_call 93; refine (size_any _ _ (by omega) (by omega)).mono ?_; rintro e w' ⟨rfl, rfl⟩)
              go_round
              case rel =>
                have hs' := hs.out
                have h32 : j ≠ 32 := by rintro rfl; have e1 : sz ((32 : Nat) : Int) = 1 := rfl; first | omega | (rw [e1] at hm; omega)
                refine ⟨j + 1, rfl, rfl, by go_num, by omega, ?_⟩
                show pick a (hi + 1) 32 = _
                rw [hpk.out, show 32 - j = (32 - (j + 1)) + 1 by omega]
                refine pick_miss _ _ _ ?_
                rw [show (32 - (j + 1)) + 1 = 32 - j by omega, ← hs']; omega
              case measure => simp only [intOf]; omega
          · go_wp2_with (go_at_call 93; refine (size_any _ _ (by omega) (by omega)).mono ?_; rintro e w' ⟨rfl, rfl⟩)
            go_round
            case rel =>
              have hs' := hs.out
              have h32 : j ≠ 32 := by rintro rfl; have e1 : sz ((32 : Nat) : Int) = 1 := rfl; first | omega | (rw [e1] at hm; omega)
              refine ⟨j + 1, rfl, rfl, by go_num, by omega, ?_⟩
              show pick a (hi + 1) 32 = _
              rw [hpk.out, show 32 - j = (32 - (j + 1)) + 1 by omega]
              refine pick_miss _ _ _ ?_
              rw [show (32 - (j + 1)) + 1 = 32 - j by omega, ← hs']; omega
            case measure => simp only [intOf]; omega
    · go_wp2
      go_ret2
      have hz : cutL (hi + 1) f a = [] := cutL_done _ _ _ (by omega)
      have hcut' := hcut.out
      rw [hz, List.append_nil] at hcut'
      subst hcut'
      exact ⟨_, rfl, hown, hnx⟩

end Go.Proofs.Ytpljnogmfeenkaa
