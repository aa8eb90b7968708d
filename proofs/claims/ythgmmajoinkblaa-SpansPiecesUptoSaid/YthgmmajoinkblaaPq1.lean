/-
  Walks of the library's sort at numbers of 32 bits: less, insertion.
-/
import Derived.Test.YthgmmajoinkblaaKit
import Derived.Test.YthgmmajoinkblaaProg
import Derived.Sort.WalkA
import Derived.Sort.AssemblyPlain
import Derived.Deep.Draws
import Derived.Deep.QuietTactic
import Derived.Lib.Hide
namespace Go.Proofs.Ythgmmajoinkblaa
open Go Go.RowKit Go.Sort

/-- The row's cells, numbers of 32 bits. -/
abbrev e32 : Int → Value := Value.int .u32
/-- The world in which the row holds d, n draws on. -/
abbrev RowW (w : World) (blk off n : Nat) (d : Array Int) : World := putRow e32 (Sort.ahead w n) blk off d

set_option maxHeartbeats 1000000 in
theorem isNaNU_any (x : Int) (w : World) : Calls Try.prog 68 #[.int .u32 x] w fun e w' => e = .returned (.bool false) ∧ w' = w := by
  have hx : (x != x) = false := by simp
  go_enter Try.func68, Try.ntmps68
  go_wp2
  go_ret
  exact ⟨rfl, rfl⟩
set_option maxHeartbeats 1000000 in
theorem lessU_any (x y : Int) (w : World) : Calls Try.prog 76 #[.int .u32 x, .int .u32 y] w fun e w' => e = .returned (.bool (ltInt x y)) ∧ w' = w := by
  go_enter Try.func76, Try.ntmps76
  go_wp2_with (go_at_call 68; refine (isNaNU_any _ _).mono ?_; rintro e w' ⟨rfl, rfl⟩)
  go_ret
  exact ⟨rfl, rfl⟩

/-- What a row that holds d is good for, in a world of the sort's: its cells are read, and may be written. -/
theorem rowcells {w0 : World} {blk off n : Nat} {d0 d : Array Int} (hH : Holds e32 w0 blk off d0) (hs : d.size = d0.size) (G : Nat → Int) (hG : ∀ t, G t = d[t]!) :
    (∀ t, t < d0.size → (RowW w0 blk off n d).cell? ⟨blk, off + t, none⟩ = some (.int .u32 (G t))) ∧ (∀ t, t < d0.size → (RowW w0 blk off n d).frozen? ⟨blk, off + t, none⟩ = false) :=
  ⟨fun t ht => by rw [hG]; exact cell?_putRow e32 _ _ _ d0 d (holds_ahead e32 _ _ _ _ _ hH) hs t (by omega), fun t ht => by rw [frozen?_putRow]; exact ((holds_ahead e32 _ n _ _ _ hH) t ht).2⟩

set_option maxRecDepth 100000 in
set_option maxHeartbeats 4000000 in
theorem insertionU_any (blk off cap a b : Nat) (d : Array Int) (w : World) (hH : Holds e32 w blk off d) (hab : a ≤ b) (hb : b ≤ d.size) (hsz : d.size < 4611686018427387904) :
    Calls Try.prog 70 #[.slice (some ⟨blk, off, none⟩) d.size cap, .int .i64 a, .int .i64 b] w fun e w' =>
      e = .returned (.tuple #[]) ∧ ∃ n, w' = RowW w blk off n (Sort.insertionSort ltInt d a b) := by
  have HH := Lib.hid hH
  clear hH
  go_enter Try.func70, Try.ntmps70
  go_wp2
  go_loopw [6] (fun vi wr => ∃ (i n : Nat) (dk : Array Int), vi = .int .i64 i ∧ a < i ∧ i ≤ b + 1 ∧ dk.size = d.size ∧ Hid (wr = RowW w blk off n dk) ∧ Hid (insOuter ltInt a b i dk = insOuter ltInt a b (a + 1) d)) (fun vi _ => b + 1 - (intOf vi).toNat)
  case atStart => exact ⟨a + 1, 0, d, by go_num, by omega, by omega, rfl, (putRow_self _ _ _ _ _ HH.out).symm, rfl⟩
  case round =>
    obtain ⟨i, n, dk, rfl, hai, hib, hsk, HW, HO⟩ := hrel
    rename World => wr
    by_cases hlt : i < b
    · have hI : (i : Int) < (b : Int) := by omega
      go_wp2
      go_loopw [7] (fun vj wr2 => ∃ (j m : Nat) (dj : Array Int), vj = .int .i64 j ∧ a ≤ j ∧ j ≤ i ∧ dj.size = d.size ∧ Hid (wr2 = RowW w blk off m dj) ∧ Hid (insInner ltInt a j dj = insInner ltInt a i dk)) (fun vj _ => (intOf vj).toNat)
      case atStart => exact ⟨i, n, dk, rfl, by omega, by omega, hsk, HW.out, rfl⟩
      case round =>
        obtain ⟨j, m, dj, rfl, haj, hji, hsj, HW2, HI⟩ := hrel
        rename World => wx
        obtain ⟨G, hG⟩ : ∃ G : Nat → Int, ∀ t, G t = dj[t]! := ⟨fun t => dj[t]!, fun _ => rfl⟩
        obtain ⟨hcw, hfw⟩ := rowcells (n := m) HH.out hsj G hG
        rw [← HW2.out] at hcw hfw
        have HG := Lib.hid hG
        clear hG
        have stop : (j ≤ a ∨ ltInt dj[j]! dj[j - 1]! = false) → ∀ q, ∃ (i' n' : Nat) (dk' : Array Int), Value.int .i64 ((i : Int) + 1) = .int .i64 (i' : Nat) ∧ a < i' ∧ i' ≤ b + 1 ∧ dk'.size = d.size ∧
            Hid (wx.drewN q = RowW w blk off n' dk') ∧ Hid (insOuter ltInt a b i' dk' = insOuter ltInt a b (a + 1) d) := fun hs q =>
          ⟨i + 1, m + q, dj, by go_num, by omega, by omega, hsj, (by rw [HW2.out]; exact putRow_drewN _ _ _ _ _ _ _ : wx.drewN q = _),
            (by rw [← HO.out, insOuter_go _ _ _ _ _ hlt, ← HI.out, insInner_stop _ _ _ _ hs] : insOuter ltInt a b (i + 1) dj = _)⟩
        have STOP := Lib.hid stop
        clear stop
        by_cases hja : a < j
        · have hja' : (a : Int) < (j : Int) := by omega
          cases hl : ltInt (G j) (G (j - 1))
          · go_wp2
            go_quiet (first | (go_at_call 76; refine Calls.quiet_of_same (lessU_any _ _ _)))
            go_wp2
            go_roundw
            case rel => exact STOP.out (Or.inr (by rw [← HG.out, ← HG.out]; exact hl)) nq
            case measure => simp [intOf]; omega
          · go_wp2
            go_quiet (first | (go_at_call 76; refine Calls.quiet_of_same (lessU_any _ _ _)))
            go_wp2
            go_region
            all_goals go_wp2
            go_roundw
            case rel =>
              refine ⟨j - 1, m + (nq + 1), swp dj j (j - 1), by congr 1; omega, by omega, by omega, by rw [size_swp]; exact hsj, ?_, ?_⟩
              · show _ = _
                rw [HW2.out, HG.out, HG.out]
                exact swap_worldA _ w m (nq + 1) blk off dj j (j - 1) (by omega) (by omega)
              · show _ = _
                rw [← HI.out, insInner_go ltInt a j dj hja (by rw [← HG.out, ← HG.out]; exact hl)]
            case measure => simp [intOf]; omega
        · have hja' : ¬ (a : Int) < (j : Int) := by omega
          go_wp2
          go_quiet (first | (go_at_call 76; refine Calls.quiet_of_same (lessU_any _ _ _)))
          go_wp2
          go_roundw
          case rel => exact STOP.out (Or.inl (by omega)) nq
          case measure => simp [intOf]; omega
    · have hI : ¬ (i : Int) < (b : Int) := by omega
      go_wp2
      go_end0
      exact ⟨rfl, n, by rw [HW.out]; unfold Sort.insertionSort; rw [← HO.out, insOuter_stop _ _ _ _ _ hlt]⟩
end Go.Proofs.Ythgmmajoinkblaa
