/-
  Joined texts: Pq2, Pq3.
-/
import Derived.Test.YthgmmajoinkblaaDoorMSpansNames1
import Derived.Sort.WalkB12
import Derived.Sort.WalkB3
import Derived.Sort.WalkD2
import Derived.Sort.Walk11
import Derived.Sort.Grow
/-
  Walks of the library's sort at numbers of 32 bits: a range turned about, the heap (written by wip/gen/genpq2.py).
-/
namespace Go.Proofs.YthgmmajoinkblaaDoor
open Go Go.RowKit Go.Sort

/-- The row still holds what it was given. -/
theorem RowW.holds {w : World} {blk off n : Nat} {d0 d : Array Int} (hH : Holds e32 w blk off d0) (hs : d.size = d0.size) : Holds e32 (RowW w blk off n d) blk off d := holds_putRow e32 _ blk off d0 d (holds_ahead e32 w n blk off d0 hH) hs
theorem RowW.drewN (w : World) (blk off n q : Nat) (d : Array Int) : (RowW w blk off n d).drewN q = RowW w blk off (n + q) d := putRow_drewN _ _ _ _ _ _ _
theorem RowW.again (w : World) (blk off n q : Nat) (d d' : Array Int) (h : d'.size = d.size) : RowW (RowW w blk off n d) blk off q d' = RowW w blk off (n + q) d' := putRow_ahead_putRow e32 w n q blk off _ _ h

set_option maxRecDepth 100000 in
set_option maxHeartbeats 4000000 in
theorem reverseU_any (blk off cap a b : Nat) (d : Array Int) (w : World) (hH : Holds e32 w blk off d) (hab : a ≤ b) (hb : b ≤ d.size) (hsz : d.size < 4611686018427387904) :
    Calls Tryd.prog 30 #[.slice (some ⟨blk, off, none⟩) d.size cap, .int .i64 a, .int .i64 b] w fun e w' => e = .returned (.tuple #[]) ∧ ∃ n, w' = RowW w blk off n (reverseRange d a b) := by
  have HH := Lib.hid hH
  clear hH
  go_enter Tryd.func30, Tryd.ntmps30
  go_wp2
  go_loopg [6, 7] (b - a) (fun k s6 s7 wr => ∃ (i jn : Nat) (jz : Int) (dk : Array Int) (n : Nat), s6 = .int .i64 i ∧ s7 = .int .i64 jz ∧ ((i : Int) < jz → jz = jn ∧ jn < d.size) ∧ (¬ (i : Int) < jz → ¬ i < jn) ∧ jn - i ≤ k ∧ dk.size = d.size ∧ Hid (wr = RowW w blk off n dk) ∧ Hid (reverseLoop i jn dk = reverseLoop a (b - 1) d))
  case atStart => exact ⟨a, b - 1, (b : Int) - 1, d, 0, rfl, rfl, fun h => ⟨by omega, by omega⟩, fun h => by omega, by omega, rfl, (putRow_self e32 w blk off d HH.out).symm, rfl⟩
  case round =>
    obtain ⟨i, jn, jz, dk, n, rfl, rfl, h1, h2, hk, hds, HW, HQ⟩ := hrel
    rename World => wr
    by_cases hlt : (i : Int) < jz
    · obtain ⟨rfl, hjn⟩ := h1 hlt
      have hij : i < jn := by omega
      obtain ⟨G, hG⟩ : ∃ G : Nat → Int, ∀ t, G t = dk[t]! := ⟨fun t => dk[t]!, fun _ => rfl⟩
      obtain ⟨hcw, hfw⟩ := rowcells (n := n) HH.out hds G hG
      rw [← HW.out] at hcw hfw
      have HG := Lib.hid hG
      clear hG h1 h2
      go_wp2_with fail
      go_region
      go_wp2
      go_roundg (jn - 1 - (i + 1))
      case measure => omega
      case rel =>
        refine ⟨i + 1, jn - 1, (jn : Int) - 1, swp dk i jn, n + 1, by simp, rfl, fun h => ⟨by omega, by omega⟩, fun h => by omega, Nat.le_refl _, by rw [size_swp]; exact hds, ?_, ?_⟩
        · show _ = _
          exact swap_world e32 (by omega) (by omega) HW.out (by rw [HG.out] <;> rfl) (by rw [HG.out] <;> rfl)
        · show _ = _
          rw [← HQ.out]
          exact (show reverseLoop i jn dk = _ by rw [reverseLoop, if_pos hij]).symm
    · have hnot := h2 hlt
      go_wp2
      go_end0
      refine ⟨rfl, n, ?_⟩
      rw [HW.out, reverseRange, ← HQ.out, reverseLoop, if_neg hnot]

set_option maxRecDepth 1000000 in
set_option maxHeartbeats 8000000 in
theorem siftU_any (blk off len cap : Nat) (d : Array Int) (hlen : d.size = len) (lo hi first : Nat) (w : World) (hH : Holds e32 w blk off d) (hlo : lo ≤ hi) (hb : first + hi ≤ d.size) (hsz : d.size < 4611686018427387904) :
    Calls Tryd.prog 51 #[.slice (some ⟨blk, off, none⟩) len cap, .int .i64 lo, .int .i64 hi, .int .i64 first] w fun e w' => e = .returned (.tuple #[]) ∧ ∃ n, w' = RowW w blk off n (siftDown ltInt hi first lo d) := by
  subst hlen
  have HH := Lib.hid hH
  clear hH
  go_enter Tryd.func51, Tryd.ntmps51
  go_wp2
  go_loopg [8] (hi - lo) (fun k s8 wr => ∃ (root : Nat) (dk : Array Int) (n : Nat), s8 = .int .i64 root ∧ root ≤ hi ∧ hi - root ≤ k ∧ dk.size = d.size ∧ Hid (wr = RowW w blk off n dk) ∧ Hid (siftDown ltInt hi first root dk = siftDown ltInt hi first lo d))
  case atStart => exact ⟨lo, d, 0, rfl, hlo, Nat.le_refl _, rfl, (putRow_self e32 w blk off d HH.out).symm, rfl⟩
  case round =>
    obtain ⟨root, dk, n, rfl, hr, hk, hds, HW, HQ⟩ := hrel
    rename World => wr
    by_cases h0 : hi ≤ 2 * root + 1
    · have h0z : (hi : Int) ≤ 2 * (root : Int) + 1 := by omega
      go_wp2
      go_end0
      refine ⟨rfl, n, ?_⟩
      rw [HW.out, ← HQ.out, sd_end ltInt dk h0]
    · have h0z : ¬ ((hi : Int) ≤ 2 * (root : Int) + 1) := by omega
      obtain ⟨G, hG⟩ : ∃ G : Nat → Int, ∀ t, G t = dk[t]! := ⟨fun t => dk[t]!, fun _ => rfl⟩
      obtain ⟨hcw, hfw⟩ := rowcells (n := n) HH.out hds G hG
      rw [← HW.out] at hcw hfw
      have HG := Lib.hid hG
      clear hG
      by_cases h1 : 2 * root + 2 < hi
      · have h1z : 2 * (root : Int) + 1 + 1 < (hi : Int) := by omega
        cases hL : ltInt (G (first + 2 * root + 1)) (G (first + 2 * root + 2))
        · go_wp2_with fail
          go_big_quiet (first | (go_at_call 32; refine Calls.quiet_of_same (lessU_any _ _ _)))
          go_wp2_with fail
          revert nq; intro nq1
          have hcw2 : ∀ t, t < d.size → (wr.drewN nq1).cell? ⟨blk, off + t, none⟩ = some (.int .u32 (G t)) := hcw
          have hfw2 : ∀ t, t < d.size → (wr.drewN nq1).frozen? ⟨blk, off + t, none⟩ = false := hfw
          have HW2 : Hid (wr.drewN nq1 = RowW w blk off (n + nq1) dk) := by have h := HW.out; subst h; exact RowW.drewN _ _ _ _ _ _
          clear hcw hfw HW
          generalize wr.drewN nq1 = wr2 at hcw2 hfw2 HW2 ⊢
          have hcw := hcw2
          have hfw := hfw2
          have HW := HW2
          clear hcw2 hfw2 HW2
          cases hS : ltInt (G (first + root)) (G (first + 2 * root + 1))
          · go_wp2_with fail
            go_big_quiet (first | (go_at_call 32; refine Calls.quiet_of_same (lessU_any _ _ _)))
            go_wp2_with fail
            (try simp only [Exit.inBlock, Exit.then]); refine bodyPost_ret (results_none rfl _ _ _) rfl ?_
            refine ⟨rfl, (n + nq1) + nq, ?_⟩
            have h := HW.out
            rw [h, RowW.drewN, ← HQ.out, sd_left_stop ltInt dk (by omega) (fun _ => (by rw [← HG.out, ← HG.out]; exact hL)) (by rw [← HG.out, ← HG.out]; exact hS)]
          · go_wp2_with fail
            go_big_quiet (first | (go_at_call 32; refine Calls.quiet_of_same (lessU_any _ _ _)))
            go_wp2_with fail
            revert nq; intro nq2
            have hcw2 : ∀ t, t < d.size → (wr2.drewN nq2).cell? ⟨blk, off + t, none⟩ = some (.int .u32 (G t)) := hcw
            have hfw2 : ∀ t, t < d.size → (wr2.drewN nq2).frozen? ⟨blk, off + t, none⟩ = false := hfw
            have HW2 : Hid (wr2.drewN nq2 = RowW w blk off ((n + nq1) + nq2) dk) := by have h := HW.out; subst h; exact RowW.drewN _ _ _ _ _ _
            clear hcw hfw HW
            generalize wr2.drewN nq2 = wr3 at hcw2 hfw2 HW2 ⊢
            have hcw := hcw2
            have hfw := hfw2
            have HW := HW2
            clear hcw2 hfw2 HW2
            go_region
            go_wp2
            go_roundg (hi - (2 * root + 1))
            case measure => omega
            case rel =>
              refine ⟨2 * root + 1, swp dk (first + root) (first + (2 * root + 1)), (n + nq1) + nq2 + 1, by simp <;> omega, by omega, Nat.le_refl _, by rw [size_swp]; exact hds, ?_, ?_⟩
              · show _ = _
                exact swap_world e32 (by omega) (by omega) HW.out (by rw [HG.out] <;> rfl) (by rw [HG.out] <;> rfl)
              · show _ = _
                rw [← HQ.out, sd_left_go ltInt dk (by omega) (fun _ => (by rw [← HG.out, ← HG.out]; exact hL)) (by rw [← HG.out, ← HG.out]; exact hS)]
        · go_wp2_with fail
          go_big_quiet (first | (go_at_call 32; refine Calls.quiet_of_same (lessU_any _ _ _)))
          go_wp2_with fail
          revert nq; intro nq1
          have hcw2 : ∀ t, t < d.size → (wr.drewN nq1).cell? ⟨blk, off + t, none⟩ = some (.int .u32 (G t)) := hcw
          have hfw2 : ∀ t, t < d.size → (wr.drewN nq1).frozen? ⟨blk, off + t, none⟩ = false := hfw
          have HW2 : Hid (wr.drewN nq1 = RowW w blk off (n + nq1) dk) := by have h := HW.out; subst h; exact RowW.drewN _ _ _ _ _ _
          clear hcw hfw HW
          generalize wr.drewN nq1 = wr2 at hcw2 hfw2 HW2 ⊢
          have hcw := hcw2
          have hfw := hfw2
          have HW := HW2
          clear hcw2 hfw2 HW2
          cases hS : ltInt (G (first + root)) (G (first + 2 * root + 2))
          · go_wp2_with fail
            go_big_quiet (first | (go_at_call 32; refine Calls.quiet_of_same (lessU_any _ _ _)))
            go_wp2_with fail
            (try simp only [Exit.inBlock, Exit.then]); refine bodyPost_ret (results_none rfl _ _ _) rfl ?_
            refine ⟨rfl, (n + nq1) + nq, ?_⟩
            have h := HW.out
            rw [h, RowW.drewN, ← HQ.out, sd_right_stop ltInt dk h1 (by rw [← HG.out, ← HG.out]; exact hL) (by rw [← HG.out, ← HG.out]; exact hS)]
          · go_wp2_with fail
            go_big_quiet (first | (go_at_call 32; refine Calls.quiet_of_same (lessU_any _ _ _)))
            go_wp2_with fail
            revert nq; intro nq2
            have hcw2 : ∀ t, t < d.size → (wr2.drewN nq2).cell? ⟨blk, off + t, none⟩ = some (.int .u32 (G t)) := hcw
            have hfw2 : ∀ t, t < d.size → (wr2.drewN nq2).frozen? ⟨blk, off + t, none⟩ = false := hfw
            have HW2 : Hid (wr2.drewN nq2 = RowW w blk off ((n + nq1) + nq2) dk) := by have h := HW.out; subst h; exact RowW.drewN _ _ _ _ _ _
            clear hcw hfw HW
            generalize wr2.drewN nq2 = wr3 at hcw2 hfw2 HW2 ⊢
            have hcw := hcw2
            have hfw := hfw2
            have HW := HW2
            clear hcw2 hfw2 HW2
            go_region
            go_wp2
            go_roundg (hi - (2 * root + 2))
            case measure => omega
            case rel =>
              refine ⟨2 * root + 2, swp dk (first + root) (first + (2 * root + 2)), (n + nq1) + nq2 + 1, by simp <;> omega, by omega, Nat.le_refl _, by rw [size_swp]; exact hds, ?_, ?_⟩
              · show _ = _
                exact swap_world e32 (by omega) (by omega) HW.out (by rw [HG.out] <;> rfl) (by rw [HG.out] <;> rfl)
              · show _ = _
                rw [← HQ.out, sd_right_go ltInt dk h1 (by rw [← HG.out, ← HG.out]; exact hL) (by rw [← HG.out, ← HG.out]; exact hS)]
      · have h1z : decide (2 * (root : Int) + 1 + 1 < (hi : Int)) = false := decide_eq_false (by omega)
        go_wp2_with fail
        go_big_quiet (first | (go_at_call 32; refine Calls.quiet_of_same (lessU_any _ _ _)))
        go_wp2_with fail
        revert nq; intro nq1
        have hcw2 : ∀ t, t < d.size → (wr.drewN nq1).cell? ⟨blk, off + t, none⟩ = some (.int .u32 (G t)) := hcw
        have hfw2 : ∀ t, t < d.size → (wr.drewN nq1).frozen? ⟨blk, off + t, none⟩ = false := hfw
        have HW2 : Hid (wr.drewN nq1 = RowW w blk off (n + nq1) dk) := by have h := HW.out; subst h; exact RowW.drewN _ _ _ _ _ _
        clear hcw hfw HW
        generalize wr.drewN nq1 = wr2 at hcw2 hfw2 HW2 ⊢
        have hcw := hcw2
        have hfw := hfw2
        have HW := HW2
        clear hcw2 hfw2 HW2
        cases hS : ltInt (G (first + root)) (G (first + 2 * root + 1))
        · go_wp2_with fail
          go_big_quiet (first | (go_at_call 32; refine Calls.quiet_of_same (lessU_any _ _ _)))
          go_wp2_with fail
          (try simp only [Exit.inBlock, Exit.then]); refine bodyPost_ret (results_none rfl _ _ _) rfl ?_
          refine ⟨rfl, (n + nq1) + nq, ?_⟩
          have h := HW.out
          rw [h, RowW.drewN, ← HQ.out, sd_left_stop ltInt dk (by omega) (fun h => absurd h h1) (by rw [← HG.out, ← HG.out]; exact hS)]
        · go_wp2_with fail
          go_big_quiet (first | (go_at_call 32; refine Calls.quiet_of_same (lessU_any _ _ _)))
          go_wp2_with fail
          revert nq; intro nq2
          have hcw2 : ∀ t, t < d.size → (wr2.drewN nq2).cell? ⟨blk, off + t, none⟩ = some (.int .u32 (G t)) := hcw
          have hfw2 : ∀ t, t < d.size → (wr2.drewN nq2).frozen? ⟨blk, off + t, none⟩ = false := hfw
          have HW2 : Hid (wr2.drewN nq2 = RowW w blk off ((n + nq1) + nq2) dk) := by have h := HW.out; subst h; exact RowW.drewN _ _ _ _ _ _
          clear hcw hfw HW
          generalize wr2.drewN nq2 = wr3 at hcw2 hfw2 HW2 ⊢
          have hcw := hcw2
          have hfw := hfw2
          have HW := HW2
          clear hcw2 hfw2 HW2
          go_region
          go_wp2
          go_roundg (hi - (2 * root + 1))
          case measure => omega
          case rel =>
            refine ⟨2 * root + 1, swp dk (first + root) (first + (2 * root + 1)), (n + nq1) + nq2 + 1, by simp <;> omega, by omega, Nat.le_refl _, by rw [size_swp]; exact hds, ?_, ?_⟩
            · show _ = _
              exact swap_world e32 (by omega) (by omega) HW.out (by rw [HG.out] <;> rfl) (by rw [HG.out] <;> rfl)
            · show _ = _
              rw [← HQ.out, sd_left_go ltInt dk (by omega) (fun h => absurd h h1) (by rw [← HG.out, ← HG.out]; exact hS)]

set_option maxRecDepth 1000000 in
set_option maxHeartbeats 8000000 in
theorem heapU_any (blk off cap a b : Nat) (d : Array Int) (w : World) (hH : Holds e32 w blk off d) (hab : a ≤ b) (hb : b ≤ d.size) (hsz : d.size < 4611686018427387904) :
    Calls Tryd.prog 27 #[.slice (some ⟨blk, off, none⟩) d.size cap, .int .i64 a, .int .i64 b] w fun e w' => e = .returned (.tuple #[]) ∧ ∃ n, w' = RowW w blk off n (heapSort ltInt d a b) := by
  have HH := Lib.hid hH
  clear hH
  have ecast : ((b - a : Nat) : Int) = (b : Int) - (a : Int) := by omega
  have EC := Lib.hid ecast
  clear ecast
  go_enter Tryd.func27, Tryd.ntmps27
  go_wp2
  go_loopg [9] ((b - a - 1) / 2 + 1) (fun k s9 wr => s9 = .int .i64 ((k : Int) - 1) ∧ k ≤ (b - a - 1) / 2 + 1 ∧ ∃ (dk : Array Int) (n : Nat), dk.size = d.size ∧ Hid (wr = RowW w blk off n dk) ∧ Hid (heapBuild ltInt (b - a) a k dk = heapBuild ltInt (b - a) a ((b - a - 1) / 2 + 1) d))
  case atStart => exact ⟨by first | rfl | rw [half_start hab] | (congr 1; omega), Nat.le_refl _, d, 0, rfl, (putRow_self e32 w blk off d HH.out).symm, rfl⟩
  case round =>
    obtain ⟨rfl, hkk, dk, n, hds, HW, HQ⟩ := hrel
    rename World => wr
    cases gk with
    | zero =>
      go_wp2
      go_loopg [10] (b - a) (fun k s10 wr2 => s10 = .int .i64 ((k : Int) - 1) ∧ k ≤ b - a ∧ ∃ (dj : Array Int) (n2 : Nat), dj.size = d.size ∧ Hid (wr2 = RowW w blk off n2 dj) ∧ Hid (heapPop ltInt a k dj = heapPop ltInt a (b - a) dk))
      case atStart => exact ⟨by rw [EC.out], Nat.le_refl _, dk, n, hds, HW.out, rfl⟩
      case round =>
        obtain ⟨rfl, hkk2, dj, n2, hdj, HW2, HQ2⟩ := hrel
        rename World => wx
        cases gk with
        | zero =>
          go_wp2
          go_end0
          refine ⟨rfl, n2, ?_⟩
          have e1 : heapBuild ltInt (b - a) a 0 dk = dk := rfl
          have e2 : heapPop ltInt a 0 dj = dj := rfl
          rw [HW2.out, heapSort, ← HQ.out, e1, ← HQ2.out, e2]
        | succ k =>
          obtain ⟨G, hG⟩ : ∃ G : Nat → Int, ∀ t, G t = dj[t]! := ⟨fun t => dj[t]!, fun _ => rfl⟩
          obtain ⟨hcw, hfw⟩ := rowcells (n := n2) HH.out hdj G hG
          rw [← HW2.out] at hcw hfw
          have HG := Lib.hid hG
          clear hG
          rcases Nat.eq_zero_or_pos k with hk0 | hkp
          · subst hk0
            go_wp2_with fail
            go_region
            go_wp2_with fail
            rw [swap_world e32 (i := a) (j := a) (by omega) (by omega) HW2.out (by rw [HG.out] <;> rfl) (by rw [HG.out] <;> rfl)]
            refine (siftU_any blk off d.size cap (swp dj a (a)) (by rw [size_swp]; exact hdj) 0 0 a _ (RowW.holds HH.out (by rw [size_swp]; exact hdj)) (Nat.zero_le _) (by rw [size_swp]; omega) (by rw [size_swp]; omega)).mono ?_
            rintro e w1 ⟨rfl, m, hw1⟩
            have HW1 := Lib.hid hw1
            clear hw1
            go_wp2
            go_roundg 0
            case measure => omega
            case rel =>
              have hss := size_siftDown ltInt 0 a _ 0 (swp dj a (a)) (Nat.le_refl _)
              refine ⟨by simp, by omega, siftDown ltInt 0 a 0 (swp dj a (a)), n2 + 1 + m, by rw [hss, size_swp]; exact hdj, ?_, HQ2.out⟩
              show _ = _
              have h := HW1.out
              rw [h]
              exact RowW.again w blk off (n2 + 1) m _ _ hss
          · skip
            go_wp2_with fail
            go_region
            go_wp2_with fail
            rw [swap_world e32 (i := a) (j := a + k) (by omega) (by omega) HW2.out (by rw [HG.out] <;> rfl) (by rw [HG.out] <;> rfl)]
            refine (siftU_any blk off d.size cap (swp dj a (a + k)) (by rw [size_swp]; exact hdj) 0 k a _ (RowW.holds HH.out (by rw [size_swp]; exact hdj)) (Nat.zero_le _) (by rw [size_swp]; omega) (by rw [size_swp]; omega)).mono ?_
            rintro e w1 ⟨rfl, m, hw1⟩
            have HW1 := Lib.hid hw1
            clear hw1
            go_wp2
            go_roundg k
            case measure => omega
            case rel =>
              have hss := size_siftDown ltInt k a _ 0 (swp dj a (a + k)) (Nat.le_refl _)
              refine ⟨by simp, by omega, siftDown ltInt k a 0 (swp dj a (a + k)), n2 + 1 + m, by rw [hss, size_swp]; exact hdj, ?_, HQ2.out⟩
              show _ = _
              have h := HW1.out
              rw [h]
              exact RowW.again w blk off (n2 + 1) m _ _ hss
    | succ k =>
      have hcall := siftU_any blk off d.size cap dk hds k (b - a) a wr (by have h := HW.out; rw [h]; exact RowW.holds HH.out hds) (by omega) (by omega) (by omega)
      rw [EC.out] at hcall
      have HC := Lib.hid hcall
      clear hcall
      go_wp2_with (go_at_call 51; refine HC.out.mono ?_; rintro e w1 ⟨rfl, m, hw1⟩)
      go_roundg k
      case measure => omega
      case rel =>
        have hss := size_siftDown ltInt (b - a) a _ k dk (Nat.le_refl _)
        refine ⟨by simp, by omega, siftDown ltInt (b - a) a k dk, n + m, by rw [hss]; exact hds, ?_, HQ.out⟩
        show _ = _
        have h := HW.out
        first
          | (rw [hw1, h]; exact RowW.again w blk off n m _ _ hss)
          | (rw [h]; exact RowW.again w blk off n m _ _ hss)
end Go.Proofs.YthgmmajoinkblaaDoor

/-
  Walks of the library's sort at numbers of 32 bits: the choice of a pivot (written by wip/gen/genpq3.py).
-/
namespace Go.Proofs.YthgmmajoinkblaaDoor
open Go Go.RowKit Go.Sort

/-- The world in which the counter of swaps says t. -/
abbrev CntW (w : World) (sb n t : Nat) : World := putRow (Value.int .i64) (Sort.ahead w n) sb 0 (one t)
theorem CntW.again (w : World) (sb n m s t : Nat) : CntW (CntW w sb n s) sb m t = CntW w sb (n + m) t := one_one _ _ _ _ _ _ _
theorem aside32 {w : World} {blk off sb n t : Nat} {d : Array Int} (h : Holds e32 w blk off d) (hne : sb ≠ blk) : Holds e32 (CntW w sb n t) blk off d := fun j hj =>
  ⟨by rw [cell?_putRow_other _ _ _ _ _ _ (Or.inl (Ne.symm hne))]; exact (h j hj).1, by rw [frozen?_putRow]; exact (h j hj).2⟩
set_option maxHeartbeats 1000000 in
theorem order2U_any (d : Array Int) (blk off cap a b sb s : Nat) (w : World) (hH : Holds e32 w blk off d) (ha : a < d.size) (hb : b < d.size) (hS : Holds (Value.int .i64) w sb 0 (one s)) (hs : s < 4611686018427387904) :
    Calls Tryd.prog 65 #[.slice (some ⟨blk, off, none⟩) d.size cap, .int .i64 a, .int .i64 b, .pointer (some ⟨sb, 0, none⟩)] w fun e w' =>
      e = .returned (.tuple #[.int .i64 (order2 ltInt d a b s).1, .int .i64 (order2 ltInt d a b s).2.1]) ∧ ∃ n, w' = CntW w sb n (order2 ltInt d a b s).2.2 := by
  have ca := (hH a ha).1
  have cb := (hH b hb).1
  obtain ⟨cs, fs⟩ := one_cell hS
  have ea : d[a]! = d[a] := getElem!_pos d a ha
  have eb : d[b]! = d[b] := getElem!_pos d b hb
  have HS := Lib.hid hS
  clear hS hH
  cases hlt : ltInt d[b] d[a]
  · have e2 : order2 ltInt d a b s = (a, b, s) := by simp [order2, ea, eb, hlt]
    have E2 := Lib.hid e2
    clear e2
    go_enter Tryd.func65, Tryd.ntmps65
    go_wp2
    go_region_with (go_at_call 32; refine (lessU_any _ _ _).mono ?_; rintro e w' ⟨rfl, rfl⟩)
    all_goals (try go_wp2)
    all_goals (go_ret2; rw [E2.out]; refine ⟨rfl, 1, ?_⟩; rw [CntW, putRow_ahead, putRow_self _ _ _ _ _ HS.out]; rfl)
  · have e2 : order2 ltInt d a b s = (b, a, s + 1) := by simp [order2, ea, eb, hlt]
    have E2 := Lib.hid e2
    clear e2
    go_enter Tryd.func65, Tryd.ntmps65
    go_wp2
    go_region_with (go_at_call 32; refine (lessU_any _ _ _).mono ?_; rintro e w' ⟨rfl, rfl⟩)
    all_goals (try go_wp2)
    all_goals (go_ret2; rw [E2.out]; refine ⟨rfl, 1, ?_⟩; rw [CntW, putRow_ahead, ← one_set HS.out (s + 1)]; simp [drew_eq_ahead])
set_option maxRecDepth 100000 in
set_option maxHeartbeats 1000000 in
theorem medianU_any (d : Array Int) (blk off cap a b c sb s : Nat) (w : World) (hH : Holds e32 w blk off d) (ha : a < d.size) (hb : b < d.size) (hc : c < d.size) (hne : sb ≠ blk) (hS : Holds (Value.int .i64) w sb 0 (one s)) (hs : s + 3 < 4611686018427387904) :
    Calls Tryd.prog 55 #[.slice (some ⟨blk, off, none⟩) d.size cap, .int .i64 a, .int .i64 b, .int .i64 c, .pointer (some ⟨sb, 0, none⟩)] w fun e w' =>
      e = .returned (.int .i64 (median ltInt d a b c s).1) ∧ ∃ n, w' = CntW w sb n (median ltInt d a b c s).2 := by
  obtain ⟨x1, y1, t1, h1⟩ : ∃ x1 y1 t1, order2 ltInt d a b s = (x1, y1, t1) := ⟨_, _, _, rfl⟩
  obtain ⟨x2, y2, t2, h2⟩ : ∃ x2 y2 t2, order2 ltInt d y1 c t1 = (x2, y2, t2) := ⟨_, _, _, rfl⟩
  obtain ⟨x3, y3, t3, h3⟩ : ∃ x3 y3 t3, order2 ltInt d x1 x2 t2 = (x3, y3, t3) := ⟨_, _, _, rfl⟩
  have hm : median ltInt d a b c s = (y3, t3) := by simp only [median, h1, h2, h3]
  have l1 := order2_lt d s ha hb
  have s1 := order2_swaps d a b s
  rw [h1] at l1 s1
  simp only [] at l1 s1
  have l2 := order2_lt d t1 l1.2 hc
  have s2 := order2_swaps d y1 c t1
  rw [h2] at l2 s2
  simp only [] at l2 s2
  have c1 := order2U_any d blk off cap a b sb s w hH ha hb hS (by omega)
  have c2 : ∀ n, _ := fun n => order2U_any d blk off cap y1 c sb t1 (CntW w sb n t1) (aside32 hH hne) l1.2 hc (holds_one hS) (by omega)
  have c3 : ∀ n, _ := fun n => order2U_any d blk off cap x1 x2 sb t2 (CntW w sb n t2) (aside32 hH hne) l1.1 l2.1 (holds_one hS) (by omega)
  rw [h1] at c1
  simp only [h2] at c2
  simp only [h3] at c3
  have C1 := Lib.hid c1
  have C2 := Lib.hid c2
  have C3 := Lib.hid c3
  rw [hm]
  clear c1 c2 c3 h1 h2 h3 hm hH hS
  go_enter Tryd.func55, Tryd.ntmps55
  go_wp2_with fail
  refine C1.out.mono ?_
  rintro e w' ⟨rfl, n1, rfl⟩
  go_wp2_with fail
  refine (C2.out n1).mono ?_
  rintro e w' ⟨rfl, n2, hw2⟩
  rw [CntW.again] at hw2
  subst hw2
  go_wp2_with fail
  refine (C3.out (n1 + n2)).mono ?_
  rintro e w' ⟨rfl, n3, hw3⟩
  rw [CntW.again] at hw3
  subst hw3
  go_wp2_with fail
  go_ret
  exact ⟨rfl, n1 + n2 + n3, rfl⟩
set_option maxRecDepth 100000 in
set_option maxHeartbeats 1000000 in
theorem medianAdjU_any (d : Array Int) (blk off cap a sb s : Nat) (w : World) (hH : Holds e32 w blk off d) (ha0 : 1 ≤ a) (ha : a + 1 < d.size) (hsz : d.size < 4611686018427387904) (hne : sb ≠ blk) (hS : Holds (Value.int .i64) w sb 0 (one s)) (hs : s + 3 < 4611686018427387904) :
    Calls Tryd.prog 54 #[.slice (some ⟨blk, off, none⟩) d.size cap, .int .i64 a, .pointer (some ⟨sb, 0, none⟩)] w fun e w' =>
      e = .returned (.int .i64 (medianAdjacent ltInt d a s).1) ∧ ∃ n, w' = CntW w sb n (medianAdjacent ltInt d a s).2 := by
  have c1 := medianU_any d blk off cap (a - 1) a (a + 1) sb s w hH (by omega) (by omega) ha hne hS hs
  have C1 := Lib.hid c1
  clear c1 hH hS
  go_enter Tryd.func54, Tryd.ntmps54
  go_wp2_with fail
  rw [show ((a : Int) - 1) = ((a - 1 : Nat) : Int) by omega, show ((a : Int) + 1) = ((a + 1 : Nat) : Int) by omega]
  refine C1.out.mono ?_
  rintro e w' ⟨rfl, n, rfl⟩
  go_wp2_with fail
  go_ret
  exact ⟨rfl, n, rfl⟩

set_option maxRecDepth 100000 in
set_option maxHeartbeats 4000000 in
theorem pivotU_any (blk off cap a b : Nat) (d : Array Int) (w : World) (hH : Holds e32 w blk off d) (hblk : blk < w.heap.size) (hab : a < b) (hb : b ≤ d.size) (hsz : d.size < 4611686018427387904) :
    Calls Tryd.prog 29 #[.slice (some ⟨blk, off, none⟩) d.size cap, .int .i64 a, .int .i64 b] w fun e w' =>
      e = .returned (.tuple #[.int .i64 (choosePivot ltInt d a b).1, .int .i64 (hintCode (choosePivot ltInt d a b).2)]) ∧ ∃ n os, w' = grow (Sort.ahead w n) os := by
  have hne : w.heap.size ≠ blk := by omega
  obtain ⟨W0, hW0⟩ : ∃ W0, W0 = w.alloc (.cells #[.int .i64 0] 3) := ⟨_, rfl⟩
  have hH0 : Holds e32 W0 blk off d := by rw [hW0, alloc_eq_grow]; exact holds_grow _ _ _ _ _ _ hblk hH
  have hS0 : Holds (Value.int .i64) W0 w.heap.size 0 (one 0) := fun j hj => by
    obtain rfl : j = 0 := by simpa using hj
    rw [hW0]
    simp
  have hGr : ∀ N S : Nat, ∃ n os, CntW W0 w.heap.size N S = grow (Sort.ahead w n) os := fun N S => by
    rw [hW0, CntW, alloc_eq_grow, ahead_grow]
    obtain ⟨os, _, h⟩ := putRow_grow_new (Value.int .i64) (Sort.ahead w N) #[.cells #[.int .i64 0] 3] w.heap.size 0 (one S) (Nat.le_refl _)
    exact ⟨N, os, h⟩
  have hcs : ∀ N S : Nat, (CntW W0 w.heap.size N S).cell? ⟨w.heap.size, 0, none⟩ = some (.int .i64 (S : Int)) := fun N S => (one_cell (holds_one (n := N) (t := S) hS0)).1
  have h00 : W0 = CntW W0 w.heap.size 0 0 := (putRow_self _ _ _ _ _ hS0).symm
  have MA : ∀ (x s N : Nat), 1 ≤ x → x + 1 < d.size → s + 3 < 4611686018427387904 → Calls Tryd.prog 54 #[.slice (some ⟨blk, off, none⟩) d.size cap, .int .i64 (x : Int), .pointer (some ⟨w.heap.size, 0, none⟩)] (CntW W0 w.heap.size N s) fun e w' => e = .returned (.int .i64 ((medianAdjacent ltInt d x s).1 : Int)) ∧ ∃ N', w' = CntW W0 w.heap.size N' (medianAdjacent ltInt d x s).2 := fun x s N h1 h2 h3 =>
    (medianAdjU_any d blk off cap x w.heap.size s _ (aside32 hH0 hne) h1 h2 hsz hne (holds_one hS0) h3).mono fun _ _ ⟨he, n, hw⟩ => ⟨he, N + n, by rw [hw, CntW.again]⟩
  have MD : ∀ (x y z s N : Nat), x < d.size → y < d.size → z < d.size → s + 3 < 4611686018427387904 → Calls Tryd.prog 55 #[.slice (some ⟨blk, off, none⟩) d.size cap, .int .i64 (x : Int), .int .i64 (y : Int), .int .i64 (z : Int), .pointer (some ⟨w.heap.size, 0, none⟩)] (CntW W0 w.heap.size N s) fun e w' => e = .returned (.int .i64 ((median ltInt d x y z s).1 : Int)) ∧ ∃ N', w' = CntW W0 w.heap.size N' (median ltInt d x y z s).2 := fun x y z s N h1 h2 h3 h4 =>
    (medianU_any d blk off cap x y z w.heap.size s _ (aside32 hH0 hne) h1 h2 h3 hne (holds_one hS0) h4).mono fun _ _ ⟨he, n, hw⟩ => ⟨he, N + n, by rw [hw, CntW.again]⟩
  have HG := Lib.hid hGr
  have HC := Lib.hid hcs
  obtain ⟨Wc, hWc⟩ : ∃ Wc : Nat → Nat → World, Wc = fun N S => CntW W0 w.heap.size N S := ⟨_, rfl⟩
  have e0 : w.alloc (.cells #[.int .i64 0] 3) = Wc 0 0 := by rw [hWc, ← hW0]; exact h00
  have hG : ∀ N S, ∃ n os, Wc N S = grow (Sort.ahead w n) os := by rw [hWc]; exact hGr
  have hC : ∀ N S, (Wc N S).cell? ⟨w.heap.size, 0, none⟩ = some (.int .i64 (S : Int)) := by rw [hWc]; exact hcs
  replace MA : ∀ (x s N : Nat), 1 ≤ x → x + 1 < d.size → s + 3 < 4611686018427387904 → Calls Tryd.prog 54 #[.slice (some ⟨blk, off, none⟩) d.size cap, .int .i64 (x : Int), .pointer (some ⟨w.heap.size, 0, none⟩)] (Wc N s) fun e w' => e = .returned (.int .i64 ((medianAdjacent ltInt d x s).1 : Int)) ∧ ∃ N', w' = Wc N' (medianAdjacent ltInt d x s).2 := by rw [hWc]; exact MA
  replace MD : ∀ (x y z s N : Nat), x < d.size → y < d.size → z < d.size → s + 3 < 4611686018427387904 → Calls Tryd.prog 55 #[.slice (some ⟨blk, off, none⟩) d.size cap, .int .i64 (x : Int), .int .i64 (y : Int), .int .i64 (z : Int), .pointer (some ⟨w.heap.size, 0, none⟩)] (Wc N s) fun e w' => e = .returned (.int .i64 ((median ltInt d x y z s).1 : Int)) ∧ ∃ N', w' = Wc N' (median ltInt d x y z s).2 := by rw [hWc]; exact MD
  clear hWc hW0 hH0 hS0 hGr hcs h00 hH HG HC
  have MAh := Lib.hid MA
  have MDh := Lib.hid MD
  clear MA MD
  rw [choosePivot_eq]
  obtain ⟨I, hI⟩ : ∃ I : Nat, I = a + (b - a) / 4 * 1 := ⟨_, rfl⟩
  obtain ⟨J, hJ⟩ : ∃ J : Nat, J = a + (b - a) / 4 * 2 := ⟨_, rfl⟩
  obtain ⟨K, hK⟩ : ∃ K : Nat, K = a + (b - a) / 4 * 3 := ⟨_, rfl⟩
  have eI : ((a : Int) + ((b : Int) - (a : Int)) / 4) = (I : Int) := by omega
  have eJ : ((a : Int) + ((b : Int) - (a : Int)) / 4 * 2) = (J : Int) := by omega
  have eK : ((a : Int) + ((b : Int) - (a : Int)) / 4 * 3) = (K : Int) := by omega
  by_cases h8 : b - a ≥ 8
  · have h8z : (8 : Int) ≤ (b : Int) - (a : Int) := by omega
    by_cases h50 : b - a ≥ 50
    · have h50z : (50 : Int) ≤ (b : Int) - (a : Int) := by omega
      obtain ⟨i1, s1, h1⟩ : ∃ i1 s1, medianAdjacent ltInt d I 0 = (i1, s1) := ⟨_, _, rfl⟩
      obtain ⟨j1, s2, h2⟩ : ∃ j1 s2, medianAdjacent ltInt d J s1 = (j1, s2) := ⟨_, _, rfl⟩
      obtain ⟨k1, s3, h3⟩ : ∃ k1 s3, medianAdjacent ltInt d K s2 = (k1, s3) := ⟨_, _, rfl⟩
      obtain ⟨p, s, h4⟩ : ∃ p s, median ltInt d i1 j1 k1 s3 = (p, s) := ⟨_, _, rfl⟩
      have hraw : rawPivot ltInt d a b = (p, s) := by simp only [rawPivot, if_pos h8, if_pos h50, ← hI, ← hJ, ← hK, h1, h2, h3, h4]
      have m1 := medianAdjacent_mem ltInt d I 0; rw [h1] at m1
      have m2 := medianAdjacent_mem ltInt d J s1; rw [h2] at m2
      have m3 := medianAdjacent_mem ltInt d K s2; rw [h3] at m3
      have n1 := medianAdjacent_count ltInt d I 0; rw [h1] at n1
      have n2 := medianAdjacent_count ltInt d J s1; rw [h2] at n2
      have n3 := medianAdjacent_count ltInt d K s2; rw [h3] at n3
      simp only [] at m1 m2 m3 n1 n2 n3
      have c1 := MAh.out I 0 0 (by omega) (by omega) (by omega)
      have c2 : ∀ N, _ := fun N => MAh.out J s1 N (by omega) (by omega) (by omega)
      have c3 : ∀ N, _ := fun N => MAh.out K s2 N (by omega) (by omega) (by omega)
      have c4 : ∀ N, _ := fun N => MDh.out i1 j1 k1 s3 N (by omega) (by omega) (by omega) (by omega)
      rw [h1] at c1
      simp only [h2] at c2
      simp only [h3] at c3
      simp only [h4] at c4
      have C1 := Lib.hid c1
      have C2 := Lib.hid c2
      have C3 := Lib.hid c3
      have C4 := Lib.hid c4
      rw [hraw]
      show Calls Tryd.prog _ _ w fun e w' => e = .returned (.tuple #[.int .i64 (p : Int), .int .i64 (hintCode (hintOf s))]) ∧ ∃ n os, w' = grow (Sort.ahead w n) os
      clear h1 h2 h3 h4 hI hJ hK m1 m2 m3 c1 c2 c3 c4 n1 n2 n3 hraw
      go_enter Tryd.func29, Tryd.ntmps29
      go_wp2_with fail
      refine C1.out.mono ?_
      rintro e w' ⟨rfl, N1, rfl⟩
      go_wp2_with fail
      refine (C2.out _).mono ?_
      rintro e w' ⟨rfl, N2, rfl⟩
      go_wp2_with fail
      refine (C3.out _).mono ?_
      rintro e w' ⟨rfl, N3, rfl⟩
      go_wp2_with fail
      refine (C4.out _).mono ?_
      rintro e w' ⟨rfl, N4, rfl⟩
      rcases Nat.eq_zero_or_pos s with hs0 | hs0
      · subst hs0
        have hz : ((0 : Nat) : Int) = 0 := rfl
        go_wp2_with fail
        go_ret2
        exact ⟨rfl, hG _ _⟩
      · have hz : ((s : Int) == 0) = false := by simp; omega
        by_cases h12 : s = 12
        · subst h12
          go_wp2_with fail
          go_ret2
          exact ⟨rfl, hG _ _⟩
        · have hz2 : ((s : Int) == 12) = false := by simp; omega
          have hint : hintOf s = .unknown := by unfold hintOf; rw [if_neg (by omega), if_neg h12]
          go_wp2_with fail
          go_ret2
          exact ⟨by rw [hint]; rfl, hG _ _⟩
    · have h50z : ¬ (50 : Int) ≤ (b : Int) - (a : Int) := by omega
      obtain ⟨p, s, h4⟩ : ∃ p s, median ltInt d I J K 0 = (p, s) := ⟨_, _, rfl⟩
      have hraw : rawPivot ltInt d a b = (p, s) := by simp only [rawPivot, if_pos h8, if_neg h50, ← hI, ← hJ, ← hK, h4]
      have c4 := MDh.out I J K 0 0 (by omega) (by omega) (by omega) (by omega)
      rw [h4] at c4
      have C4 := Lib.hid c4
      rw [hraw]
      show Calls Tryd.prog _ _ w fun e w' => e = .returned (.tuple #[.int .i64 (p : Int), .int .i64 (hintCode (hintOf s))]) ∧ ∃ n os, w' = grow (Sort.ahead w n) os
      clear h4 hI hJ hK c4 hraw
      go_enter Tryd.func29, Tryd.ntmps29
      go_wp2_with fail
      refine C4.out.mono ?_
      rintro e w' ⟨rfl, N4, rfl⟩
      rcases Nat.eq_zero_or_pos s with hs0 | hs0
      · subst hs0
        have hz : ((0 : Nat) : Int) = 0 := rfl
        go_wp2_with fail
        go_ret2
        exact ⟨rfl, hG _ _⟩
      · have hz : ((s : Int) == 0) = false := by simp; omega
        by_cases h12 : s = 12
        · subst h12
          go_wp2_with fail
          go_ret2
          exact ⟨rfl, hG _ _⟩
        · have hz2 : ((s : Int) == 12) = false := by simp; omega
          have hint : hintOf s = .unknown := by unfold hintOf; rw [if_neg (by omega), if_neg h12]
          go_wp2_with fail
          go_ret2
          exact ⟨by rw [hint]; rfl, hG _ _⟩
  · have h8z : ¬ (8 : Int) ≤ (b : Int) - (a : Int) := by omega
    have hraw : rawPivot ltInt d a b = (J, 0) := by simp only [rawPivot, if_neg h8, ← hJ]
    rw [hraw]
    show Calls Tryd.prog _ _ w fun e w' => e = .returned (.tuple #[.int .i64 (J : Int), .int .i64 (hintCode (hintOf 0))]) ∧ ∃ n os, w' = grow (Sort.ahead w n) os
    clear hI hJ hK hraw
    go_enter Tryd.func29, Tryd.ntmps29
    go_wp2_with fail
    go_ret2
    exact ⟨rfl, hG _ _⟩
end Go.Proofs.YthgmmajoinkblaaDoor
