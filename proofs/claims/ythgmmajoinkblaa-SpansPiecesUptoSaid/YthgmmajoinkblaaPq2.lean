/-
  Walks of the library's sort at numbers of 32 bits: a range turned about, the heap (written by wip/gen/genpq2.py).
-/
import Derived.Test.YthgmmajoinkblaaPq1
import Derived.Sort.WalkB12
import Derived.Sort.WalkB3
namespace Go.Proofs.Ythgmmajoinkblaa
open Go Go.RowKit Go.Sort

/-- The row still holds what it was given. -/
theorem RowW.holds {w : World} {blk off n : Nat} {d0 d : Array Int} (hH : Holds e32 w blk off d0) (hs : d.size = d0.size) : Holds e32 (RowW w blk off n d) blk off d := holds_putRow e32 _ blk off d0 d (holds_ahead e32 w n blk off d0 hH) hs
theorem RowW.drewN (w : World) (blk off n q : Nat) (d : Array Int) : (RowW w blk off n d).drewN q = RowW w blk off (n + q) d := putRow_drewN _ _ _ _ _ _ _
theorem RowW.again (w : World) (blk off n q : Nat) (d d' : Array Int) (h : d'.size = d.size) : RowW (RowW w blk off n d) blk off q d' = RowW w blk off (n + q) d' := putRow_ahead_putRow e32 w n q blk off _ _ h

set_option maxRecDepth 100000 in
set_option maxHeartbeats 4000000 in
theorem reverseU_any (blk off cap a b : Nat) (d : Array Int) (w : World) (hH : Holds e32 w blk off d) (hab : a ≤ b) (hb : b ≤ d.size) (hsz : d.size < 4611686018427387904) :
    Calls Try.prog 74 #[.slice (some ⟨blk, off, none⟩) d.size cap, .int .i64 a, .int .i64 b] w fun e w' => e = .returned (.tuple #[]) ∧ ∃ n, w' = RowW w blk off n (reverseRange d a b) := by
  have HH := Lib.hid hH
  clear hH
  go_enter Try.func74, Try.ntmps74
  go_wp2
  go_loopg [6, 7] (b - a) (fun k s6 s7 wr => ∃ (i jn : Nat) (jz : Int) (dk : Array Int) (n : Nat), s6 = .int .i64 i ∧ s7 = .int .i64 jz ∧ ((i : Int) < jz → jz = jn ∧ jn < d.size) ∧ (¬ (i : Int) < jz → ¬ i < jn) ∧ jn - i ≤ k ∧ dk.size = d.size ∧ Hid (wr = RowW w blk off n dk) ∧ Hid (reverseLoop i jn dk = reverseLoop a (b - 1) d))
  case atStart => exact ⟨a, b - 1, (b : Int) - 1, d, 0, rfl, rfl, fun h => ⟨by omega, by omega⟩, fun h => by omega, by omega, rfl, (putRow_self e32 w blk off d HH.out).symm, rfl⟩
  case round =>
    obtain ⟨i, jn, jz, dk, n, rfl, rfl, h1, h2, hk, hds, HW, HQ⟩ := hrel
    rename World => wr
    by_cases hlt : (i : Int) < jz
    · obtain ⟨rfl, hjn⟩ := h1 hlt
      have hij : i < jn := by omega
      obtain ⟨G, hG⟩ : ∃ G : Nat → Int, ∀ t, G t = dk[t]! := ⟨fun t => dk[t]!, fun _ => rfl⟩
      obtain ⟨hcw, hfw⟩ := rowcells (n := n) HH.out hds G hG
      rw [← HW.out] at hcw hfw
      have HG := Lib.hid hG
      clear hG h1 h2
      go_wp2_with fail
      go_region
      go_wp2
      go_roundg (jn - 1 - (i + 1))
      case measure => omega
      case rel =>
        refine ⟨i + 1, jn - 1, (jn : Int) - 1, swp dk i jn, n + 1, by simp, rfl, fun h => ⟨by omega, by omega⟩, fun h => by omega, Nat.le_refl _, by rw [size_swp]; exact hds, ?_, ?_⟩
        · show _ = _
          exact swap_world e32 (by omega) (by omega) HW.out (by rw [HG.out] <;> rfl) (by rw [HG.out] <;> rfl)
        · show _ = _
          rw [← HQ.out]
          exact (show reverseLoop i jn dk = _ by rw [reverseLoop, if_pos hij]).symm
    · have hnot := h2 hlt
      go_wp2
      go_end0
      refine ⟨rfl, n, ?_⟩
      rw [HW.out, reverseRange, ← HQ.out, reverseLoop, if_neg hnot]

set_option maxRecDepth 1000000 in
set_option maxHeartbeats 8000000 in
theorem siftU_any (blk off len cap : Nat) (d : Array Int) (hlen : d.size = len) (lo hi first : Nat) (w : World) (hH : Holds e32 w blk off d) (hlo : lo ≤ hi) (hb : first + hi ≤ d.size) (hsz : d.size < 4611686018427387904) :
    Calls Try.prog 92 #[.slice (some ⟨blk, off, none⟩) len cap, .int .i64 lo, .int .i64 hi, .int .i64 first] w fun e w' => e = .returned (.tuple #[]) ∧ ∃ n, w' = RowW w blk off n (siftDown ltInt hi first lo d) := by
  subst hlen
  have HH := Lib.hid hH
  clear hH
  go_enter Try.func92, Try.ntmps92
  go_wp2
  go_loopg [8] (hi - lo) (fun k s8 wr => ∃ (root : Nat) (dk : Array Int) (n : Nat), s8 = .int .i64 root ∧ root ≤ hi ∧ hi - root ≤ k ∧ dk.size = d.size ∧ Hid (wr = RowW w blk off n dk) ∧ Hid (siftDown ltInt hi first root dk = siftDown ltInt hi first lo d))
  case atStart => exact ⟨lo, d, 0, rfl, hlo, Nat.le_refl _, rfl, (putRow_self e32 w blk off d HH.out).symm, rfl⟩
  case round =>
    obtain ⟨root, dk, n, rfl, hr, hk, hds, HW, HQ⟩ := hrel
    rename World => wr
    by_cases h0 : hi ≤ 2 * root + 1
    · have h0z : (hi : Int) ≤ 2 * (root : Int) + 1 := by omega
      go_wp2
      go_end0
      refine ⟨rfl, n, ?_⟩
      rw [HW.out, ← HQ.out, sd_end ltInt dk h0]
    · have h0z : ¬ ((hi : Int) ≤ 2 * (root : Int) + 1) := by omega
      obtain ⟨G, hG⟩ : ∃ G : Nat → Int, ∀ t, G t = dk[t]! := ⟨fun t => dk[t]!, fun _ => rfl⟩
      obtain ⟨hcw, hfw⟩ := rowcells (n := n) HH.out hds G hG
      rw [← HW.out] at hcw hfw
      have HG := Lib.hid hG
      clear hG
      by_cases h1 : 2 * root + 2 < hi
      · have h1z : 2 * (root : Int) + 1 + 1 < (hi : Int) := by omega
        cases hL : ltInt (G (first + 2 * root + 1)) (G (first + 2 * root + 2))
        · go_wp2_with fail
          go_big_quiet (first | (go_at_call 76; refine Calls.quiet_of_same (lessU_any _ _ _)))
          go_wp2_with fail
          revert nq; intro nq1
          have hcw2 : ∀ t, t < d.size → (wr.drewN nq1).cell? ⟨blk, off + t, none⟩ = some (.int .u32 (G t)) := hcw
          have hfw2 : ∀ t, t < d.size → (wr.drewN nq1).frozen? ⟨blk, off + t, none⟩ = false := hfw
          have HW2 : Hid (wr.drewN nq1 = RowW w blk off (n + nq1) dk) := by have h := HW.out; subst h; exact RowW.drewN _ _ _ _ _ _
          clear hcw hfw HW
          generalize wr.drewN nq1 = wr2 at hcw2 hfw2 HW2 ⊢
          have hcw := hcw2
          have hfw := hfw2
          have HW := HW2
          clear hcw2 hfw2 HW2
          cases hS : ltInt (G (first + root)) (G (first + 2 * root + 1))
          · go_wp2_with fail
            go_big_quiet (first | (go_at_call 76; refine Calls.quiet_of_same (lessU_any _ _ _)))
            go_wp2_with fail
            (try simp only [Exit.inBlock, Exit.then]); refine bodyPost_ret (results_none rfl _ _ _) rfl ?_
            refine ⟨rfl, (n + nq1) + nq, ?_⟩
            have h := HW.out
            rw [h, RowW.drewN, ← HQ.out, sd_left_stop ltInt dk (by omega) (fun _ => (by rw [← HG.out, ← HG.out]; exact hL)) (by rw [← HG.out, ← HG.out]; exact hS)]
          · go_wp2_with fail
            go_big_quiet (first | (go_at_call 76; refine Calls.quiet_of_same (lessU_any _ _ _)))
            go_wp2_with fail
            revert nq; intro nq2
            have hcw2 : ∀ t, t < d.size → (wr2.drewN nq2).cell? ⟨blk, off + t, none⟩ = some (.int .u32 (G t)) := hcw
            have hfw2 : ∀ t, t < d.size → (wr2.drewN nq2).frozen? ⟨blk, off + t, none⟩ = false := hfw
            have HW2 : Hid (wr2.drewN nq2 = RowW w blk off ((n + nq1) + nq2) dk) := by have h := HW.out; subst h; exact RowW.drewN _ _ _ _ _ _
            clear hcw hfw HW
            generalize wr2.drewN nq2 = wr3 at hcw2 hfw2 HW2 ⊢
            have hcw := hcw2
            have hfw := hfw2
            have HW := HW2
            clear hcw2 hfw2 HW2
            go_region
            go_wp2
            go_roundg (hi - (2 * root + 1))
            case measure => omega
            case rel =>
              refine ⟨2 * root + 1, swp dk (first + root) (first + (2 * root + 1)), (n + nq1) + nq2 + 1, by simp <;> omega, by omega, Nat.le_refl _, by rw [size_swp]; exact hds, ?_, ?_⟩
              · show _ = _
                exact swap_world e32 (by omega) (by omega) HW.out (by rw [HG.out] <;> rfl) (by rw [HG.out] <;> rfl)
              · show _ = _
                rw [← HQ.out, sd_left_go ltInt dk (by omega) (fun _ => (by rw [← HG.out, ← HG.out]; exact hL)) (by rw [← HG.out, ← HG.out]; exact hS)]
        · go_wp2_with fail
          go_big_quiet (first | (go_at_call 76; refine Calls.quiet_of_same (lessU_any _ _ _)))
          go_wp2_with fail
          revert nq; intro nq1
          have hcw2 : ∀ t, t < d.size → (wr.drewN nq1).cell? ⟨blk, off + t, none⟩ = some (.int .u32 (G t)) := hcw
          have hfw2 : ∀ t, t < d.size → (wr.drewN nq1).frozen? ⟨blk, off + t, none⟩ = false := hfw
          have HW2 : Hid (wr.drewN nq1 = RowW w blk off (n + nq1) dk) := by have h := HW.out; subst h; exact RowW.drewN _ _ _ _ _ _
          clear hcw hfw HW
          generalize wr.drewN nq1 = wr2 at hcw2 hfw2 HW2 ⊢
          have hcw := hcw2
          have hfw := hfw2
          have HW := HW2
          clear hcw2 hfw2 HW2
          cases hS : ltInt (G (first + root)) (G (first + 2 * root + 2))
          · go_wp2_with fail
            go_big_quiet (first | (go_at_call 76; refine Calls.quiet_of_same (lessU_any _ _ _)))
            go_wp2_with fail
            (try simp only [Exit.inBlock, Exit.then]); refine bodyPost_ret (results_none rfl _ _ _) rfl ?_
            refine ⟨rfl, (n + nq1) + nq, ?_⟩
            have h := HW.out
            rw [h, RowW.drewN, ← HQ.out, sd_right_stop ltInt dk h1 (by rw [← HG.out, ← HG.out]; exact hL) (by rw [← HG.out, ← HG.out]; exact hS)]
          · go_wp2_with fail
            go_big_quiet (first | (go_at_call 76; refine Calls.quiet_of_same (lessU_any _ _ _)))
            go_wp2_with fail
            revert nq; intro nq2
            have hcw2 : ∀ t, t < d.size → (wr2.drewN nq2).cell? ⟨blk, off + t, none⟩ = some (.int .u32 (G t)) := hcw
            have hfw2 : ∀ t, t < d.size → (wr2.drewN nq2).frozen? ⟨blk, off + t, none⟩ = false := hfw
            have HW2 : Hid (wr2.drewN nq2 = RowW w blk off ((n + nq1) + nq2) dk) := by have h := HW.out; subst h; exact RowW.drewN _ _ _ _ _ _
            clear hcw hfw HW
            generalize wr2.drewN nq2 = wr3 at hcw2 hfw2 HW2 ⊢
            have hcw := hcw2
            have hfw := hfw2
            have HW := HW2
            clear hcw2 hfw2 HW2
            go_region
            go_wp2
            go_roundg (hi - (2 * root + 2))
            case measure => omega
            case rel =>
              refine ⟨2 * root + 2, swp dk (first + root) (first + (2 * root + 2)), (n + nq1) + nq2 + 1, by simp <;> omega, by omega, Nat.le_refl _, by rw [size_swp]; exact hds, ?_, ?_⟩
              · show _ = _
                exact swap_world e32 (by omega) (by omega) HW.out (by rw [HG.out] <;> rfl) (by rw [HG.out] <;> rfl)
              · show _ = _
                rw [← HQ.out, sd_right_go ltInt dk h1 (by rw [← HG.out, ← HG.out]; exact hL) (by rw [← HG.out, ← HG.out]; exact hS)]
      · have h1z : decide (2 * (root : Int) + 1 + 1 < (hi : Int)) = false := decide_eq_false (by omega)
        go_wp2_with fail
        go_big_quiet (first | (go_at_call 76; refine Calls.quiet_of_same (lessU_any _ _ _)))
        go_wp2_with fail
        revert nq; intro nq1
        have hcw2 : ∀ t, t < d.size → (wr.drewN nq1).cell? ⟨blk, off + t, none⟩ = some (.int .u32 (G t)) := hcw
        have hfw2 : ∀ t, t < d.size → (wr.drewN nq1).frozen? ⟨blk, off + t, none⟩ = false := hfw
        have HW2 : Hid (wr.drewN nq1 = RowW w blk off (n + nq1) dk) := by have h := HW.out; subst h; exact RowW.drewN _ _ _ _ _ _
        clear hcw hfw HW
        generalize wr.drewN nq1 = wr2 at hcw2 hfw2 HW2 ⊢
        have hcw := hcw2
        have hfw := hfw2
        have HW := HW2
        clear hcw2 hfw2 HW2
        cases hS : ltInt (G (first + root)) (G (first + 2 * root + 1))
        · go_wp2_with fail
          go_big_quiet (first | (go_at_call 76; refine Calls.quiet_of_same (lessU_any _ _ _)))
          go_wp2_with fail
          (try simp only [Exit.inBlock, Exit.then]); refine bodyPost_ret (results_none rfl _ _ _) rfl ?_
          refine ⟨rfl, (n + nq1) + nq, ?_⟩
          have h := HW.out
          rw [h, RowW.drewN, ← HQ.out, sd_left_stop ltInt dk (by omega) (fun h => absurd h h1) (by rw [← HG.out, ← HG.out]; exact hS)]
        · go_wp2_with fail
          go_big_quiet (first | (go_at_call 76; refine Calls.quiet_of_same (lessU_any _ _ _)))
          go_wp2_with fail
          revert nq; intro nq2
          have hcw2 : ∀ t, t < d.size → (wr2.drewN nq2).cell? ⟨blk, off + t, none⟩ = some (.int .u32 (G t)) := hcw
          have hfw2 : ∀ t, t < d.size → (wr2.drewN nq2).frozen? ⟨blk, off + t, none⟩ = false := hfw
          have HW2 : Hid (wr2.drewN nq2 = RowW w blk off ((n + nq1) + nq2) dk) := by have h := HW.out; subst h; exact RowW.drewN _ _ _ _ _ _
          clear hcw hfw HW
          generalize wr2.drewN nq2 = wr3 at hcw2 hfw2 HW2 ⊢
          have hcw := hcw2
          have hfw := hfw2
          have HW := HW2
          clear hcw2 hfw2 HW2
          go_region
          go_wp2
          go_roundg (hi - (2 * root + 1))
          case measure => omega
          case rel =>
            refine ⟨2 * root + 1, swp dk (first + root) (first + (2 * root + 1)), (n + nq1) + nq2 + 1, by simp <;> omega, by omega, Nat.le_refl _, by rw [size_swp]; exact hds, ?_, ?_⟩
            · show _ = _
              exact swap_world e32 (by omega) (by omega) HW.out (by rw [HG.out] <;> rfl) (by rw [HG.out] <;> rfl)
            · show _ = _
              rw [← HQ.out, sd_left_go ltInt dk (by omega) (fun h => absurd h h1) (by rw [← HG.out, ← HG.out]; exact hS)]

set_option maxRecDepth 1000000 in
set_option maxHeartbeats 8000000 in
theorem heapU_any (blk off cap a b : Nat) (d : Array Int) (w : World) (hH : Holds e32 w blk off d) (hab : a ≤ b) (hb : b ≤ d.size) (hsz : d.size < 4611686018427387904) :
    Calls Try.prog 71 #[.slice (some ⟨blk, off, none⟩) d.size cap, .int .i64 a, .int .i64 b] w fun e w' => e = .returned (.tuple #[]) ∧ ∃ n, w' = RowW w blk off n (heapSort ltInt d a b) := by
  have HH := Lib.hid hH
  clear hH
  have ecast : ((b - a : Nat) : Int) = (b : Int) - (a : Int) := by omega
  have EC := Lib.hid ecast
  clear ecast
  go_enter Try.func71, Try.ntmps71
  go_wp2
  go_loopg [9] ((b - a - 1) / 2 + 1) (fun k s9 wr => s9 = .int .i64 ((k : Int) - 1) ∧ k ≤ (b - a - 1) / 2 + 1 ∧ ∃ (dk : Array Int) (n : Nat), dk.size = d.size ∧ Hid (wr = RowW w blk off n dk) ∧ Hid (heapBuild ltInt (b - a) a k dk = heapBuild ltInt (b - a) a ((b - a - 1) / 2 + 1) d))
  case atStart => exact ⟨by first | rfl | rw [half_start hab] | (congr 1; omega), Nat.le_refl _, d, 0, rfl, (putRow_self e32 w blk off d HH.out).symm, rfl⟩
  case round =>
    obtain ⟨rfl, hkk, dk, n, hds, HW, HQ⟩ := hrel
    rename World => wr
    cases gk with
    | zero =>
      go_wp2
      go_loopg [10] (b - a) (fun k s10 wr2 => s10 = .int .i64 ((k : Int) - 1) ∧ k ≤ b - a ∧ ∃ (dj : Array Int) (n2 : Nat), dj.size = d.size ∧ Hid (wr2 = RowW w blk off n2 dj) ∧ Hid (heapPop ltInt a k dj = heapPop ltInt a (b - a) dk))
      case atStart => exact ⟨by rw [EC.out], Nat.le_refl _, dk, n, hds, HW.out, rfl⟩
      case round =>
        obtain ⟨rfl, hkk2, dj, n2, hdj, HW2, HQ2⟩ := hrel
        rename World => wx
        cases gk with
        | zero =>
          go_wp2
          go_end0
          refine ⟨rfl, n2, ?_⟩
          have e1 : heapBuild ltInt (b - a) a 0 dk = dk := rfl
          have e2 : heapPop ltInt a 0 dj = dj := rfl
          rw [HW2.out, heapSort, ← HQ.out, e1, ← HQ2.out, e2]
        | succ k =>
          obtain ⟨G, hG⟩ : ∃ G : Nat → Int, ∀ t, G t = dj[t]! := ⟨fun t => dj[t]!, fun _ => rfl⟩
          obtain ⟨hcw, hfw⟩ := rowcells (n := n2) HH.out hdj G hG
          rw [← HW2.out] at hcw hfw
          have HG := Lib.hid hG
          clear hG
          rcases Nat.eq_zero_or_pos k with hk0 | hkp
          · subst hk0
            go_wp2_with fail
            go_region
            go_wp2_with fail
            rw [swap_world e32 (i := a) (j := a) (by omega) (by omega) HW2.out (by rw [HG.out] <;> rfl) (by rw [HG.out] <;> rfl)]
            refine (siftU_any blk off d.size cap (swp dj a (a)) (by rw [size_swp]; exact hdj) 0 0 a _ (RowW.holds HH.out (by rw [size_swp]; exact hdj)) (Nat.zero_le _) (by rw [size_swp]; omega) (by rw [size_swp]; omega)).mono ?_
            rintro e w1 ⟨rfl, m, hw1⟩
            have HW1 := Lib.hid hw1
            clear hw1
            go_wp2
            go_roundg 0
            case measure => omega
            case rel =>
              have hss := size_siftDown ltInt 0 a _ 0 (swp dj a (a)) (Nat.le_refl _)
              refine ⟨by simp, by omega, siftDown ltInt 0 a 0 (swp dj a (a)), n2 + 1 + m, by rw [hss, size_swp]; exact hdj, ?_, HQ2.out⟩
              show _ = _
              have h := HW1.out
              rw [h]
              exact RowW.again w blk off (n2 + 1) m _ _ hss
          · skip
            go_wp2_with fail
            go_region
            go_wp2_with fail
            rw [swap_world e32 (i := a) (j := a + k) (by omega) (by omega) HW2.out (by rw [HG.out] <;> rfl) (by rw [HG.out] <;> rfl)]
            refine (siftU_any blk off d.size cap (swp dj a (a + k)) (by rw [size_swp]; exact hdj) 0 k a _ (RowW.holds HH.out (by rw [size_swp]; exact hdj)) (Nat.zero_le _) (by rw [size_swp]; omega) (by rw [size_swp]; omega)).mono ?_
            rintro e w1 ⟨rfl, m, hw1⟩
            have HW1 := Lib.hid hw1
            clear hw1
            go_wp2
            go_roundg k
            case measure => omega
            case rel =>
              have hss := size_siftDown ltInt k a _ 0 (swp dj a (a + k)) (Nat.le_refl _)
              refine ⟨by simp, by omega, siftDown ltInt k a 0 (swp dj a (a + k)), n2 + 1 + m, by rw [hss, size_swp]; exact hdj, ?_, HQ2.out⟩
              show _ = _
              have h := HW1.out
              rw [h]
              exact RowW.again w blk off (n2 + 1) m _ _ hss
    | succ k =>
      have hcall := siftU_any blk off d.size cap dk hds k (b - a) a wr (by have h := HW.out; rw [h]; exact RowW.holds HH.out hds) (by omega) (by omega) (by omega)
      rw [EC.out] at hcall
      have HC := Lib.hid hcall
      clear hcall
      go_wp2_with (go_at_call 92; refine HC.out.mono ?_; rintro e w1 ⟨rfl, m, hw1⟩)
      go_roundg k
      case measure => omega
      case rel =>
        have hss := size_siftDown ltInt (b - a) a _ k dk (Nat.le_refl _)
        refine ⟨by simp, by omega, siftDown ltInt (b - a) a k dk, n + m, by rw [hss]; exact hds, ?_, HQ.out⟩
        show _ = _
        have h := HW.out
        first
          | (rw [hw1, h]; exact RowW.again w blk off n m _ _ hss)
          | (rw [h]; exact RowW.again w blk off n m _ _ hss)
end Go.Proofs.Ythgmmajoinkblaa
