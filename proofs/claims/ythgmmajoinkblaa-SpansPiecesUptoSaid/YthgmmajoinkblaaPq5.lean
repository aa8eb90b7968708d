/-
  Walks of the library's sort at numbers of 32 bits: the short insertion, the broken patterns (written by wip/gen/genpq5.py).
-/
import Derived.Test.YthgmmajoinkblaaPq4
import Derived.Test.YthgmmajoinkblaaShelf6
import Derived.Sort.WalkA6
import Derived.Sort.Walk7
namespace Go.Proofs.Ythgmmajoinkblaa
open Go Go.RowKit Go.Sort

theorem size_sd {α : Type} [Inhabited α] (lt : α → α → Bool) : ∀ (j : Nat) (d : Array α), (shiftDown lt j d).size = d.size
  | 0, d => by rw [shiftDown]
  | j + 1, d => by
    rw [shiftDown]
    split
    · rfl
    · rw [size_sd lt j]; exact size_swp _ _ _
theorem size_su {α : Type} [Inhabited α] (lt : α → α → Bool) (b : Nat) : ∀ (n j : Nat) (d : Array α), b - j ≤ n → (shiftUp lt b j d).size = d.size
  | 0, j, d, h => by rw [shiftUp, if_neg (by omega)]
  | n + 1, j, d, h => by
    rw [shiftUp]
    split
    · split
      · rfl
      · rw [size_su lt b n (j + 1) _ (by omega)]; exact size_swp _ _ _
    · rfl
set_option maxRecDepth 1000000 in
set_option maxHeartbeats 8000000 in
theorem partialU_any (blk off cap a b : Nat) (d : Array Int) (w : World) (hH : Holds e32 w blk off d) (hab : a < b) (hb : b ≤ d.size) (hsz : d.size < 4611686018427387904) :
    Calls Try.prog 75 #[.slice (some ⟨blk, off, none⟩) d.size cap, .int .i64 a, .int .i64 b] w fun e w' =>
      e = .returned (.bool (partialInsertionSort ltInt d a b).2) ∧ ∃ n, w' = RowW w blk off n (partialInsertionSort ltInt d a b).1 := by
  have HH := Lib.hid hH
  have HW0 : Hid (w = RowW w blk off 0 d) := (putRow_self _ _ _ _ _ hH).symm
  clear hH
  go_enter Try.func75, Try.ntmps75
  go_wp2_with fail
  go_loopw [7, 8] (fun vi vs wr => ∃ (i s n : Nat) (dk : Array Int), vi = .int .i64 i ∧ vs = .int .i64 s ∧ a < i ∧ i ≤ b ∧ s ≤ 5 ∧ dk.size = d.size ∧ Hid (wr = RowW w blk off n dk) ∧ Hid (partialIns ltInt a b (5 - s) i dk = partialIns ltInt a b 5 (a + 1) d)) (fun _ vs _ => 5 - (intOf vs).toNat)
  case atStart => exact ⟨a + 1, 0, 0, d, by go_num, rfl, by omega, by omega, by omega, rfl, HW0.out, rfl⟩
  case round =>
    obtain ⟨i, s, n, dk, rfl, rfl, hai, hib, hs5, hds, HW, HE⟩ := hrel
    rename World => wr
    by_cases hs : s < 5
    · have hI5 : (s : Int) < 5 := by omega
      go_upto_block 2 with fail
      go_cut [7] (fun v wx => ∃ k n2 : Nat, v = .int .i64 k ∧ i ≤ k ∧ k ≤ b ∧ Hid (k = scanSorted ltInt dk b i) ∧ Hid (wx = RowW w blk off n2 dk))
      case first =>
        go_wp2_with fail
        go_loopw [7] (fun v wx => ∃ k n2 : Nat, v = .int .i64 k ∧ i ≤ k ∧ k ≤ b ∧ Hid (wx = RowW w blk off n2 dk) ∧ Hid (scanSorted ltInt dk b k = scanSorted ltInt dk b i)) (fun v _ => b - (intOf v).toNat)
        case atStart => exact ⟨i, n, rfl, Nat.le_refl _, hib, HW.out, rfl⟩
        case round =>
          obtain ⟨k, n2, rfl, hik, hkb, HWx, HS⟩ := hrel
          rename World => wx
          obtain ⟨G, hG⟩ : ∃ G : Nat → Int, ∀ t, G t = dk[t]! := ⟨fun t => dk[t]!, fun _ => rfl⟩
          obtain ⟨hcw, hfw⟩ := rowcells (n := n2) HH.out hds G hG
          rw [← HWx.out] at hcw hfw
          have HG := Lib.hid hG
          clear hG
          by_cases hlt : k < b
          · have hI : (k : Int) < (b : Int) := by omega
            cases ht : ltInt (G k) (G (k - 1))
            · go_wp2_with fail
              go_big_quiet (first | (go_at_call 76; refine Calls.quiet_of_same (lessU_any _ _ _)))
              go_wp2_with fail
              go_roundw
              case rel => exact ⟨k + 1, n2 + nq, by go_num, by omega, by omega, RowW.step HWx nq, (scanSorted_go ltInt dk b k hlt (by rw [← HG.out, ← HG.out]; exact ht)).symm.trans HS.out⟩
              case measure => simp [intOf]; omega
            · go_wp2_with fail
              go_big_quiet (first | (go_at_call 76; refine Calls.quiet_of_same (lessU_any _ _ _)))
              go_wp2_with fail
              go_meet
              exact ⟨k, n2 + nq, rfl, hik, hkb, (scanSorted_stop ltInt dk b k (Or.inr (by rw [← HG.out, ← HG.out]; exact ht))).symm.trans HS.out, RowW.step HWx nq⟩
          · have hI : ¬ (k : Int) < (b : Int) := by omega
            go_wp2_with fail
            go_big_quiet (first | (go_at_call 76; refine Calls.quiet_of_same (lessU_any _ _ _)))
            go_wp2_with fail
            go_meet
            exact ⟨k, n2 + nq, rfl, hik, hkb, (scanSorted_stop ltInt dk b k (Or.inl hlt)).symm.trans HS.out, RowW.step HWx nq⟩
      case rest =>
        obtain ⟨k, n2, rfl, hik, hkb, HK, HW2⟩ := hcut
        by_cases hkb2 : k = b
        · subst hkb2
          have hq : ((k : Int) == (k : Int)) = true := by simp
          have e := pi_true ltInt a k s i dk hs HK.out.symm
          have e2 : partialInsertionSort ltInt d a k = (dk, true) := by unfold Sort.partialInsertionSort; rw [← HE.out, e]
          have E2 := Lib.hid e2
          clear e e2
          go_wp2_with fail
          go_ret
          exact ⟨by rw [E2.out] <;> rfl, n2, by rw [E2.out]; exact HW2.out⟩
        · have hq : ((k : Int) == (b : Int)) = false := by simp; omega
          by_cases h50 : b - a < 50
          · have hI : (b : Int) - (a : Int) < 50 := by omega
            have e := pi_short ltInt a b s i dk hs (by rw [← HK.out]; exact hkb2) h50
            have e2 : partialInsertionSort ltInt d a b = (dk, false) := by unfold Sort.partialInsertionSort; rw [← HE.out, e]
            have E2 := Lib.hid e2
            clear e e2
            go_wp2_with fail
            go_ret
            exact ⟨by rw [E2.out] <;> rfl, n2, by rw [E2.out]; exact HW2.out⟩
          · have hI : ¬ (b : Int) - (a : Int) < 50 := by omega
            have e := pi_go ltInt a b s i k dk hs HK.out.symm hkb2 h50
            have E := Lib.hid e
            clear e HK
            rename World => wc
            go_upto_region 11 with fail
            go_cut [] (fun wx => Hid (wx = RowW w blk off (n2 + 1) (swp dk k (k - 1))))
            case first =>
              obtain ⟨G, hG⟩ : ∃ G : Nat → Int, ∀ t, G t = dk[t]! := ⟨fun t => dk[t]!, fun _ => rfl⟩
              obtain ⟨hcw, hfw⟩ := rowcells (n := n2) HH.out hds G hG
              rw [← HW2.out] at hcw hfw
              have HG := Lib.hid hG
              clear hG
              go_region
              all_goals (go_wp2_with fail; go_meet)
              all_goals (show _ = _; exact swap_world e32 (by omega) (by omega) HW2.out (by rw [HG.out] <;> rfl) (by rw [HG.out] <;> rfl))
            case rest =>
              have HC := hcut
              clear hcut
              have hs1 : (swp dk k (k - 1)).size = d.size := by rw [size_swp]; exact hds
              obtain ⟨D, hD⟩ : ∃ D, D = swp dk k (k - 1) := ⟨_, rfl⟩
              rw [← hD] at HC hs1 E
              clear hD HW2 HW hds
              go_upto_if 61 with fail
              go_cut [] (fun wx => ∃ n3, Hid (wx = RowW w blk off n3 (fixDown ltInt a k D)))
              case first =>
                by_cases h2 : k - a ≥ 2
                · have hI2 : (2 : Int) ≤ (k : Int) - (a : Int) := by omega
                  have efx : fixDown ltInt a k D = shiftDown ltInt (k - 1) D := by unfold fixDown; rw [if_pos h2]
                  go_wp2_with fail
                  go_loopw [9] (fun v wx => ∃ (j n3 : Nat) (dj : Array Int), v = .int .i64 j ∧ j < k ∧ dj.size = d.size ∧ Hid (wx = RowW w blk off n3 dj) ∧ Hid (shiftDown ltInt j dj = shiftDown ltInt (k - 1) D)) (fun v _ => (intOf v).toNat)
                  case atStart => exact ⟨k - 1, n2 + 1, D, by go_num, by omega, hs1, HC.out, rfl⟩
                  case round =>
                    obtain ⟨j, n3, dj, rfl, hjk, hsj, HWx, HS⟩ := hrel
                    rename World => wx
                    by_cases hj : 1 ≤ j
                    · have hIj : (1 : Int) ≤ (j : Int) := by omega
                      obtain ⟨G, hG⟩ : ∃ G : Nat → Int, ∀ t, G t = dj[t]! := ⟨fun t => dj[t]!, fun _ => rfl⟩
                      obtain ⟨hcw, hfw⟩ := rowcells (n := n3) HH.out hsj G hG
                      rw [← HWx.out] at hcw hfw
                      have HG := Lib.hid hG
                      clear hG
                      cases ht : ltInt (G j) (G (j - 1))
                      · go_wp2_with fail
                        go_big_quiet (first | (go_at_call 76; refine Calls.quiet_of_same (lessU_any _ _ _)))
                        go_wp2_with fail
                        go_meet
                        exact ⟨n3 + nq, by rw [efx, ← HS.out, shiftDown_stop ltInt j dj (Or.inr (by rw [← HG.out, ← HG.out]; exact ht))]; exact RowW.step HWx nq⟩
                      · go_wp2_with fail
                        go_big_quiet (first | (go_at_call 76; refine Calls.quiet_of_same (lessU_any _ _ _)))
                        go_wp2_with fail
                        revert nq; intro nq1
                        have hcw2 : ∀ t, t < d.size → (wx.drewN nq1).cell? ⟨blk, off + t, none⟩ = some (.int .u32 (G t)) := hcw
                        have hfw2 : ∀ t, t < d.size → (wx.drewN nq1).frozen? ⟨blk, off + t, none⟩ = false := hfw
                        have HW9 := RowW.step HWx nq1
                        clear hcw hfw HWx
                        generalize wx.drewN nq1 = wy at hcw2 hfw2 HW9 ⊢
                        have hcw := hcw2
                        have hfw := hfw2
                        have HWx := HW9
                        clear hcw2 hfw2 HW9
                        go_region
                        all_goals go_wp2_with fail
                        go_roundw
                        case rel =>
                          refine ⟨j - 1, n3 + nq1 + 1, swp dj j (j - 1), by go_num, by omega, by rw [size_swp]; exact hsj, ?_, ?_⟩
                          · show _ = _
                            exact swap_world e32 (by omega) (by omega) HWx.out (by rw [HG.out] <;> rfl) (by rw [HG.out] <;> rfl)
                          · show _ = _
                            rw [← HS.out]; exact (shiftDown_go ltInt j dj hj (by rw [← HG.out, ← HG.out]; exact ht)).symm
                        case measure => simp [intOf]; omega
                    · have hIj : ¬ (1 : Int) ≤ (j : Int) := by omega
                      go_wp2_with fail
                      go_meet
                      exact ⟨n3, by rw [efx, ← HS.out, shiftDown_stop ltInt j dj (Or.inl (by omega))]; exact HWx.out⟩
                · have hI2 : ¬ (2 : Int) ≤ (k : Int) - (a : Int) := by omega
                  have efx : fixDown ltInt a k D = D := by unfold fixDown; rw [if_neg h2]
                  go_wp2_with fail
                  go_meet
                  exact ⟨n2 + 1, by rw [efx]; exact HC.out⟩
              case rest =>
                obtain ⟨n3, HC3⟩ := hcut
                have hs2 : (fixDown ltInt a k D).size = d.size := by
                  unfold fixDown
                  split
                  · rw [size_sd]; exact hs1
                  · exact hs1
                obtain ⟨D2, hD2⟩ : ∃ D2, D2 = fixDown ltInt a k D := ⟨_, rfl⟩
                rw [← hD2] at HC3 hs2 E
                clear hD2 HC hs1
                have hs3 : (fixUp ltInt b k D2).size = d.size := by
                  unfold fixUp
                  split
                  · rw [size_su _ _ _ _ _ (Nat.le_refl _)]; exact hs2
                  · exact hs2
                have HS3 := Lib.hid hs3
                clear hs3
                by_cases h2 : b - k ≥ 2
                · have hI2 : (2 : Int) ≤ (b : Int) - (k : Int) := by omega
                  have efx : fixUp ltInt b k D2 = shiftUp ltInt b (k + 1) D2 := by unfold fixUp; rw [if_pos h2]
                  go_wp2_with fail
                  go_loopw [10] (fun v wx => ∃ (j n4 : Nat) (dj : Array Int), v = .int .i64 j ∧ k < j ∧ dj.size = d.size ∧ Hid (wx = RowW w blk off n4 dj) ∧ Hid (shiftUp ltInt b j dj = shiftUp ltInt b (k + 1) D2)) (fun v _ => b - (intOf v).toNat)
                  case atStart => exact ⟨k + 1, n3, D2, by go_num, by omega, hs2, HC3.out, rfl⟩
                  case round =>
                    obtain ⟨j, n4, dj, rfl, hjk, hsj, HWx, HS⟩ := hrel
                    rename World => wx
                    by_cases hj : j < b
                    · have hIj : (j : Int) < (b : Int) := by omega
                      obtain ⟨G, hG⟩ : ∃ G : Nat → Int, ∀ t, G t = dj[t]! := ⟨fun t => dj[t]!, fun _ => rfl⟩
                      obtain ⟨hcw, hfw⟩ := rowcells (n := n4) HH.out hsj G hG
                      rw [← HWx.out] at hcw hfw
                      have HG := Lib.hid hG
                      clear hG
                      cases ht : ltInt (G j) (G (j - 1))
                      · go_wp2_with fail
                        go_big_quiet (first | (go_at_call 76; refine Calls.quiet_of_same (lessU_any _ _ _)))
                        go_wp2_with fail
                        go_roundw
                        case rel => exact ⟨k, s + 1, n4 + nq, fixUp ltInt b k D2, rfl, by go_num, by omega, by omega, by omega, HS3.out, (by rw [efx, ← HS.out, shiftUp_stop ltInt b j dj (Or.inr (by rw [← HG.out, ← HG.out]; exact ht))]; exact RowW.step HWx nq : Hid _), E.out.symm.trans HE.out⟩
                        case measure => simp [intOf]; omega
                      · go_wp2_with fail
                        go_big_quiet (first | (go_at_call 76; refine Calls.quiet_of_same (lessU_any _ _ _)))
                        go_wp2_with fail
                        revert nq; intro nq1
                        have hcw2 : ∀ t, t < d.size → (wx.drewN nq1).cell? ⟨blk, off + t, none⟩ = some (.int .u32 (G t)) := hcw
                        have hfw2 : ∀ t, t < d.size → (wx.drewN nq1).frozen? ⟨blk, off + t, none⟩ = false := hfw
                        have HW9 := RowW.step HWx nq1
                        clear hcw hfw HWx
                        generalize wx.drewN nq1 = wy at hcw2 hfw2 HW9 ⊢
                        have hcw := hcw2
                        have hfw := hfw2
                        have HWx := HW9
                        clear hcw2 hfw2 HW9
                        go_region
                        all_goals go_wp2_with fail
                        go_roundw
                        case rel =>
                          refine ⟨j + 1, n4 + nq1 + 1, swp dj j (j - 1), by go_num, by omega, by rw [size_swp]; exact hsj, ?_, ?_⟩
                          · show _ = _
                            exact swap_world e32 (by omega) (by omega) HWx.out (by rw [HG.out] <;> rfl) (by rw [HG.out] <;> rfl)
                          · show _ = _
                            rw [← HS.out]; exact (shiftUp_go ltInt b j dj hj (by rw [← HG.out, ← HG.out]; exact ht)).symm
                        case measure => simp [intOf]; omega
                    · have hIj : ¬ (j : Int) < (b : Int) := by omega
                      go_wp2_with fail
                      go_roundw
                      case rel => exact ⟨k, s + 1, n4, fixUp ltInt b k D2, rfl, by go_num, by omega, by omega, by omega, HS3.out, (by rw [efx, ← HS.out, shiftUp_stop ltInt b j dj (Or.inl hj)]; exact HWx.out : Hid _), E.out.symm.trans HE.out⟩
                      case measure => simp [intOf]; omega
                · have hI2 : ¬ (2 : Int) ≤ (b : Int) - (k : Int) := by omega
                  have efx : fixUp ltInt b k D2 = D2 := by unfold fixUp; rw [if_neg h2]
                  go_wp2_with fail
                  go_roundw
                  case rel => exact ⟨k, s + 1, n3, fixUp ltInt b k D2, rfl, by go_num, by omega, by omega, by omega, HS3.out, (by rw [efx]; exact HC3.out : Hid _), E.out.symm.trans HE.out⟩
                  case measure => simp [intOf]; omega
    · obtain rfl : s = 5 := by omega
      have hI5 : ¬ (5 : Int) < 5 := by omega
      have e2 : partialInsertionSort ltInt d a b = (dk, false) := by unfold Sort.partialInsertionSort; rw [← HE.out, pi_end]
      have E2 := Lib.hid e2
      clear e2
      go_wp2_with fail
      go_ret
      exact ⟨by rw [E2.out] <;> rfl, n, by rw [E2.out]; exact HW.out⟩
end Go.Proofs.Ythgmmajoinkblaa
