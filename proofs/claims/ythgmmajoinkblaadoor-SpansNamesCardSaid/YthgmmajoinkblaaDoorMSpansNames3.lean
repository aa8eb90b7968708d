/-
  Joined texts: Pq4, Pq5, Pq5b.
-/
import Derived.Test.YthgmmajoinkblaaDoorMSpansNames2
import Derived.Sort.WalkC
import Derived.Sort.WalkC4
import Derived.Deep.CutBlock
import Derived.Deep.DeepCutAuto
import Derived.Test.YthgmmajoinkblaaDoorShelf6
import Derived.Sort.WalkA6
import Derived.Sort.Walk7
import Derived.Shelf.SlSortCmp.Xorshift
/-
  Walks of the library's sort at numbers of 32 bits: the two partitions (written by wip/gen/genpq4.py).
-/
namespace Go.Proofs.YthgmmajoinkblaaDoor
open Go Go.RowKit Go.Sort

theorem RowW.step {w W : World} {blk off n : Nat} {d : Array Int} (h : Hid (W = RowW w blk off n d)) (q : Nat) : Hid (W.drewN q = RowW w blk off (n + q) d) := by
  have h' := h.out
  show _ = _
  rw [h']
  exact RowW.drewN _ _ _ _ _ _

set_option maxRecDepth 1000000 in
set_option maxHeartbeats 8000000 in
theorem partEqU_any (blk off cap a b pivot : Nat) (d : Array Int) (w : World) (hH : Holds e32 w blk off d) (hap : a ≤ pivot) (hpb : pivot < b) (hb : b ≤ d.size) (hsz : d.size < 4611686018427387904) :
    Calls Tryd.prog 33 #[.slice (some ⟨blk, off, none⟩) d.size cap, .int .i64 a, .int .i64 b, .int .i64 pivot] w fun e w' =>
      e = .returned (.int .i64 (partitionEqual ltInt d a b pivot).1) ∧ ∃ n, w' = RowW w blk off n (partitionEqual ltInt d a b pivot).2 := by
  have HH := Lib.hid hH
  have HW0 : Hid (w = RowW w blk off 0 d) := (putRow_self _ _ _ _ _ hH).symm
  clear hH
  obtain ⟨G, hG⟩ : ∃ G : Nat → Int, ∀ t, G t = d[t]! := ⟨fun t => d[t]!, fun _ => rfl⟩
  obtain ⟨hcw, hfw⟩ := rowcells (n := 0) HH.out rfl G hG
  rw [← HW0.out] at hcw hfw
  have HG := Lib.hid hG
  clear hG
  go_enter Tryd.func33, Tryd.ntmps33
  go_upto_region 1 with fail
  go_cut [] (fun wx => Hid (wx = RowW w blk off 1 (swp d a pivot)))
  case first =>
    by_cases hpa : pivot = a
    · subst hpa
      go_region
      all_goals (go_wp2_with fail; go_meet)
      all_goals (show _ = _; exact swap_world e32 (by omega) (by omega) HW0.out (by rw [HG.out] <;> rfl) (by rw [HG.out] <;> rfl))
    · go_region
      all_goals (go_wp2_with fail; go_meet)
      all_goals (show _ = _; exact swap_world e32 (by omega) (by omega) HW0.out (by rw [HG.out] <;> rfl) (by rw [HG.out] <;> rfl))
  case rest =>
    have HC := hcut
    clear hcut hcw hfw HG
    have hs1 : (swp d a pivot).size = d.size := size_swp _ _ _
    go_wp2_with fail
    go_loopw [9, 10] (fun vi vj wr => ∃ (i j n : Nat) (dk : Array Int), vi = .int .i64 i ∧ vj = .int .i64 j ∧ a < i ∧ i ≤ j + 1 ∧ j < b ∧ dk.size = d.size ∧ Hid (wr = RowW w blk off n dk) ∧ Hid (partEqLoop ltInt a i j dk = partEqLoop ltInt a (a + 1) (b - 1) (swp d a pivot))) (fun vi vj _ => (intOf vj).toNat + 1 - (intOf vi).toNat)
    case atStart => exact ⟨a + 1, b - 1, 1, swp d a pivot, by go_num, by go_num, by omega, by omega, by omega, hs1, HC.out, rfl⟩
    case round =>
      clear HC hs1
      obtain ⟨i, j, n, dk, rfl, rfl, hai, hij, hjb, hds, HW, HE⟩ := hrel
      rename World => wr
      go_upto_block 2 with fail
      go_cut [9] (fun v wx => ∃ i2 n2 : Nat, v = .int .i64 i2 ∧ i ≤ i2 ∧ i2 ≤ j + 1 ∧ Hid (i2 = scanUp (fun x => !ltInt dk[a]! x) dk j i) ∧ Hid (wx = RowW w blk off n2 dk))
      case first =>
        go_wp2_with fail
        go_loopw [9] (fun v wx => ∃ i2 n2 : Nat, v = .int .i64 i2 ∧ i ≤ i2 ∧ i2 ≤ j + 1 ∧ Hid (wx = RowW w blk off n2 dk) ∧ Hid (scanUp (fun x => !ltInt dk[a]! x) dk j i2 = scanUp (fun x => !ltInt dk[a]! x) dk j i)) (fun v _ => j + 1 - (intOf v).toNat)
        case atStart => exact ⟨i, n, rfl, Nat.le_refl _, by omega, HW.out, rfl⟩
        case round =>
          obtain ⟨i2, n2, rfl, hb1, hb2, HWx, HS⟩ := hrel
          rename World => wx
          obtain ⟨G, hG⟩ : ∃ G : Nat → Int, ∀ t, G t = dk[t]! := ⟨fun t => dk[t]!, fun _ => rfl⟩
          obtain ⟨hcw, hfw⟩ := rowcells (n := n2) HH.out hds G hG
          rw [← HWx.out] at hcw hfw
          have HG := Lib.hid hG
          clear hG
          by_cases hle : i2 ≤ j
          · have hI : (i2 : Int) ≤ (j : Int) := by omega
            cases ht : ltInt (G a) (G i2)
            · go_wp2_with fail
              go_big_quiet (first | (go_at_call 32; refine Calls.quiet_of_same (lessU_any _ _ _)))
              go_wp2_with fail
              go_roundw
              case rel => exact ⟨i2 + 1, n2 + nq, by go_num, by omega, by omega, RowW.step HWx nq, (scanUp_go (fun x => !ltInt dk[a]! x) dk j i2 hle (by show (!ltInt dk[a]! dk[i2]!) = true; rw [← HG.out, ← HG.out, ht]; rfl)).symm.trans HS.out⟩
              case measure => simp [intOf]; omega
            · go_wp2_with fail
              go_big_quiet (first | (go_at_call 32; refine Calls.quiet_of_same (lessU_any _ _ _)))
              go_wp2_with fail
              go_meet
              exact ⟨i2, n2 + nq, rfl, hb1, hb2, (scanUp_end (fun x => !ltInt dk[a]! x) dk j i2 (Or.inr (by show (!ltInt dk[a]! dk[i2]!) = false; rw [← HG.out, ← HG.out, ht]; rfl))).symm.trans HS.out, RowW.step HWx nq⟩
          · have hI : ¬ (i2 : Int) ≤ (j : Int) := by omega
            go_wp2_with fail
            go_big_quiet (first | (go_at_call 32; refine Calls.quiet_of_same (lessU_any _ _ _)))
            go_wp2_with fail
            go_meet
            exact ⟨i2, n2 + nq, rfl, hb1, hb2, (scanUp_end (fun x => !ltInt dk[a]! x) dk j i2 (Or.inl hle)).symm.trans HS.out, RowW.step HWx nq⟩
      case rest =>
        obtain ⟨i2, n2, rfl, hb1, hb2, HI, HW2⟩ := hcut
        go_upto_block 4 with fail
        go_cut [10] (fun v wx => ∃ j2 n2 : Nat, v = .int .i64 j2 ∧ j2 ≤ j ∧ i2 ≤ j2 + 1 ∧ Hid (j2 = scanDown (fun x => ltInt dk[a]! x) dk i2 j) ∧ Hid (wx = RowW w blk off n2 dk))
        case first =>
          go_wp2_with fail
          go_loopw [10] (fun v wx => ∃ j2 n2 : Nat, v = .int .i64 j2 ∧ j2 ≤ j ∧ i2 ≤ j2 + 1 ∧ Hid (wx = RowW w blk off n2 dk) ∧ Hid (scanDown (fun x => ltInt dk[a]! x) dk i2 j2 = scanDown (fun x => ltInt dk[a]! x) dk i2 j)) (fun v _ => (intOf v).toNat)
          case atStart => exact ⟨j, n2, rfl, Nat.le_refl _, by omega, HW2.out, rfl⟩
          case round =>
            obtain ⟨j2, n2, rfl, hb1, hb2, HWx, HS⟩ := hrel
            rename World => wx
            obtain ⟨G, hG⟩ : ∃ G : Nat → Int, ∀ t, G t = dk[t]! := ⟨fun t => dk[t]!, fun _ => rfl⟩
            obtain ⟨hcw, hfw⟩ := rowcells (n := n2) HH.out hds G hG
            rw [← HWx.out] at hcw hfw
            have HG := Lib.hid hG
            clear hG
            by_cases hle : i2 ≤ j2
            · have hI : (i2 : Int) ≤ (j2 : Int) := by omega
              cases ht : ltInt (G a) (G j2)
              · go_wp2_with fail
                go_big_quiet (first | (go_at_call 32; refine Calls.quiet_of_same (lessU_any _ _ _)))
                go_wp2_with fail
                go_meet
                exact ⟨j2, n2 + nq, rfl, hb1, hb2, (scanDown_end (fun x => ltInt dk[a]! x) dk i2 j2 (Or.inr (by show ltInt dk[a]! dk[j2]! = false; rw [← HG.out, ← HG.out, ht]))).symm.trans HS.out, RowW.step HWx nq⟩
              · go_wp2_with fail
                go_big_quiet (first | (go_at_call 32; refine Calls.quiet_of_same (lessU_any _ _ _)))
                go_wp2_with fail
                go_roundw
                case rel => exact ⟨j2 - 1, n2 + nq, by go_num, by omega, by omega, RowW.step HWx nq, (scanDown_go (fun x => ltInt dk[a]! x) dk i2 j2 hle (by omega) (by show ltInt dk[a]! dk[j2]! = true; rw [← HG.out, ← HG.out, ht])).symm.trans HS.out⟩
                case measure => simp [intOf]; omega
            · have hI : ¬ (i2 : Int) ≤ (j2 : Int) := by omega
              go_wp2_with fail
              go_big_quiet (first | (go_at_call 32; refine Calls.quiet_of_same (lessU_any _ _ _)))
              go_wp2_with fail
              go_meet
              exact ⟨j2, n2 + nq, rfl, hb1, hb2, (scanDown_end (fun x => ltInt dk[a]! x) dk i2 j2 (Or.inl hle)).symm.trans HS.out, RowW.step HWx nq⟩
        case rest =>
          obtain ⟨j2, n3, rfl, hb3, hb4, HJ, HW3⟩ := hcut
          rename World => wx
          by_cases hle : i2 ≤ j2
          · have hlt := scans_lt ltInt a i j dk (by omega) HI.out HJ.out hle
            have hI : ¬ (j2 : Int) < (i2 : Int) := by omega
            obtain ⟨G, hG⟩ : ∃ G : Nat → Int, ∀ t, G t = dk[t]! := ⟨fun t => dk[t]!, fun _ => rfl⟩
            obtain ⟨hcw, hfw⟩ := rowcells (n := n3) HH.out hds G hG
            rw [← HW3.out] at hcw hfw
            have HG := Lib.hid hG
            clear hG
            go_wp2_with fail
            go_region
            all_goals go_wp2_with fail
            go_roundw
            case rel =>
              refine ⟨i2 + 1, j2 - 1, n3 + 1, swp dk i2 j2, by go_num, by go_num, by omega, by omega, by omega, by rw [size_swp]; exact hds, ?_, ?_⟩
              · show _ = _
                exact swap_world e32 (by omega) (by omega) HW3.out (by rw [HG.out] <;> rfl) (by rw [HG.out] <;> rfl)
              · show _ = _
                rw [← HE.out]; exact (partEq_go ltInt a i j dk HI.out HJ.out (by omega)).symm
            case measure => simp [intOf]; omega
          · have hI : (j2 : Int) < (i2 : Int) := by omega
            go_wp2_with fail
            go_ret
            have e := partEq_break ltInt a i j dk HI.out HJ.out (by omega)
            have e2 : partitionEqual ltInt d a b pivot = (i2, dk) := by unfold Sort.partitionEqual; rw [← HE.out, e]
            exact ⟨by rw [e2]; rfl, n3, by rw [e2]; exact HW3.out⟩

set_option maxRecDepth 1000000 in
set_option maxHeartbeats 8000000 in
theorem partU_any (blk off cap a b pivot : Nat) (d : Array Int) (w : World) (hH : Holds e32 w blk off d) (hap : a ≤ pivot) (hpb : pivot < b) (hb : b ≤ d.size) (hsz : d.size < 4611686018427387904) :
    Calls Tryd.prog 34 #[.slice (some ⟨blk, off, none⟩) d.size cap, .int .i64 a, .int .i64 b, .int .i64 pivot] w fun e w' =>
      e = .returned (.tuple #[.int .i64 (partition ltInt d a b pivot).1, .bool (partition ltInt d a b pivot).2.1]) ∧ ∃ n, w' = RowW w blk off n (partition ltInt d a b pivot).2.2 := by
  have HH := Lib.hid hH
  have HW0 : Hid (w = RowW w blk off 0 d) := (putRow_self _ _ _ _ _ hH).symm
  clear hH
  obtain ⟨G, hG⟩ : ∃ G : Nat → Int, ∀ t, G t = d[t]! := ⟨fun t => d[t]!, fun _ => rfl⟩
  obtain ⟨hcw, hfw⟩ := rowcells (n := 0) HH.out rfl G hG
  rw [← HW0.out] at hcw hfw
  have HG := Lib.hid hG
  clear hG
  go_enter Tryd.func34, Tryd.ntmps34
  go_upto_region 1 with fail
  go_cut [] (fun wx => Hid (wx = RowW w blk off 1 (swp d a pivot)))
  case first =>
    by_cases hpa : pivot = a
    · subst hpa
      go_region
      all_goals (go_wp2_with fail; go_meet)
      all_goals (show _ = _; exact swap_world e32 (by omega) (by omega) HW0.out (by rw [HG.out] <;> rfl) (by rw [HG.out] <;> rfl))
    · go_region
      all_goals (go_wp2_with fail; go_meet)
      all_goals (show _ = _; exact swap_world e32 (by omega) (by omega) HW0.out (by rw [HG.out] <;> rfl) (by rw [HG.out] <;> rfl))
  case rest =>
    have HC := hcut
    clear hcut hcw hfw HG
    have hs1 : (swp d a pivot).size = d.size := size_swp _ _ _
    obtain ⟨dk, hdk⟩ : ∃ dk, dk = swp d a pivot := ⟨_, rfl⟩
    obtain ⟨i, hi⟩ : ∃ i, i = a + 1 := ⟨_, rfl⟩
    obtain ⟨j, hj⟩ : ∃ j, j = b - 1 := ⟨_, rfl⟩
    rw [← hdk] at hs1 HC
    have hds := hs1
    have hai : a < i := by omega
    have hij : i ≤ j + 1 := by omega
    have hjb : j < b := by omega
    have eI : (a : Int) + 1 = (i : Int) := by omega
    have eJ : (b : Int) - 1 = (j : Int) := by omega
    have hfb := fun (i2 j2 : Nat) => part_first_break ltInt d a b pivot (i2 := i2) (j2 := j2) hi hj hdk
    have hfg := fun (i2 j2 : Nat) => part_first_go ltInt d a b pivot (i2 := i2) (j2 := j2) hi hj hdk
    have HFB := Lib.hid hfb
    have HFG := Lib.hid hfg
    have HI0 := Lib.hid hi
    have HJ0 := Lib.hid hj
    clear hs1 hdk hi hj hfb hfg
    go_upto_block 0 with fail
    go_cut [10] (fun v wx => ∃ i2 n2 : Nat, v = .int .i64 i2 ∧ i ≤ i2 ∧ i2 ≤ j + 1 ∧ Hid (i2 = scanUp (fun x => ltInt x dk[a]!) dk j i) ∧ Hid (wx = RowW w blk off n2 dk))
    case first =>
      go_wp2_with fail
      go_loopw [10] (fun v wx => ∃ i2 n2 : Nat, v = .int .i64 i2 ∧ i ≤ i2 ∧ i2 ≤ j + 1 ∧ Hid (wx = RowW w blk off n2 dk) ∧ Hid (scanUp (fun x => ltInt x dk[a]!) dk j i2 = scanUp (fun x => ltInt x dk[a]!) dk j i)) (fun v _ => j + 1 - (intOf v).toNat)
      case atStart => exact ⟨i, 1, rfl, Nat.le_refl _, by omega, HC.out, rfl⟩
      case round =>
        obtain ⟨i2, n2, rfl, hb1, hb2, HWx, HS⟩ := hrel
        rename World => wx
        obtain ⟨G, hG⟩ : ∃ G : Nat → Int, ∀ t, G t = dk[t]! := ⟨fun t => dk[t]!, fun _ => rfl⟩
        obtain ⟨hcw, hfw⟩ := rowcells (n := n2) HH.out hds G hG
        rw [← HWx.out] at hcw hfw
        have HG := Lib.hid hG
        clear hG
        by_cases hle : i2 ≤ j
        · have hI : (i2 : Int) ≤ (j : Int) := by omega
          cases ht : ltInt (G i2) (G a)
          · go_wp2_with fail
            go_big_quiet (first | (go_at_call 32; refine Calls.quiet_of_same (lessU_any _ _ _)))
            go_wp2_with fail
            go_meet
            exact ⟨i2, n2 + nq, rfl, hb1, hb2, (scanUp_end (fun x => ltInt x dk[a]!) dk j i2 (Or.inr (by show ltInt dk[i2]! dk[a]! = false; rw [← HG.out, ← HG.out, ht]))).symm.trans HS.out, RowW.step HWx nq⟩
          · go_wp2_with fail
            go_big_quiet (first | (go_at_call 32; refine Calls.quiet_of_same (lessU_any _ _ _)))
            go_wp2_with fail
            go_roundw
            case rel => exact ⟨i2 + 1, n2 + nq, by go_num, by omega, by omega, RowW.step HWx nq, (scanUp_go (fun x => ltInt x dk[a]!) dk j i2 hle (by show ltInt dk[i2]! dk[a]! = true; rw [← HG.out, ← HG.out, ht])).symm.trans HS.out⟩
            case measure => simp [intOf]; omega
        · have hI : ¬ (i2 : Int) ≤ (j : Int) := by omega
          go_wp2_with fail
          go_big_quiet (first | (go_at_call 32; refine Calls.quiet_of_same (lessU_any _ _ _)))
          go_wp2_with fail
          go_meet
          exact ⟨i2, n2 + nq, rfl, hb1, hb2, (scanUp_end (fun x => ltInt x dk[a]!) dk j i2 (Or.inl hle)).symm.trans HS.out, RowW.step HWx nq⟩
    case rest =>
      obtain ⟨i2, n2, rfl, hb1, hb2, HI, HW2⟩ := hcut
      go_upto_block 2 with fail
      go_cut [11] (fun v wx => ∃ j2 n2 : Nat, v = .int .i64 j2 ∧ j2 ≤ j ∧ i2 ≤ j2 + 1 ∧ Hid (j2 = scanDown (fun x => !ltInt x dk[a]!) dk i2 j) ∧ Hid (wx = RowW w blk off n2 dk))
      case first =>
        go_wp2_with fail
        go_loopw [11] (fun v wx => ∃ j2 n2 : Nat, v = .int .i64 j2 ∧ j2 ≤ j ∧ i2 ≤ j2 + 1 ∧ Hid (wx = RowW w blk off n2 dk) ∧ Hid (scanDown (fun x => !ltInt x dk[a]!) dk i2 j2 = scanDown (fun x => !ltInt x dk[a]!) dk i2 j)) (fun v _ => (intOf v).toNat)
        case atStart => exact ⟨j, n2, rfl, Nat.le_refl _, by omega, HW2.out, rfl⟩
        case round =>
          obtain ⟨j2, n2, rfl, hb1, hb2, HWx, HS⟩ := hrel
          rename World => wx
          obtain ⟨G, hG⟩ : ∃ G : Nat → Int, ∀ t, G t = dk[t]! := ⟨fun t => dk[t]!, fun _ => rfl⟩
          obtain ⟨hcw, hfw⟩ := rowcells (n := n2) HH.out hds G hG
          rw [← HWx.out] at hcw hfw
          have HG := Lib.hid hG
          clear hG
          by_cases hle : i2 ≤ j2
          · have hI : (i2 : Int) ≤ (j2 : Int) := by omega
            cases ht : ltInt (G j2) (G a)
            · go_wp2_with fail
              go_big_quiet (first | (go_at_call 32; refine Calls.quiet_of_same (lessU_any _ _ _)))
              go_wp2_with fail
              go_roundw
              case rel => exact ⟨j2 - 1, n2 + nq, by go_num, by omega, by omega, RowW.step HWx nq, (scanDown_go (fun x => !ltInt x dk[a]!) dk i2 j2 hle (by omega) (by show (!ltInt dk[j2]! dk[a]!) = true; rw [← HG.out, ← HG.out, ht]; rfl)).symm.trans HS.out⟩
              case measure => simp [intOf]; omega
            · go_wp2_with fail
              go_big_quiet (first | (go_at_call 32; refine Calls.quiet_of_same (lessU_any _ _ _)))
              go_wp2_with fail
              go_meet
              exact ⟨j2, n2 + nq, rfl, hb1, hb2, (scanDown_end (fun x => !ltInt x dk[a]!) dk i2 j2 (Or.inr (by show (!ltInt dk[j2]! dk[a]!) = false; rw [← HG.out, ← HG.out, ht]; rfl))).symm.trans HS.out, RowW.step HWx nq⟩
          · have hI : ¬ (i2 : Int) ≤ (j2 : Int) := by omega
            go_wp2_with fail
            go_big_quiet (first | (go_at_call 32; refine Calls.quiet_of_same (lessU_any _ _ _)))
            go_wp2_with fail
            go_meet
            exact ⟨j2, n2 + nq, rfl, hb1, hb2, (scanDown_end (fun x => !ltInt x dk[a]!) dk i2 j2 (Or.inl hle)).symm.trans HS.out, RowW.step HWx nq⟩
      case rest =>
        obtain ⟨j2, n3, rfl, hb3, hb4, HJ, HW3⟩ := hcut
        rename World => wx
        obtain ⟨G, hG⟩ : ∃ G : Nat → Int, ∀ t, G t = dk[t]! := ⟨fun t => dk[t]!, fun _ => rfl⟩
        obtain ⟨hcw, hfw⟩ := rowcells (n := n3) HH.out hds G hG
        rw [← HW3.out] at hcw hfw
        have HG := Lib.hid hG
        clear hG
        by_cases hle : i2 ≤ j2
        · have hlt := part_scans_lt ltInt a i j dk (by omega) HI.out HJ.out hle
          have hI : ¬ (j2 : Int) < (i2 : Int) := by omega
          have hP := HFG.out i2 j2 HI.out HJ.out (by omega)
          have HP := Lib.hid hP
          clear hP HFB HFG HI HJ
          go_wp2_with fail
          go_region
          all_goals go_wp2_with fail
          have HW4 : Hid (RowW w blk off (n3 + 1) (swp dk i2 j2) = RowW w blk off (n3 + 1) (swp dk i2 j2)) := rfl
          rw [swap_world e32 (i := i2) (j := j2) (by omega) (by omega) HW3.out (by rw [HG.out] <;> rfl) (by rw [HG.out] <;> rfl)]
          obtain ⟨D, hD⟩ : ∃ D, D = swp dk i2 j2 := ⟨_, rfl⟩
          have hDs : D.size = d.size := by rw [hD, size_swp]; exact hds
          obtain ⟨i0, hi0⟩ : ∃ i0, i0 = i2 + 1 := ⟨_, rfl⟩
          obtain ⟨j0, hj0⟩ : ∃ j0, j0 = j2 - 1 := ⟨_, rfl⟩
          have hi0b : a < i0 ∧ i0 ≤ j0 + 1 ∧ j0 < b := by omega
          have eI : (i2 : Int) + 1 = (i0 : Int) := by omega
          have eJ : (j2 : Int) - 1 = (j0 : Int) := by omega
          rw [← hD, ← hi0, ← hj0] at HP
          rw [← hD]
          clear hD hi0 hj0 HW4 HG hcw hfw HW3 HW2 HC hds
          go_loopw [10, 11] (fun vi vj wr => ∃ (i j n : Nat) (dk : Array Int), vi = .int .i64 i ∧ vj = .int .i64 j ∧ a < i ∧ i ≤ j + 1 ∧ j < b ∧ dk.size = d.size ∧ Hid (wr = RowW w blk off n dk) ∧ Hid (partLoop ltInt a i j dk = partLoop ltInt a i0 j0 D)) (fun vi vj _ => (intOf vj).toNat + 1 - (intOf vi).toNat)
          case atStart => exact ⟨i0, j0, n3 + 1, D, by rw [eI], by rw [eJ], hi0b.1, hi0b.2.1, hi0b.2.2, hDs, rfl, rfl⟩
          case round =>
            clear eI eJ hi0b hDs hlt hI hle hb1 hb2 hb3 hb4 hai hij hjb
            obtain ⟨i, j, n, dk, rfl, rfl, hai, hij, hjb, hds, HW, HE⟩ := hrel
            rename World => wr
            go_upto_block 6 with fail
            go_cut [10] (fun v wx => ∃ i2 n2 : Nat, v = .int .i64 i2 ∧ i ≤ i2 ∧ i2 ≤ j + 1 ∧ Hid (i2 = scanUp (fun x => ltInt x dk[a]!) dk j i) ∧ Hid (wx = RowW w blk off n2 dk))
            case first =>
              go_wp2_with fail
              go_loopw [10] (fun v wx => ∃ i2 n2 : Nat, v = .int .i64 i2 ∧ i ≤ i2 ∧ i2 ≤ j + 1 ∧ Hid (wx = RowW w blk off n2 dk) ∧ Hid (scanUp (fun x => ltInt x dk[a]!) dk j i2 = scanUp (fun x => ltInt x dk[a]!) dk j i)) (fun v _ => j + 1 - (intOf v).toNat)
              case atStart => exact ⟨i, n, rfl, Nat.le_refl _, by omega, HW.out, rfl⟩
              case round =>
                obtain ⟨i2, n2, rfl, hb1, hb2, HWx, HS⟩ := hrel
                rename World => wx
                obtain ⟨G, hG⟩ : ∃ G : Nat → Int, ∀ t, G t = dk[t]! := ⟨fun t => dk[t]!, fun _ => rfl⟩
                obtain ⟨hcw, hfw⟩ := rowcells (n := n2) HH.out hds G hG
                rw [← HWx.out] at hcw hfw
                have HG := Lib.hid hG
                clear hG
                by_cases hle : i2 ≤ j
                · have hI : (i2 : Int) ≤ (j : Int) := by omega
                  cases ht : ltInt (G i2) (G a)
                  · go_wp2_with fail
                    go_big_quiet (first | (go_at_call 32; refine Calls.quiet_of_same (lessU_any _ _ _)))
                    go_wp2_with fail
                    go_meet
                    exact ⟨i2, n2 + nq, rfl, hb1, hb2, (scanUp_end (fun x => ltInt x dk[a]!) dk j i2 (Or.inr (by show ltInt dk[i2]! dk[a]! = false; rw [← HG.out, ← HG.out, ht]))).symm.trans HS.out, RowW.step HWx nq⟩
                  · go_wp2_with fail
                    go_big_quiet (first | (go_at_call 32; refine Calls.quiet_of_same (lessU_any _ _ _)))
                    go_wp2_with fail
                    go_roundw
                    case rel => exact ⟨i2 + 1, n2 + nq, by go_num, by omega, by omega, RowW.step HWx nq, (scanUp_go (fun x => ltInt x dk[a]!) dk j i2 hle (by show ltInt dk[i2]! dk[a]! = true; rw [← HG.out, ← HG.out, ht])).symm.trans HS.out⟩
                    case measure => simp [intOf]; omega
                · have hI : ¬ (i2 : Int) ≤ (j : Int) := by omega
                  go_wp2_with fail
                  go_big_quiet (first | (go_at_call 32; refine Calls.quiet_of_same (lessU_any _ _ _)))
                  go_wp2_with fail
                  go_meet
                  exact ⟨i2, n2 + nq, rfl, hb1, hb2, (scanUp_end (fun x => ltInt x dk[a]!) dk j i2 (Or.inl hle)).symm.trans HS.out, RowW.step HWx nq⟩
            case rest =>
              obtain ⟨i2, n2, rfl, hb1, hb2, HI, HW2⟩ := hcut
              go_upto_block 8 with fail
              go_cut [11] (fun v wx => ∃ j2 n2 : Nat, v = .int .i64 j2 ∧ j2 ≤ j ∧ i2 ≤ j2 + 1 ∧ Hid (j2 = scanDown (fun x => !ltInt x dk[a]!) dk i2 j) ∧ Hid (wx = RowW w blk off n2 dk))
              case first =>
                go_wp2_with fail
                go_loopw [11] (fun v wx => ∃ j2 n2 : Nat, v = .int .i64 j2 ∧ j2 ≤ j ∧ i2 ≤ j2 + 1 ∧ Hid (wx = RowW w blk off n2 dk) ∧ Hid (scanDown (fun x => !ltInt x dk[a]!) dk i2 j2 = scanDown (fun x => !ltInt x dk[a]!) dk i2 j)) (fun v _ => (intOf v).toNat)
                case atStart => exact ⟨j, n2, rfl, Nat.le_refl _, by omega, HW2.out, rfl⟩
                case round =>
                  obtain ⟨j2, n2, rfl, hb1, hb2, HWx, HS⟩ := hrel
                  rename World => wx
                  obtain ⟨G, hG⟩ : ∃ G : Nat → Int, ∀ t, G t = dk[t]! := ⟨fun t => dk[t]!, fun _ => rfl⟩
                  obtain ⟨hcw, hfw⟩ := rowcells (n := n2) HH.out hds G hG
                  rw [← HWx.out] at hcw hfw
                  have HG := Lib.hid hG
                  clear hG
                  by_cases hle : i2 ≤ j2
                  · have hI : (i2 : Int) ≤ (j2 : Int) := by omega
                    cases ht : ltInt (G j2) (G a)
                    · go_wp2_with fail
                      go_big_quiet (first | (go_at_call 32; refine Calls.quiet_of_same (lessU_any _ _ _)))
                      go_wp2_with fail
                      go_roundw
                      case rel => exact ⟨j2 - 1, n2 + nq, by go_num, by omega, by omega, RowW.step HWx nq, (scanDown_go (fun x => !ltInt x dk[a]!) dk i2 j2 hle (by omega) (by show (!ltInt dk[j2]! dk[a]!) = true; rw [← HG.out, ← HG.out, ht]; rfl)).symm.trans HS.out⟩
                      case measure => simp [intOf]; omega
                    · go_wp2_with fail
                      go_big_quiet (first | (go_at_call 32; refine Calls.quiet_of_same (lessU_any _ _ _)))
                      go_wp2_with fail
                      go_meet
                      exact ⟨j2, n2 + nq, rfl, hb1, hb2, (scanDown_end (fun x => !ltInt x dk[a]!) dk i2 j2 (Or.inr (by show (!ltInt dk[j2]! dk[a]!) = false; rw [← HG.out, ← HG.out, ht]; rfl))).symm.trans HS.out, RowW.step HWx nq⟩
                  · have hI : ¬ (i2 : Int) ≤ (j2 : Int) := by omega
                    go_wp2_with fail
                    go_big_quiet (first | (go_at_call 32; refine Calls.quiet_of_same (lessU_any _ _ _)))
                    go_wp2_with fail
                    go_meet
                    exact ⟨j2, n2 + nq, rfl, hb1, hb2, (scanDown_end (fun x => !ltInt x dk[a]!) dk i2 j2 (Or.inl hle)).symm.trans HS.out, RowW.step HWx nq⟩
              case rest =>
                obtain ⟨j2, n3, rfl, hb3, hb4, HJ, HW3⟩ := hcut
                rename World => wx
                obtain ⟨G, hG⟩ : ∃ G : Nat → Int, ∀ t, G t = dk[t]! := ⟨fun t => dk[t]!, fun _ => rfl⟩
                obtain ⟨hcw, hfw⟩ := rowcells (n := n3) HH.out hds G hG
                rw [← HW3.out] at hcw hfw
                have HG := Lib.hid hG
                clear hG
                by_cases hle : i2 ≤ j2
                · have hlt := part_scans_lt ltInt a i j dk (by omega) HI.out HJ.out hle
                  have hI : ¬ (j2 : Int) < (i2 : Int) := by omega
                  go_wp2_with fail
                  go_region
                  all_goals go_wp2_with fail
                  go_roundw
                  case rel =>
                    refine ⟨i2 + 1, j2 - 1, n3 + 1, swp dk i2 j2, by go_num, by go_num, by omega, by omega, by omega, by rw [size_swp]; exact hds, ?_, ?_⟩
                    · show _ = _
                      exact swap_world e32 (by omega) (by omega) HW3.out (by rw [HG.out] <;> rfl) (by rw [HG.out] <;> rfl)
                    · show _ = _
                      rw [← HE.out]; exact (part_go ltInt a i j dk HI.out HJ.out (by omega)).symm
                  case measure => simp [intOf]; omega
                · have hI : (j2 : Int) < (i2 : Int) := by omega
                  have e := part_break ltInt a i j dk HI.out HJ.out (by omega)
                  have e2 : partition ltInt d a b pivot = (j2, false, swp dk j2 a) := by rw [HP.out, ← HE.out, e]
                  have E2 := Lib.hid e2
                  clear e e2
                  by_cases hja : j2 = a
                  · subst hja
                    go_wp2_with fail
                    go_region
                    all_goals go_wp2_with fail
                    go_ret2
                    exact ⟨by rw [E2.out] <;> rfl, n3 + 1, by rw [E2.out]; exact swap_world e32 (by omega) (by omega) HW3.out (by rw [HG.out] <;> rfl) (by rw [HG.out] <;> rfl)⟩
                  · skip
                    go_wp2_with fail
                    go_region
                    all_goals go_wp2_with fail
                    go_ret2
                    exact ⟨by rw [E2.out] <;> rfl, n3 + 1, by rw [E2.out]; exact swap_world e32 (by omega) (by omega) HW3.out (by rw [HG.out] <;> rfl) (by rw [HG.out] <;> rfl)⟩
        · have hI : (j2 : Int) < (i2 : Int) := by omega
          have e2 := HFB.out i2 j2 HI.out HJ.out (by omega)
          have E2 := Lib.hid e2
          clear e2 HFB HFG
          by_cases hja : j2 = a
          · subst hja
            go_wp2_with fail
            go_region
            all_goals go_wp2_with fail
            go_ret2
            exact ⟨by rw [E2.out] <;> rfl, n3 + 1, by rw [E2.out]; exact swap_world e32 (by omega) (by omega) HW3.out (by rw [HG.out] <;> rfl) (by rw [HG.out] <;> rfl)⟩
          · skip
            go_wp2_with fail
            go_region
            all_goals go_wp2_with fail
            go_ret2
            exact ⟨by rw [E2.out] <;> rfl, n3 + 1, by rw [E2.out]; exact swap_world e32 (by omega) (by omega) HW3.out (by rw [HG.out] <;> rfl) (by rw [HG.out] <;> rfl)⟩
end Go.Proofs.YthgmmajoinkblaaDoor

/-
  Walks of the library's sort at numbers of 32 bits: the short insertion, the broken patterns (written by wip/gen/genpq5.py).
-/
namespace Go.Proofs.YthgmmajoinkblaaDoor
open Go Go.RowKit Go.Sort

theorem size_sd {α : Type} [Inhabited α] (lt : α → α → Bool) : ∀ (j : Nat) (d : Array α), (shiftDown lt j d).size = d.size
  | 0, d => by rw [shiftDown]
  | j + 1, d => by
    rw [shiftDown]
    split
    · rfl
    · rw [size_sd lt j]; exact size_swp _ _ _
theorem size_su {α : Type} [Inhabited α] (lt : α → α → Bool) (b : Nat) : ∀ (n j : Nat) (d : Array α), b - j ≤ n → (shiftUp lt b j d).size = d.size
  | 0, j, d, h => by rw [shiftUp, if_neg (by omega)]
  | n + 1, j, d, h => by
    rw [shiftUp]
    split
    · split
      · rfl
      · rw [size_su lt b n (j + 1) _ (by omega)]; exact size_swp _ _ _
    · rfl
set_option maxRecDepth 1000000 in
set_option maxHeartbeats 8000000 in
theorem partialU_any (blk off cap a b : Nat) (d : Array Int) (w : World) (hH : Holds e32 w blk off d) (hab : a < b) (hb : b ≤ d.size) (hsz : d.size < 4611686018427387904) :
    Calls Tryd.prog 31 #[.slice (some ⟨blk, off, none⟩) d.size cap, .int .i64 a, .int .i64 b] w fun e w' =>
      e = .returned (.bool (partialInsertionSort ltInt d a b).2) ∧ ∃ n, w' = RowW w blk off n (partialInsertionSort ltInt d a b).1 := by
  have HH := Lib.hid hH
  have HW0 : Hid (w = RowW w blk off 0 d) := (putRow_self _ _ _ _ _ hH).symm
  clear hH
  go_enter Tryd.func31, Tryd.ntmps31
  go_wp2_with fail
  go_loopw [7, 8] (fun vi vs wr => ∃ (i s n : Nat) (dk : Array Int), vi = .int .i64 i ∧ vs = .int .i64 s ∧ a < i ∧ i ≤ b ∧ s ≤ 5 ∧ dk.size = d.size ∧ Hid (wr = RowW w blk off n dk) ∧ Hid (partialIns ltInt a b (5 - s) i dk = partialIns ltInt a b 5 (a + 1) d)) (fun _ vs _ => 5 - (intOf vs).toNat)
  case atStart => exact ⟨a + 1, 0, 0, d, by go_num, rfl, by omega, by omega, by omega, rfl, HW0.out, rfl⟩
  case round =>
    obtain ⟨i, s, n, dk, rfl, rfl, hai, hib, hs5, hds, HW, HE⟩ := hrel
    rename World => wr
    by_cases hs : s < 5
    · have hI5 : (s : Int) < 5 := by omega
      go_upto_block 2 with fail
      go_cut [7] (fun v wx => ∃ k n2 : Nat, v = .int .i64 k ∧ i ≤ k ∧ k ≤ b ∧ Hid (k = scanSorted ltInt dk b i) ∧ Hid (wx = RowW w blk off n2 dk))
      case first =>
        go_wp2_with fail
        go_loopw [7] (fun v wx => ∃ k n2 : Nat, v = .int .i64 k ∧ i ≤ k ∧ k ≤ b ∧ Hid (wx = RowW w blk off n2 dk) ∧ Hid (scanSorted ltInt dk b k = scanSorted ltInt dk b i)) (fun v _ => b - (intOf v).toNat)
        case atStart => exact ⟨i, n, rfl, Nat.le_refl _, hib, HW.out, rfl⟩
        case round =>
          obtain ⟨k, n2, rfl, hik, hkb, HWx, HS⟩ := hrel
          rename World => wx
          obtain ⟨G, hG⟩ : ∃ G : Nat → Int, ∀ t, G t = dk[t]! := ⟨fun t => dk[t]!, fun _ => rfl⟩
          obtain ⟨hcw, hfw⟩ := rowcells (n := n2) HH.out hds G hG
          rw [← HWx.out] at hcw hfw
          have HG := Lib.hid hG
          clear hG
          by_cases hlt : k < b
          · have hI : (k : Int) < (b : Int) := by omega
            cases ht : ltInt (G k) (G (k - 1))
            · go_wp2_with fail
              go_big_quiet (first | (go_at_call 32; refine Calls.quiet_of_same (lessU_any _ _ _)))
              go_wp2_with fail
              go_roundw
              case rel => exact ⟨k + 1, n2 + nq, by go_num, by omega, by omega, RowW.step HWx nq, (scanSorted_go ltInt dk b k hlt (by rw [← HG.out, ← HG.out]; exact ht)).symm.trans HS.out⟩
              case measure => simp [intOf]; omega
            · go_wp2_with fail
              go_big_quiet (first | (go_at_call 32; refine Calls.quiet_of_same (lessU_any _ _ _)))
              go_wp2_with fail
              go_meet
              exact ⟨k, n2 + nq, rfl, hik, hkb, (scanSorted_stop ltInt dk b k (Or.inr (by rw [← HG.out, ← HG.out]; exact ht))).symm.trans HS.out, RowW.step HWx nq⟩
          · have hI : ¬ (k : Int) < (b : Int) := by omega
            go_wp2_with fail
            go_big_quiet (first | (go_at_call 32; refine Calls.quiet_of_same (lessU_any _ _ _)))
            go_wp2_with fail
            go_meet
            exact ⟨k, n2 + nq, rfl, hik, hkb, (scanSorted_stop ltInt dk b k (Or.inl hlt)).symm.trans HS.out, RowW.step HWx nq⟩
      case rest =>
        obtain ⟨k, n2, rfl, hik, hkb, HK, HW2⟩ := hcut
        by_cases hkb2 : k = b
        · subst hkb2
          have hq : ((k : Int) == (k : Int)) = true := by simp
          have e := pi_true ltInt a k s i dk hs HK.out.symm
          have e2 : partialInsertionSort ltInt d a k = (dk, true) := by unfold Sort.partialInsertionSort; rw [← HE.out, e]
          have E2 := Lib.hid e2
          clear e e2
          go_wp2_with fail
          go_ret
          exact ⟨by rw [E2.out] <;> rfl, n2, by rw [E2.out]; exact HW2.out⟩
        · have hq : ((k : Int) == (b : Int)) = false := by simp; omega
          by_cases h50 : b - a < 50
          · have hI : (b : Int) - (a : Int) < 50 := by omega
            have e := pi_short ltInt a b s i dk hs (by rw [← HK.out]; exact hkb2) h50
            have e2 : partialInsertionSort ltInt d a b = (dk, false) := by unfold Sort.partialInsertionSort; rw [← HE.out, e]
            have E2 := Lib.hid e2
            clear e e2
            go_wp2_with fail
            go_ret
            exact ⟨by rw [E2.out] <;> rfl, n2, by rw [E2.out]; exact HW2.out⟩
          · have hI : ¬ (b : Int) - (a : Int) < 50 := by omega
            have e := pi_go ltInt a b s i k dk hs HK.out.symm hkb2 h50
            have E := Lib.hid e
            clear e HK
            rename World => wc
            go_upto_region 11 with fail
            go_cut [] (fun wx => Hid (wx = RowW w blk off (n2 + 1) (swp dk k (k - 1))))
            case first =>
              obtain ⟨G, hG⟩ : ∃ G : Nat → Int, ∀ t, G t = dk[t]! := ⟨fun t => dk[t]!, fun _ => rfl⟩
              obtain ⟨hcw, hfw⟩ := rowcells (n := n2) HH.out hds G hG
              rw [← HW2.out] at hcw hfw
              have HG := Lib.hid hG
              clear hG
              go_region
              all_goals (go_wp2_with fail; go_meet)
              all_goals (show _ = _; exact swap_world e32 (by omega) (by omega) HW2.out (by rw [HG.out] <;> rfl) (by rw [HG.out] <;> rfl))
            case rest =>
              have HC := hcut
              clear hcut
              have hs1 : (swp dk k (k - 1)).size = d.size := by rw [size_swp]; exact hds
              obtain ⟨D, hD⟩ : ∃ D, D = swp dk k (k - 1) := ⟨_, rfl⟩
              rw [← hD] at HC hs1 E
              clear hD HW2 HW hds
              go_upto_if 61 with fail
              go_cut [] (fun wx => ∃ n3, Hid (wx = RowW w blk off n3 (fixDown ltInt a k D)))
              case first =>
                by_cases h2 : k - a ≥ 2
                · have hI2 : (2 : Int) ≤ (k : Int) - (a : Int) := by omega
                  have efx : fixDown ltInt a k D = shiftDown ltInt (k - 1) D := by unfold fixDown; rw [if_pos h2]
                  go_wp2_with fail
                  go_loopw [9] (fun v wx => ∃ (j n3 : Nat) (dj : Array Int), v = .int .i64 j ∧ j < k ∧ dj.size = d.size ∧ Hid (wx = RowW w blk off n3 dj) ∧ Hid (shiftDown ltInt j dj = shiftDown ltInt (k - 1) D)) (fun v _ => (intOf v).toNat)
                  case atStart => exact ⟨k - 1, n2 + 1, D, by go_num, by omega, hs1, HC.out, rfl⟩
                  case round =>
                    obtain ⟨j, n3, dj, rfl, hjk, hsj, HWx, HS⟩ := hrel
                    rename World => wx
                    by_cases hj : 1 ≤ j
                    · have hIj : (1 : Int) ≤ (j : Int) := by omega
                      obtain ⟨G, hG⟩ : ∃ G : Nat → Int, ∀ t, G t = dj[t]! := ⟨fun t => dj[t]!, fun _ => rfl⟩
                      obtain ⟨hcw, hfw⟩ := rowcells (n := n3) HH.out hsj G hG
                      rw [← HWx.out] at hcw hfw
                      have HG := Lib.hid hG
                      clear hG
                      cases ht : ltInt (G j) (G (j - 1))
                      · go_wp2_with fail
                        go_big_quiet (first | (go_at_call 32; refine Calls.quiet_of_same (lessU_any _ _ _)))
                        go_wp2_with fail
                        go_meet
                        exact ⟨n3 + nq, by rw [efx, ← HS.out, shiftDown_stop ltInt j dj (Or.inr (by rw [← HG.out, ← HG.out]; exact ht))]; exact RowW.step HWx nq⟩
                      · go_wp2_with fail
                        go_big_quiet (first | (go_at_call 32; refine Calls.quiet_of_same (lessU_any _ _ _)))
                        go_wp2_with fail
                        revert nq; intro nq1
                        have hcw2 : ∀ t, t < d.size → (wx.drewN nq1).cell? ⟨blk, off + t, none⟩ = some (.int .u32 (G t)) := hcw
                        have hfw2 : ∀ t, t < d.size → (wx.drewN nq1).frozen? ⟨blk, off + t, none⟩ = false := hfw
                        have HW9 := RowW.step HWx nq1
                        clear hcw hfw HWx
                        generalize wx.drewN nq1 = wy at hcw2 hfw2 HW9 ⊢
                        have hcw := hcw2
                        have hfw := hfw2
                        have HWx := HW9
                        clear hcw2 hfw2 HW9
                        go_region
                        all_goals go_wp2_with fail
                        go_roundw
                        case rel =>
                          refine ⟨j - 1, n3 + nq1 + 1, swp dj j (j - 1), by go_num, by omega, by rw [size_swp]; exact hsj, ?_, ?_⟩
                          · show _ = _
                            exact swap_world e32 (by omega) (by omega) HWx.out (by rw [HG.out] <;> rfl) (by rw [HG.out] <;> rfl)
                          · show _ = _
                            rw [← HS.out]; exact (shiftDown_go ltInt j dj hj (by rw [← HG.out, ← HG.out]; exact ht)).symm
                        case measure => simp [intOf]; omega
                    · have hIj : ¬ (1 : Int) ≤ (j : Int) := by omega
                      go_wp2_with fail
                      go_meet
                      exact ⟨n3, by rw [efx, ← HS.out, shiftDown_stop ltInt j dj (Or.inl (by omega))]; exact HWx.out⟩
                · have hI2 : ¬ (2 : Int) ≤ (k : Int) - (a : Int) := by omega
                  have efx : fixDown ltInt a k D = D := by unfold fixDown; rw [if_neg h2]
                  go_wp2_with fail
                  go_meet
                  exact ⟨n2 + 1, by rw [efx]; exact HC.out⟩
              case rest =>
                obtain ⟨n3, HC3⟩ := hcut
                have hs2 : (fixDown ltInt a k D).size = d.size := by
                  unfold fixDown
                  split
                  · rw [size_sd]; exact hs1
                  · exact hs1
                obtain ⟨D2, hD2⟩ : ∃ D2, D2 = fixDown ltInt a k D := ⟨_, rfl⟩
                rw [← hD2] at HC3 hs2 E
                clear hD2 HC hs1
                have hs3 : (fixUp ltInt b k D2).size = d.size := by
                  unfold fixUp
                  split
                  · rw [size_su _ _ _ _ _ (Nat.le_refl _)]; exact hs2
                  · exact hs2
                have HS3 := Lib.hid hs3
                clear hs3
                by_cases h2 : b - k ≥ 2
                · have hI2 : (2 : Int) ≤ (b : Int) - (k : Int) := by omega
                  have efx : fixUp ltInt b k D2 = shiftUp ltInt b (k + 1) D2 := by unfold fixUp; rw [if_pos h2]
                  go_wp2_with fail
                  go_loopw [10] (fun v wx => ∃ (j n4 : Nat) (dj : Array Int), v = .int .i64 j ∧ k < j ∧ dj.size = d.size ∧ Hid (wx = RowW w blk off n4 dj) ∧ Hid (shiftUp ltInt b j dj = shiftUp ltInt b (k + 1) D2)) (fun v _ => b - (intOf v).toNat)
                  case atStart => exact ⟨k + 1, n3, D2, by go_num, by omega, hs2, HC3.out, rfl⟩
                  case round =>
                    obtain ⟨j, n4, dj, rfl, hjk, hsj, HWx, HS⟩ := hrel
                    rename World => wx
                    by_cases hj : j < b
                    · have hIj : (j : Int) < (b : Int) := by omega
                      obtain ⟨G, hG⟩ : ∃ G : Nat → Int, ∀ t, G t = dj[t]! := ⟨fun t => dj[t]!, fun _ => rfl⟩
                      obtain ⟨hcw, hfw⟩ := rowcells (n := n4) HH.out hsj G hG
                      rw [← HWx.out] at hcw hfw
                      have HG := Lib.hid hG
                      clear hG
                      cases ht : ltInt (G j) (G (j - 1))
                      · go_wp2_with fail
                        go_big_quiet (first | (go_at_call 32; refine Calls.quiet_of_same (lessU_any _ _ _)))
                        go_wp2_with fail
                        go_roundw
                        case rel => exact ⟨k, s + 1, n4 + nq, fixUp ltInt b k D2, rfl, by go_num, by omega, by omega, by omega, HS3.out, (by rw [efx, ← HS.out, shiftUp_stop ltInt b j dj (Or.inr (by rw [← HG.out, ← HG.out]; exact ht))]; exact RowW.step HWx nq : Hid _), E.out.symm.trans HE.out⟩
                        case measure => simp [intOf]; omega
                      · go_wp2_with fail
                        go_big_quiet (first | (go_at_call 32; refine Calls.quiet_of_same (lessU_any _ _ _)))
                        go_wp2_with fail
                        revert nq; intro nq1
                        have hcw2 : ∀ t, t < d.size → (wx.drewN nq1).cell? ⟨blk, off + t, none⟩ = some (.int .u32 (G t)) := hcw
                        have hfw2 : ∀ t, t < d.size → (wx.drewN nq1).frozen? ⟨blk, off + t, none⟩ = false := hfw
                        have HW9 := RowW.step HWx nq1
                        clear hcw hfw HWx
                        generalize wx.drewN nq1 = wy at hcw2 hfw2 HW9 ⊢
                        have hcw := hcw2
                        have hfw := hfw2
                        have HWx := HW9
                        clear hcw2 hfw2 HW9
                        go_region
                        all_goals go_wp2_with fail
                        go_roundw
                        case rel =>
                          refine ⟨j + 1, n4 + nq1 + 1, swp dj j (j - 1), by go_num, by omega, by rw [size_swp]; exact hsj, ?_, ?_⟩
                          · show _ = _
                            exact swap_world e32 (by omega) (by omega) HWx.out (by rw [HG.out] <;> rfl) (by rw [HG.out] <;> rfl)
                          · show _ = _
                            rw [← HS.out]; exact (shiftUp_go ltInt b j dj hj (by rw [← HG.out, ← HG.out]; exact ht)).symm
                        case measure => simp [intOf]; omega
                    · have hIj : ¬ (j : Int) < (b : Int) := by omega
                      go_wp2_with fail
                      go_roundw
                      case rel => exact ⟨k, s + 1, n4, fixUp ltInt b k D2, rfl, by go_num, by omega, by omega, by omega, HS3.out, (by rw [efx, ← HS.out, shiftUp_stop ltInt b j dj (Or.inl hj)]; exact HWx.out : Hid _), E.out.symm.trans HE.out⟩
                      case measure => simp [intOf]; omega
                · have hI2 : ¬ (2 : Int) ≤ (b : Int) - (k : Int) := by omega
                  have efx : fixUp ltInt b k D2 = D2 := by unfold fixUp; rw [if_neg h2]
                  go_wp2_with fail
                  go_roundw
                  case rel => exact ⟨k, s + 1, n3, fixUp ltInt b k D2, rfl, by go_num, by omega, by omega, by omega, HS3.out, (by rw [efx]; exact HC3.out : Hid _), E.out.symm.trans HE.out⟩
                  case measure => simp [intOf]; omega
    · obtain rfl : s = 5 := by omega
      have hI5 : ¬ (5 : Int) < 5 := by omega
      have e2 : partialInsertionSort ltInt d a b = (dk, false) := by unfold Sort.partialInsertionSort; rw [← HE.out, pi_end]
      have E2 := Lib.hid e2
      clear e2
      go_wp2_with fail
      go_ret
      exact ⟨by rw [E2.out] <;> rfl, n, by rw [E2.out]; exact HW.out⟩
end Go.Proofs.YthgmmajoinkblaaDoor

/-
  The walk of the library's sort at numbers of 32 bits: the broken patterns (written by wip/gen/genpq5.py).
-/
namespace Go.Proofs.YthgmmajoinkblaaDoor
open Go Go.RowKit Go.Sort

set_option maxRecDepth 1000000 in
set_option maxHeartbeats 8000000 in
theorem breakU_go (blk off cap a L : Nat) (d : Array Int) (w : World) (hH : Holds e32 w blk off d) (hblk : blk < w.heap.size) (hb : a + L ≤ d.size) (hsz : d.size < 4611686018427387904) (h8 : 8 ≤ L) :
    Calls Tryd.prog 28 #[.slice (some ⟨blk, off, none⟩) d.size cap, .int .i64 a, .int .i64 ((a + L : Nat) : Int)] w fun e w' =>
      e = .returned (.tuple #[]) ∧ ∃ n os, w' = grow (RowW w blk off n (breakPatterns d a (a + L))) os := by
  rw [breakPatterns_eq d a L h8]
  obtain ⟨M, hM⟩ : ∃ M : Nat, M = 1 <<< bitsLen L := ⟨_, rfl⟩
  have hM1 : 1 ≤ M := by rw [hM, Nat.one_shiftLeft]; exact Nat.two_pow_pos _
  have hM2 : M ≤ 2 * L := by rw [hM, Nat.one_shiftLeft]; exact two_pow_bitsLen_le (by omega)
  have hNP : ∀ w, Calls Tryd.prog 52 #[.int .i64 (L : Int)] w fun e w' => e = .returned (.int .u64 (M : Int)) ∧ w' = w := by rw [hM]; exact fun w => AnyF.nextPowerOfTwo Tryd.nextPow L (by omega) w
  rw [← hM]
  have HNP := Lib.hid hNP
  clear hM hNP
  have HH := Lib.hid hH
  have HST : Hid (w.alloc (Obj.cells #[.int .u64 (L : Int)] 85) = grow (RowW w blk off 0 d) #[Obj.cells #[.int .u64 ((UInt64.ofNat L).toNat : Int)] 85]) := by
    show _ = _
    rw [show RowW w blk off 0 d = w from putRow_self _ _ _ _ _ hH, alloc_eq_grow, show (UInt64.ofNat L).toNat = L from by simp; omega]
  clear hH
  go_enter Tryd.func28, Tryd.ntmps28
  go_wp2_with fail
  rw [show ((a : Int) + (L : Int) - (a : Int)) = (L : Int) by omega]
  refine (HNP.out _).mono ?_
  rintro e w' ⟨rfl, rfl⟩
  go_wp2_with fail
  go_loopw [9] (fun vi wr => ∃ (t n : Nat) (r : UInt64) (dk : Array Int), vi = .int .i64 ((a + L / 4 * 2 - 1 + t : Nat) : Int) ∧ t ≤ 3 ∧ dk.size = d.size ∧
      Hid (wr = grow (RowW w blk off n dk) #[Obj.cells #[.int .u64 (r.toNat : Int)] 85]) ∧
      Hid (bpRest a L M (a + L / 4 * 2 - 1) (3 - t) t (r, dk) = bpRest a L M (a + L / 4 * 2 - 1) 3 0 (UInt64.ofNat L, d))) (fun vi _ => a + L / 4 * 2 + 3 - (intOf vi).toNat)
  case atStart => exact ⟨0, 0, UInt64.ofNat L, d, by congr 1; omega, by omega, rfl, HST.out, rfl⟩
  case round =>
    obtain ⟨t, n, r, dk, rfl, ht, hsk, HW, HR⟩ := hrel
    rename World => wr
    by_cases ht3 : t < 3
    · obtain ⟨R, hRr⟩ : ∃ R : Nat, R = r.toNat := ⟨_, rfl⟩
      have lR : R < 18446744073709551616 := by rw [hRr]; exact r.toNat_lt
      obtain ⟨R', hR'⟩ : ∃ R' : Nat, R' = xorNextN R := ⟨_, rfl⟩
      have lR' : R' < 18446744073709551616 := by rw [hR']; exact xorNextN_lt R lR
      obtain ⟨O, hO⟩ : ∃ O : Nat, O = R' &&& (M - 1) := ⟨_, rfl⟩
      have lO : O ≤ M - 1 := by rw [hO]; exact Nat.and_le_right
      have eAnd : bits .and .u64 (R' : Int) ((M : Int) - 1) = (O : Int) := by
        rw [show ((M : Int) - 1) = ((M - 1 : Nat) : Int) by omega, bits_and_u64_nat _ _ lR' (by omega), hO]
      obtain ⟨G, hG⟩ : ∃ G : Nat → Int, ∀ x, G x = dk[x]! := ⟨fun x => dk[x]!, fun _ => rfl⟩
      have hz : (RowW w blk off n dk).heap.size = w.heap.size := by simp [RowW]
      have hw := HW.out
      obtain ⟨c1, c2⟩ := rowcells (n := n) HH.out hsk G hG
      have hcw : ∀ x, x < d.size → wr.cell? ⟨blk, off + x, none⟩ = some (.int .u32 (G x)) := fun x hx => by
        rw [hw, cell?_grow _ _ _ (by rw [hz]; exact hblk)]; exact c1 x hx
      have hfw : ∀ x, x < d.size → wr.frozen? ⟨blk, off + x, none⟩ = false := fun x hx => by
        rw [hw, frozen?_grow _ _ _ (by rw [hz]; exact hblk)]; exact c2 x hx
      have hcB : wr.cell? ⟨w.heap.size, 0, none⟩ = some (.int .u64 (R : Int)) := by rw [hw, hRr, ← hz]; exact grow_one_cell _ _ _
      have hfB : wr.frozen? ⟨w.heap.size, 0, none⟩ = false := by rw [hw, ← hz]; exact grow_one_frozen _ _ _
      have hNext : Calls Tryd.prog 53 #[.pointer (some ⟨w.heap.size, 0, none⟩)] wr fun e w' => e = .returned (.int .u64 (R' : Int)) ∧ w' = (wr.setCell ⟨w.heap.size, 0, none⟩ (.int .u64 (R' : Int))).drewN 3 := by
        rw [hR']; exact AnyF.xorshift_Next Tryd.xorNext _ _ R lR wr hcB hfB
      have HG := Lib.hid hG
      have HN : Hid (R' = (xorNext r).toNat ∧ O = (xorNext r).toNat &&& (M - 1)) := by
        have e : R' = (xorNext r).toNat := by rw [hR', hRr, xorNext_toNat]
        exact ⟨e, by rw [hO, e]⟩
      have HNX := Lib.hid hNext
      have hI3 : ((a + L / 4 * 2 - 1 + t : Nat) : Int) ≤ (a : Int) + (L : Int) / 4 * 2 + 1 := by omega
      clear hw hG hRr hR' hO hNext c1 c2
      go_wp2_with fail
      refine HNX.out.mono ?_
      rintro e w' ⟨rfl, rfl⟩
      by_cases hLO : L ≤ O
      · have hLOz : (L : Int) ≤ (O : Int) := by omega
        by_cases hEq : a + L / 4 * 2 - 1 + t = a + (O - L)
        all_goals
          go_wp2_with fail
          go_region
          all_goals go_wp2_with fail
          go_roundw
          case rel =>
            refine ⟨t + 1, n + 4, xorNext r, swp dk (a + L / 4 * 2 - 1 + t) (a + (O - L)), by first | rfl | (congr 1 <;> omega), by omega, by rw [size_swp]; exact hsk, ?_, ?_⟩
            · show _ = _
              (try rw [hEq])
              rw [HW.out, HN.out.1]
              simp only [HG.out]
              exact step_world e32 w n 4 blk off dk _ _ hblk (by omega) (by omega) _ _ _
            · show _ = _
              rw [← HR.out, bp_step a L M _ t r dk (O - L) (by omega) (by rw [← HN.out.2, if_pos (by omega)])]
          case measure => simp [intOf]; omega
      · have hLOz : ¬ (L : Int) ≤ (O : Int) := by omega
        by_cases hEq : a + L / 4 * 2 - 1 + t = a + O
        all_goals
          go_wp2_with fail
          go_region
          all_goals go_wp2_with fail
          go_roundw
          case rel =>
            refine ⟨t + 1, n + 4, xorNext r, swp dk (a + L / 4 * 2 - 1 + t) (a + O), by first | rfl | (congr 1 <;> omega), by omega, by rw [size_swp]; exact hsk, ?_, ?_⟩
            · show _ = _
              (try rw [hEq])
              rw [HW.out, HN.out.1]
              simp only [HG.out]
              exact step_world e32 w n 4 blk off dk _ _ hblk (by omega) (by omega) _ _ _
            · show _ = _
              rw [← HR.out, bp_step a L M _ t r dk O (by omega) (by rw [← HN.out.2, if_neg (by omega)])]
          case measure => simp [intOf]; omega
    · obtain rfl : t = 3 := by omega
      have hI3 : ¬ ((a + L / 4 * 2 - 1 + 3 : Nat) : Int) ≤ (a : Int) + (L : Int) / 4 * 2 + 1 := by omega
      go_wp2_with fail
      go_end0
      exact ⟨rfl, n, _, by rw [← HR.out, HW.out]; rfl⟩
theorem breakU_any (blk off cap a b : Nat) (d : Array Int) (w : World) (hH : Holds e32 w blk off d) (hblk : blk < w.heap.size) (hab : a ≤ b) (hb : b ≤ d.size) (hsz : d.size < 4611686018427387904) :
    Calls Tryd.prog 28 #[.slice (some ⟨blk, off, none⟩) d.size cap, .int .i64 a, .int .i64 b] w fun e w' =>
      e = .returned (.tuple #[]) ∧ ∃ n os, w' = grow (RowW w blk off n (breakPatterns d a b)) os := by
  obtain ⟨L, rfl⟩ : ∃ L, b = a + L := ⟨b - a, by omega⟩
  by_cases h8 : 8 ≤ L
  · exact breakU_go blk off cap a L d w hH hblk hb hsz h8
  · have hv : breakPatterns d a (a + L) = d := by unfold breakPatterns; simp only [Nat.add_sub_cancel_left]; rw [if_neg h8]
    rw [hv]
    have HST : Hid (w = grow (RowW w blk off 0 d) #[]) := by
      show _ = _
      rw [grow_empty, show RowW w blk off 0 d = w from putRow_self _ _ _ _ _ hH]
    clear hH
    have h8z : ¬ (8 : Int) ≤ (a : Int) + (L : Int) - (a : Int) := by omega
    go_enter Tryd.func28, Tryd.ntmps28
    go_wp2
    go_end0
    exact ⟨rfl, 0, #[], HST.out⟩
end Go.Proofs.YthgmmajoinkblaaDoor
