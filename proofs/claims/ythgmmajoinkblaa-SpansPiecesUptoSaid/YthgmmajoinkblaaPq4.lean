/-
  Walks of the library's sort at numbers of 32 bits: the two partitions (written by wip/gen/genpq4.py).
-/
import Derived.Test.YthgmmajoinkblaaPq2
import Derived.Sort.WalkC
import Derived.Sort.WalkC4
import Derived.Deep.CutBlock
import Derived.Deep.DeepCutAuto
namespace Go.Proofs.Ythgmmajoinkblaa
open Go Go.RowKit Go.Sort

theorem RowW.step {w W : World} {blk off n : Nat} {d : Array Int} (h : Hid (W = RowW w blk off n d)) (q : Nat) : Hid (W.drewN q = RowW w blk off (n + q) d) := by
  have h' := h.out
  show _ = _
  rw [h']
  exact RowW.drewN _ _ _ _ _ _

set_option maxRecDepth 1000000 in
set_option maxHeartbeats 8000000 in
theorem partEqU_any (blk off cap a b pivot : Nat) (d : Array Int) (w : World) (hH : Holds e32 w blk off d) (hap : a ≤ pivot) (hpb : pivot < b) (hb : b ≤ d.size) (hsz : d.size < 4611686018427387904) :
    Calls Try.prog 77 #[.slice (some ⟨blk, off, none⟩) d.size cap, .int .i64 a, .int .i64 b, .int .i64 pivot] w fun e w' =>
      e = .returned (.int .i64 (partitionEqual ltInt d a b pivot).1) ∧ ∃ n, w' = RowW w blk off n (partitionEqual ltInt d a b pivot).2 := by
  have HH := Lib.hid hH
  have HW0 : Hid (w = RowW w blk off 0 d) := (putRow_self _ _ _ _ _ hH).symm
  clear hH
  obtain ⟨G, hG⟩ : ∃ G : Nat → Int, ∀ t, G t = d[t]! := ⟨fun t => d[t]!, fun _ => rfl⟩
  obtain ⟨hcw, hfw⟩ := rowcells (n := 0) HH.out rfl G hG
  rw [← HW0.out] at hcw hfw
  have HG := Lib.hid hG
  clear hG
  go_enter Try.func77, Try.ntmps77
  go_upto_region 1 with fail
  go_cut [] (fun wx => Hid (wx = RowW w blk off 1 (swp d a pivot)))
  case first =>
    by_cases hpa : pivot = a
    · subst hpa
      go_region
      all_goals (go_wp2_with fail; go_meet)
      all_goals (show _ = _; exact swap_world e32 (by omega) (by omega) HW0.out (by rw [HG.out] <;> rfl) (by rw [HG.out] <;> rfl))
    · go_region
      all_goals (go_wp2_with fail; go_meet)
      all_goals (show _ = _; exact swap_world e32 (by omega) (by omega) HW0.out (by rw [HG.out] <;> rfl) (by rw [HG.out] <;> rfl))
  case rest =>
    have HC := hcut
    clear hcut hcw hfw HG
    have hs1 : (swp d a pivot).size = d.size := size_swp _ _ _
    go_wp2_with fail
    go_loopw [9, 10] (fun vi vj wr => ∃ (i j n : Nat) (dk : Array Int), vi = .int .i64 i ∧ vj = .int .i64 j ∧ a < i ∧ i ≤ j + 1 ∧ j < b ∧ dk.size = d.size ∧ Hid (wr = RowW w blk off n dk) ∧ Hid (partEqLoop ltInt a i j dk = partEqLoop ltInt a (a + 1) (b - 1) (swp d a pivot))) (fun vi vj _ => (intOf vj).toNat + 1 - (intOf vi).toNat)
    case atStart => exact ⟨a + 1, b - 1, 1, swp d a pivot, by go_num, by go_num, by omega, by omega, by omega, hs1, HC.out, rfl⟩
    case round =>
      clear HC hs1
      obtain ⟨i, j, n, dk, rfl, rfl, hai, hij, hjb, hds, HW, HE⟩ := hrel
      rename World => wr
      go_upto_block 2 with fail
      go_cut [9] (fun v wx => ∃ i2 n2 : Nat, v = .int .i64 i2 ∧ i ≤ i2 ∧ i2 ≤ j + 1 ∧ Hid (i2 = scanUp (fun x => !ltInt dk[a]! x) dk j i) ∧ Hid (wx = RowW w blk off n2 dk))
      case first =>
        go_wp2_with fail
        go_loopw [9] (fun v wx => ∃ i2 n2 : Nat, v = .int .i64 i2 ∧ i ≤ i2 ∧ i2 ≤ j + 1 ∧ Hid (wx = RowW w blk off n2 dk) ∧ Hid (scanUp (fun x => !ltInt dk[a]! x) dk j i2 = scanUp (fun x => !ltInt dk[a]! x) dk j i)) (fun v _ => j + 1 - (intOf v).toNat)
        case atStart => exact ⟨i, n, rfl, Nat.le_refl _, by omega, HW.out, rfl⟩
        case round =>
          obtain ⟨i2, n2, rfl, hb1, hb2, HWx, HS⟩ := hrel
          rename World => wx
          obtain ⟨G, hG⟩ : ∃ G : Nat → Int, ∀ t, G t = dk[t]! := ⟨fun t => dk[t]!, fun _ => rfl⟩
          obtain ⟨hcw, hfw⟩ := rowcells (n := n2) HH.out hds G hG
          rw [← HWx.out] at hcw hfw
          have HG := Lib.hid hG
          clear hG
          by_cases hle : i2 ≤ j
          · have hI : (i2 : Int) ≤ (j : Int) := by omega
            cases ht : ltInt (G a) (G i2)
            · go_wp2_with fail
              go_big_quiet (first | (go_at_call 76; refine Calls.quiet_of_same (lessU_any _ _ _)))
              go_wp2_with fail
              go_roundw
              case rel => exact ⟨i2 + 1, n2 + nq, by go_num, by omega, by omega, RowW.step HWx nq, (scanUp_go (fun x => !ltInt dk[a]! x) dk j i2 hle (by show (!ltInt dk[a]! dk[i2]!) = true; rw [← HG.out, ← HG.out, ht]; rfl)).symm.trans HS.out⟩
              case measure => simp [intOf]; omega
            · go_wp2_with fail
              go_big_quiet (first | (go_at_call 76; refine Calls.quiet_of_same (lessU_any _ _ _)))
              go_wp2_with fail
              go_meet
              exact ⟨i2, n2 + nq, rfl, hb1, hb2, (scanUp_end (fun x => !ltInt dk[a]! x) dk j i2 (Or.inr (by show (!ltInt dk[a]! dk[i2]!) = false; rw [← HG.out, ← HG.out, ht]; rfl))).symm.trans HS.out, RowW.step HWx nq⟩
          · have hI : ¬ (i2 : Int) ≤ (j : Int) := by omega
            go_wp2_with fail
            go_big_quiet (first | (go_at_call 76; refine Calls.quiet_of_same (lessU_any _ _ _)))
            go_wp2_with fail
            go_meet
            exact ⟨i2, n2 + nq, rfl, hb1, hb2, (scanUp_end (fun x => !ltInt dk[a]! x) dk j i2 (Or.inl hle)).symm.trans HS.out, RowW.step HWx nq⟩
      case rest =>
        obtain ⟨i2, n2, rfl, hb1, hb2, HI, HW2⟩ := hcut
        go_upto_block 4 with fail
        go_cut [10] (fun v wx => ∃ j2 n2 : Nat, v = .int .i64 j2 ∧ j2 ≤ j ∧ i2 ≤ j2 + 1 ∧ Hid (j2 = scanDown (fun x => ltInt dk[a]! x) dk i2 j) ∧ Hid (wx = RowW w blk off n2 dk))
        case first =>
          go_wp2_with fail
          go_loopw [10] (fun v wx => ∃ j2 n2 : Nat, v = .int .i64 j2 ∧ j2 ≤ j ∧ i2 ≤ j2 + 1 ∧ Hid (wx = RowW w blk off n2 dk) ∧ Hid (scanDown (fun x => ltInt dk[a]! x) dk i2 j2 = scanDown (fun x => ltInt dk[a]! x) dk i2 j)) (fun v _ => (intOf v).toNat)
          case atStart => exact ⟨j, n2, rfl, Nat.le_refl _, by omega, HW2.out, rfl⟩
          case round =>
            obtain ⟨j2, n2, rfl, hb1, hb2, HWx, HS⟩ := hrel
            rename World => wx
            obtain ⟨G, hG⟩ : ∃ G : Nat → Int, ∀ t, G t = dk[t]! := ⟨fun t => dk[t]!, fun _ => rfl⟩
            obtain ⟨hcw, hfw⟩ := rowcells (n := n2) HH.out hds G hG
            rw [← HWx.out] at hcw hfw
            have HG := Lib.hid hG
            clear hG
            by_cases hle : i2 ≤ j2
            · have hI : (i2 : Int) ≤ (j2 : Int) := by omega
              cases ht : ltInt (G a) (G j2)
              · go_wp2_with fail
                go_big_quiet (first | (go_at_call 76; refine Calls.quiet_of_same (lessU_any _ _ _)))
                go_wp2_with fail
                go_meet
                exact ⟨j2, n2 + nq, rfl, hb1, hb2, (scanDown_end (fun x => ltInt dk[a]! x) dk i2 j2 (Or.inr (by show ltInt dk[a]! dk[j2]! = false; rw [← HG.out, ← HG.out, ht]))).symm.trans HS.out, RowW.step HWx nq⟩
              · go_wp2_with fail
                go_big_quiet (first | (go_at_call 76; refine Calls.quiet_of_same (lessU_any _ _ _)))
                go_wp2_with fail
                go_roundw
                case rel => exact ⟨j2 - 1, n2 + nq, by go_num, by omega, by omega, RowW.step HWx nq, (scanDown_go (fun x => ltInt dk[a]! x) dk i2 j2 hle (by omega) (by show ltInt dk[a]! dk[j2]! = true; rw [← HG.out, ← HG.out, ht])).symm.trans HS.out⟩
                case measure => simp [intOf]; omega
            · have hI : ¬ (i2 : Int) ≤ (j2 : Int) := by omega
              go_wp2_with fail
              go_big_quiet (first | (go_at_call 76; refine Calls.quiet_of_same (lessU_any _ _ _)))
              go_wp2_with fail
              go_meet
              exact ⟨j2, n2 + nq, rfl, hb1, hb2, (scanDown_end (fun x => ltInt dk[a]! x) dk i2 j2 (Or.inl hle)).symm.trans HS.out, RowW.step HWx nq⟩
        case rest =>
          obtain ⟨j2, n3, rfl, hb3, hb4, HJ, HW3⟩ := hcut
          rename World => wx
          by_cases hle : i2 ≤ j2
          · have hlt := scans_lt ltInt a i j dk (by omega) HI.out HJ.out hle
            have hI : ¬ (j2 : Int) < (i2 : Int) := by omega
            obtain ⟨G, hG⟩ : ∃ G : Nat → Int, ∀ t, G t = dk[t]! := ⟨fun t => dk[t]!, fun _ => rfl⟩
            obtain ⟨hcw, hfw⟩ := rowcells (n := n3) HH.out hds G hG
            rw [← HW3.out] at hcw hfw
            have HG := Lib.hid hG
            clear hG
            go_wp2_with fail
            go_region
            all_goals go_wp2_with fail
            go_roundw
            case rel =>
              refine ⟨i2 + 1, j2 - 1, n3 + 1, swp dk i2 j2, by go_num, by go_num, by omega, by omega, by omega, by rw [size_swp]; exact hds, ?_, ?_⟩
              · show _ = _
                exact swap_world e32 (by omega) (by omega) HW3.out (by rw [HG.out] <;> rfl) (by rw [HG.out] <;> rfl)
              · show _ = _
                rw [← HE.out]; exact (partEq_go ltInt a i j dk HI.out HJ.out (by omega)).symm
            case measure => simp [intOf]; omega
          · have hI : (j2 : Int) < (i2 : Int) := by omega
            go_wp2_with fail
            go_ret
            have e := partEq_break ltInt a i j dk HI.out HJ.out (by omega)
            have e2 : partitionEqual ltInt d a b pivot = (i2, dk) := by unfold Sort.partitionEqual; rw [← HE.out, e]
            exact ⟨by rw [e2]; rfl, n3, by rw [e2]; exact HW3.out⟩

set_option maxRecDepth 1000000 in
set_option maxHeartbeats 8000000 in
theorem partU_any (blk off cap a b pivot : Nat) (d : Array Int) (w : World) (hH : Holds e32 w blk off d) (hap : a ≤ pivot) (hpb : pivot < b) (hb : b ≤ d.size) (hsz : d.size < 4611686018427387904) :
    Calls Try.prog 78 #[.slice (some ⟨blk, off, none⟩) d.size cap, .int .i64 a, .int .i64 b, .int .i64 pivot] w fun e w' =>
      e = .returned (.tuple #[.int .i64 (partition ltInt d a b pivot).1, .bool (partition ltInt d a b pivot).2.1]) ∧ ∃ n, w' = RowW w blk off n (partition ltInt d a b pivot).2.2 := by
  have HH := Lib.hid hH
  have HW0 : Hid (w = RowW w blk off 0 d) := (putRow_self _ _ _ _ _ hH).symm
  clear hH
  obtain ⟨G, hG⟩ : ∃ G : Nat → Int, ∀ t, G t = d[t]! := ⟨fun t => d[t]!, fun _ => rfl⟩
  obtain ⟨hcw, hfw⟩ := rowcells (n := 0) HH.out rfl G hG
  rw [← HW0.out] at hcw hfw
  have HG := Lib.hid hG
  clear hG
  go_enter Try.func78, Try.ntmps78
  go_upto_region 1 with fail
  go_cut [] (fun wx => Hid (wx = RowW w blk off 1 (swp d a pivot)))
  case first =>
    by_cases hpa : pivot = a
    · subst hpa
      go_region
      all_goals (go_wp2_with fail; go_meet)
      all_goals (show _ = _; exact swap_world e32 (by omega) (by omega) HW0.out (by rw [HG.out] <;> rfl) (by rw [HG.out] <;> rfl))
    · go_region
      all_goals (go_wp2_with fail; go_meet)
      all_goals (show _ = _; exact swap_world e32 (by omega) (by omega) HW0.out (by rw [HG.out] <;> rfl) (by rw [HG.out] <;> rfl))
  case rest =>
    have HC := hcut
    clear hcut hcw hfw HG
    have hs1 : (swp d a pivot).size = d.size := size_swp _ _ _
    obtain ⟨dk, hdk⟩ : ∃ dk, dk = swp d a pivot := ⟨_, rfl⟩
    obtain ⟨i, hi⟩ : ∃ i, i = a + 1 := ⟨_, rfl⟩
    obtain ⟨j, hj⟩ : ∃ j, j = b - 1 := ⟨_, rfl⟩
    rw [← hdk] at hs1 HC
    have hds := hs1
    have hai : a < i := by omega
    have hij : i ≤ j + 1 := by omega
    have hjb : j < b := by omega
    have eI : (a : Int) + 1 = (i : Int) := by omega
    have eJ : (b : Int) - 1 = (j : Int) := by omega
    have hfb := fun (i2 j2 : Nat) => part_first_break ltInt d a b pivot (i2 := i2) (j2 := j2) hi hj hdk
    have hfg := fun (i2 j2 : Nat) => part_first_go ltInt d a b pivot (i2 := i2) (j2 := j2) hi hj hdk
    have HFB := Lib.hid hfb
    have HFG := Lib.hid hfg
    have HI0 := Lib.hid hi
    have HJ0 := Lib.hid hj
    clear hs1 hdk hi hj hfb hfg
    go_upto_block 0 with fail
    go_cut [10] (fun v wx => ∃ i2 n2 : Nat, v = .int .i64 i2 ∧ i ≤ i2 ∧ i2 ≤ j + 1 ∧ Hid (i2 = scanUp (fun x => ltInt x dk[a]!) dk j i) ∧ Hid (wx = RowW w blk off n2 dk))
    case first =>
      go_wp2_with fail
      go_loopw [10] (fun v wx => ∃ i2 n2 : Nat, v = .int .i64 i2 ∧ i ≤ i2 ∧ i2 ≤ j + 1 ∧ Hid (wx = RowW w blk off n2 dk) ∧ Hid (scanUp (fun x => ltInt x dk[a]!) dk j i2 = scanUp (fun x => ltInt x dk[a]!) dk j i)) (fun v _ => j + 1 - (intOf v).toNat)
      case atStart => exact ⟨i, 1, rfl, Nat.le_refl _, by omega, HC.out, rfl⟩
      case round =>
        obtain ⟨i2, n2, rfl, hb1, hb2, HWx, HS⟩ := hrel
        rename World => wx
        obtain ⟨G, hG⟩ : ∃ G : Nat → Int, ∀ t, G t = dk[t]! := ⟨fun t => dk[t]!, fun _ => rfl⟩
        obtain ⟨hcw, hfw⟩ := rowcells (n := n2) HH.out hds G hG
        rw [← HWx.out] at hcw hfw
        have HG := Lib.hid hG
        clear hG
        by_cases hle : i2 ≤ j
        · have hI : (i2 : Int) ≤ (j : Int) := by omega
          cases ht : ltInt (G i2) (G a)
          · go_wp2_with fail
            go_big_quiet (first | (go_at_call 76; refine Calls.quiet_of_same (lessU_any _ _ _)))
            go_wp2_with fail
            go_meet
            exact ⟨i2, n2 + nq, rfl, hb1, hb2, (scanUp_end (fun x => ltInt x dk[a]!) dk j i2 (Or.inr (by show ltInt dk[i2]! dk[a]! = false; rw [← HG.out, ← HG.out, ht]))).symm.trans HS.out, RowW.step HWx nq⟩
          · go_wp2_with fail
            go_big_quiet (first | (go_at_call 76; refine Calls.quiet_of_same (lessU_any _ _ _)))
            go_wp2_with fail
            go_roundw
            case rel => exact ⟨i2 + 1, n2 + nq, by go_num, by omega, by omega, RowW.step HWx nq, (scanUp_go (fun x => ltInt x dk[a]!) dk j i2 hle (by show ltInt dk[i2]! dk[a]! = true; rw [← HG.out, ← HG.out, ht])).symm.trans HS.out⟩
            case measure => simp [intOf]; omega
        · have hI : ¬ (i2 : Int) ≤ (j : Int) := by omega
          go_wp2_with fail
          go_big_quiet (first | (go_at_call 76; refine Calls.quiet_of_same (lessU_any _ _ _)))
          go_wp2_with fail
          go_meet
          exact ⟨i2, n2 + nq, rfl, hb1, hb2, (scanUp_end (fun x => ltInt x dk[a]!) dk j i2 (Or.inl hle)).symm.trans HS.out, RowW.step HWx nq⟩
    case rest =>
      obtain ⟨i2, n2, rfl, hb1, hb2, HI, HW2⟩ := hcut
      go_upto_block 2 with fail
      go_cut [11] (fun v wx => ∃ j2 n2 : Nat, v = .int .i64 j2 ∧ j2 ≤ j ∧ i2 ≤ j2 + 1 ∧ Hid (j2 = scanDown (fun x => !ltInt x dk[a]!) dk i2 j) ∧ Hid (wx = RowW w blk off n2 dk))
      case first =>
        go_wp2_with fail
        go_loopw [11] (fun v wx => ∃ j2 n2 : Nat, v = .int .i64 j2 ∧ j2 ≤ j ∧ i2 ≤ j2 + 1 ∧ Hid (wx = RowW w blk off n2 dk) ∧ Hid (scanDown (fun x => !ltInt x dk[a]!) dk i2 j2 = scanDown (fun x => !ltInt x dk[a]!) dk i2 j)) (fun v _ => (intOf v).toNat)
        case atStart => exact ⟨j, n2, rfl, Nat.le_refl _, by omega, HW2.out, rfl⟩
        case round =>
          obtain ⟨j2, n2, rfl, hb1, hb2, HWx, HS⟩ := hrel
          rename World => wx
          obtain ⟨G, hG⟩ : ∃ G : Nat → Int, ∀ t, G t = dk[t]! := ⟨fun t => dk[t]!, fun _ => rfl⟩
          obtain ⟨hcw, hfw⟩ := rowcells (n := n2) HH.out hds G hG
          rw [← HWx.out] at hcw hfw
          have HG := Lib.hid hG
          clear hG
          by_cases hle : i2 ≤ j2
          · have hI : (i2 : Int) ≤ (j2 : Int) := by omega
            cases ht : ltInt (G j2) (G a)
            · go_wp2_with fail
              go_big_quiet (first | (go_at_call 76; refine Calls.quiet_of_same (lessU_any _ _ _)))
              go_wp2_with fail
              go_roundw
              case rel => exact ⟨j2 - 1, n2 + nq, by go_num, by omega, by omega, RowW.step HWx nq, (scanDown_go (fun x => !ltInt x dk[a]!) dk i2 j2 hle (by omega) (by show (!ltInt dk[j2]! dk[a]!) = true; rw [← HG.out, ← HG.out, ht]; rfl)).symm.trans HS.out⟩
              case measure => simp [intOf]; omega
            · go_wp2_with fail
              go_big_quiet (first | (go_at_call 76; refine Calls.quiet_of_same (lessU_any _ _ _)))
              go_wp2_with fail
              go_meet
              exact ⟨j2, n2 + nq, rfl, hb1, hb2, (scanDown_end (fun x => !ltInt x dk[a]!) dk i2 j2 (Or.inr (by show (!ltInt dk[j2]! dk[a]!) = false; rw [← HG.out, ← HG.out, ht]; rfl))).symm.trans HS.out, RowW.step HWx nq⟩
          · have hI : ¬ (i2 : Int) ≤ (j2 : Int) := by omega
            go_wp2_with fail
            go_big_quiet (first | (go_at_call 76; refine Calls.quiet_of_same (lessU_any _ _ _)))
            go_wp2_with fail
            go_meet
            exact ⟨j2, n2 + nq, rfl, hb1, hb2, (scanDown_end (fun x => !ltInt x dk[a]!) dk i2 j2 (Or.inl hle)).symm.trans HS.out, RowW.step HWx nq⟩
      case rest =>
        obtain ⟨j2, n3, rfl, hb3, hb4, HJ, HW3⟩ := hcut
        rename World => wx
        obtain ⟨G, hG⟩ : ∃ G : Nat → Int, ∀ t, G t = dk[t]! := ⟨fun t => dk[t]!, fun _ => rfl⟩
        obtain ⟨hcw, hfw⟩ := rowcells (n := n3) HH.out hds G hG
        rw [← HW3.out] at hcw hfw
        have HG := Lib.hid hG
        clear hG
        by_cases hle : i2 ≤ j2
        · have hlt := part_scans_lt ltInt a i j dk (by omega) HI.out HJ.out hle
          have hI : ¬ (j2 : Int) < (i2 : Int) := by omega
          have hP := HFG.out i2 j2 HI.out HJ.out (by omega)
          have HP := Lib.hid hP
          clear hP HFB HFG HI HJ
          go_wp2_with fail
          go_region
          all_goals go_wp2_with fail
          have HW4 : Hid (RowW w blk off (n3 + 1) (swp dk i2 j2) = RowW w blk off (n3 + 1) (swp dk i2 j2)) := rfl
          rw [swap_world e32 (i := i2) (j := j2) (by omega) (by omega) HW3.out (by rw [HG.out] <;> rfl) (by rw [HG.out] <;> rfl)]
          obtain ⟨D, hD⟩ : ∃ D, D = swp dk i2 j2 := ⟨_, rfl⟩
          have hDs : D.size = d.size := by rw [hD, size_swp]; exact hds
          obtain ⟨i0, hi0⟩ : ∃ i0, i0 = i2 + 1 := ⟨_, rfl⟩
          obtain ⟨j0, hj0⟩ : ∃ j0, j0 = j2 - 1 := ⟨_, rfl⟩
          have hi0b : a < i0 ∧ i0 ≤ j0 + 1 ∧ j0 < b := by omega
          have eI : (i2 : Int) + 1 = (i0 : Int) := by omega
          have eJ : (j2 : Int) - 1 = (j0 : Int) := by omega
          rw [← hD, ← hi0, ← hj0] at HP
          rw [← hD]
          clear hD hi0 hj0 HW4 HG hcw hfw HW3 HW2 HC hds
          go_loopw [10, 11] (fun vi vj wr => ∃ (i j n : Nat) (dk : Array Int), vi = .int .i64 i ∧ vj = .int .i64 j ∧ a < i ∧ i ≤ j + 1 ∧ j < b ∧ dk.size = d.size ∧ Hid (wr = RowW w blk off n dk) ∧ Hid (partLoop ltInt a i j dk = partLoop ltInt a i0 j0 D)) (fun vi vj _ => (intOf vj).toNat + 1 - (intOf vi).toNat)
          case atStart => exact ⟨i0, j0, n3 + 1, D, by rw [eI], by rw [eJ], hi0b.1, hi0b.2.1, hi0b.2.2, hDs, rfl, rfl⟩
          case round =>
            clear eI eJ hi0b hDs hlt hI hle hb1 hb2 hb3 hb4 hai hij hjb
            obtain ⟨i, j, n, dk, rfl, rfl, hai, hij, hjb, hds, HW, HE⟩ := hrel
            rename World => wr
            go_upto_block 6 with fail
            go_cut [10] (fun v wx => ∃ i2 n2 : Nat, v = .int .i64 i2 ∧ i ≤ i2 ∧ i2 ≤ j + 1 ∧ Hid (i2 = scanUp (fun x => ltInt x dk[a]!) dk j i) ∧ Hid (wx = RowW w blk off n2 dk))
            case first =>
              go_wp2_with fail
              go_loopw [10] (fun v wx => ∃ i2 n2 : Nat, v = .int .i64 i2 ∧ i ≤ i2 ∧ i2 ≤ j + 1 ∧ Hid (wx = RowW w blk off n2 dk) ∧ Hid (scanUp (fun x => ltInt x dk[a]!) dk j i2 = scanUp (fun x => ltInt x dk[a]!) dk j i)) (fun v _ => j + 1 - (intOf v).toNat)
              case atStart => exact ⟨i, n, rfl, Nat.le_refl _, by omega, HW.out, rfl⟩
              case round =>
                obtain ⟨i2, n2, rfl, hb1, hb2, HWx, HS⟩ := hrel
                rename World => wx
                obtain ⟨G, hG⟩ : ∃ G : Nat → Int, ∀ t, G t = dk[t]! := ⟨fun t => dk[t]!, fun _ => rfl⟩
                obtain ⟨hcw, hfw⟩ := rowcells (n := n2) HH.out hds G hG
                rw [← HWx.out] at hcw hfw
                have HG := Lib.hid hG
                clear hG
                by_cases hle : i2 ≤ j
                · have hI : (i2 : Int) ≤ (j : Int) := by omega
                  cases ht : ltInt (G i2) (G a)
                  · go_wp2_with fail
                    go_big_quiet (first | (go_at_call 76; refine Calls.quiet_of_same (lessU_any _ _ _)))
                    go_wp2_with fail
                    go_meet
                    exact ⟨i2, n2 + nq, rfl, hb1, hb2, (scanUp_end (fun x => ltInt x dk[a]!) dk j i2 (Or.inr (by show ltInt dk[i2]! dk[a]! = false; rw [← HG.out, ← HG.out, ht]))).symm.trans HS.out, RowW.step HWx nq⟩
                  · go_wp2_with fail
                    go_big_quiet (first | (go_at_call 76; refine Calls.quiet_of_same (lessU_any _ _ _)))
                    go_wp2_with fail
                    go_roundw
                    case rel => exact ⟨i2 + 1, n2 + nq, by go_num, by omega, by omega, RowW.step HWx nq, (scanUp_go (fun x => ltInt x dk[a]!) dk j i2 hle (by show ltInt dk[i2]! dk[a]! = true; rw [← HG.out, ← HG.out, ht])).symm.trans HS.out⟩
                    case measure => simp [intOf]; omega
                · have hI : ¬ (i2 : Int) ≤ (j : Int) := by omega
                  go_wp2_with fail
                  go_big_quiet (first | (go_at_call 76; refine Calls.quiet_of_same (lessU_any _ _ _)))
                  go_wp2_with fail
                  go_meet
                  exact ⟨i2, n2 + nq, rfl, hb1, hb2, (scanUp_end (fun x => ltInt x dk[a]!) dk j i2 (Or.inl hle)).symm.trans HS.out, RowW.step HWx nq⟩
            case rest =>
              obtain ⟨i2, n2, rfl, hb1, hb2, HI, HW2⟩ := hcut
              go_upto_block 8 with fail
              go_cut [11] (fun v wx => ∃ j2 n2 : Nat, v = .int .i64 j2 ∧ j2 ≤ j ∧ i2 ≤ j2 + 1 ∧ Hid (j2 = scanDown (fun x => !ltInt x dk[a]!) dk i2 j) ∧ Hid (wx = RowW w blk off n2 dk))
              case first =>
                go_wp2_with fail
                go_loopw [11] (fun v wx => ∃ j2 n2 : Nat, v = .int .i64 j2 ∧ j2 ≤ j ∧ i2 ≤ j2 + 1 ∧ Hid (wx = RowW w blk off n2 dk) ∧ Hid (scanDown (fun x => !ltInt x dk[a]!) dk i2 j2 = scanDown (fun x => !ltInt x dk[a]!) dk i2 j)) (fun v _ => (intOf v).toNat)
                case atStart => exact ⟨j, n2, rfl, Nat.le_refl _, by omega, HW2.out, rfl⟩
                case round =>
                  obtain ⟨j2, n2, rfl, hb1, hb2, HWx, HS⟩ := hrel
                  rename World => wx
                  obtain ⟨G, hG⟩ : ∃ G : Nat → Int, ∀ t, G t = dk[t]! := ⟨fun t => dk[t]!, fun _ => rfl⟩
                  obtain ⟨hcw, hfw⟩ := rowcells (n := n2) HH.out hds G hG
                  rw [← HWx.out] at hcw hfw
                  have HG := Lib.hid hG
                  clear hG
                  by_cases hle : i2 ≤ j2
                  · have hI : (i2 : Int) ≤ (j2 : Int) := by omega
                    cases ht : ltInt (G j2) (G a)
                    · go_wp2_with fail
                      go_big_quiet (first | (go_at_call 76; refine Calls.quiet_of_same (lessU_any _ _ _)))
                      go_wp2_with fail
                      go_roundw
                      case rel => exact ⟨j2 - 1, n2 + nq, by go_num, by omega, by omega, RowW.step HWx nq, (scanDown_go (fun x => !ltInt x dk[a]!) dk i2 j2 hle (by omega) (by show (!ltInt dk[j2]! dk[a]!) = true; rw [← HG.out, ← HG.out, ht]; rfl)).symm.trans HS.out⟩
                      case measure => simp [intOf]; omega
                    · go_wp2_with fail
                      go_big_quiet (first | (go_at_call 76; refine Calls.quiet_of_same (lessU_any _ _ _)))
                      go_wp2_with fail
                      go_meet
                      exact ⟨j2, n2 + nq, rfl, hb1, hb2, (scanDown_end (fun x => !ltInt x dk[a]!) dk i2 j2 (Or.inr (by show (!ltInt dk[j2]! dk[a]!) = false; rw [← HG.out, ← HG.out, ht]; rfl))).symm.trans HS.out, RowW.step HWx nq⟩
                  · have hI : ¬ (i2 : Int) ≤ (j2 : Int) := by omega
                    go_wp2_with fail
                    go_big_quiet (first | (go_at_call 76; refine Calls.quiet_of_same (lessU_any _ _ _)))
                    go_wp2_with fail
                    go_meet
                    exact ⟨j2, n2 + nq, rfl, hb1, hb2, (scanDown_end (fun x => !ltInt x dk[a]!) dk i2 j2 (Or.inl hle)).symm.trans HS.out, RowW.step HWx nq⟩
              case rest =>
                obtain ⟨j2, n3, rfl, hb3, hb4, HJ, HW3⟩ := hcut
                rename World => wx
                obtain ⟨G, hG⟩ : ∃ G : Nat → Int, ∀ t, G t = dk[t]! := ⟨fun t => dk[t]!, fun _ => rfl⟩
                obtain ⟨hcw, hfw⟩ := rowcells (n := n3) HH.out hds G hG
                rw [← HW3.out] at hcw hfw
                have HG := Lib.hid hG
                clear hG
                by_cases hle : i2 ≤ j2
                · have hlt := part_scans_lt ltInt a i j dk (by omega) HI.out HJ.out hle
                  have hI : ¬ (j2 : Int) < (i2 : Int) := by omega
                  go_wp2_with fail
                  go_region
                  all_goals go_wp2_with fail
                  go_roundw
                  case rel =>
                    refine ⟨i2 + 1, j2 - 1, n3 + 1, swp dk i2 j2, by go_num, by go_num, by omega, by omega, by omega, by rw [size_swp]; exact hds, ?_, ?_⟩
                    · show _ = _
                      exact swap_world e32 (by omega) (by omega) HW3.out (by rw [HG.out] <;> rfl) (by rw [HG.out] <;> rfl)
                    · show _ = _
                      rw [← HE.out]; exact (part_go ltInt a i j dk HI.out HJ.out (by omega)).symm
                  case measure => simp [intOf]; omega
                · have hI : (j2 : Int) < (i2 : Int) := by omega
                  have e := part_break ltInt a i j dk HI.out HJ.out (by omega)
                  have e2 : partition ltInt d a b pivot = (j2, false, swp dk j2 a) := by rw [HP.out, ← HE.out, e]
                  have E2 := Lib.hid e2
                  clear e e2
                  by_cases hja : j2 = a
                  · subst hja
                    go_wp2_with fail
                    go_region
                    all_goals go_wp2_with fail
                    go_ret2
                    exact ⟨by rw [E2.out] <;> rfl, n3 + 1, by rw [E2.out]; exact swap_world e32 (by omega) (by omega) HW3.out (by rw [HG.out] <;> rfl) (by rw [HG.out] <;> rfl)⟩
                  · skip
                    go_wp2_with fail
                    go_region
                    all_goals go_wp2_with fail
                    go_ret2
                    exact ⟨by rw [E2.out] <;> rfl, n3 + 1, by rw [E2.out]; exact swap_world e32 (by omega) (by omega) HW3.out (by rw [HG.out] <;> rfl) (by rw [HG.out] <;> rfl)⟩
        · have hI : (j2 : Int) < (i2 : Int) := by omega
          have e2 := HFB.out i2 j2 HI.out HJ.out (by omega)
          have E2 := Lib.hid e2
          clear e2 HFB HFG
          by_cases hja : j2 = a
          · subst hja
            go_wp2_with fail
            go_region
            all_goals go_wp2_with fail
            go_ret2
            exact ⟨by rw [E2.out] <;> rfl, n3 + 1, by rw [E2.out]; exact swap_world e32 (by omega) (by omega) HW3.out (by rw [HG.out] <;> rfl) (by rw [HG.out] <;> rfl)⟩
          · skip
            go_wp2_with fail
            go_region
            all_goals go_wp2_with fail
            go_ret2
            exact ⟨by rw [E2.out] <;> rfl, n3 + 1, by rw [E2.out]; exact swap_world e32 (by omega) (by omega) HW3.out (by rw [HG.out] <;> rfl) (by rw [HG.out] <;> rfl)⟩
end Go.Proofs.Ythgmmajoinkblaa
