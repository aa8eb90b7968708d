/-
  slices.Sort at numbers of 32 bits: the loop and the recursion of pdqsort (written by wip/gen/genpq6.py).
-/
import Derived.Test.YthgmmajoinkblaaPq3
import Derived.Test.YthgmmajoinkblaaPq5
import Derived.Test.YthgmmajoinkblaaPq5b
import Derived.Sort.Walk13
import Derived.Sort.AssemblyPlain
import Derived.Deep.Cut
namespace Go.Proofs.Ythgmmajoinkblaa
open Go Go.RowKit Go.Sort

/-- What the plain layer knows of the order of numbers. -/
theorem plainI : Plain13 where
  swo := swo_ltInt
  ins := insertionSort_holds
  par := partialInsertionSort_holds
  prt := partition_holds _
  peq := partitionEqual_holds _
  pdq := pdq_sorts _
set_option maxHeartbeats 12800000 in
set_option maxRecDepth 1000000 in
theorem pdqU_any : ∀ (N blk off cap a b limit : Nat) (d : Array Int) (w : World), b - a < N → Holds e32 w blk off d → blk < w.heap.size → a ≤ b → b ≤ d.size → d.size < 4611686018427387904 → limit < 4611686018427387904 → Sort.Below ltInt a b d →
    Calls Try.prog 56 #[.slice (some ⟨blk, off, none⟩) d.size cap, .int .i64 a, .int .i64 b, .int .i64 limit] w fun e w' => e = .returned (.tuple #[]) ∧ At e32 w blk off (pdq ltInt d a b limit true true) w' := by
  intro N
  induction N with
  | zero => intro _ _ _ _ _ _ _ _ h; exact absurd h (Nat.not_lt_zero _)
  | succ N ih =>
    intro blk off cap a b limit d w hN hH hblk hab hb hsz hlimit hBel0
    have IH := Lib.hid ih
    have HH := Lib.hid hH
    have P := plainI
    clear ih hH
    go_enter Try.func56, Try.ntmps56
    go_wp2
    go_loopg [1, 2, 3, 8, 9] (b - a) (fun k s1 s2 s3 s8 s9 wr => ∃ (a' b' lim : Nat) (wb wp : Bool) (dk : Array Int), s1 = .int .i64 a' ∧ s2 = .int .i64 b' ∧ s3 = .int .i64 lim ∧ s8 = .bool wb ∧ s9 = .bool wp ∧
      a' ≤ b' ∧ b' ≤ d.size ∧ b' - a' ≤ k ∧ k ≤ b - a ∧ lim ≤ limit ∧ dk.size = d.size ∧ Hid (Sort.Below ltInt a' b' dk) ∧ Hid (At e32 w blk off dk wr) ∧ Hid (pdq ltInt dk a' b' lim wb wp = pdq ltInt d a b limit true true))
    case atStart => exact ⟨a, b, limit, true, true, d, rfl, rfl, rfl, rfl, rfl, hab, hb, Nat.le_refl _, Nat.le_refl _, Nat.le_refl _, rfl, hBel0, At.refl HH.out, rfl⟩
    case round =>
      obtain ⟨a', b', lim, wb, wp, dk, rfl, rfl, rfl, rfl, rfl, hab', hb', hk, hkN, hlim, hds, HBL, HAT, HQ⟩ := hrel
      rename World => wr
      obtain ⟨hHk, hblk'⟩ := HAT.out.holds HH.out hds hblk
      have HHk := Lib.hid hHk
      clear hHk
      by_cases h12 : b' - a' ≤ 12
      · have h12z : (b' : Int) - (a' : Int) ≤ 12 := by omega
        have hc := insertionU_any blk off cap a' b' dk wr HHk.out hab' (by omega) (by omega)
        rw [hds] at hc
        have HC := Lib.hid hc
        clear hc
        go_wp2_with fail
        refine HC.out.mono ?_
        rintro e w1 ⟨rfl, hw1⟩
        have HW1 := Lib.hid hw1
        clear hw1
        go_wp2_with fail
        (try simp only [Exit.inBlock, Exit.then]); refine bodyPost_ret (results_none rfl _ _ _) rfl ?_
        refine ⟨rfl, ?_⟩
        rw [← HQ.out, pdq_small h12]
        exact HAT.out.step hblk (P.ins P.swo dk a' b' hab' (by omega)).1.1 HW1.out
      · have h12z : ¬ ((b' : Int) - (a' : Int) ≤ 12) := by omega
        by_cases hl0 : lim = 0
        · subst hl0
          have hc := heapU_any blk off cap a' b' dk wr HHk.out hab' (by omega) (by omega)
          rw [hds] at hc
          have HC := Lib.hid hc
          clear hc
          go_wp2_with fail
          refine HC.out.mono ?_
          rintro e w1 ⟨rfl, hw1⟩
          have HW1 := Lib.hid hw1
          clear hw1
          go_wp2_with fail
          (try simp only [Exit.inBlock, Exit.then]); refine bodyPost_ret (results_none rfl _ _ _) rfl ?_
          refine ⟨rfl, ?_⟩
          rw [← HQ.out, pdq_heap h12 rfl]
          exact HAT.out.step hblk (heapSort_holds P.swo dk a' b' hab' (by omega)).1.1 HW1.out
        · have hl0z : ¬ ((lim : Int) = 0) := by omega
          obtain ⟨s1, B1, hc1, s2, B2, hpv, s3, B3⟩ := rd_facts (limit := lim) (wb := wb) (wp := wp) P.swo P.par reverseRange_holds (show a' < b' by omega) (show b' ≤ dk.size by omega) HBL.out
          have HB3 := Lib.hid B3
          have S3 := Lib.hid s3
          have S2 := Lib.hid s2
          have S1 := Lib.hid s1
          clear B1 B2 B3 s1 s2 s3
          go_upto_if 35 with fail
          go_cut [3] (fun s3 wc => s3 = .int .i64 (rd ltInt dk a' b' lim wb wp).lim ∧ Hid (At e32 w blk off (rd ltInt dk a' b' lim wb wp).d1 wc))
          case first =>
            cases wb
            · have hc := breakU_any blk off cap a' b' dk wr HHk.out hblk' hab' (by omega) (by omega)
              rw [hds] at hc
              have HC := Lib.hid hc
              clear hc
              go_wp2_with fail
              refine HC.out.mono ?_
              rintro e w1 ⟨rfl, hw1⟩
              have HW1 := Lib.hid hw1
              clear hw1
              go_wp2_with fail
              go_meet
              case rel =>
                refine ⟨?_, HAT.out.stepG hblk S1.out HW1.out⟩
                show Value.int .i64 ((lim : Int) - 1) = Value.int .i64 ((lim - 1 : Nat) : Int)
                congr 1
                omega
            · go_wp2_with fail
              go_meet
              case rel => exact ⟨rfl, HAT.out⟩
          case rest =>
            obtain ⟨rfl, HAT1⟩ := hcut
            obtain ⟨hH1, hblk1⟩ := HAT1.out.holds HH.out (S1.out.trans hds) hblk
            have hc17 := pivotU_any blk off cap a' b' (rd ltInt dk a' b' lim wb wp).d1 wc hH1 hblk1 (by omega) (by rw [S1.out]; omega) (by rw [S1.out]; omega)
            rw [S1.out, hds] at hc17
            have HC17 := Lib.hid (show Calls _ _ _ _ (fun e w' => e = .returned (.tuple #[.int .i64 (rd ltInt dk a' b' lim wb wp).c.1, .int .i64 (hintCode (rd ltInt dk a' b' lim wb wp).c.2)]) ∧ ∃ n os, w' = grow (Sort.ahead wc n) os) from hc17)
            clear hc17 hH1
            go_upto_if 50 with (go_at_call 73; refine HC17.out.mono ?_; rintro e w2 ⟨rfl, hw2⟩)
            have hAt2 : At e32 w blk off (rd ltInt dk a' b' lim wb wp).d1 w2 := HAT1.out.same HH.out (S1.out.trans hds) hblk hw2
            obtain ⟨hH2, hblk2⟩ := hAt2.holds HH.out (S1.out.trans hds) hblk
            have HAT2 := Lib.hid hAt2
            have HH2 := Lib.hid hH2
            clear hAt2 hH2 hw2
            go_cut [11, 12] (fun s11 s12 wc => s11 = .int .i64 (rd ltInt dk a' b' lim wb wp).pivot ∧ s12 = .int .i64 (hintCode (rd ltInt dk a' b' lim wb wp).hint) ∧ Hid (At e32 w blk off (rd ltInt dk a' b' lim wb wp).d2 wc))
            case first =>
              by_cases hh : (rd ltInt dk a' b' lim wb wp).c.2 = .decreasing
              · have hcode : hintCode (rd ltInt dk a' b' lim wb wp).c.2 = 2 := by rw [hh]; rfl
                obtain ⟨e2, epv, eht⟩ := rd_dec hh
                have hc18 := reverseU_any blk off cap a' b' (rd ltInt dk a' b' lim wb wp).d1 w2 HH2.out hab' (by rw [S1.out]; omega) (by rw [S1.out]; omega)
                rw [S1.out, hds] at hc18
                have HC18 := Lib.hid hc18
                have E2 := Lib.hid e2
                have EP := Lib.hid epv
                have EH := Lib.hid eht
                clear hc18 e2 epv eht
                go_wp2_with fail
                refine HC18.out.mono ?_
                rintro e w3 ⟨rfl, hw3⟩
                have HW3 := Lib.hid hw3
                clear hw3
                go_wp2_with fail
                go_meet
                case rel =>
                  refine ⟨?_, by rw [EH.out]; rfl, by rw [E2.out]; exact HAT2.out.step hblk (by rw [← E2.out, S2.out, S1.out]) HW3.out⟩
                  rw [EP.out]
                  congr 1
                  omega
              · have hcode : ¬ (hintCode (rd ltInt dk a' b' lim wb wp).c.2 = 2) := fun h => hh (hintCode_two h)
                obtain ⟨e2, epv, eht⟩ := rd_not hh
                have E2 := Lib.hid e2
                have EP := Lib.hid epv
                have EH := Lib.hid eht
                clear e2 epv eht
                go_wp2_with fail
                go_meet
                case rel => exact ⟨by rw [EP.out], by rw [EH.out], by rw [E2.out]; exact HAT2.out⟩
            case rest =>
              obtain ⟨rfl, rfl, HAT3⟩ := hcut
              obtain ⟨hH3, hblk3⟩ := HAT3.out.holds HH.out (S2.out.trans hds) hblk
              have HH3 := Lib.hid hH3
              clear hH3
              go_upto_region 15 with fail
              go_cut [12, 68] (fun s12 s68 wx => s12 = .int .i64 (hintCode (rd ltInt dk a' b' lim wb wp).hint) ∧ s68 = .bool (wb && wp && decide ((rd ltInt dk a' b' lim wb wp).hint = .increasing)) ∧ wx = wc)
              case first =>
                cases wb <;> cases wp <;> cases hh3 : (rd ltInt dk a' b' lim _ _).hint <;>
                  (have hcode3 := congrArg hintCode hh3
                   simp only [hintCode] at hcode3
                   go_wp2_with fail
                   go_meet
                   exact ⟨by simp [hh3, hintCode], by simp [hh3, hintCode], rfl⟩)
              case rest =>
                obtain ⟨rfl, rfl, rfl⟩ := hcut
                rename World => wc
                go_upto_if 68 with fail
                go_cut [] (fun wx => Hid ((rd ltInt dk a' b' lim wb wp).pi.2 = false) ∧ Hid (At e32 w blk off (rd ltInt dk a' b' lim wb wp).pi.1 wx))
                case first =>
                  cases h68 : (wb && wp && decide ((rd ltInt dk a' b' lim wb wp).hint = .increasing))
                  · have epi := rd_pi_no h68
                    have EPI := Lib.hid epi
                    clear epi
                    go_wp2_with fail
                    go_meet
                    case rel => exact ⟨by show _ = _; rw [EPI.out], by show At _ _ _ _ _ _; rw [EPI.out]; exact HAT3.out⟩
                  · have epi := rd_pi_yes h68
                    have hc19 := partialU_any blk off cap a' b' (rd ltInt dk a' b' lim wb wp).d2 wc HH3.out (by omega) (by rw [S2.out]; omega) (by rw [S2.out]; omega)
                    rw [S2.out, hds, ← epi] at hc19
                    have HC19 := Lib.hid hc19
                    clear epi hc19
                    cases hp2 : (rd ltInt dk a' b' lim wb wp).pi.2
                    · rw [hp2] at HC19
                      have HP2 := Lib.hid hp2
                      clear hp2
                      go_wp2_with fail
                      refine HC19.out.mono ?_
                      rintro e w4 ⟨rfl, hw4⟩
                      have HW4 := Lib.hid hw4
                      clear hw4
                      go_wp2_with fail
                      go_meet
                      exact ⟨HP2.out, HAT3.out.step hblk (by rw [S3.out, S2.out]) HW4.out⟩
                    · rw [hp2] at HC19
                      have HP2 := Lib.hid hp2
                      clear hp2
                      go_wp2_with fail
                      refine HC19.out.mono ?_
                      rintro e w4 ⟨rfl, hw4⟩
                      have HW4 := Lib.hid hw4
                      clear hw4
                      go_wp2_with fail
                      (try simp only [Exit.inBlock, Exit.then]); refine bodyPost_ret (results_none rfl _ _ _) rfl ?_
                      refine ⟨rfl, ?_⟩
                      rw [← HQ.out, pdq_done h12 hl0 HP2.out]
                      exact HAT3.out.step hblk (by rw [S3.out, S2.out]) HW4.out
                case rest =>
                  obtain ⟨HP2, HAT5⟩ := hcut
                  rename World => w5
                  obtain ⟨hH5, hblk5⟩ := HAT5.out.holds HH.out (S3.out.trans hds) hblk
                  obtain ⟨G, hG⟩ : ∃ G : Nat → Int, ∀ t, G t = (rd ltInt dk a' b' lim wb wp).pi.1[t]! := ⟨fun t => (rd ltInt dk a' b' lim wb wp).pi.1[t]!, fun _ => rfl⟩
                  have hcw : ∀ t, t < d.size → w5.cell? ⟨blk, off + t, none⟩ = some (.int .u32 (G t)) := fun t ht => by rw [hG]; exact (hH5 t (by rw [S3.out]; omega)).1
                  have HG := Lib.hid hG
                  clear hG hH5
                  go_upto_region 17 with fail
                  go_cut [87] (fun s87 wx => s87 = .bool (decide (a' > 0) && !ltInt (G (a' - 1)) (G (rd ltInt dk a' b' lim wb wp).pivot)) ∧ Hid (At e32 w blk off (rd ltInt dk a' b' lim wb wp).pi.1 wx))
                  case first =>
                    rcases Nat.eq_zero_or_pos a' with ha0 | ha0
                    · have ha0z : decide ((a' : Int) > 0) = false := decide_eq_false (by omega)
                      go_big_quiet (first | (go_at_call 76; refine Calls.quiet_of_same (lessU_any _ _ _)))
                      go_wp2_with fail
                      go_meet
                      case rel => exact ⟨by simp [ha0], HAT5.out.ahead nq⟩
                    · have ha0z : (a' : Int) > 0 := by omega
                      go_big_quiet (first | (go_at_call 76; refine Calls.quiet_of_same (lessU_any _ _ _)))
                      go_wp2_with fail
                      go_meet
                      case rel => exact ⟨by simp [ha0], HAT5.out.ahead nq⟩
                  case rest =>
                    obtain ⟨rfl, HAT6⟩ := hcut
                    rename World => w6
                    obtain ⟨hH6, hblk6⟩ := HAT6.out.holds HH.out (S3.out.trans hds) hblk
                    have HH6 := Lib.hid hH6
                    clear hcw hH6
                    cases h87 : (decide (a' > 0) && !ltInt (G (a' - 1)) (G (rd ltInt dk a' b' lim wb wp).pivot))
                    · have h87' := h87
                      rw [HG.out, HG.out] at h87'
                      have H87 := Lib.hid h87'
                      clear h87'
                      obtain ⟨mid, ap, d4, hx⟩ : ∃ mid ap d4, partition ltInt (rd ltInt dk a' b' lim wb wp).pi.1 a' b' (rd ltInt dk a' b' lim wb wp).pivot = (mid, ap, d4) := ⟨(partition ltInt (rd ltInt dk a' b' lim wb wp).pi.1 a' b' (rd ltInt dk a' b' lim wb wp).pivot).1, (partition ltInt (rd ltInt dk a' b' lim wb wp).pi.1 a' b' (rd ltInt dk a' b' lim wb wp).pivot).2.1, (partition ltInt (rd ltInt dk a' b' lim wb wp).pi.1 a' b' (rd ltInt dk a' b' lim wb wp).pivot).2.2, rfl⟩
                      obtain ⟨r1, r2, r3, r4, r5, r6, r7⟩ := round_part P.swo P.prt hpv.1 hpv.2 (show b' ≤ (rd ltInt dk a' b' lim wb wp).pi.1.size by rw [S3.out]; omega) HB3.out hx
                      have hc22 := partU_any blk off cap a' b' (rd ltInt dk a' b' lim wb wp).pivot (rd ltInt dk a' b' lim wb wp).pi.1 w6 HH6.out hpv.1 hpv.2 (by rw [S3.out]; omega) (by rw [S3.out]; omega)
                      rw [S3.out, hds, hx] at hc22
                      have HC22 := Lib.hid hc22
                      have HX := Lib.hid hx
                      have R3 := Lib.hid r3
                      have R4 := Lib.hid r4
                      have R5 := Lib.hid r5
                      have R6 := Lib.hid r6
                      have R7 := Lib.hid r7
                      clear hx hc22 r3 r4 r5 r6 r7
                      go_upto_if 113 with (go_at_call 78; refine HC22.out.mono ?_; rintro e w7 ⟨rfl, hw7⟩)
                      have hAt7 : At e32 w blk off d4 w7 := HAT6.out.step hblk R3.out hw7
                      obtain ⟨hH7, hblk7⟩ := hAt7.holds HH.out (R3.out.trans (S3.out.trans hds)) hblk
                      have HAT7 := Lib.hid hAt7
                      have HH7 := Lib.hid hH7
                      clear hAt7 hH7 hw7
                      by_cases h4 : mid - a' < b' - mid
                      · have h4z : (mid : Int) - (a' : Int) < (b' : Int) - (mid : Int) := by omega
                        have hih := IH.out blk off cap a' mid (rd ltInt dk a' b' lim wb wp).lim d4 w7 (by omega) HH7.out hblk7 (by omega) (by rw [R3.out, S3.out]; omega) (by rw [R3.out, S3.out]; omega) (Nat.lt_of_le_of_lt (Nat.le_trans rd_lim_le hlim) hlimit) R4.out
                        rw [R3.out, S3.out, hds] at hih
                        have HIH := Lib.hid hih
                        clear hih
                        obtain ⟨pL, sL⟩ := P.pdq P.swo d4 a' mid (rd ltInt dk a' b' lim wb wp).lim true true (by omega) (by rw [R3.out, S3.out]; omega) R4.out
                        have PL := Lib.hid pL
                        have SL := Lib.hid sL
                        clear pL sL
                        go_wp2_with fail
                        refine HIH.out.mono ?_
                        rintro e w8 ⟨rfl, hw8⟩
                        have HW8 := Lib.hid hw8
                        clear hw8
                        go_wp2_with fail
                        go_roundg (b' - (mid + 1))
                        case measure => omega
                        case rel =>
                          refine ⟨mid + 1, b', (rd ltInt dk a' b' lim wb wp).lim, decide (mid - a' ≥ (b' - a') / 8), ap, pdq ltInt d4 a' mid (rd ltInt dk a' b' lim wb wp).lim true true, by simp, rfl, rfl, ?_, rfl, by omega, by omega, Nat.le_refl _, by omega, Nat.le_trans rd_lim_le hlim, by rw [PL.out.1, R3.out, S3.out, hds], ?_, ?_, ?_⟩
                          · exact congrArg Value.bool (eighth (by omega) (by omega))
                          · exact (R6.out _ PL.out SL.out).1
                          · obtain ⟨n8, os8, hw8⟩ := HW8.out
                            exact HAT7.out.stepG hblk PL.out.1 ⟨n8, os8, hw8⟩
                          · show _ = _
                            rw [← HQ.out, pdq_left h12 hl0 HP2.out H87.out (by rw [HX.out]; exact ⟨r1, r2⟩) (by rw [HX.out]; exact h4), HX.out]
                      · have h4z : ¬ ((mid : Int) - (a' : Int) < (b' : Int) - (mid : Int)) := by omega
                        have hih := IH.out blk off cap (mid + 1) b' (rd ltInt dk a' b' lim wb wp).lim d4 w7 (by omega) HH7.out hblk7 (by omega) (by rw [R3.out, S3.out]; omega) (by rw [R3.out, S3.out]; omega) (Nat.lt_of_le_of_lt (Nat.le_trans rd_lim_le hlim) hlimit) R5.out
                        rw [R3.out, S3.out, hds] at hih
                        have HIH := Lib.hid hih
                        clear hih
                        obtain ⟨pL, sL⟩ := P.pdq P.swo d4 (mid + 1) b' (rd ltInt dk a' b' lim wb wp).lim true true (by omega) (by rw [R3.out, S3.out]; omega) R5.out
                        have PL := Lib.hid pL
                        have SL := Lib.hid sL
                        clear pL sL
                        go_wp2_with fail
                        (try rw [show ((mid : Int) + 1) = ((mid + 1 : Nat) : Int) by omega])
                        refine HIH.out.mono ?_
                        rintro e w8 ⟨rfl, hw8⟩
                        have HW8 := Lib.hid hw8
                        clear hw8
                        go_wp2_with fail
                        go_roundg (mid - a')
                        case measure => omega
                        case rel =>
                          refine ⟨a', mid, (rd ltInt dk a' b' lim wb wp).lim, decide (b' - mid ≥ (b' - a') / 8), ap, pdq ltInt d4 (mid + 1) b' (rd ltInt dk a' b' lim wb wp).lim true true, rfl, rfl, rfl, ?_, rfl, by omega, by omega, Nat.le_refl _, by omega, Nat.le_trans rd_lim_le hlim, by rw [PL.out.1, R3.out, S3.out, hds], ?_, ?_, ?_⟩
                          · exact congrArg Value.bool (eighth (by omega) (by omega))
                          · exact (R7.out _ PL.out SL.out).1
                          · obtain ⟨n8, os8, hw8⟩ := HW8.out
                            exact HAT7.out.stepG hblk PL.out.1 ⟨n8, os8, hw8⟩
                          · show _ = _
                            rw [← HQ.out, pdq_right h12 hl0 HP2.out H87.out (by rw [HX.out]; exact ⟨r1, r2⟩) (by rw [HX.out]; exact h4), HX.out]
                    · have h87' := h87
                      rw [HG.out, HG.out] at h87'
                      have H87 := Lib.hid h87'
                      simp only [Bool.and_eq_true, decide_eq_true_eq, Bool.not_eq_true'] at h87'
                      obtain ⟨mid, d4, hx⟩ : ∃ mid d4, partitionEqual ltInt (rd ltInt dk a' b' lim wb wp).pi.1 a' b' (rd ltInt dk a' b' lim wb wp).pivot = (mid, d4) := ⟨(partitionEqual ltInt (rd ltInt dk a' b' lim wb wp).pi.1 a' b' (rd ltInt dk a' b' lim wb wp).pivot).1, (partitionEqual ltInt (rd ltInt dk a' b' lim wb wp).pi.1 a' b' (rd ltInt dk a' b' lim wb wp).pivot).2, rfl⟩
                      obtain ⟨r1, r2, r3, r4, _⟩ := round_eq P.swo P.peq h87'.1 hpv.1 hpv.2 (show b' ≤ (rd ltInt dk a' b' lim wb wp).pi.1.size by rw [S3.out]; omega) HB3.out h87'.2 hx
                      have hc21 := partEqU_any blk off cap a' b' (rd ltInt dk a' b' lim wb wp).pivot (rd ltInt dk a' b' lim wb wp).pi.1 w6 HH6.out hpv.1 hpv.2 (by rw [S3.out]; omega) (by rw [S3.out]; omega)
                      rw [S3.out, hds, hx] at hc21
                      have HC21 := Lib.hid hc21
                      have HX := Lib.hid hx
                      have R3 := Lib.hid r3
                      have R4 := Lib.hid r4
                      clear hx hc21 r3 r4 h87'
                      go_wp2_with fail
                      refine HC21.out.mono ?_
                      rintro e w7 ⟨rfl, hw7⟩
                      have HW7 := Lib.hid hw7
                      clear hw7
                      go_wp2_with fail
                      go_roundg (b' - mid)
                      case measure => omega
                      case rel =>
                        exact ⟨mid, b', (rd ltInt dk a' b' lim wb wp).lim, wb, wp, d4, rfl, rfl, rfl, rfl, rfl, r2, hb', Nat.le_refl _, by omega, Nat.le_trans rd_lim_le hlim, by rw [R3.out, S3.out, hds], R4.out, HAT6.out.step hblk R3.out HW7.out, by show _ = _; rw [← HQ.out, pdq_eq h12 hl0 HP2.out H87.out (by rw [HX.out]; exact ⟨r1, r2⟩), HX.out]⟩
end Go.Proofs.Ythgmmajoinkblaa
