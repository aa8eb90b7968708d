/-
  Joined texts: Pq6, Kit2, Kit3, Pq7, Kit4, RowS.
-/
import Derived.Test.YthgmmajoinkblaaDoorMSpansNames2
import Derived.Test.YthgmmajoinkblaaDoorMSpansNames3
import Derived.Sort.Walk13
import Derived.Sort.AssemblyPlain
import Derived.Deep.Cut
import Derived.Test.YthgmmajoinkblaaDoorMSpansNames1
import Derived.Lib.SlBy
import Derived.Laws.OwnMore
import Derived.Test.YthgmmajoinkblaaDoorShelf
import Derived.ArgAppend
import Derived.Laws.CopyOwn
/-
  slices.Sort at numbers of 32 bits: the loop and the recursion of pdqsort (written by wip/gen/genpq6.py).
-/
namespace Go.Proofs.YthgmmajoinkblaaDoor
open Go Go.RowKit Go.Sort

/-- What the plain layer knows of the order of numbers. -/
theorem plainI : Plain13 where
  swo := swo_ltInt
  ins := insertionSort_holds
  par := partialInsertionSort_holds
  prt := partition_holds _
  peq := partitionEqual_holds _
  pdq := pdq_sorts _
set_option maxHeartbeats 12800000 in
set_option maxRecDepth 1000000 in
theorem pdqU_any : ∀ (N blk off cap a b limit : Nat) (d : Array Int) (w : World), b - a < N → Holds e32 w blk off d → blk < w.heap.size → a ≤ b → b ≤ d.size → d.size < 4611686018427387904 → limit < 4611686018427387904 → Sort.Below ltInt a b d →
    Calls Tryd.prog 18 #[.slice (some ⟨blk, off, none⟩) d.size cap, .int .i64 a, .int .i64 b, .int .i64 limit] w fun e w' => e = .returned (.tuple #[]) ∧ At e32 w blk off (pdq ltInt d a b limit true true) w' := by
  intro N
  induction N with
  | zero => intro _ _ _ _ _ _ _ _ h; exact absurd h (Nat.not_lt_zero _)
  | succ N ih =>
    intro blk off cap a b limit d w hN hH hblk hab hb hsz hlimit hBel0
    have IH := Lib.hid ih
    have HH := Lib.hid hH
    have P := plainI
    clear ih hH
    go_enter Tryd.func18, Tryd.ntmps18
    go_wp2
    go_loopg [1, 2, 3, 8, 9] (b - a) (fun k s1 s2 s3 s8 s9 wr => ∃ (a' b' lim : Nat) (wb wp : Bool) (dk : Array Int), s1 = .int .i64 a' ∧ s2 = .int .i64 b' ∧ s3 = .int .i64 lim ∧ s8 = .bool wb ∧ s9 = .bool wp ∧
      a' ≤ b' ∧ b' ≤ d.size ∧ b' - a' ≤ k ∧ k ≤ b - a ∧ lim ≤ limit ∧ dk.size = d.size ∧ Hid (Sort.Below ltInt a' b' dk) ∧ Hid (At e32 w blk off dk wr) ∧ Hid (pdq ltInt dk a' b' lim wb wp = pdq ltInt d a b limit true true))
    case atStart => exact ⟨a, b, limit, true, true, d, rfl, rfl, rfl, rfl, rfl, hab, hb, Nat.le_refl _, Nat.le_refl _, Nat.le_refl _, rfl, hBel0, At.refl HH.out, rfl⟩
    case round =>
      obtain ⟨a', b', lim, wb, wp, dk, rfl, rfl, rfl, rfl, rfl, hab', hb', hk, hkN, hlim, hds, HBL, HAT, HQ⟩ := hrel
      rename World => wr
      obtain ⟨hHk, hblk'⟩ := HAT.out.holds HH.out hds hblk
      have HHk := Lib.hid hHk
      clear hHk
      by_cases h12 : b' - a' ≤ 12
      · have h12z : (b' : Int) - (a' : Int) ≤ 12 := by omega
        have hc := insertionU_any blk off cap a' b' dk wr HHk.out hab' (by omega) (by omega)
        rw [hds] at hc
        have HC := Lib.hid hc
        clear hc
        go_wp2_with fail
        refine HC.out.mono ?_
        rintro e w1 ⟨rfl, hw1⟩
        have HW1 := Lib.hid hw1
        clear hw1
        go_wp2_with fail
        (try simp only [Exit.inBlock, Exit.then]); refine bodyPost_ret (results_none rfl _ _ _) rfl ?_
        refine ⟨rfl, ?_⟩
        rw [← HQ.out, pdq_small h12]
        exact HAT.out.step hblk (P.ins P.swo dk a' b' hab' (by omega)).1.1 HW1.out
      · have h12z : ¬ ((b' : Int) - (a' : Int) ≤ 12) := by omega
        by_cases hl0 : lim = 0
        · subst hl0
          have hc := heapU_any blk off cap a' b' dk wr HHk.out hab' (by omega) (by omega)
          rw [hds] at hc
          have HC := Lib.hid hc
          clear hc
          go_wp2_with fail
          refine HC.out.mono ?_
          rintro e w1 ⟨rfl, hw1⟩
          have HW1 := Lib.hid hw1
          clear hw1
          go_wp2_with fail
          (try simp only [Exit.inBlock, Exit.then]); refine bodyPost_ret (results_none rfl _ _ _) rfl ?_
          refine ⟨rfl, ?_⟩
          rw [← HQ.out, pdq_heap h12 rfl]
          exact HAT.out.step hblk (heapSort_holds P.swo dk a' b' hab' (by omega)).1.1 HW1.out
        · have hl0z : ¬ ((lim : Int) = 0) := by omega
          obtain ⟨s1, B1, hc1, s2, B2, hpv, s3, B3⟩ := rd_facts (limit := lim) (wb := wb) (wp := wp) P.swo P.par reverseRange_holds (show a' < b' by omega) (show b' ≤ dk.size by omega) HBL.out
          have HB3 := Lib.hid B3
          have S3 := Lib.hid s3
          have S2 := Lib.hid s2
          have S1 := Lib.hid s1
          clear B1 B2 B3 s1 s2 s3
          go_upto_if 35 with fail
          go_cut [3] (fun s3 wc => s3 = .int .i64 (rd ltInt dk a' b' lim wb wp).lim ∧ Hid (At e32 w blk off (rd ltInt dk a' b' lim wb wp).d1 wc))
          case first =>
            cases wb
            · have hc := breakU_any blk off cap a' b' dk wr HHk.out hblk' hab' (by omega) (by omega)
              rw [hds] at hc
              have HC := Lib.hid hc
              clear hc
              go_wp2_with fail
              refine HC.out.mono ?_
              rintro e w1 ⟨rfl, hw1⟩
              have HW1 := Lib.hid hw1
              clear hw1
              go_wp2_with fail
              go_meet
              case rel =>
                refine ⟨?_, HAT.out.stepG hblk S1.out HW1.out⟩
                show Value.int .i64 ((lim : Int) - 1) = Value.int .i64 ((lim - 1 : Nat) : Int)
                congr 1
                omega
            · go_wp2_with fail
              go_meet
              case rel => exact ⟨rfl, HAT.out⟩
          case rest =>
            obtain ⟨rfl, HAT1⟩ := hcut
            obtain ⟨hH1, hblk1⟩ := HAT1.out.holds HH.out (S1.out.trans hds) hblk
            have hc17 := pivotU_any blk off cap a' b' (rd ltInt dk a' b' lim wb wp).d1 wc hH1 hblk1 (by omega) (by rw [S1.out]; omega) (by rw [S1.out]; omega)
            rw [S1.out, hds] at hc17
            have HC17 := Lib.hid (show Calls _ _ _ _ (fun e w' => e = .returned (.tuple #[.int .i64 (rd ltInt dk a' b' lim wb wp).c.1, .int .i64 (hintCode (rd ltInt dk a' b' lim wb wp).c.2)]) ∧ ∃ n os, w' = grow (Sort.ahead wc n) os) from hc17)
            clear hc17 hH1
            go_upto_if 50 with (go_at_call 29; refine HC17.out.mono ?_; rintro e w2 ⟨rfl, hw2⟩)
            have hAt2 : At e32 w blk off (rd ltInt dk a' b' lim wb wp).d1 w2 := HAT1.out.same HH.out (S1.out.trans hds) hblk hw2
            obtain ⟨hH2, hblk2⟩ := hAt2.holds HH.out (S1.out.trans hds) hblk
            have HAT2 := Lib.hid hAt2
            have HH2 := Lib.hid hH2
            clear hAt2 hH2 hw2
            go_cut [11, 12] (fun s11 s12 wc => s11 = .int .i64 (rd ltInt dk a' b' lim wb wp).pivot ∧ s12 = .int .i64 (hintCode (rd ltInt dk a' b' lim wb wp).hint) ∧ Hid (At e32 w blk off (rd ltInt dk a' b' lim wb wp).d2 wc))
            case first =>
              by_cases hh : (rd ltInt dk a' b' lim wb wp).c.2 = .decreasing
              · have hcode : hintCode (rd ltInt dk a' b' lim wb wp).c.2 = 2 := by rw [hh]; rfl
                obtain ⟨e2, epv, eht⟩ := rd_dec hh
                have hc18 := reverseU_any blk off cap a' b' (rd ltInt dk a' b' lim wb wp).d1 w2 HH2.out hab' (by rw [S1.out]; omega) (by rw [S1.out]; omega)
                rw [S1.out, hds] at hc18
                have HC18 := Lib.hid hc18
                have E2 := Lib.hid e2
                have EP := Lib.hid epv
                have EH := Lib.hid eht
                clear hc18 e2 epv eht
                go_wp2_with fail
                refine HC18.out.mono ?_
                rintro e w3 ⟨rfl, hw3⟩
                have HW3 := Lib.hid hw3
                clear hw3
                go_wp2_with fail
                go_meet
                case rel =>
                  refine ⟨?_, by rw [EH.out]; rfl, by rw [E2.out]; exact HAT2.out.step hblk (by rw [← E2.out, S2.out, S1.out]) HW3.out⟩
                  rw [EP.out]
                  congr 1
                  omega
              · have hcode : ¬ (hintCode (rd ltInt dk a' b' lim wb wp).c.2 = 2) := fun h => hh (hintCode_two h)
                obtain ⟨e2, epv, eht⟩ := rd_not hh
                have E2 := Lib.hid e2
                have EP := Lib.hid epv
                have EH := Lib.hid eht
                clear e2 epv eht
                go_wp2_with fail
                go_meet
                case rel => exact ⟨by rw [EP.out], by rw [EH.out], by rw [E2.out]; exact HAT2.out⟩
            case rest =>
              obtain ⟨rfl, rfl, HAT3⟩ := hcut
              obtain ⟨hH3, hblk3⟩ := HAT3.out.holds HH.out (S2.out.trans hds) hblk
              have HH3 := Lib.hid hH3
              clear hH3
              go_upto_region 15 with fail
              go_cut [12, 68] (fun s12 s68 wx => s12 = .int .i64 (hintCode (rd ltInt dk a' b' lim wb wp).hint) ∧ s68 = .bool (wb && wp && decide ((rd ltInt dk a' b' lim wb wp).hint = .increasing)) ∧ wx = wc)
              case first =>
                cases wb <;> cases wp <;> cases hh3 : (rd ltInt dk a' b' lim _ _).hint <;>
                  (have hcode3 := congrArg hintCode hh3
                   simp only [hintCode] at hcode3
                   go_wp2_with fail
                   go_meet
                   exact ⟨by simp [hh3, hintCode], by simp [hh3, hintCode], rfl⟩)
              case rest =>
                obtain ⟨rfl, rfl, rfl⟩ := hcut
                rename World => wc
                go_upto_if 68 with fail
                go_cut [] (fun wx => Hid ((rd ltInt dk a' b' lim wb wp).pi.2 = false) ∧ Hid (At e32 w blk off (rd ltInt dk a' b' lim wb wp).pi.1 wx))
                case first =>
                  cases h68 : (wb && wp && decide ((rd ltInt dk a' b' lim wb wp).hint = .increasing))
                  · have epi := rd_pi_no h68
                    have EPI := Lib.hid epi
                    clear epi
                    go_wp2_with fail
                    go_meet
                    case rel => exact ⟨by show _ = _; rw [EPI.out], by show At _ _ _ _ _ _; rw [EPI.out]; exact HAT3.out⟩
                  · have epi := rd_pi_yes h68
                    have hc19 := partialU_any blk off cap a' b' (rd ltInt dk a' b' lim wb wp).d2 wc HH3.out (by omega) (by rw [S2.out]; omega) (by rw [S2.out]; omega)
                    rw [S2.out, hds, ← epi] at hc19
                    have HC19 := Lib.hid hc19
                    clear epi hc19
                    cases hp2 : (rd ltInt dk a' b' lim wb wp).pi.2
                    · rw [hp2] at HC19
                      have HP2 := Lib.hid hp2
                      clear hp2
                      go_wp2_with fail
                      refine HC19.out.mono ?_
                      rintro e w4 ⟨rfl, hw4⟩
                      have HW4 := Lib.hid hw4
                      clear hw4
                      go_wp2_with fail
                      go_meet
                      exact ⟨HP2.out, HAT3.out.step hblk (by rw [S3.out, S2.out]) HW4.out⟩
                    · rw [hp2] at HC19
                      have HP2 := Lib.hid hp2
                      clear hp2
                      go_wp2_with fail
                      refine HC19.out.mono ?_
                      rintro e w4 ⟨rfl, hw4⟩
                      have HW4 := Lib.hid hw4
                      clear hw4
                      go_wp2_with fail
                      (try simp only [Exit.inBlock, Exit.then]); refine bodyPost_ret (results_none rfl _ _ _) rfl ?_
                      refine ⟨rfl, ?_⟩
                      rw [← HQ.out, pdq_done h12 hl0 HP2.out]
                      exact HAT3.out.step hblk (by rw [S3.out, S2.out]) HW4.out
                case rest =>
                  obtain ⟨HP2, HAT5⟩ := hcut
                  rename World => w5
                  obtain ⟨hH5, hblk5⟩ := HAT5.out.holds HH.out (S3.out.trans hds) hblk
                  obtain ⟨G, hG⟩ : ∃ G : Nat → Int, ∀ t, G t = (rd ltInt dk a' b' lim wb wp).pi.1[t]! := ⟨fun t => (rd ltInt dk a' b' lim wb wp).pi.1[t]!, fun _ => rfl⟩
                  have hcw : ∀ t, t < d.size → w5.cell? ⟨blk, off + t, none⟩ = some (.int .u32 (G t)) := fun t ht => by rw [hG]; exact (hH5 t (by rw [S3.out]; omega)).1
                  have HG := Lib.hid hG
                  clear hG hH5
                  go_upto_region 17 with fail
                  go_cut [87] (fun s87 wx => s87 = .bool (decide (a' > 0) && !ltInt (G (a' - 1)) (G (rd ltInt dk a' b' lim wb wp).pivot)) ∧ Hid (At e32 w blk off (rd ltInt dk a' b' lim wb wp).pi.1 wx))
                  case first =>
                    rcases Nat.eq_zero_or_pos a' with ha0 | ha0
                    · have ha0z : decide ((a' : Int) > 0) = false := decide_eq_false (by omega)
                      go_big_quiet (first | (go_at_call 32; refine Calls.quiet_of_same (lessU_any _ _ _)))
                      go_wp2_with fail
                      go_meet
                      case rel => exact ⟨by simp [ha0], HAT5.out.ahead nq⟩
                    · have ha0z : (a' : Int) > 0 := by omega
                      go_big_quiet (first | (go_at_call 32; refine Calls.quiet_of_same (lessU_any _ _ _)))
                      go_wp2_with fail
                      go_meet
                      case rel => exact ⟨by simp [ha0], HAT5.out.ahead nq⟩
                  case rest =>
                    obtain ⟨rfl, HAT6⟩ := hcut
                    rename World => w6
                    obtain ⟨hH6, hblk6⟩ := HAT6.out.holds HH.out (S3.out.trans hds) hblk
                    have HH6 := Lib.hid hH6
                    clear hcw hH6
                    cases h87 : (decide (a' > 0) && !ltInt (G (a' - 1)) (G (rd ltInt dk a' b' lim wb wp).pivot))
                    · have h87' := h87
                      rw [HG.out, HG.out] at h87'
                      have H87 := Lib.hid h87'
                      clear h87'
                      obtain ⟨mid, ap, d4, hx⟩ : ∃ mid ap d4, partition ltInt (rd ltInt dk a' b' lim wb wp).pi.1 a' b' (rd ltInt dk a' b' lim wb wp).pivot = (mid, ap, d4) := ⟨(partition ltInt (rd ltInt dk a' b' lim wb wp).pi.1 a' b' (rd ltInt dk a' b' lim wb wp).pivot).1, (partition ltInt (rd ltInt dk a' b' lim wb wp).pi.1 a' b' (rd ltInt dk a' b' lim wb wp).pivot).2.1, (partition ltInt (rd ltInt dk a' b' lim wb wp).pi.1 a' b' (rd ltInt dk a' b' lim wb wp).pivot).2.2, rfl⟩
                      obtain ⟨r1, r2, r3, r4, r5, r6, r7⟩ := round_part P.swo P.prt hpv.1 hpv.2 (show b' ≤ (rd ltInt dk a' b' lim wb wp).pi.1.size by rw [S3.out]; omega) HB3.out hx
                      have hc22 := partU_any blk off cap a' b' (rd ltInt dk a' b' lim wb wp).pivot (rd ltInt dk a' b' lim wb wp).pi.1 w6 HH6.out hpv.1 hpv.2 (by rw [S3.out]; omega) (by rw [S3.out]; omega)
                      rw [S3.out, hds, hx] at hc22
                      have HC22 := Lib.hid hc22
                      have HX := Lib.hid hx
                      have R3 := Lib.hid r3
                      have R4 := Lib.hid r4
                      have R5 := Lib.hid r5
                      have R6 := Lib.hid r6
                      have R7 := Lib.hid r7
                      clear hx hc22 r3 r4 r5 r6 r7
                      go_upto_if 113 with (go_at_call 34; refine HC22.out.mono ?_; rintro e w7 ⟨rfl, hw7⟩)
                      have hAt7 : At e32 w blk off d4 w7 := HAT6.out.step hblk R3.out hw7
                      obtain ⟨hH7, hblk7⟩ := hAt7.holds HH.out (R3.out.trans (S3.out.trans hds)) hblk
                      have HAT7 := Lib.hid hAt7
                      have HH7 := Lib.hid hH7
                      clear hAt7 hH7 hw7
                      by_cases h4 : mid - a' < b' - mid
                      · have h4z : (mid : Int) - (a' : Int) < (b' : Int) - (mid : Int) := by omega
                        have hih := IH.out blk off cap a' mid (rd ltInt dk a' b' lim wb wp).lim d4 w7 (by omega) HH7.out hblk7 (by omega) (by rw [R3.out, S3.out]; omega) (by rw [R3.out, S3.out]; omega) (Nat.lt_of_le_of_lt (Nat.le_trans rd_lim_le hlim) hlimit) R4.out
                        rw [R3.out, S3.out, hds] at hih
                        have HIH := Lib.hid hih
                        clear hih
                        obtain ⟨pL, sL⟩ := P.pdq P.swo d4 a' mid (rd ltInt dk a' b' lim wb wp).lim true true (by omega) (by rw [R3.out, S3.out]; omega) R4.out
                        have PL := Lib.hid pL
                        have SL := Lib.hid sL
                        clear pL sL
                        go_wp2_with fail
                        refine HIH.out.mono ?_
                        rintro e w8 ⟨rfl, hw8⟩
                        have HW8 := Lib.hid hw8
                        clear hw8
                        go_wp2_with fail
                        go_roundg (b' - (mid + 1))
                        case measure => omega
                        case rel =>
                          refine ⟨mid + 1, b', (rd ltInt dk a' b' lim wb wp).lim, decide (mid - a' ≥ (b' - a') / 8), ap, pdq ltInt d4 a' mid (rd ltInt dk a' b' lim wb wp).lim true true, by simp, rfl, rfl, ?_, rfl, by omega, by omega, Nat.le_refl _, by omega, Nat.le_trans rd_lim_le hlim, by rw [PL.out.1, R3.out, S3.out, hds], ?_, ?_, ?_⟩
                          · exact congrArg Value.bool (eighth (by omega) (by omega))
                          · exact (R6.out _ PL.out SL.out).1
                          · obtain ⟨n8, os8, hw8⟩ := HW8.out
                            exact HAT7.out.stepG hblk PL.out.1 ⟨n8, os8, hw8⟩
                          · show _ = _
                            rw [← HQ.out, pdq_left h12 hl0 HP2.out H87.out (by rw [HX.out]; exact ⟨r1, r2⟩) (by rw [HX.out]; exact h4), HX.out]
                      · have h4z : ¬ ((mid : Int) - (a' : Int) < (b' : Int) - (mid : Int)) := by omega
                        have hih := IH.out blk off cap (mid + 1) b' (rd ltInt dk a' b' lim wb wp).lim d4 w7 (by omega) HH7.out hblk7 (by omega) (by rw [R3.out, S3.out]; omega) (by rw [R3.out, S3.out]; omega) (Nat.lt_of_le_of_lt (Nat.le_trans rd_lim_le hlim) hlimit) R5.out
                        rw [R3.out, S3.out, hds] at hih
                        have HIH := Lib.hid hih
                        clear hih
                        obtain ⟨pL, sL⟩ := P.pdq P.swo d4 (mid + 1) b' (rd ltInt dk a' b' lim wb wp).lim true true (by omega) (by rw [R3.out, S3.out]; omega) R5.out
                        have PL := Lib.hid pL
                        have SL := Lib.hid sL
                        clear pL sL
                        go_wp2_with fail
                        (try rw [show ((mid : Int) + 1) = ((mid + 1 : Nat) : Int) by omega])
                        refine HIH.out.mono ?_
                        rintro e w8 ⟨rfl, hw8⟩
                        have HW8 := Lib.hid hw8
                        clear hw8
                        go_wp2_with fail
                        go_roundg (mid - a')
                        case measure => omega
                        case rel =>
                          refine ⟨a', mid, (rd ltInt dk a' b' lim wb wp).lim, decide (b' - mid ≥ (b' - a') / 8), ap, pdq ltInt d4 (mid + 1) b' (rd ltInt dk a' b' lim wb wp).lim true true, rfl, rfl, rfl, ?_, rfl, by omega, by omega, Nat.le_refl _, by omega, Nat.le_trans rd_lim_le hlim, by rw [PL.out.1, R3.out, S3.out, hds], ?_, ?_, ?_⟩
                          · exact congrArg Value.bool (eighth (by omega) (by omega))
                          · exact (R7.out _ PL.out SL.out).1
                          · obtain ⟨n8, os8, hw8⟩ := HW8.out
                            exact HAT7.out.stepG hblk PL.out.1 ⟨n8, os8, hw8⟩
                          · show _ = _
                            rw [← HQ.out, pdq_right h12 hl0 HP2.out H87.out (by rw [HX.out]; exact ⟨r1, r2⟩) (by rw [HX.out]; exact h4), HX.out]
                    · have h87' := h87
                      rw [HG.out, HG.out] at h87'
                      have H87 := Lib.hid h87'
                      simp only [Bool.and_eq_true, decide_eq_true_eq, Bool.not_eq_true'] at h87'
                      obtain ⟨mid, d4, hx⟩ : ∃ mid d4, partitionEqual ltInt (rd ltInt dk a' b' lim wb wp).pi.1 a' b' (rd ltInt dk a' b' lim wb wp).pivot = (mid, d4) := ⟨(partitionEqual ltInt (rd ltInt dk a' b' lim wb wp).pi.1 a' b' (rd ltInt dk a' b' lim wb wp).pivot).1, (partitionEqual ltInt (rd ltInt dk a' b' lim wb wp).pi.1 a' b' (rd ltInt dk a' b' lim wb wp).pivot).2, rfl⟩
                      obtain ⟨r1, r2, r3, r4, _⟩ := round_eq P.swo P.peq h87'.1 hpv.1 hpv.2 (show b' ≤ (rd ltInt dk a' b' lim wb wp).pi.1.size by rw [S3.out]; omega) HB3.out h87'.2 hx
                      have hc21 := partEqU_any blk off cap a' b' (rd ltInt dk a' b' lim wb wp).pivot (rd ltInt dk a' b' lim wb wp).pi.1 w6 HH6.out hpv.1 hpv.2 (by rw [S3.out]; omega) (by rw [S3.out]; omega)
                      rw [S3.out, hds, hx] at hc21
                      have HC21 := Lib.hid hc21
                      have HX := Lib.hid hx
                      have R3 := Lib.hid r3
                      have R4 := Lib.hid r4
                      clear hx hc21 r3 r4 h87'
                      go_wp2_with fail
                      refine HC21.out.mono ?_
                      rintro e w7 ⟨rfl, hw7⟩
                      have HW7 := Lib.hid hw7
                      clear hw7
                      go_wp2_with fail
                      go_roundg (b' - mid)
                      case measure => omega
                      case rel =>
                        exact ⟨mid, b', (rd ltInt dk a' b' lim wb wp).lim, wb, wp, d4, rfl, rfl, rfl, rfl, rfl, r2, hb', Nat.le_refl _, by omega, Nat.le_trans rd_lim_le hlim, by rw [R3.out, S3.out, hds], R4.out, HAT6.out.step hblk R3.out HW7.out, by show _ = _; rw [← HQ.out, pdq_eq h12 hl0 HP2.out H87.out (by rw [HX.out]; exact ⟨r1, r2⟩), HX.out]⟩
end Go.Proofs.YthgmmajoinkblaaDoor

/-
  Small general lemmas, the second text: lists of structs as cells, the first place at which a predicate holds.
-/
namespace Go.Proofs.YthgmmajoinkblaaDoor
open Go Go.RowKit

theorem flat_get {α : Type} (enc : α → List Value) (k : Nat) (hk : ∀ x, (enc x).length = k) : ∀ (L : List α) (j i : Nat) (x : α) (v : Value), L[j]? = some x → (enc x)[i]? = some v → (L.flatMap enc)[j * k + i]? = some v
  | [], j, i, x, v, h, _ => by simp at h
  | y :: L, 0, i, x, v, h, hv => by
    simp at h; subst h
    have hi : i < (enc y).length := (List.getElem?_eq_some_iff.1 hv).1
    rw [List.flatMap_cons, Nat.zero_mul, Nat.zero_add, List.getElem?_append_left hi]
    exact hv
  | y :: L, j + 1, i, x, v, h, hv => by
    rw [List.flatMap_cons, List.getElem?_append_right (by rw [hk]; rw [Nat.add_mul]; omega), hk]
    have := flat_get enc k hk L j i x v (by simpa using h) hv
    rw [show (j + 1) * k + i - k = j * k + i by rw [Nat.add_mul]; omega]
    exact this
theorem flat_len {α : Type} (enc : α → List Value) (k : Nat) (hk : ∀ x, (enc x).length = k) (L : List α) : (L.flatMap enc).length = L.length * k := by
  induction L with
  | nil => simp
  | cons y L ih => rw [List.flatMap_cons, List.length_append, ih, hk, List.length_cons, Nat.add_mul]; omega
theorem get_bang {α : Type} [Inhabited α] {L : List α} {j : Nat} (h : j < L.length) : L[j]? = some L[j]! := by
  rw [List.getElem!_eq_getElem?_getD, List.getElem?_eq_getElem h]; rfl
/-- The cells of a slice of structs, as the shelf's contracts ask them. -/
theorem Rd.cells {α : Type} [Inhabited α] {enc : α → List Value} {k : Nat} (hk : ∀ x, (enc x).length = k) {w : World} {L : List α} {b off : Nat}
    (hcell : ∀ j u, (L.flatMap enc)[j]? = some u → w.cell? ⟨b, off + j, none⟩ = some u) :
    ∀ j, j < L.length → ∀ i v, (enc L[j]!)[i]? = some v → w.cell? ⟨b, off + j * k + i, none⟩ = some v := by
  intro j hj i v hv
  have := hcell _ _ (flat_get enc k hk L j i _ v (get_bang hj) hv)
  rw [Nat.add_assoc]; exact this

theorem rt2 {v v' u u' : Value} (h : v = v' ∧ u = u') : Ending.returned (.tuple #[v, u]) = .returned (.tuple #[v', u']) := by rw [h.1, h.2]
theorem vi {k : IntKind} {a b : Int} (h : a = b) : Value.int k a = .int k b := by rw [h]
theorem vb {a b : Bool} (h : a = b) : Value.bool a = .bool b := by rw [h]
/-- The first place at which p holds; -1: there is none. -/
def idxP {α : Type} [Inhabited α] (p : α → Bool) (L : List α) : Int := Lib.idxBy (fun _ y => p y) L default
theorem idxP_nil {α : Type} [Inhabited α] (p : α → Bool) : idxP p [] = -1 := rfl
theorem idxP_miss {α : Type} [Inhabited α] (p : α → Bool) (L : List α) (h : ∀ (j : Nat) (x : α), L[j]? = some x → p x = false) : idxP p L = -1 := by
  have := Lib.idxBy_miss (fun _ y => p y) L L.length default (fun j hj => h j _ (get_bang hj))
  rw [List.take_length] at this
  exact this
theorem idxP_hit {α : Type} [Inhabited α] (p : α → Bool) (L : List α) (k : Nat) (x : α) (hx : L[k]? = some x) (h : p x = true) (hne : ∀ (j : Nat) (y : α), j < k → L[j]? = some y → p y = false) : idxP p L = k := by
  have hk : k < L.length := (List.getElem?_eq_some_iff.1 hx).1
  have e : L[k]! = x := by
    have := get_bang hk
    rw [hx] at this
    injection this with this
    exact this.symm
  have := Lib.idxBy_hit (fun _ y => p y) L L.length k default hk (Nat.le_refl _) (by rw [e]; exact h) (fun j hj => hne j _ hj (get_bang (by omega)))
  rw [List.take_length] at this
  exact this
theorem idxP_cases {α : Type} [Inhabited α] (p : α → Bool) (L : List α) : (idxP p L = -1 ∧ ∀ (j : Nat) (x : α), L[j]? = some x → p x = false) ∨ ∃ (k : Nat) (x : α), idxP p L = k ∧ L[k]? = some x ∧ p x = true ∧ ∀ (j : Nat) (y : α), j < k → L[j]? = some y → p y = false := by
  by_cases h : ∃ (k : Nat) (x : α), L[k]? = some x ∧ p x = true
  · obtain ⟨k, hk⟩ := h
    have : ∃ (k : Nat) (x : α), L[k]? = some x ∧ p x = true ∧ ∀ (j : Nat) (y : α), j < k → L[j]? = some y → p y = false := by
      induction k using Nat.strongRecOn with
      | ind k ih =>
        by_cases h2 : ∃ j : Nat, j < k ∧ ∃ y, L[j]? = some y ∧ p y = true
        · obtain ⟨j, hj, hy⟩ := h2
          exact ih j hj hy
        · obtain ⟨x, hx, hp⟩ := hk
          refine ⟨k, x, hx, hp, fun j y hj hy => ?_⟩
          cases hpy : p y with
          | false => rfl
          | true => exact absurd ⟨j, hj, y, hy, hpy⟩ h2
    obtain ⟨k, x, hx, hp, hne⟩ := this
    exact .inr ⟨k, x, idxP_hit p L k x hx hp hne, hx, hp, hne⟩
  · refine .inl ⟨?_, ?_⟩
    · exact idxP_miss p L (fun j x hx => by
        cases hp : p x with
        | false => rfl
        | true => exact absurd ⟨j, x, hx, hp⟩ h)
    · intro j x hx
      cases hp : p x with
      | false => rfl
      | true => exact absurd ⟨j, x, hx, hp⟩ h

end Go.Proofs.YthgmmajoinkblaaDoor

/-
  Small general lemmas, the third text: one element appended to a row of the call's own; no program in sight.
-/
namespace Go.Proofs.YthgmmajoinkblaaDoor
open Go Go.RowKit

/-- One element (its cells have just been laid in a block of their own) is appended to a row of the call's own. -/
theorem wpList_push {P : Program} {ops : Array Oper} {rest : List Oper} {o : Oper} {a : Act} {Q : Exit → Act → World → Prop} (hgd : o.guard = none) (s x : Operand) (t : TypeId)
    (ho : o.op = .call { callee := .builtin .append, args := #[s, x], argTypes := #[t, t] })
    (e : TypeId) (i : TypeInfo) (z : Value) (size bytes : Nat) (ht : P.underlying t = some (.slice e)) (hi : P.info? e = some i) (hz : i.zero = some z)
    (hsize : i.size = size) (hby : i.bytes = bytes) (hzs : z.cells.size = size) (hsz : 0 < size) (hb64 : bytes ≤ 64)
    {w0 : World} {base n : Nat} {v : Value} {xs : List Value} (es : List Value) (hs : a.eval s = v) {g0 : Nat} (hx : a.eval x = .slice (some ⟨g0, 0, none⟩) 1 1) (hg0 : g0 = w0.heap.size)
    (hown : w0.ownsRow base e size v n xs) (hes : es.length = size) (h1 : ∀ u ∈ es, u.oneCell' = true) (hn : n ≤ 1099511627776) (hbase : base ≤ w0.heap.size)
    {B : Nat} {a0 : World} (hb : Below B a0 w0) (hB : B ≤ base)
    (h : ∀ v' w', w'.ownsRow base e size v' (n + 1) (xs ++ es) → Below B a0 w' → wpList P ops Q rest (a.put o.dst v') w') : wpList P ops Q (o :: rest) a (w0.alloc (.cells es.toArray e)) := by
  subst hg0
  refine wpList_append_own _ hgd s x t ho base e i z size bytes ht hi hz hsize hby hzs hsz v n xs hs (hown.alloc _) ⟨w0.heap.size, 0, none⟩ 1 1 es hx (by omega) (cells_new w0 es e) h1 (by unfold maxLen; omega) ?_ (by simp; omega) ?_
  · calc (n + 1) * bytes ≤ (1099511627776 + 1) * 64 := Nat.mul_le_mul (by omega) hb64
      _ ≤ 140737488355328 := by decide
  · intro v' w' h2 h3 _
    exact h v' w' h2 (below_row (hb.alloc (by omega) _) (hown.alloc _) h3 (by simp; omega) hB)
/-- What a row of the call's own is made of. -/
theorem owns_block {w : World} {base : Nat} {e : TypeId} {size n : Nat} {g c : Nat} {xs : List Value} (h : w.ownsRow base e size (.slice (some ⟨g, 0, none⟩) n c) n xs) :
    ∃ cur : Array Value, w.heap[g]? = some (.cells cur e (0, 0)) ∧ n ≤ c ∧ c ≤ maxLen ∧ cur.size = c * size ∧ cur.toList.take (n * size) = xs ∧ base ≤ g := by
  obtain ⟨_, h2⟩ := h
  rcases h2 with ⟨h2, _⟩ | ⟨g', cap, cur, hv, hg, hh, hnc, hcm, hcs, ht⟩
  · cases h2
  · injection hv with h1 _ h3
    injection h1 with h1
    injection h1 with h1
    subst h1 h3
    exact ⟨cur, hh, hnc, hcm, hcs, ht, hg⟩
theorem owns_of_block {w : World} {base : Nat} {e : TypeId} {size n : Nat} {g c : Nat} {cur : Array Value} {xs : List Value} (hh : w.heap[g]? = some (.cells cur e (0, 0))) (hnc : n ≤ c) (hcm : c ≤ maxLen) (hcs : cur.size = c * size) (ht : cur.toList.take (n * size) = xs) (hl : xs.length = n * size) (hg : base ≤ g) :
    w.ownsRow base e size (.slice (some ⟨g, 0, none⟩) n c) n xs := ⟨hl, .inr ⟨g, c, cur, rfl, hg, hh, hnc, hcm, hcs, ht⟩⟩
theorem owns_nil (w : World) (base : Nat) (e : TypeId) (size : Nat) : w.ownsRow base e size (.slice none 0 0) 0 [] := ⟨by simp, .inl ⟨rfl, rfl⟩⟩

end Go.Proofs.YthgmmajoinkblaaDoor

/-
  slices.Sort at a row of the call's own, numbers of 32 bits.
-/
namespace Go.Proofs.YthgmmajoinkblaaDoor
open Go Go.RowKit Go.Sort

/-- The cells of a list of numbers. -/
def ucells (L : List Int) : List Value := L.map e32
theorem ucells_len (L : List Int) : (ucells L).length = L.length := by simp [ucells]
theorem ucells_one (L : List Int) : ∀ v ∈ ucells L, v.oneCell' = true := by
  intro v hv
  obtain ⟨x, _, rfl⟩ := List.mem_map.1 hv
  rfl
theorem ucell {L : List Int} {k : Nat} {x : Int} (h : L[k]? = some x) : (ucells L)[k]? = some (.int .u32 x) := by simp [ucells, h]
set_option maxHeartbeats 1000000 in
theorem insNilU (w : World) : Calls Tryd.prog 26 #[.slice none 0 0, .int .i64 0, .int .i64 0] w fun e w' => e = .returned (.tuple #[]) ∧ w' = w := by
  go_enter Tryd.func26, Tryd.ntmps26
  go_wp2
  go_loopw [6] (fun vi wr => vi = .int .i64 1 ∧ wr = w) (fun _ _ => 0)
  case atStart => exact ⟨rfl, rfl⟩
  case round =>
    obtain ⟨rfl, rfl⟩ := hrel
    go_wp2
    go_end0
    exact ⟨rfl, rfl⟩
set_option maxHeartbeats 1000000 in
theorem pdqNilU (w : World) : Calls Tryd.prog 18 #[.slice none 0 0, .int .i64 0, .int .i64 0, .int .i64 0] w fun e w' => e = .returned (.tuple #[]) ∧ w' = w := by
  go_enter Tryd.func18, Tryd.ntmps18
  go_wp2
  go_loopw [1, 2, 3, 8, 9] (fun v1 v2 v3 v8 v9 wr => v1 = .int .i64 0 ∧ v2 = .int .i64 0 ∧ v3 = .int .i64 0 ∧ v8 = .bool true ∧ v9 = .bool true ∧ wr = w) (fun _ _ _ _ _ _ => 0)
  case atStart => exact ⟨rfl, rfl, rfl, rfl, rfl, rfl⟩
  case round =>
    obtain ⟨rfl, rfl, rfl, rfl, rfl, rfl⟩ := hrel
    go_wp2_with fail
    refine (insNilU _).mono ?_
    rintro e w' ⟨rfl, rfl⟩
    go_wp2_with fail
    (try simp only [Exit.inBlock, Exit.then]); refine bodyPost_ret (results_none rfl _ _ _) rfl ?_
    exact ⟨rfl, rfl⟩
/-- The row behind the sort is the call's own still. -/
theorem owns_sortedU {w w' : World} {base g n c : Nat} {L : List Int} {d' : Array Int} (hown : w.ownsRow base 22 1 (.slice (some ⟨g, 0, none⟩) n c) n (ucells L)) (hd : d'.size = n) (hat : At e32 w g 0 d' w') :
    w'.ownsRow base 22 1 (.slice (some ⟨g, 0, none⟩) n c) n (ucells d'.toList) ∧ ∀ B, B ≤ base → B ≤ w.heap.size → Below B w w' := by
  obtain ⟨cur, hg, hnc, hcm, hcs, ht, hbg⟩ := owns_block hown
  obtain ⟨m, os, rfl⟩ := hat
  have hlt := lt_of_block hg
  have hg2 : (grow (RowW w g 0 m d') os).heap[g]? = some (.cells (putCells e32 0 d' cur) 22 (0, 0)) := by
    simp only [grow, RowW, putRow, mapBlock]
    rw [Array.getElem?_append_left (by simp; omega), Array.getElem?_modify, if_pos rfl]
    show Option.map _ w.heap[g]? = _
    rw [hg]
    rfl
  have hsz : (putCells e32 0 d' cur).size = cur.size := by simp [putCells]
  refine ⟨owns_of_block hg2 hnc hcm (by rw [hsz, hcs]) ?_ (by rw [ucells_len]; simp [hd]) hbg, fun B hB hB2 => ⟨rfl, rfl, rfl, ?_, fun k hk => ?_⟩⟩
  · apply List.ext_getElem?
    intro j
    by_cases hj : j < n * 1
    · rw [List.getElem?_take_of_lt hj, Array.getElem?_toList]
      have hjc : j < cur.size := by rw [hcs]; omega
      have hjd : j < d'.size := by omega
      simp only [putCells, Array.getElem?_mapIdx, Array.getElem?_eq_getElem hjc, Option.map_some, ucells, List.getElem?_map, Array.getElem?_toList, Array.getElem?_eq_getElem hjd]
      rw [if_pos (by omega), Nat.sub_zero, getElem!_pos d' j hjd]
    · rw [List.getElem?_eq_none (by simp [hsz, hcs]; omega), List.getElem?_eq_none (by rw [ucells_len]; simp [hd]; omega)]
  · simp [grow, putRow, mapBlock, Sort.ahead]
  · simp only [grow, putRow, mapBlock]
    rw [Array.getElem?_append_left (by simp [Sort.ahead]; omega), Array.getElem?_modify, if_neg (by omega)]
    rfl
set_option maxRecDepth 100000 in
set_option maxHeartbeats 1000000 in
theorem sortU_any (L : List Int) (v : Value) (base : Nat) (w : World) (hown : w.ownsRow base 22 1 v L.length (ucells L)) (hlen : L.length < 4611686018427387904) :
    Calls Tryd.prog 10 #[v] w fun e w' =>
      e = .returned (.tuple #[]) ∧ ∃ L' : List Int, L'.Perm L ∧ L'.Pairwise (· ≤ ·) ∧ w'.ownsRow base 22 1 v L'.length (ucells L') ∧ ∀ B, B ≤ base → B ≤ w.heap.size → Below B w w' := by
  obtain ⟨A, c, rfl, hA⟩ := owns_form hown
  have HL := Lib.hid (fun x w h0 h1 => Tryd.bits_Len x w h0 h1)
  rcases A with _ | ad
  · obtain ⟨h0, rfl⟩ : L.length = 0 ∧ c = 0 := by
      rcases hown.2 with ⟨h, h2⟩ | ⟨g, cap, cur, hv, _⟩
      · injection h with _ h1 h2
        omega
      · cases hv
    obtain rfl : L = [] := List.eq_nil_of_length_eq_zero h0
    have HO := Lib.hid hown
    clear hown hA h0
    go_enter Tryd.func10, Tryd.ntmps10
    go_wp2_with fail
    refine (HL.out 0 w (by omega) (by omega)).mono ?_
    rintro e w' ⟨rfl, rfl⟩
    go_wp2_with fail
    refine (show Calls _ _ _ _ _ from pdqNilU _).mono ?_
    rintro e w' ⟨rfl, rfl⟩
    go_wp2_with fail
    go_end0
    exact ⟨rfl, [], List.Perm.refl _, List.Pairwise.nil, HO.out, fun B _ _ => Below.refl _ _⟩
  · obtain ⟨cur, hg, hnc, hcm, hcs, ht, hbg⟩ : ∃ cur : Array Value, w.heap[ad.block]? = some (.cells cur 22 (0, 0)) ∧ L.length ≤ c ∧ c ≤ maxLen ∧ cur.size = c * 1 ∧ cur.toList.take (L.length * 1) = ucells L ∧ base ≤ ad.block ∧ ad = ⟨ad.block, 0, none⟩ := by
      rcases hown.2 with ⟨h, h2⟩ | ⟨g, cap, cur, hv, hb, hh, h1, h2, h3, h4⟩
      · cases h
      · injection hv with hv1 _ hv3
        injection hv1 with hv1
        subst hv1 hv3
        exact ⟨cur, hh, h1, h2, h3, h4, hb, rfl⟩
    obtain ⟨hbg, had⟩ := hbg
    obtain ⟨g, hgg⟩ : ∃ g, g = ad.block := ⟨_, rfl⟩
    rw [← hgg] at had hg hbg
    subst had
    have hlt := lt_of_block hg
    have hH : Holds e32 w g 0 L.toArray := fun j hj => by
      have hj' : j < L.length := by simpa using hj
      refine ⟨?_, hown.frozenAt j |> fun h => by simpa using h⟩
      have := hown.cellAt j (by omega)
      rw [Nat.zero_add, this, ucell (List.getElem?_eq_getElem hj')]
      simp [hj']
    have hs : (Sort.Below ltInt 0 L.toArray.size L.toArray) := Or.inl rfl
    have hbl : Lib.bitLen L.length < 4611686018427387904 := by
      have := Lib.bitLen_le L.length 64 (Nat.le_refl _) (by omega)
      omega
    have HP := Lib.hid (pdqU_any (L.length + 1) g 0 c 0 L.length (Lib.bitLen L.length) L.toArray w (by omega) hH hlt (Nat.zero_le _) (by simp) (by simpa using hlen) hbl (Or.inl rfl))
    have HO := Lib.hid hown
    have hps := pdq_sorts ltInt swo_ltInt L.toArray 0 L.length (Lib.bitLen L.length) true true (Nat.zero_le _) (by simp) (Or.inl rfl)
    have e0 : L.toArray.size = L.length := by simp
    rw [e0] at HP
    have HS := Lib.hid hps
    have h64 : (L.length : Int) ≤ 18446744073709551615 := by omega
    clear hown hg hnc hcm hcs ht hH hbl hps hA e0 hbg hgg
    go_enter Tryd.func10, Tryd.ntmps10
    go_wp2_with fail
    refine (HL.out (L.length : Int) w (by omega) h64).mono ?_
    rintro e w' ⟨rfl, rfl⟩
    go_wp2_with fail
    refine HP.out.mono ?_
    rintro e w' ⟨rfl, hat⟩
    have HAT := Lib.hid hat
    clear hat
    go_wp2_with fail
    go_end0
    obtain ⟨⟨hsz, _, hperm⟩, hsorted⟩ := HS.out
    have hsz2 : (pdq ltInt L.toArray 0 L.length (Lib.bitLen L.length) true true).size = L.length := by rw [hsz]; simp
    generalize pdq ltInt L.toArray 0 L.length (Lib.bitLen L.length) true true = D at *
    obtain ⟨h1, h2⟩ := owns_sortedU HO.out hsz2 HAT.out
    refine ⟨rfl, D.toList, ?_, ?_, ?_, h2⟩
    · have e1 : (D.extract 0 L.length).toList = D.toList := by rw [← hsz2]; simp
      have e2 : (L.toArray.extract 0 L.length).toList = L := by simp
      rw [e1, e2] at hperm
      exact hperm
    · rw [List.pairwise_iff_getElem]
      intro i j hi hj hij
      have hi' : i < D.size := by simpa using hi
      have hj' : j < D.size := by simpa using hj
      have h := hsorted i j (Nat.zero_le _) hij (by omega)
      unfold ltInt at h
      rw [decide_eq_false_iff_not] at h
      have e1 : D[i]! = D.toList[i] := by simp [hi']
      have e2 : D[j]! = D.toList[j] := by simp [hj']
      rw [e1, e2] at h
      omega
    · rw [show D.toList.length = L.length by simpa using hsz2]
      exact h1
end Go.Proofs.YthgmmajoinkblaaDoor

/-
  Small general lemmas, the fourth text: an append tells whether its row lies where it lay; no program in sight.
-/
namespace Go.Proofs.YthgmmajoinkblaaDoor
open Go Go.RowKit

theorem grown_none {w w' : World} (h : w.grownBy w' none) (r : Option Nat) : w.grownBy w' r := ⟨h.os, h.tape, h.output, h.size, fun i hi _ => h.block i hi (by simp)⟩
/-- The row lies where it lay, or in a block of its own laid since. -/
def Moved (v v' : Value) (k : Nat) : Prop := v'.ownBlock = v.ownBlock ∨ ∀ g, v'.ownBlock = some g → k ≤ g
theorem wpList_push2 {P : Program} {ops : Array Oper} {rest : List Oper} {o : Oper} {a : Act} {Q : Exit → Act → World → Prop} (hgd : o.guard = none) (s x : Operand) (t : TypeId)
    (ho : o.op = .call { callee := .builtin .append, args := #[s, x], argTypes := #[t, t] })
    (e : TypeId) (i : TypeInfo) (z : Value) (size bytes : Nat) (ht : P.underlying t = some (.slice e)) (hi : P.info? e = some i) (hz : i.zero = some z)
    (hsize : i.size = size) (hby : i.bytes = bytes) (hzs : z.cells.size = size) (hsz : 0 < size) (hb64 : bytes ≤ 64)
    {w0 : World} {base n : Nat} {v : Value} {xs : List Value} (es : List Value) (hs : a.eval s = v) {g0 : Nat} (hx : a.eval x = .slice (some ⟨g0, 0, none⟩) 1 1) (hg0 : g0 = w0.heap.size)
    (hown : w0.ownsRow base e size v n xs) (hes : es.length = size) (h1 : ∀ u ∈ es, u.oneCell' = true) (hn : n ≤ 1099511627776) (hbase : base ≤ w0.heap.size)
    (h : ∀ v' w', w'.ownsRow base e size v' (n + 1) (xs ++ es) → w0.grownBy w' v.ownBlock → Moved v v' w0.heap.size → wpList P ops Q rest (a.put o.dst v') w') : wpList P ops Q (o :: rest) a (w0.alloc (.cells es.toArray e)) := by
  subst hg0
  have hb2 : (n + 1) * bytes ≤ 140737488355328 :=
    calc (n + 1) * bytes ≤ (1099511627776 + 1) * 64 := Nat.mul_le_mul (by omega) hb64
      _ ≤ 140737488355328 := by decide
  have hownA := hown.alloc (.cells es.toArray e)
  have hgA : w0.grownBy (w0.alloc (.cells es.toArray e)) none := World.grownBy_alloc w0 _ none
  have hnew := cells_new w0 es e
  rcases hown.2 with ⟨rfl, rfl⟩ | ⟨g, cap, cur, rfl, hbg, hg, hnc, hcm, hcs, htake⟩
  · obtain rfl : xs = [] := List.eq_nil_of_length_eq_zero (by have := hown.1; omega)
    refine wpList_append_grows _ hgd s x t ho e i z size bytes ht hi hz hsize hby hzs hsz none 0 0 [] hs (fun _ => ⟨rfl, rfl⟩) (by simp) (fun b hb => by cases hb) ⟨w0.heap.size, 0, none⟩ 1 1 es hx (by omega) hnew h1 (by omega) (by unfold maxLen; omega) hb2 ?_
    intro v' w' h2 h3
    refine h v' w' (owns_base h2 (by simp; omega)) (grown_none (hgA.trans h3) _) (.inr fun g hg => ?_)
    have := (h2.lt g hg).1
    simp at this; omega
  · by_cases hroom : n + 1 ≤ cap
    · obtain ⟨w', hr, h2, h3⟩ := run_append_fits (P := P) _ base t o.type e i size ht hi hsize g n cap xs hownA ⟨w0.heap.size, 0, none⟩ 1 1 es (by omega) hnew h1 hroom
      refine wpList_plain hgd fun K hK => ?_
      unfold Oper.wp execOp
      simp only [ho, resolve, invoke, builtin, Sem.run_bind, Sem.run_pure, Result.andThen_ok, List.map_toArray, List.map_cons, List.map_nil, hs, hx, hr]
      exact hK _ _ (h _ w' h2 ((grown_none hgA _).trans h3) (.inl rfl))
    · refine wpList_append_grows _ hgd s x t ho e i z size bytes ht hi hz hsize hby hzs hsz (some ⟨g, 0, none⟩) n cap xs hs (fun hh => by cases hh) hown.1 (fun b hb j u hu => ?_) ⟨w0.heap.size, 0, none⟩ 1 1 es hx (by omega) hnew h1 (by omega) (by unfold maxLen; omega) hb2 ?_
      · injection hb with hb
        subst hb
        exact hownA.cells rfl j u hu
      · intro v' w' h2 h3
        refine h v' w' (owns_base h2 (by simp; omega)) (grown_none (hgA.trans h3) _) (.inr fun g hg => ?_)
        have := (h2.lt g hg).1
        simp at this; omega
theorem grown_setRow (w : World) (g : Nat) (cs : Array Value) : w.grownBy (w.setRow g cs) (some g) :=
  ⟨rfl, rfl, rfl, by simp, fun k _ hk => setRow_other w g k _ (fun e => hk (by simp [e]))⟩
/-- copy, as one step of a region that draws its order, into a known row: no other block turns. -/
theorem step_copy_grown {P : Program} {ops : Array Oper} {o : Oper} {a : Act} {w : World} {K : Act → World → Prop} {Q : Exit → Act → World → Prop} {E : Prop} (hgd : o.guard = none) (d s : Operand) (dT sT : TypeId)
    (ho : o.op = .call { callee := .builtin .copy, args := #[d, s], argTypes := #[dT, sT] }) (elem : TypeId) (hu : P.underlying dT = some (.slice elem)) (hsz : (P.info? elem).map (·.size) = some 1)
    (dp sp : Option Addr) (dLen dCap sLen sCap : Nat) (hd : a.eval d = .slice dp dLen dCap) (hs : a.eval s = .slice sp sLen sCap)
    (g off : Nat) (cur : List Value) (t : TypeId) (hg : w.heap[g]? = some (.cells cur.toArray t (0, 0))) (cs : List Value) (hn : cs.length = Nat.min sLen dLen)
    (hpos : 0 < cs.length → dp = some ⟨g, off, none⟩ ∧ ∃ ad, sp = some ad ∧ ∀ j v, cs[j]? = some v → w.cell? (ad.add j) = some v)
    (hfit : off + cs.length ≤ cur.length) (h1 : ∀ v ∈ cs, v.oneCell' = true)
    (h : ∀ w', Hid (w'.heap[g]? = some (.cells (splice cur off cs).toArray t (0, 0))) → w.grownBy w' (some g) → K (a.put o.dst (goInt cs.length)) w') :
    if Region.wanted o (yielded ops a.tmps) = true then Oper.wp P o a w K Q else E := by
  rw [if_pos (by simp [Region.wanted, hgd])]
  unfold Oper.wp
  rcases Nat.eq_zero_or_pos cs.length with h0 | h0
  · obtain rfl : cs = [] := List.eq_nil_of_length_eq_zero h0
    have hr := run_copy_none (P := P) w dT sT o.type elem dp sp dLen dCap sLen sCap hu hsz (by simpa using hn.symm)
    simp [execOp, ho, resolve, invoke, builtin, hd, hs, hr, Result.andThen]
    exact h w (by show _ = _; simpa [splice] using hg) (World.grownBy.refl w _)
  · obtain ⟨rfl, ad, rfl, hsrc⟩ := hpos h0
    have hr := run_copy_row (P := P) w dT sT o.type elem g off dLen dCap ad sLen sCap cur.toArray t cs hu hsz hg hn hsrc (by simpa using hfit) h1
    simp [execOp, ho, resolve, invoke, builtin, hd, hs, hr, Result.andThen]
    exact h _ (by show _ = _; simpa [splice] using setRow_heap w g _ _ t _ hg) (grown_setRow w g _)
/-- Behind an append that may have moved the row, and writes into it. -/
theorem grown_moved {v v' : Value} {w w1 w2 : World} {g : Nat} (h : w.grownBy w1 v.ownBlock) (hm : Moved v v' w.heap.size) (hv : v'.ownBlock = some g) (h2 : w1.grownBy w2 (some g)) : w.grownBy w2 v.ownBlock := by
  refine ⟨h2.os.trans h.os, h2.tape.trans h.tape, h2.output.trans h.output, Nat.le_trans h.size h2.size, fun i hi hne => ?_⟩
  refine (h2.block i (Nat.lt_of_lt_of_le hi h.size) (fun hh => ?_)).trans (h.block i hi hne)
  injection hh with hh
  rcases hm with hm | hm
  · exact hne (by rw [← hm, hv, hh])
  · have := hm g hv; omega
/-- The blocks from lo on below hi are as they were. -/
def Seg (lo hi : Nat) (a w : World) : Prop := ∀ b, lo ≤ b → b < hi → w.heap[b]? = a.heap[b]?
/-- The row lies below lo or from hi on. -/
def Off (v : Value) (lo hi : Nat) : Prop := ∀ g, v.ownBlock = some g → g < lo ∨ hi ≤ g
theorem Off.moved {v v' : Value} {lo hi k : Nat} (h : Off v lo hi) (hm : Moved v v' k) (hk : hi ≤ k) : Off v' lo hi := by
  intro g hg
  rcases hm with hm | hm
  · exact h g (hm ▸ hg)
  · exact .inr (Nat.le_trans hk (hm g hg))
theorem Seg.refl (lo hi : Nat) (a : World) : Seg lo hi a a := fun _ _ _ => rfl
theorem Seg.grown {v : Value} {lo hi : Nat} {a w w' : World} (h : Seg lo hi a w) (hg : w.grownBy w' v.ownBlock) (ho : Off v lo hi) (hs : hi ≤ w.heap.size) : Seg lo hi a w' := by
  intro b h1 h2
  refine (hg.block b (by omega) (fun hb => ?_)).trans (h b h1 h2)
  rcases ho b hb.symm with h3 | h3 <;> omega
theorem Seg.below {lo hi : Nat} {a w w' : World} (h : Seg lo hi a w) (hb : Below w.heap.size w w') (hs : hi ≤ w.heap.size) : Seg lo hi a w' :=
  fun b h1 h2 => (hb.block b (by omega)).trans (h b h1 h2)
theorem Seg.alloc {lo hi : Nat} {a w : World} (h : Seg lo hi a w) (hs : hi ≤ w.heap.size) (o : Obj) : Seg lo hi a (w.alloc o) := h.below (below1 w o) hs

end Go.Proofs.YthgmmajoinkblaaDoor

/-
  Stores, copies and clearings of rows whose elements have several cells; no program.
-/
namespace Go.Proofs.YthgmmajoinkblaaDoor
open Go Go.RowKit Go.Lib Go.Sort

/-- A store of several cells into a row that is known whole. -/
theorem wpList_store_splice {P : Program} {w : World} {ops : Array Oper} {rest : List Oper} {o : Oper} {a : Act} {Q : Exit → Act → World → Prop} (hgd : o.guard = none) (p v : Operand) (t : TypeId)
    (ho : o.op = .store t p v) (k : Nat) (hsz : ∀ w, (Go.sizeOf t).run P w = .ok k w) (g off : Nat) (hp : a.eval p = .pointer (some ⟨g, off, none⟩)) (V : Value) (hv : a.eval v = V)
    (cur : List Value) (ty : TypeId) (hg : w.heap[g]? = some (.cells cur.toArray ty (0, 0))) (cs : List Value) (hcs : V.cells.toList = cs) (hk : cs.length = k) (hfit : off + cs.length ≤ cur.length) (h1 : ∀ v ∈ cs, v.oneCell' = true) (B : Nat) (w0 : World) (hb : Below B w0 w) (hBg : B ≤ g)
    (h : ∀ w', Hid (w'.heap[g]? = some (.cells (splice cur off cs).toArray ty (0, 0))) → Below B w0 w' → wpList P ops Q rest (a.put o.dst undef) w') : wpList P ops Q (o :: rest) a w := by
  refine wpList_plain hgd fun K hK => ?_
  have hst := run_storeCells_at P g off ty cs 0 cur.toArray w hg (by simpa using hfit) h1
  unfold Oper.wp
  have hz : V.cells.size = k := by rw [← Array.length_toList, hcs, hk]
  simp [execOp, ho, hp, hv, Instr.storeAt, Instr.sureAddr, storeVar, hsz, hz, hcs, hst, Result.andThen]
  exact hK _ _ (h _ (show _ = _ by simpa [splice] using setRow_heap w g _ _ ty _ hg) (below_setRow hb hBg _))
/-- copy, at elements of k cells. -/
theorem run_copy_rowK {P : Program} (w : World) (dT sT ty elem : TypeId) (k g o dLen dCap : Nat) (a : Addr) (sLen sCap : Nat) (cur : Array Value) (t : TypeId) (cs : List Value)
    (hu : P.underlying dT = some (.slice elem)) (hs : (P.info? elem).map (·.size) = some k)
    (hg : w.heap[g]? = some (.cells cur t (0, 0))) (hn : cs.length = Nat.min sLen dLen * k)
    (hsrc : ∀ j v, cs[j]? = some v → w.cell? (a.add j) = some v) (hfit : o + cs.length ≤ cur.size) (h1 : ∀ v ∈ cs, v.oneCell' = true) :
    (Builtin.copy_ #[dT, sT] ty #[.slice (some ⟨g, o, none⟩) dLen dCap, .slice (some a) sLen sCap]).run P w =
      .ok (goInt (Nat.min sLen dLen)) (w.setRow g (cur.toList.take o ++ cs ++ cur.toList.drop (o + cs.length)).toArray) := by
  have hl := run_loadCells_list (P := P) w a cs hsrc
  have hst := run_storeCells_at P g o t cs 0 cur w hg (by simpa using hfit) h1
  cases hq : P.info? elem with
  | none => simp [hq] at hs
  | some i =>
    have hi : i.size = k := by simpa [hq] using hs
    simp [Builtin.copy_, run_underlying hu, Builtin.lenOf, Builtin.firstCells, sizeOf, typeInfo, hq, hi, ← hn, hl, hst]
/-- Nothing to copy. -/
theorem run_copy_zero {P : Program} (w : World) (dT sT ty elem : TypeId) (k : Nat) (d a : Option Addr) (dLen dCap sLen sCap : Nat) (hu : P.underlying dT = some (.slice elem)) (hs : (P.info? elem).map (·.size) = some k) (hn : Nat.min sLen dLen = 0) :
    (Builtin.copy_ #[dT, sT] ty #[.slice d dLen dCap, .slice a sLen sCap]).run P w = .ok (goInt 0) w := by
  cases hq : P.info? elem with
  | none => simp [hq] at hs
  | some i =>
    have hl : ∀ (x : Addr), (loadCells x 0).run P w = .ok #[] w := fun x => by simpa using run_loadCells_list (P := P) w x [] (by simp)
    cases d <;> cases a <;> simp [Builtin.copy_, run_underlying hu, Builtin.lenOf, Builtin.firstCells, sizeOf, typeInfo, hq, hn, storeCells, hl]
/-- copy, at elements of k cells, as one step of a region that draws its order, into a row that is known whole. -/
theorem step_copy_K {P : Program} {ops : Array Oper} {o : Oper} {a : Act} {w : World} {K : Act → World → Prop} {Q : Exit → Act → World → Prop} {E : Prop} (hgd : o.guard = none) (d s : Operand) (dT sT : TypeId)
    (ho : o.op = .call { callee := .builtin .copy, args := #[d, s], argTypes := #[dT, sT] }) (elem : TypeId) (hu : P.underlying dT = some (.slice elem)) (k : Nat) (hk : 0 < k) (hsz : (P.info? elem).map (·.size) = some k)
    (dp sp : Option Addr) (dLen dCap sLen sCap : Nat) (hd : a.eval d = .slice dp dLen dCap) (hs : a.eval s = .slice sp sLen sCap)
    (g off : Nat) (cur : List Value) (t : TypeId) (hg : w.heap[g]? = some (.cells cur.toArray t (0, 0))) (cs : List Value) (hn : cs.length = Nat.min sLen dLen * k)
    (hpos : 0 < cs.length → dp = some ⟨g, off, none⟩ ∧ ∃ ad, sp = some ad ∧ ∀ j v, cs[j]? = some v → w.cell? (ad.add j) = some v)
    (hfit : off + cs.length ≤ cur.length) (h1 : ∀ v ∈ cs, v.oneCell' = true) (B : Nat) (w0 : World) (hb : Below B w0 w) (hBg : B ≤ g)
    (h : ∀ w', Hid (w'.heap[g]? = some (.cells (splice cur off cs).toArray t (0, 0))) → Below B w0 w' → K (a.put o.dst (goInt (Nat.min sLen dLen))) w') :
    if Region.wanted o (yielded ops a.tmps) = true then Oper.wp P o a w K Q else E := by
  rw [if_pos (by simp [Region.wanted, hgd])]
  unfold Oper.wp
  rcases Nat.eq_zero_or_pos cs.length with h0 | h0
  · obtain rfl : cs = [] := List.eq_nil_of_length_eq_zero h0
    have hz : Nat.min sLen dLen = 0 := by
      rcases Nat.eq_zero_or_pos (Nat.min sLen dLen) with e | e
      · exact e
      · have := Nat.mul_pos e hk
        simp only [List.length_nil] at hn
        omega
    have hr := run_copy_zero (P := P) w dT sT o.type elem k dp sp dLen dCap sLen sCap hu hsz hz
    simp [execOp, ho, resolve, invoke, builtin, hd, hs, hr, Result.andThen]
    have h2 := h w (by show _ = _; simpa [splice] using hg) hb
    rw [hz] at h2
    exact h2
  · obtain ⟨rfl, ad, rfl, hsrc⟩ := hpos h0
    have hr := run_copy_rowK (P := P) w dT sT o.type elem k g off dLen dCap ad sLen sCap cur.toArray t cs hu hsz hg hn hsrc (by simpa using hfit) h1
    simp [execOp, ho, resolve, invoke, builtin, hd, hs, hr, Result.andThen]
    exact h _ (by show _ = _; simpa [splice] using setRow_heap w g _ _ t _ hg) (below_setRow hb hBg _)
/-- A slice is cleared, at elements of several cells. -/
theorem run_clear_row {P : Program} (w : World) (t e ty : TypeId) (z : Value) (ht : P.underlying t = some (.slice e)) (hv : ∀ w, (zeroValue e).run P w = .ok z w) (h1 : ∀ v ∈ z.cells.toList, v.oneCell' = true) (g o n c : Nat) (hn : 0 < n)
    (cur : Array Value) (tt : TypeId) (hg : w.heap[g]? = some (.cells cur tt (0, 0))) (hfit : o + (Builtin.zeroCells z.cells n).toList.length ≤ cur.size) :
    (Builtin.clear_ #[t] ty #[.slice (some ⟨g, o, none⟩) n c]).run P w = .ok (.tuple #[]) (w.setRow g (cur.toList.take o ++ (Builtin.zeroCells z.cells n).toList ++ cur.toList.drop (o + (Builtin.zeroCells z.cells n).toList.length)).toArray) := by
  have hst := run_storeCells_at P g o tt (Builtin.zeroCells z.cells n).toList 0 cur w hg (by simpa using hfit) (fun v hv' => ?_)
  · obtain ⟨m, rfl⟩ : ∃ m, n = m + 1 := ⟨n - 1, by omega⟩
    simp only [Nat.add_zero] at hst
    simp [Builtin.clear_, run_underlying ht, hv, hst]
  · simp only [Builtin.zeroCells, Array.toList_map, List.mem_map] at hv'
    obtain ⟨i, hi, rfl⟩ := hv'
    have hi' : i < n * z.cells.size := by simpa using hi
    have hz : 0 < z.cells.size := by
      rcases Nat.eq_zero_or_pos z.cells.size with e | e
      · rw [e] at hi'; omega
      · exact e
    have hm : i % z.cells.size < z.cells.size := Nat.mod_lt _ hz
    rw [getElem!_pos z.cells _ hm]
    exact h1 _ (by simp)
/-- clear, at elements of k cells, into a row that is known whole. -/
theorem wpList_clear_K {P : Program} {w : World} {ops : Array Oper} {rest : List Oper} {o : Oper} {a : Act} {Q : Exit → Act → World → Prop} (hgd : o.guard = none) (s : Operand) (T : TypeId)
    (ho : o.op = .call { callee := .builtin .clear, args := #[s], argTypes := #[T] }) (elem : TypeId) (ht : P.underlying T = some (.slice elem)) (z : Value) (hv : ∀ w, (zeroValue elem).run P w = .ok z w) (h1 : ∀ v ∈ z.cells.toList, v.oneCell' = true)
    (sp : Option Addr) (sLen sCap : Nat) (hs : a.eval s = .slice sp sLen sCap) (hp : 0 < sLen) (g off : Nat) (hsp : sp = some ⟨g, off, none⟩)
    (cur : List Value) (ty : TypeId) (hg : w.heap[g]? = some (.cells cur.toArray ty (0, 0))) (zs : List Value) (hzs : (Builtin.zeroCells z.cells sLen).toList = zs) (hfit : off + zs.length ≤ cur.length) (B : Nat) (w0 : World) (hb : Below B w0 w) (hBg : B ≤ g)
    (h : ∀ w', Hid (w'.heap[g]? = some (.cells (splice cur off zs).toArray ty (0, 0))) → Below B w0 w' → wpList P ops Q rest (a.put o.dst (.tuple #[])) w') : wpList P ops Q (o :: rest) a w := by
  subst hsp hzs
  refine wpList_plain hgd fun K hK => ?_
  have hr := run_clear_row (P := P) w T elem o.type z ht hv h1 g off sLen sCap hp cur.toArray ty hg (by simpa using hfit)
  unfold Oper.wp
  simp [execOp, ho, resolve, invoke, builtin, hs, hr, Result.andThen]
  exact hK _ _ (h _ (show _ = _ by simpa [splice] using setRow_heap w g _ _ ty _ hg) (below_setRow hb hBg _))
end Go.Proofs.YthgmmajoinkblaaDoor
