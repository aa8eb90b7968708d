/-
  The walk of the law SpansCut.
-/
import Derived.Test.YthgmmajoinkblaaSp13
import Derived.Test.YthgmmajoinkblaaPc2
import Derived.Test.YthgmmajoinkblaaSpMath7
import Derived.Test.YthgmmajoinkblaaPc3
namespace Go.Proofs.Ythgmmajoinkblaa
open Go Go.RowKit Go.Lib Go.Sort

theorem SetsAt.take {w : World} {B : Nat} {A : Option Addr} {c n m : Nat} {S : List SetV} (h : SetsAt w B (.slice A n c) S) (hn : S.length = n) (hm : m ≤ n) : SetsAt w B (.slice A m c) (S.take m) := by
  obtain ⟨⟨A', c', hv, hc, hl, hp⟩, hx⟩ := h
  injection hv with h1 h2 h3
  subst h1 h3
  refine ⟨⟨A, c, by rw [List.length_take, Nat.min_eq_left (by omega)], by rw [List.length_take]; omega, by simp [svals], fun hm0 => ?_⟩, fun x hx' => hx x (List.mem_of_mem_take hx')⟩
  rw [List.length_take] at hm0
  obtain ⟨b, off, hA, hB, hcell⟩ := hp (by omega)
  refine ⟨b, off, hA, hB, fun j u hu => hcell j u ?_⟩
  unfold svals at hu ⊢
  rw [List.getElem?_map] at hu ⊢
  have hj : j < (S.take m).length := by
    rcases Nat.lt_or_ge j (S.take m).length with h | h
    · exact h
    · rw [List.getElem?_eq_none h] at hu; simp at hu
  rw [List.getElem?_take] at hu
  rw [List.length_take] at hj
  rw [if_pos (by omega)] at hu
  exact hu
theorem allS_le {n : Nat} : ∀ {S : List SetV}, (∀ x ∈ S, x.L.length ≤ n) → (allS S).length ≤ n * S.length
  | [], _ => by simp [allS]
  | x :: r, h => by
    have h1 := h x (List.mem_cons_self ..)
    have h2 := allS_le (S := r) fun y hy => h y (List.mem_cons_of_mem _ hy)
    show (x.L ++ allS r).length ≤ n * (r.length + 1)
    rw [List.length_append, Nat.mul_succ]
    omega
theorem mem_take_succ {S : List SetV} {k : Nat} {x y : SetV} (h : S[k]? = some x) (hy : y ∈ S.take (k + 1)) : y ∈ S.take k ∨ y = x := by
  rw [List.take_add_one, h] at hy
  simpa using hy
/-- The law's answer: true, and nothing that was there has turned. -/
def TrueRes (w : World) (e : Ending) (w' : World) : Prop := e = .returned (.bool true) ∧ Below w.heap.size w w'

set_option maxRecDepth 100000 in
set_option maxHeartbeats 8000000 in
theorem lawCut_any (S0 : List SetV) (vs : Value) (most x : Int) (w : World) (hS : SetsAt w w.heap.size vs S0) (hm : 0 ≤ most ∧ most < 4294967296) (hx : 0 ≤ x ∧ x < 4294967296) :
    Calls Try.prog 5 #[.int .u32 most, vs, .int .u32 x] w (TrueRes w) := by
  obtain ⟨A0, c0, rfl, hc0⟩ := hS.1.form
  have HS0 := Lib.hid hS
  clear hS
  go_enter Try.func5, Try.ntmps5
  go_upto_if 18 with fail
  go_cut [1] (fun s1 wx => wx = w ∧ ∃ n, n ≤ 12 ∧ n = (S0.take 12).length ∧ s1 = .slice A0 n c0)
  case first =>
    by_cases hlen : 12 < S0.length
    · have h1 : (12 : Int) < (S0.length : Int) := by omega
      have h2 : 12 ≤ c0 := by omega
      go_wp2
      go_meet
      exact ⟨rfl, 12, by omega, by rw [List.length_take]; omega, rfl⟩
    · have h1 : ¬ (12 : Int) < (S0.length : Int) := by omega
      go_wp2
      go_meet
      exact ⟨rfl, S0.length, by omega, by rw [List.length_take]; omega, rfl⟩
  case rest =>
    obtain ⟨rfl, n, hn, hnl, rfl⟩ := hcut
    have hS : SetsAt wc wc.heap.size (.slice A0 n c0) (S0.take 12) := by
      rw [hnl, List.length_take]
      by_cases hlen : 12 < S0.length
      · rw [Nat.min_eq_left (by omega)]
        exact HS0.out.take rfl (by omega)
      · rw [Nat.min_eq_right (by omega), List.take_of_length_le (by omega)]
        exact HS0.out
    clear HS0 hc0
    generalize S0.take 12 = S at *
    subst hnl
    have HS := Lib.hid hS
    clear hS
    go_wp2
    go_loop [7] (fun i => ∃ k : Nat, i = .int .i64 k ∧ k ≤ S.length ∧ ∀ y ∈ S.take k, y.L.length ≤ 40) (fun i => S.length - (intOf i).toNat)
    case atStart => exact ⟨0, rfl, by omega, fun y hy => by simp at hy⟩
    case round =>
      obtain ⟨k, rfl, hk, hle⟩ := hrel
      by_cases hlt : k < S.length
      · have hI : (k : Int) < (S.length : Int) := by omega
        obtain ⟨y, hy⟩ : ∃ y, S[k]? = some y := ⟨_, List.getElem?_eq_getElem hlt⟩
        have hyr := HS.out.2 y (List.mem_of_getElem? hy)
        obtain ⟨Ay, cy, hyv, _⟩ := hyr.form
        obtain ⟨b, off, c', hv, _, _, hcell⟩ := HS.out.1.pos (by omega)
        injection hv with hv1 _ hv3
        subst hv1 hv3
        have g0 : wc.cell? ⟨b, off + k, none⟩ = some (.slice Ay y.L.length cy) := by rw [← hyv]; exact hcell k _ (by simp [svals, hy])
        have HLE := Lib.hid hle
        have HY := Lib.hid hy
        clear hcell hyv hyr hle hy
        by_cases hbig : 40 < y.L.length
        · have h1 : (40 : Int) < (y.L.length : Int) := by omega
          go_wp2_with fail
          refine (awake02_any _).mono ?_
          rintro e w1 ⟨rfl, hb⟩
          go_wp2
          go_ret
          exact ⟨rfl, hb⟩
        · have h1 : ¬ (40 : Int) < (y.L.length : Int) := by omega
          go_wp2
          go_roundw
          case rel => exact ⟨k + 1, by go_num, by omega, fun z hz => (mem_take_succ HY.out hz).elim (HLE.out z) (fun e => by rw [e]; omega)⟩
          case measure => simp only [intOf]; omega
      · obtain rfl : k = S.length := by omega
        rw [List.take_length] at hle
        have hall := allS_le hle
        have hxl : ∀ y ∈ S, y.L.length ≤ 1099511627776 := fun y hy => by have := hle y hy; omega
        have hall2 : (allS S).length ≤ 480 := by omega
        have HXL := Lib.hid hxl
        have HP := Lib.hid (pieces_any most S _ wc HS.out hm (by omega) (by omega))
        clear hle hall hxl hlt
        go_wp2_with fail
        refine HP.out.mono ?_
        rintro e w1 ⟨v, kk, C, rfl, hst, hres, hb1⟩
        have hCl := hst.len
        rw [← allS_flat] at hCl
        rcases hres with ⟨_, rfl, hown⟩ | ⟨hbig, _, _⟩
        rotate_left
        · omega
        rw [pcs_len] at hown
        have hr1 := Rd.of_own hown
        obtain ⟨Av, cv, rfl, _⟩ := hr1.form
        have HR1 := Lib.hid hr1
        have HB1 := Lib.hid hb1
        have HST := Lib.hid hst
        clear hown hr1 hb1 hst HP
        obtain ⟨s0, hs0⟩ := HST.out.piece hm (show 0 < C.length + 1 by omega)
        obtain ⟨sn, hsn⟩ := HST.out.piece hm (show C.length < C.length + 1 by omega)
        have e0 := hs0.first rfl
        have en := hsn.last rfl
        obtain ⟨b, off, c', hv, _, hbB, hcell⟩ := HR1.out.posAt (by omega)
        injection hv with hv1 _ hv3
        subst hv1 hv3
        have hcl : ∀ (W : World), Below w1.heap.size w1 W → ∀ (i : Nat) (s : SpanV), (pcs most 0 C)[i]? = some s → W.cell? ⟨b, off + i * 2, none⟩ = some (.int .u32 s.lo) ∧ W.cell? ⟨b, off + i * 2 + 1, none⟩ = some (.int .u32 s.hi) := fun W hW i s hs =>
          ⟨(hW.cell (p := ⟨b, off + i * 2, none⟩) hbB).trans (hcell i 0 _ (scell hs rfl)), (hW.cell (p := ⟨b, off + i * 2 + 1, none⟩) hbB).trans (hcell i 1 _ (scell hs rfl))⟩
        have HCELL := Lib.hid hcl
        clear hcell hcl
        go_wp2_with fail
        refine (awake02_any _).mono ?_
        rintro e w2 ⟨rfl, hb2⟩
        have f0 : w2.cell? ⟨b, off, none⟩ = some (.int .u32 0) := by
          have := (HCELL.out w2 hb2 0 s0 hs0.at_).1
          rw [e0] at this
          simpa using this
        have f1 : w2.cell? ⟨b, off + C.length * 2 + 1, none⟩ = some (.int .u32 most) := by
          have := (HCELL.out w2 hb2 _ sn hsn.at_).2
          rw [en] at this
          exact this
        have hi1 : (0 : Int) ≤ (C.length : Int) := by omega
        have hi2 : (C.length : Int) < (C.length : Int) + 1 := by omega
        have hi3 : ((C.length : Int) + 1 == 0) = false := by simp; omega
        have HB2 := Lib.hid hb2
        clear hb2 hs0 hsn e0 en
        go_wp2
        clear f0 f1 hi3
        have N0 : Value.int .u64 0 = .int .u64 (nAt most C 0) := by rw [nAt_zero]
        have NN := Lib.hid N0
        clear N0
        go_loopw [10, 11] (fun nv i wr => ∃ k : Nat, i = .int .i64 k ∧ k ≤ C.length + 1 ∧ nv = .int .u64 (nAt most C k) ∧ Hid (Below w2.heap.size w2 wr)) (fun _ i _ => C.length + 1 - (intOf i).toNat)
        case atStart => exact ⟨0, rfl, by omega, NN.out, Lib.hid (Below.refl _ _)⟩
        case round =>
          obtain ⟨k, rfl, hk, rfl, hbr⟩ := hrel
          by_cases hlt : k < C.length + 1
          · have hI : (k : Int) < (C.length : Int) + 1 := by omega
            obtain ⟨s, hs⟩ := HST.out.piece hm hlt
            have hb1r : Below w1.heap.size w1 wr := HB2.out.trans (hbr.mono HB2.out.size)
            obtain ⟨c0, c1⟩ := HCELL.out wr hb1r k s hs.at_
            have hsl := hs.lo0
            have hsh := hs.le
            have hsm := hs.hi
            rw [hs.n0]
            have HBR := Lib.hid hbr
            have HSP := Lib.hid hs
            clear hbr hs
            have hd : decide (s.hi < s.lo) = false := decide_eq_false (by omega)
            have hk0 : (0 : Int) ≤ (k : Int) := by omega
            have C0 := cell_regrown c0
            have C1 := cell_regrown c1
            go_upto_region 15 with fail
            by_cases hkz : k = 0
            case' pos =>
              have hd2 : decide (0 < k) = false := decide_eq_false (by omega)
              clear hkz
              refine wp_region_quiet_below (by kernel_rfl) (by kernel_rfl) ?_
              repeat (first | go_big_quiet_step (fail) | quiet_step (fail))
              refine wpQuiet_nil ?_
              clear hd2
            case' neg =>
              obtain ⟨_, hlp, p, hp, hpe⟩ := HSP.out.turn (by omega)
              obtain ⟨m, hkm⟩ : ∃ m, k - 1 = m := ⟨_, rfl⟩
              rw [hkm] at hp
              obtain ⟨_, d1⟩ := HCELL.out wr hb1r m p hp
              have D1 := cell_regrown d1
              have hd2 : decide (0 < k) = true := decide_eq_true (by omega)
              have hkm2 : (k : Int) - 1 = (m : Int) := by omega
              have hm0 : (0 : Int) ≤ (m : Int) := by omega
              have hm1 : (m : Int) < (C.length : Int) + 1 := by omega
              have hm2 : m ≤ 960 := by omega
              have hpn : (s.lo != (p.hi + 1) % 4294967296) = false := by
                rw [hpe, Int.emod_eq_of_lt (by omega) (by omega)]; simp
              clear hkz hkm hp hpe
              refine wp_region_quiet_below (by kernel_rfl) (by kernel_rfl) ?_
              repeat (first | go_big_quiet_step (fail) | quiet_step (fail))
              refine wpQuiet_nil ?_
              clear hpn hm2 hm1 hm0 hkm2 hd2 D1 d1 hlp
            all_goals
              intro _ hw'
              obtain ⟨⟨nq, osq⟩, hw''⟩ := hw'
              subst hw''
              have HQ := Lib.hid (below_regrown wr nq osq)
              clear hd C0 C1 c0 c1
              generalize grow (redrawn wr nq) osq = W1 at *
              have hbq := hb1r.trans (HQ.out.mono hb1r.size)
              obtain ⟨c0, c1⟩ := HCELL.out W1 hbq k s HSP.out.at_
              have hw1 : IntKind.u64.wrap (s.lo + s.hi) = s.lo + s.hi := by rw [IntKind.wrap_u64]; omega
              have hw2 : s.hi % 18446744073709551616 = s.hi := by omega
              have hw3 : s.lo % 18446744073709551616 = s.lo := by omega
              have hw4 : IntKind.u64.wrap (s.lo + s.hi - s.lo) = s.hi := by rw [IntKind.wrap_u64]; omega
              have hw5 : IntKind.u64.wrap (s.hi + 1) = s.hi + 1 := by rw [IntKind.wrap_u64]; omega
              have C0 := cell_regrown c0
              have C1 := cell_regrown c1
              go_wp2
              refine wp_region_quiet_below (by kernel_rfl) (by kernel_rfl) ?_
              repeat (first | go_big_quiet_step (fail) | quiet_step (fail))
              refine wpQuiet_nil ?_
              intro _ hw'
              obtain ⟨⟨nq, osq⟩, hw''⟩ := hw'
              subst hw''
              have HQ2 := Lib.hid (below_regrown W1 nq osq)
              clear C0 C1 c0 c1 hw1 hw4 hw5
              generalize grow (redrawn W1 nq) osq = W2 at *
              have hbq2 := hbq.trans (HQ2.out.mono hbq.size)
              obtain ⟨c0, c1⟩ := HCELL.out W2 hbq2 k s HSP.out.at_
              have C0 := cell_regrown c0
              have C1 := cell_regrown c1
              have hw1 : IntKind.u64.wrap (s.hi - s.lo) = s.hi - s.lo := by rw [IntKind.wrap_u64]; omega
              have hw4 : IntKind.u64.wrap (s.hi - s.lo + 1) = s.hi - s.lo + 1 := by rw [IntKind.wrap_u64]; omega
              have hw5 : x % 18446744073709551616 = x := by omega
              have hw6 : (s.hi - s.lo + 1 == 0) = false := by simp; omega
              have hw7 : x.tmod (s.hi - s.lo + 1) = x % (s.hi - s.lo + 1) := Int.tmod_eq_emod_of_nonneg hx.1
              obtain ⟨r, hr⟩ : ∃ r, x % (s.hi - s.lo + 1) = r := ⟨_, rfl⟩
              have hr0 : 0 ≤ r ∧ r ≤ s.hi - s.lo := by
                have h1 := Int.emod_nonneg x (show s.hi - s.lo + 1 ≠ 0 by omega)
                have h2 := Int.emod_lt_of_pos x (show 0 < s.hi - s.lo + 1 by omega)
                omega
              rw [hr] at hw7
              have hw8 : r % 4294967296 = r := by omega
              have hw9 : IntKind.u32.wrap (s.lo + r) = s.lo + r := by rw [IntKind.wrap_u32]; omega
              clear hr
              go_wp2
              refine wp_region_quiet_below (by kernel_rfl) (by kernel_rfl) ?_
              repeat (first | go_big_quiet_step (fail) | quiet_step (fail))
              refine wpQuiet_nil ?_
              intro _ hw'
              obtain ⟨⟨nq, osq⟩, hw''⟩ := hw'
              subst hw''
              have HQ3 := Lib.hid (below_regrown W2 nq osq)
              clear C0 C1 c0 c1 hw1 hw4 hw5 hw6 hw7 hw8 hw9
              generalize grow (redrawn W2 nq) osq = W3 at *
              have hbq3 := hbq2.trans (HQ3.out.mono hbq2.size)
              go_upto_block 4 with fail
              go_cut [13] (fun s13 wx => s13 = .bool true ∧ Hid (Below W3.heap.size W3 wx))
              case first =>
                go_wp2_with fail
                go_loopw [13, 14] (fun cv i wx => ∃ (q : Nat) (cb : Bool), i = .int .i64 q ∧ q ≤ S.length ∧ cv = .bool cb ∧ Hid (cb = (decide (k = 0) || ((setsL S).take q).any (cutAt s.lo))) ∧ Hid (Below W3.heap.size W3 wx)) (fun _ i _ => S.length - (intOf i).toNat)
                case atStart => exact ⟨0, _, rfl, by omega, rfl, Lib.hid (by rw [Bool.eq_iff_iff]; simp), Lib.hid (Below.refl _ _)⟩
                case round =>
                  obtain ⟨q, cb, rfl, hq, rfl, hcb, hbx⟩ := hrel
                  by_cases hqs : q < S.length
                  · have hQI : (q : Int) < (S.length : Int) := by omega
                    obtain ⟨y, hy⟩ : ∃ y, S[q]? = some y := ⟨_, List.getElem?_eq_getElem hqs⟩
                    have hbw1 : Below w1.heap.size w1 wr := hbq3.trans (hbx.mono hbq3.size)
                    have hbw : Below wc.heap.size wc wr := HB1.out.trans (hbw1.mono HB1.out.size)
                    have hS1 := HS.out.below hbw
                    have hyr := (hS1.2 y (List.mem_of_getElem? hy)).mono hbw.size
                    obtain ⟨Ay, cy, hyv, _⟩ := hyr.form
                    obtain ⟨b3, off3, c3, hv, _, hb3x, hcell⟩ := hS1.1.pos (by omega)
                    injection hv with hv1 _ hv3
                    subst hv1 hv3
                    have g0 : wr.cell? ⟨b3, off3 + q, none⟩ = some (.slice Ay y.L.length cy) := by rw [← hyv]; exact hcell q _ (by simp [svals, hy])
                    rw [hyv] at hyr
                    have hyl := HXL.out y (List.mem_of_getElem? hy)
                    have hyT : y.L ∈ setsL S := List.mem_map.2 ⟨y, List.mem_of_getElem? hy, rfl⟩
                    have H0 : ∀ (z : Int) (W : World), Below wr.heap.size wr W → Calls Try.prog 17 #[.slice Ay y.L.length cy, .int .u32 z] W fun e w' => e = .returned (.bool (hasB y.L z)) ∧ W = w' := fun z W hW => refHas_any y.L _ z W ((hyr.below hW).mono hW.size) hyl
                    have H1 := Lib.hid (H0 s.lo)
                    have H2 := H0 s.hi
                    have H3 := H0 (s.lo + r)
                    have H4 := Lib.hid (H0 (s.lo - 1))
                    rw [HSP.out.alike y.L hyT s.hi hsh (Int.le_refl _)] at H2
                    rw [HSP.out.alike y.L hyT (s.lo + r) (by omega) (by omega)] at H3
                    have H2 := Lib.hid H2
                    have H3 := Lib.hid H3
                    have HSTEP := Lib.hid (any_take_succ hy (cutAt s.lo))
                    have hcut : cutAt s.lo y.L = (hasB y.L s.lo != hasB y.L (s.lo - 1)) := rfl
                    have HCUT := Lib.hid hcut
                    obtain ⟨c0, c1⟩ := HCELL.out wr hbw1 k s HSP.out.at_
                    have C0 := cell_regrown c0
                    have C1 := cell_regrown c1
                    have G0 := cell_regrown g0
                    have hb3 : b3 < wr.heap.size := by have := hbw.size; omega
                    have HG := Lib.hid fun (W : World) (hW : Below wr.heap.size wr W) => (hW.cell (p := ⟨b3, off3 + q, none⟩) hb3).trans g0
                    have HBX := Lib.hid hbx
                    have HCB := Lib.hid hcb
                    clear hbx hcb
                    clear hcut hcell hS1 hyr hyv H0 hyT hyl hy
                    generalize hasB y.L s.lo = bv at *
                    generalize hasB y.L (s.lo - 1) = bp at *
                    have hbb : (bv != bv) = false := by simp
                    go_wp2
                    refine wp_region_quiet_below (by kernel_rfl) (by kernel_rfl) ?_
                    repeat (first | go_big_quiet_step ((go_at_call 17; first | (with_reducible exact regrown_left (H1.out _ (below_regrown wr _ _))))) | quiet_step ((go_at_call 17; first | (with_reducible exact regrown_left (H1.out _ (below_regrown wr _ _))))))
                    refine wpQuiet_nil ?_
                    intro _ hw'
                    obtain ⟨⟨nq, osq⟩, hw''⟩ := hw'
                    subst hw''
                    have HV1 := Lib.hid (below_regrown wr nq osq)
                    clear C0 C1 c0 c1 G0 g0
                    generalize grow (redrawn wr nq) osq = V1 at *
                    have hv1 := hbw1.trans (HV1.out.mono hbw1.size)
                    obtain ⟨c0, c1⟩ := HCELL.out V1 hv1 k s HSP.out.at_
                    have C0 := cell_regrown c0
                    have C1 := cell_regrown c1
                    have G0 := cell_regrown (HG.out V1 HV1.out)
                    go_wp2
                    refine wp_region_quiet_below (by kernel_rfl) (by kernel_rfl) ?_
                    repeat (first | go_big_quiet_step ((go_at_call 17; first | (with_reducible exact regrown_left (H2.out _ (HV1.out.trans ((below_regrown V1 _ _).mono HV1.out.size)))) | (with_reducible exact regrown_left (H3.out _ (HV1.out.trans ((below_regrown V1 _ _).mono HV1.out.size)))))) | quiet_step ((go_at_call 17; first | (with_reducible exact regrown_left (H2.out _ (HV1.out.trans ((below_regrown V1 _ _).mono HV1.out.size)))) | (with_reducible exact regrown_left (H3.out _ (HV1.out.trans ((below_regrown V1 _ _).mono HV1.out.size)))))))
                    refine wpQuiet_nil ?_
                    intro _ hw'
                    obtain ⟨⟨nq, osq⟩, hw''⟩ := hw'
                    subst hw''
                    have HV2 := Lib.hid (below_regrown V1 nq osq)
                    clear C0 C1 c0 c1 G0
                    generalize grow (redrawn V1 nq) osq = V2 at *
                    have hv12 := HV1.out.trans (HV2.out.mono HV1.out.size)
                    have hv2 := hbw1.trans (hv12.mono hbw1.size)
                    obtain ⟨c0, c1⟩ := HCELL.out V2 hv2 k s HSP.out.at_
                    have C0 := cell_regrown c0
                    have C1 := cell_regrown c1
                    have G0 := cell_regrown (HG.out V2 hv12)
                    go_wp2
                    cases cb with
                    | true =>
                      refine wp_region_quiet_below (by kernel_rfl) (by kernel_rfl) ?_
                      repeat (first | go_big_quiet_step (fail) | quiet_step (fail))
                      refine wpQuiet_nil ?_
                      intro _ hw'
                      obtain ⟨⟨nq, osq⟩, hw''⟩ := hw'
                      subst hw''
                      have HV3 := Lib.hid (below_regrown V2 nq osq)
                      clear C0 C1 c0 c1 G0
                      generalize grow (redrawn V2 nq) osq = V3 at *
                      go_wp2
                      go_roundw
                      case rel => exact ⟨q + 1, true, by go_num, by omega, rfl, Lib.hid (by rw [HSTEP.out, ← Bool.or_assoc, ← HCB.out]; rfl), Lib.hid (HBX.out.trans ((hv12.trans (HV3.out.mono hv12.size)).mono HBX.out.size))⟩
                      case measure => simp only [intOf]; omega
                    | false =>
                      have hkn : k ≠ 0 := fun h => by
                        have h2 : false = (decide (k = 0) || ((setsL S).take q).any (cutAt s.lo)) := HCB.out
                        rw [decide_eq_true h, Bool.true_or] at h2
                        exact absurd h2 (by decide)
                      have hlp := (HSP.out.turn (by omega)).2.1
                      have hlm : (s.lo - 1) % 4294967296 = s.lo - 1 := by omega
                      clear hkn
                      refine wp_region_quiet_below (by kernel_rfl) (by kernel_rfl) ?_
                      repeat (first | go_big_quiet_step ((go_at_call 17; first | (with_reducible exact regrown_left (H4.out _ (hv12.trans ((below_regrown V2 _ _).mono hv12.size)))))) | quiet_step ((go_at_call 17; first | (with_reducible exact regrown_left (H4.out _ (hv12.trans ((below_regrown V2 _ _).mono hv12.size)))))))
                      refine wpQuiet_nil ?_
                      intro _ hw'
                      obtain ⟨⟨nq, osq⟩, hw''⟩ := hw'
                      subst hw''
                      have HV3 := Lib.hid (below_regrown V2 nq osq)
                      clear C0 C1 c0 c1 G0 hlm
                      generalize grow (redrawn V2 nq) osq = V3 at *
                      go_wp2
                      go_roundw
                      case rel => exact ⟨q + 1, _, by go_num, by omega, rfl, Lib.hid (by rw [HSTEP.out, ← Bool.or_assoc, ← HCB.out, HCUT.out]; rfl), Lib.hid (HBX.out.trans ((hv12.trans (HV3.out.mono hv12.size)).mono HBX.out.size))⟩
                      case measure => simp only [intOf]; omega
                  · obtain rfl : q = S.length := by omega
                    have e1 : (setsL S).take S.length = setsL S := List.take_of_length_le (by simp [setsL])
                    have hct : cb = true := by
                      rw [hcb, e1]
                      by_cases hk0 : k = 0
                      · simp [hk0]
                      · have := (HSP.out.turn (by omega)).1
                        unfold turnB at this
                        simp [hk0]
                        simpa [cutAt] using this
                    have HCT := Lib.hid hct
                    have HBX := Lib.hid hbx
                    clear hcb hct hbx
                    have hQI : ¬ (S.length : Int) < (S.length : Int) := by omega
                    go_wp2
                    go_meet
                    exact ⟨by rw [HCT.out], HBX.out⟩
              case rest =>
                obtain ⟨rfl, hbx⟩ := hcut
                have HBX := Lib.hid hbx
                clear hbx
                go_wp2
                go_roundw
                case rel => exact ⟨k + 1, by go_num, by omega, by rw [HSP.out.n1], Lib.hid (HBR.out.trans ((HQ.out.mono HBR.out.size).trans (((HQ2.out.trans ((HQ3.out.trans (HBX.out.mono HQ3.out.size)).mono HQ2.out.size)).mono (Nat.le_trans HBR.out.size HQ.out.size))))) ⟩
                case measure => simp only [intOf]; omega
          · obtain rfl : k = C.length + 1 := by omega
            rw [nAt_end]
            have HBR := Lib.hid hbr
            have hw1 : most % 18446744073709551616 = most := by omega
            have hw2 : IntKind.u64.wrap (most + 1) = most + 1 := by rw [IntKind.wrap_u64]; omega
            have hw3 : (most + 1) % 18446744073709551616 = most + 1 := by omega
            clear hbr
            go_wp2
            go_ret
            exact ⟨rfl, HB1.out.trans ((HB2.out.trans (HBR.out.mono HB2.out.size)).mono HB1.out.size)⟩
end Go.Proofs.Ythgmmajoinkblaa
