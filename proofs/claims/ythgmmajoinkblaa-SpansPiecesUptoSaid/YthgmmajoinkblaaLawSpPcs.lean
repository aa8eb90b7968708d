/-
  The walk of the law SpansPieces.
-/
import Derived.Test.YthgmmajoinkblaaLawSpCut
namespace Go.Proofs.Ythgmmajoinkblaa
open Go Go.RowKit Go.Lib Go.Sort

/-- A row stays where its block stays. -/
theorem owns_same {w w' : World} {base : Nat} {e : TypeId} {size n : Nat} {v : Value} {xs : List Value} (h : w.ownsRow base e size v n xs) (hs : ∀ g, v.ownBlock = some g → w'.heap[g]? = w.heap[g]?) : w'.ownsRow base e size v n xs := by
  refine ⟨h.1, h.2.imp id ?_⟩
  rintro ⟨g, cap, cur, rfl, hbg, hg, r⟩
  exact ⟨g, cap, cur, rfl, hbg, (hs g rfl).trans hg, r⟩
theorem setCell_seg {lo hi : Nat} {a w : World} (h : Seg lo hi a w) {p : Addr} (hp : p.block < lo ∨ hi ≤ p.block) (u : Value) : Seg lo hi a (w.setCell p u) := fun b h1 h2 =>
  (Below.heap_setCell w p u b (by omega)).trans (h b h1 h2)
theorem sum_succ {S : List SetV} {k : Nat} {y : SetV} (h : S[k]? = some y) : (allS (S.take (k + 1))).length = (allS (S.take k)).length + y.L.length := by rw [allS_succ h, List.length_append]

set_option maxRecDepth 100000 in
set_option maxHeartbeats 8000000 in
theorem lawPcs_any (S0 : List SetV) (vs : Value) (most : Int) (w : World) (hS : SetsAt w w.heap.size vs S0) (hm : 0 ≤ most ∧ most < 4294967296) (hsz : ∀ y ∈ S0, y.L.length ≤ 17592186044416) :
    Calls Try.prog 4 #[.int .u32 most, vs] w (TrueRes w) := by
  obtain ⟨i0, hi, hz0, hz1, hz2⟩ := info_parts Try.infoSpan
  obtain ⟨A0, c0, rfl, hc0⟩ := hS.1.form
  have HS0 := Lib.hid hS
  have HSZ0 := Lib.hid hsz
  clear hS hsz
  go_enter Try.func4, Try.ntmps4
  go_upto_if 17 with fail
  go_cut [1] (fun s1 wx => wx = w ∧ ∃ n, n ≤ 20 ∧ n = (S0.take 20).length ∧ s1 = .slice A0 n c0)
  case first =>
    by_cases hlen : 20 < S0.length
    · have h1 : (20 : Int) < (S0.length : Int) := by omega
      have h2 : 20 ≤ c0 := by omega
      go_wp2
      go_meet
      exact ⟨rfl, 20, by omega, by rw [List.length_take]; omega, rfl⟩
    · have h1 : ¬ (20 : Int) < (S0.length : Int) := by omega
      go_wp2
      go_meet
      exact ⟨rfl, S0.length, by omega, by rw [List.length_take]; omega, rfl⟩
  case rest =>
    obtain ⟨rfl, n, hn, hnl, rfl⟩ := hcut
    have hS : SetsAt wc wc.heap.size (.slice A0 n c0) (S0.take 20) := by
      rw [hnl, List.length_take]
      by_cases hlen : 20 < S0.length
      · rw [Nat.min_eq_left (by omega)]
        exact HS0.out.take rfl (by omega)
      · rw [Nat.min_eq_right (by omega), List.take_of_length_le (by omega)]
        exact HS0.out
    have hsz : ∀ y ∈ S0.take 20, y.L.length ≤ 17592186044416 := fun y hy => HSZ0.out y (List.mem_of_mem_take hy)
    clear HS0 HSZ0 hc0
    generalize S0.take 20 = S at *
    subst hnl
    have HS := Lib.hid hS
    have HSZ := Lib.hid hsz
    clear hS hsz
    go_wp2
    go_loop [5, 6] (fun a i => ∃ k : Nat, i = .int .i64 k ∧ k ≤ S.length ∧ a = .int .i64 ((allS (S.take k)).length : Int)) (fun _ i => S.length - (intOf i).toNat)
    case atStart => exact ⟨0, rfl, by omega, rfl⟩
    case round =>
      obtain ⟨k, rfl, hk, rfl⟩ := hrel
      have hbd : (allS (S.take k)).length ≤ 17592186044416 * 20 := by
        have h1 := allS_le (S := S.take k) (n := 17592186044416) fun y hy => HSZ.out y (List.mem_of_mem_take hy)
        have h2 : (S.take k).length ≤ 20 := by rw [List.length_take]; omega
        exact Nat.le_trans h1 (Nat.mul_le_mul_left _ h2)
      by_cases hlt : k < S.length
      · have hI : (k : Int) < (S.length : Int) := by omega
        obtain ⟨y, hy⟩ : ∃ y, S[k]? = some y := ⟨_, List.getElem?_eq_getElem hlt⟩
        have hyr := HS.out.2 y (List.mem_of_getElem? hy)
        obtain ⟨Ay, cy, hyv, _⟩ := hyr.form
        obtain ⟨b, off, c', hv, _, _, hcell⟩ := HS.out.1.pos (by omega)
        injection hv with hv1 _ hv3
        subst hv1 hv3
        have g0 : wc.cell? ⟨b, off + k, none⟩ = some (.slice Ay y.L.length cy) := by rw [← hyv]; exact hcell k _ (by simp [svals, hy])
        have hyl := HSZ.out y (List.mem_of_getElem? hy)
        have HSUM := Lib.hid (sum_succ hy)
        clear hcell hyv hyr hy
        generalize (allS (S.take k)).length = T at *
        go_wp2
        go_roundw
        case rel => exact ⟨k + 1, by go_num, by omega, by rw [HSUM.out]; go_num⟩
        case measure => simp only [intOf]; omega
      · obtain rfl : k = S.length := by omega
        rw [List.take_length] at hbd ⊢
        by_cases hbig : 200 < (allS S).length
        · have h1 : (200 : Int) < ((allS S).length : Int) := by omega
          go_wp2_with fail
          refine (awake02_any _).mono ?_
          rintro e w1 ⟨rfl, hb⟩
          go_wp2
          go_ret
          exact ⟨rfl, hb⟩
        · have h1 : ¬ (200 : Int) < ((allS S).length : Int) := by omega
          have hall : (allS S).length ≤ 200 := by omega
          have K1 := Lib.hid (refPieces_any most S _ wc HS.out hm (by omega) (by omega))
          have K2 : Hid (∀ W, Below wc.heap.size wc W → Calls Try.prog 15 #[.int .u32 most, .slice A0 S.length c0] W (PiecesRes most (setsL S) W)) := Lib.hid fun W hW => pieces_any most S _ W ((HS.out.below hW).mono hW.size) hm (by omega) (by omega)
          have hflat := allS_flat S
          have HFL : Hid ((setsL S).flatten.length ≤ 200) := Lib.hid (by rw [← hflat]; exact hall)
          clear hbd hbig hlt hflat HSZ HS
          generalize (allS S).length = T at *
          go_wp2_with fail
          refine K1.out.mono ?_
          rintro e w1 ⟨v1, k1, C, rfl, hst, hres, hb1⟩
          have hCl := hst.len
          rcases hres with ⟨_, rfl, hown1⟩ | ⟨hbig, _, _⟩
          rotate_left
          · have := HFL.out; omega
          have hCl2 : C.length ≤ 400 := by have := HFL.out; omega
          obtain ⟨B1, d1, rfl, hB1⟩ := owns_form hown1
          have HST := Lib.hid hst
          have HO1 := Lib.hid hown1
          have HB1 := Lib.hid hb1
          clear hst hown1 hb1 hCl
          go_wp2_with fail
          refine (K2.out w1 HB1.out).mono ?_
          rintro e w2 ⟨v2, k2, C2, rfl, hst2, hres2, hb2⟩
          obtain rfl := HST.out.unique hst2
          rcases hres2 with ⟨_, rfl, hown2⟩ | ⟨hbig, _, _⟩
          rotate_left
          · omega
          obtain ⟨B2, d2, rfl, hB2⟩ := owns_form hown2
          have HO2 := Lib.hid hown2
          have HB2 := Lib.hid hb2
          have hbw2 := below_call HB1.out hb2
          clear hst2 hown2 hb2
          go_wp2_with fail
          refine (K2.out w2 hbw2).mono ?_
          rintro e w3 ⟨v3, k3, C3, rfl, hst3, hres3, hb3⟩
          obtain rfl := HST.out.unique hst3
          rcases hres3 with ⟨_, rfl, hown3⟩ | ⟨hbig, _, _⟩
          rotate_left
          · omega
          obtain ⟨B3, d3, rfl, hB3⟩ := owns_form hown3
          have HO3 := Lib.hid hown3
          have HB3 := Lib.hid hb3
          have HBW2 := Lib.hid hbw2
          clear hst3 hown3 hb3 hbw2 K1 K2
          have hP : (pcs most 0 C).length = C.length + 1 := pcs_len most 0 C
          generalize pcs most 0 C = P at *
          rw [hP] at HO1 HO2 HO3 hB1 hB2 hB3
          obtain ⟨g1, rfl⟩ := hB1 (by omega)
          obtain ⟨g2, rfl⟩ := hB2 (by omega)
          obtain ⟨g3, rfl⟩ := hB3 (by omega)
          have K4 := refSpans_any P P (.slice (some ⟨g2, 0, none⟩) (C.length + 1) d2) (.slice (some ⟨g1, 0, none⟩) (C.length + 1) d1) w3
            (by rw [hP]; exact ((Rd.of_own HO2.out).below HB3.out).mono HB3.out.size)
            (by rw [hP]; exact ((Rd.of_own HO1.out).below (HB2.out.trans (HB3.out.mono HB2.out.size))).mono (Nat.le_trans HB2.out.size HB3.out.size)) (by omega)
          rw [eqB_self] at K4
          have HK4 := Lib.hid K4
          clear K4
          go_wp2_with fail
          refine HK4.out.mono ?_
          rintro e w4 ⟨rfl, hb4⟩
          have hg2a := (HO2.out.lt g2 rfl).1
          have hg2b := (HO2.out.lt g2 rfl).2
          have hg3a := (HO3.out.lt g3 rfl).1
          have hg3b := (HO3.out.lt g3 rfl).2
          have hs43 := hb4.size
          have hs32 := HB3.out.size
          have hs21 := HB2.out.size
          have o2 := owns_kept_none (owns_kept_none HO2.out (only_of_below HB3.out none)) (only_of_below hb4 none)
          have o3 := owns_kept_none HO3.out (only_of_below hb4 none)
          have hb24 : Below w1.heap.size w1 w4 := HB2.out.trans ((HB3.out.trans (hb4.mono hs32)).mono hs21)
          have O2 := Lib.hid o2
          have O3 := Lib.hid o3
          have HB24 := Lib.hid hb24
          clear o2 o3 hb24 hb4 HK4 HO2 HO3 HB3
          go_wp2
          go_loopw [13] (fun i wr => ∃ (k : Nat) (xs : List Value), i = .int .i64 k ∧ k ≤ C.length + 1 ∧ Hid (wr.ownsRow w1.heap.size 44 2 (.slice (some ⟨g2, 0, none⟩) (C.length + 1) d2) (C.length + 1) xs) ∧ Hid (Seg w2.heap.size w4.heap.size w4 wr) ∧ Hid (Below w1.heap.size w1 wr) ∧ w4.heap.size ≤ wr.heap.size) (fun i _ => C.length + 1 - (intOf i).toNat)
          case atStart => exact ⟨0, _, rfl, by omega, O2.out, Seg.refl _ _ _, HB24.out, Nat.le_refl _⟩
          case round =>
            obtain ⟨k, xs, rfl, hk, HOW, HSEG, HBL, hsw⟩ := hrel
            by_cases hlt : k < C.length + 1
            · have hI : (k : Int) < (C.length : Int) + 1 := by omega
              have hcell : ∃ u, xs[k * 2]? = some u := ⟨_, List.getElem?_eq_getElem (by rw [HOW.out.1]; omega)⟩
              obtain ⟨u, hu⟩ := hcell
              have e1 : wr.cell? ⟨g2, k * 2, none⟩ = some u := (HOW.out.cellAt (k * 2) (by omega)).trans hu
              have e2 := HOW.out.frozenAt (k * 2)
              have s1 := HOW.out.stored (k * 2) (.int .u32 99)
              have S1 := Lib.hid s1.1
              have S2 := Lib.hid (setCell_seg HSEG.out (p := ⟨g2, k * 2, none⟩) (.inl hg2b) (.int .u32 99))
              have S3 := Lib.hid (HBL.out.setCell (p := ⟨g2, k * 2, none⟩) hg2a (.int .u32 99))
              have S4 : w4.heap.size ≤ (wr.setCell ⟨g2, k * 2, none⟩ (.int .u32 99)).heap.size := by simpa [World.setCell] using hsw
              clear s1 hu HOW HSEG HBL
              go_wp2
              go_roundw
              case rel => exact ⟨k + 1, _, by go_num, by omega, S1.out, S2.out, S3.out, S4⟩
              case measure => simp only [intOf]; omega
            · have hI : ¬ (k : Int) < (C.length : Int) + 1 := by omega
              go_wp2
              clear hlt hk hI
              go_loopw [9, 14] (fun v i wx => ∃ (q : Nat) (ys : List Value), i = .int .i64 q ∧ q ≤ 70 ∧ Hid (wx.ownsRow w1.heap.size 44 2 v (C.length + 1 + q) ys) ∧ Hid (Off v w2.heap.size w4.heap.size) ∧ Hid (Seg w2.heap.size w4.heap.size w4 wx) ∧ Hid (Below w1.heap.size w1 wx) ∧ w4.heap.size ≤ wx.heap.size) (fun _ i _ => 70 - (intOf i).toNat)
              case atStart => exact ⟨0, xs, rfl, by omega, HOW.out, fun g hg => .inl (by have h : some g2 = some g := hg; injection h with h; omega), HSEG.out, HBL.out, hsw⟩
              case round =>
                obtain ⟨q, ys, rfl, hq, HOW, HOFF, HSEG, HBL, hsw⟩ := hrel
                obtain ⟨Av, cv, rfl, _⟩ := owns_form HOW.out
                by_cases hlt : q < 70
                · have hI : (q : Int) < 70 := by omega
                  go_wp2_with (at_builtin; refine wpList_push2 rfl _ _ 36 rfl 44 i0 _ 2 8 Try.underlying36 hi hz0 hz1 hz2 rfl (by decide) (by decide) [.int .u32 0, .int .u32 0] rfl rfl rfl HOW.out rfl (enc_one ⟨0, 0, by omega, by omega⟩) (by omega) HBL.out.size ?_; intro v2 w5 hown5 hgr5 hmv5; have HO5 := Lib.hid hown5; have HG5 := Lib.hid hgr5; have HM5 := Lib.hid hmv5; clear hown5 hgr5 hmv5)
                  go_roundw
                  case rel => exact ⟨q + 1, _, by go_num, by omega, HO5.out, HOFF.out.moved HM5.out hsw, HSEG.out.grown HG5.out HOFF.out hsw, below_row HBL.out HOW.out HG5.out HBL.out.size (Nat.le_refl _), Nat.le_trans hsw HG5.out.size⟩
                  case measure => simp only [intOf]; omega
                · obtain rfl : q = 70 := by omega
                  have ob := owns_same O3.out (w' := wr) (fun g hg => by injection hg with hg; subst hg; exact HSEG.out g3 hg3a (by omega))
                  have K5 := refSpans_any P P (.slice (some ⟨g3, 0, none⟩) (C.length + 1) d3) (.slice (some ⟨g1, 0, none⟩) (C.length + 1) d1) wr
                    (by rw [hP]; exact Rd.of_own ob)
                    (by rw [hP]; exact ((Rd.of_own HO1.out).below HBL.out).mono HBL.out.size) (by omega)
                  rw [eqB_self] at K5
                  have HK5 := Lib.hid K5
                  have hl : ((C.length : Int) + 1 + 70 == (C.length : Int) + 1 + 70) = true := by simp
                  clear ob K5
                  go_wp2_with fail
                  refine HK5.out.mono ?_
                  rintro e w6 ⟨rfl, hb6⟩
                  go_wp2
                  go_ret
                  exact ⟨rfl, HB1.out.trans ((HBL.out.trans (hb6.mono HBL.out.size)).mono HB1.out.size)⟩
end Go.Proofs.Ythgmmajoinkblaa
