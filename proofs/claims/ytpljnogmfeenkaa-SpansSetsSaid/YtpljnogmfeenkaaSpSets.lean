/-
  The walk of the law SpansSets (written by wip/gen/genspsets.py).
-/
import Derived.Test.YtpljnogmfeenkaaSpSetsL
namespace Go.Proofs.Ytpljnogmfeenkaa
open Go Go.RowKit Go.Lib Go.Sort

set_option maxRecDepth 100000 in
set_option maxHeartbeats 8000000 in
theorem lawSets_any (L M : List SpanV) (vl vm : Value) (most x : Int) (w : World) (hl : Rd w w.heap.size 2 vl L.length (scells L)) (hm' : Rd w w.heap.size 2 vm M.length (scells M)) (nilL : NilOk vl) (nilM : NilOk vm) (hm : 0 ≤ most ∧ most < 4294967296) :
    Calls Try.prog 11 #[vl, vm, .int .u32 most, .int .u32 x] w fun e w' => e = .returned (.bool true) ∧ Below w.heap.size w w' := by
  obtain ⟨i0, hi, hz0, hz1, hz2⟩ := info_parts Try.infoSpan
  obtain ⟨j0, hj0, hy0, hy1, hy2⟩ := info_parts Try.infoSl
  obtain ⟨Al, cl, rfl, _⟩ := hl.form
  obtain ⟨Am, cm, rfl, _⟩ := hm'.form
  have HL := Lib.hid hl
  have HM := Lib.hid hm'
  clear hl hm'
  cases hlg : largeB L M with
  | true =>
    have hla := large_any L M Al Am cl cm w
    rw [hlg] at hla
    go_enter Try.func11, Try.ntmps11
    go_wp2_with fail
    refine hla.mono ?_
    rintro e w1 ⟨rfl, rfl⟩
    clear hla
    go_wp2_with fail
    refine (awake02_any w).mono ?_
    rintro e w1 ⟨rfl, hb⟩
    go_wp2
    go_ret
    exact ⟨rfl, hb⟩
  | false =>
    have hla := large_any L M Al Am cl cm w
    rw [hlg] at hla
    obtain ⟨h1, h2⟩ := largeB_no hlg
    have HLA := Lib.hid hla
    clear hla hlg
    go_enter Try.func11, Try.ntmps11
    go_wp2_with fail
    refine HLA.out.mono ?_
    rintro e w' ⟨rfl, rfl⟩
    go_upto_region 4 with fail
    go_cut [10] (fun s10 wx => ∃ gi ci, s10 = .slice (some ⟨gi, 0, none⟩) L.length ci ∧ Hid (wx.ownsRow w.heap.size 37 2 (.slice (some ⟨gi, 0, none⟩) (L.length + 1) ci) (L.length + 1) (scells (L ++ [sp77]))) ∧ Hid (Below w.heap.size w wx))
    case first =>
      have hmade := made_row w w.heap.size rfl w.heap.size (Nat.le_refl _)
      have hbm := below1 w (.cells #[] 37)
      have HMA := Lib.hid hmade
      have HBM := Lib.hid hbm
      clear hmade hbm
      rcases Al with _ | ad
      · obtain ⟨h0, rfl⟩ := nilL _ _ rfl
        obtain rfl : L = [] := List.eq_nil_of_length_eq_zero h0
        go_wp2_with (first | (at_builtin; refine wpList_append_own_none rfl _ _ 79 rfl w.heap.size 37 i0 2 Try.underlying79 hi _ _ _ rfl HMA.out rfl ?_) | (at_builtin; refine wpList_push rfl _ _ 79 rfl 37 i0 _ 2 8 Try.underlying79 hi hz0 hz1 hz2 rfl (by decide) (by decide) [.int .u32 7, .int .u32 7] rfl rfl (by simp) HMA.out rfl (enc_one sp77) (by omega) (by simp) HBM.out (Nat.le_refl _) ?_; intro v2 w2 hown2 hb2; obtain ⟨A2, c2, rfl, hA2⟩ := owns_form hown2; obtain ⟨g2, rfl⟩ := hA2 (by omega)))
        go_meet
        exact ⟨g2, c2, rfl, hown2, hb2⟩
      · have HSRC := Lib.hid (src_of HL.out rfl HBM.out)
        go_wp2_with (first | (at_builtin; refine wpList_append_own _ rfl _ _ 79 rfl w.heap.size 37 i0 _ 2 8 Try.underlying79 hi hz0 hz1 hz2 rfl (by decide) _ _ _ rfl HMA.out ad L.length cl (scells L) rfl (scells_len _) HSRC.out (scells_one _) (by unfold maxLen; omega) (by omega) (by simp) ?_; intro v1 w1 hown1 hgr1 _; have hb1 := below_row HBM.out HMA.out hgr1 (by simp) (Nat.le_refl _); have hsz1 := hb1.size; rw [Nat.zero_add, List.nil_append] at hown1) | (at_builtin; refine wpList_push rfl _ _ 79 rfl 37 i0 _ 2 8 Try.underlying79 hi hz0 hz1 hz2 rfl (by decide) (by decide) [.int .u32 7, .int .u32 7] rfl rfl (by simp) hown1 rfl (enc_one sp77) (by omega) hsz1 hb1 (Nat.le_refl _) ?_; intro v2 w2 hown2 hb2; obtain ⟨A2, c2, rfl, hA2⟩ := owns_form hown2; obtain ⟨g2, rfl⟩ := hA2 (by omega); have hroom := own_room hown2))
        go_meet
        exact ⟨g2, c2, rfl, (by rw [scells_append]; exact hown2 : w2.ownsRow _ _ _ _ _ _), hb2⟩
    case rest =>
      obtain ⟨gi, ci, rfl, hin, hbin⟩ := hcut
      go_upto_region 5 with fail
      go_cut [11] (fun s11 wx => SSst L M gi ci s11 w wx)
      case first =>
        have hsz := hbin.out.size
        have hmade := made_row wc wc.heap.size rfl w.heap.size hsz
        have hbm := hbin.out.alloc hsz (.cells #[] 37)
        have hin2 := hin.out.alloc (.cells #[] 37)
        have hlt := (hin.out.lt gi rfl).2
        have HMA := Lib.hid hmade
        have HBM := Lib.hid hbm
        have HIN := Lib.hid hin2
        have HSRC := HM.out.below hbm
        have HSR := Lib.hid HSRC
        clear hmade hbm hin2 hin hbin HSRC
        rcases Am with _ | ad
        · obtain ⟨h0, rfl⟩ := nilM _ _ rfl
          obtain rfl : M = [] := List.eq_nil_of_length_eq_zero h0
          go_wp2_with (at_builtin; refine wpList_append_own_none rfl _ _ 79 rfl w.heap.size 37 i0 2 Try.underlying79 hi _ _ _ rfl HMA.out rfl ?_)
          go_meet
          exact ⟨HIN.out, HMA.out, HBM.out⟩
        · have HSRC := Lib.hid (src_of HSR.out rfl (Below.refl _ _))
          go_wp2_with (at_builtin; refine wpList_append_own _ rfl _ _ 79 rfl w.heap.size 37 i0 _ 2 8 Try.underlying79 hi hz0 hz1 hz2 rfl (by decide) (.slice (some ⟨wc.heap.size, 0, none⟩) 0 0) _ _ rfl HMA.out ad M.length cm (scells M) rfl (scells_len _) HSRC.out (scells_one _) (by unfold maxLen; omega) (by omega) (by simp; omega) ?_; intro v1 w1 hown1 hgr1 _; have hb1 := below_row HBM.out HMA.out hgr1 (by simp; omega) (Nat.le_refl _); have hin1 := HIN.out.kept hgr1 (.inr (by intro hh; simp [Value.ownBlock] at hh; omega)); rw [Nat.zero_add, List.nil_append] at hown1)
          go_meet
          exact ⟨hin1, hown1, hb1⟩
      case rest =>
        clear hin hbin
        have st := hcut
        clear hcut
        have hbz := Below.refl wc.heap.size wc
        go_wp2_with fail
        refine (show Calls _ _ _ _ (SetRes (formOf L) wc) from refForm_any L (.slice Al L.length cl) wc ((HL.out.below (st.2.2.trans (hbz.mono st.2.2.size))).mono (Nat.le_trans st.2.2.size hbz.size)) (by omega)).mono ?_
        rintro e p1 ⟨v, rfl, pown1, phb1⟩
        obtain ⟨pA1, pc1, rfl, _⟩ := (Rd.of_own pown1).form
        have pbw1 := below_call hbz phb1
        go_wp2_with fail
        refine (show Calls _ _ _ _ (SetRes (theSet (orP L M)) p1) from refOr_any L M (.slice Al L.length cl) (.slice Am M.length cm) p1 ((HL.out.below (st.2.2.trans (pbw1.mono st.2.2.size))).mono (Nat.le_trans st.2.2.size pbw1.size)) ((HM.out.below (st.2.2.trans (pbw1.mono st.2.2.size))).mono (Nat.le_trans st.2.2.size pbw1.size)) (by omega) (by omega)).mono ?_
        rintro e p2 ⟨v, rfl, pown2, phb2⟩
        obtain ⟨pA2, pc2, rfl, _⟩ := (Rd.of_own pown2).form
        have pbw2 := below_call pbw1 phb2
        go_wp2_with fail
        refine (show Calls _ _ _ _ (SetRes (theSet (andP L M)) p2) from refAnd_any L M (.slice Al L.length cl) (.slice Am M.length cm) p2 ((HL.out.below (st.2.2.trans (pbw2.mono st.2.2.size))).mono (Nat.le_trans st.2.2.size pbw2.size)) ((HM.out.below (st.2.2.trans (pbw2.mono st.2.2.size))).mono (Nat.le_trans st.2.2.size pbw2.size)) (by omega) (by omega)).mono ?_
        rintro e p3 ⟨v, rfl, pown3, phb3⟩
        obtain ⟨pA3, pc3, rfl, _⟩ := (Rd.of_own pown3).form
        have pbw3 := below_call pbw2 phb3
        go_wp2_with fail
        refine (show Calls _ _ _ _ (SetRes (theSet (lessP' L M)) p3) from refLess_any L M (.slice Al L.length cl) (.slice Am M.length cm) p3 ((HL.out.below (st.2.2.trans (pbw3.mono st.2.2.size))).mono (Nat.le_trans st.2.2.size pbw3.size)) ((HM.out.below (st.2.2.trans (pbw3.mono st.2.2.size))).mono (Nat.le_trans st.2.2.size pbw3.size)) (by omega) (by omega)).mono ?_
        rintro e p4 ⟨v, rfl, pown4, phb4⟩
        obtain ⟨pA4, pc4, rfl, _⟩ := (Rd.of_own pown4).form
        have pbw4 := below_call pbw3 phb4
        go_wp2_with fail
        refine (show Calls _ _ _ _ (SetRes (theSet (notP most L)) p4) from refNot_any L (.slice Al L.length cl) most p4 ((HL.out.below (st.2.2.trans (pbw4.mono st.2.2.size))).mono (Nat.le_trans st.2.2.size pbw4.size)) hm (by omega)).mono ?_
        rintro e p5 ⟨v, rfl, pown5, phb5⟩
        obtain ⟨pA5, pc5, rfl, _⟩ := (Rd.of_own pown5).form
        have pbw5 := below_call pbw4 phb5
        have hrows : SetRows p5 p5.heap.size [(.slice pA1 (formOf L).length pc1), (.slice pA2 (theSet (orP L M)).length pc2), (.slice pA3 (theSet (andP L M)).length pc3), (.slice pA4 (theSet (lessP' L M)).length pc4), (.slice pA5 (theSet (notP most L)).length pc5)] (rsOf L M most) := by
          have e4 := phb5
          have e3 := below_call phb4 e4
          have e2 := below_call phb3 e3
          have e1 := below_call phb2 e2
          exact SetRows.five (rd_up (Rd.of_own pown1) e1) (rd_up (Rd.of_own pown2) e2) (rd_up (Rd.of_own pown3) e3) (rd_up (Rd.of_own pown4) e4) (Rd.of_own pown5)
        have hst0 := st.next (below_call pbw5 (below1 p5 (.cells #[(.slice pA1 (formOf L).length pc1), (.slice pA2 (theSet (orP L M)).length pc2), (.slice pA3 (theSet (andP L M)).length pc3), (.slice pA4 (theSet (lessP' L M)).length pc4), (.slice pA5 (theSet (notP most L)).length pc5)] 79)))
        have hwant : Rd (p5.alloc (.cells #[(.slice pA1 (formOf L).length pc1), (.slice pA2 (theSet (orP L M)).length pc2), (.slice pA3 (theSet (andP L M)).length pc3), (.slice pA4 (theSet (lessP' L M)).length pc4), (.slice pA5 (theSet (notP most L)).length pc5)] 79)) (p5.alloc (.cells #[(.slice pA1 (formOf L).length pc1), (.slice pA2 (theSet (orP L M)).length pc2), (.slice pA3 (theSet (andP L M)).length pc3), (.slice pA4 (theSet (lessP' L M)).length pc4), (.slice pA5 (theSet (notP most L)).length pc5)] 79)).heap.size 1 (.slice (some ⟨p5.heap.size, 0, none⟩) 5 5) 5 [(.slice pA1 (formOf L).length pc1), (.slice pA2 (theSet (orP L M)).length pc2), (.slice pA3 (theSet (andP L M)).length pc3), (.slice pA4 (theSet (lessP' L M)).length pc4), (.slice pA5 (theSet (notP most L)).length pc5)] := Rd.of_blk (cs := #[(.slice pA1 (formOf L).length pc1), (.slice pA2 (theSet (orP L M)).length pc2), (.slice pA3 (theSet (andP L M)).length pc3), (.slice pA4 (theSet (lessP' L M)).length pc4), (.slice pA5 (theSet (notP most L)).length pc5)]) (blk1 p5 _) (by decide) rfl
        have hrows0 : SetRows (p5.alloc (.cells #[(.slice pA1 (formOf L).length pc1), (.slice pA2 (theSet (orP L M)).length pc2), (.slice pA3 (theSet (andP L M)).length pc3), (.slice pA4 (theSet (lessP' L M)).length pc4), (.slice pA5 (theSet (notP most L)).length pc5)] 79)) (p5.alloc (.cells #[(.slice pA1 (formOf L).length pc1), (.slice pA2 (theSet (orP L M)).length pc2), (.slice pA3 (theSet (andP L M)).length pc3), (.slice pA4 (theSet (lessP' L M)).length pc4), (.slice pA5 (theSet (notP most L)).length pc5)] 79)).heap.size [(.slice pA1 (formOf L).length pc1), (.slice pA2 (theSet (orP L M)).length pc2), (.slice pA3 (theSet (andP L M)).length pc3), (.slice pA4 (theSet (lessP' L M)).length pc4), (.slice pA5 (theSet (notP most L)).length pc5)] (rsOf L M most) := hrows.up (below1 p5 _)
        have hgw : p5.heap.size < (p5.alloc (.cells #[(.slice pA1 (formOf L).length pc1), (.slice pA2 (theSet (orP L M)).length pc2), (.slice pA3 (theSet (andP L M)).length pc3), (.slice pA4 (theSet (lessP' L M)).length pc4), (.slice pA5 (theSet (notP most L)).length pc5)] 79)).heap.size := by simp
        clear pown1 phb1 pbw1
        clear pown2 phb2 pbw2
        clear pown3 phb3 pbw3
        clear pown4 phb4 pbw4
        clear pown5 phb5 pbw5
        clear hrows hbz st
        have HST := Lib.hid hst0
        have HW := Lib.hid hwant
        have HRW := Lib.hid hrows0
        clear hst0 hwant hrows0
        go_wp2_with fail
        generalize p5.heap.size = gw at *
        generalize p5.alloc _ = W0 at *
        obtain ⟨VW, hVW⟩ : ∃ VW : List Value, VW = [(.slice pA1 (formOf L).length pc1), (.slice pA2 (theSet (orP L M)).length pc2), (.slice pA3 (theSet (andP L M)).length pc3), (.slice pA4 (theSet (lessP' L M)).length pc4), (.slice pA5 (theSet (notP most L)).length pc5)] := ⟨_, rfl⟩
        rw [← hVW] at HW HRW
        clear hVW
        have hRb := rsOf_len hm h1 h2
        have hRl : (rsOf L M most).length = 5 := rfl
        have hcW : ∀ (j : Nat) (v : Value), VW[j]? = some v → W0.cell? ⟨gw, j, none⟩ = some v := fun j v hv => rd_cell HW.out hv
        have HCW := Lib.hid hcW
        have HRB := Lib.hid hRb
        clear hcW hRb
        go_loopw [13, 14] (fun k r wr => ∃ q : Nat, r = .int .i64 q ∧ q ≤ 2 ∧ Below W0.heap.size W0 wr ∧ (q = 0 → k = .slice none 0 0) ∧ (0 < q → KeptAt wr k (rsOf L M most))) (fun _ r _ => 2 - (intOf r).toNat)
        case atStart => exact ⟨0, rfl, by omega, Below.refl _ _, fun _ => rfl, fun h => absurd h (by omega)⟩
        case round =>
          obtain ⟨q, rfl, hq2, hnx, hk0, hk1⟩ := hrel
          have st := HST.out.next hnx
          have hsz := hnx.size
          by_cases hq : q < 2
          · have hI : (q : Int) < 2 := by omega
            have rin := own_cut st.1 rfl
            have rown := Rd.of_own st.2.1
            have nin : NilOk (.slice (some ⟨gi, 0, none⟩) L.length ci) := fun n c h => by cases h
            have nown := NilOk.of_own st.2.1
            have RIN := Lib.hid rin
            have ROWN := Lib.hid rown
            have hbz := Below.refl wr.heap.size wr
            clear st rin rown
            go_wp2_with fail
            refine (show Calls _ _ _ _ (SetRes (formOf L) wr) from form_any L (.slice (some ⟨gi, 0, none⟩) L.length ci) wr (rd_up RIN.out hbz) (by omega)).mono ?_
            rintro e q1 ⟨v, rfl, qown1, qhb1⟩
            obtain ⟨qA1, qc1, rfl, _⟩ := (Rd.of_own qown1).form
            have qbw1 := below_call hbz qhb1
            go_wp2_with fail
            refine (show Calls _ _ _ _ (SetRes (theSet (orP L M)) q1) from or_any L M (.slice (some ⟨gi, 0, none⟩) L.length ci) u11 q1 (rd_up RIN.out qbw1) (rd_up ROWN.out qbw1) nin nown (by omega) (by omega)).mono ?_
            rintro e q2 ⟨v, rfl, qown2, qhb2⟩
            obtain ⟨qA2, qc2, rfl, _⟩ := (Rd.of_own qown2).form
            have qbw2 := below_call qbw1 qhb2
            go_wp2_with fail
            refine (show Calls _ _ _ _ (SetRes (theSet (andP L M)) q2) from and_any L M (.slice (some ⟨gi, 0, none⟩) L.length ci) u11 q2 (rd_up RIN.out qbw2) (rd_up ROWN.out qbw2) (by omega) (by omega)).mono ?_
            rintro e q3 ⟨v, rfl, qown3, qhb3⟩
            obtain ⟨qA3, qc3, rfl, _⟩ := (Rd.of_own qown3).form
            have qbw3 := below_call qbw2 qhb3
            go_wp2_with fail
            refine (show Calls _ _ _ _ (SetRes (theSet (lessP' L M)) q3) from less_any L M (.slice (some ⟨gi, 0, none⟩) L.length ci) u11 q3 (rd_up RIN.out qbw3) (rd_up ROWN.out qbw3) (by omega) (by omega)).mono ?_
            rintro e q4 ⟨v, rfl, qown4, qhb4⟩
            obtain ⟨qA4, qc4, rfl, _⟩ := (Rd.of_own qown4).form
            have qbw4 := below_call qbw3 qhb4
            go_wp2_with fail
            refine (show Calls _ _ _ _ (SetRes (theSet (notP most L)) q4) from not_any L (.slice (some ⟨gi, 0, none⟩) L.length ci) most q4 (rd_up RIN.out qbw4) (by omega) hm).mono ?_
            rintro e q5 ⟨v, rfl, qown5, qhb5⟩
            obtain ⟨qA5, qc5, rfl, _⟩ := (Rd.of_own qown5).form
            have qbw5 := below_call qbw4 qhb5
            have e5 := below1 q5 (.cells #[(.slice qA1 (formOf L).length qc1), (.slice qA2 (theSet (orP L M)).length qc2), (.slice qA3 (theSet (andP L M)).length qc3), (.slice qA4 (theSet (lessP' L M)).length qc4), (.slice qA5 (theSet (notP most L)).length qc5)] 79)
            have e4 := below_call qhb5 e5
            have e3 := below_call qhb4 e4
            have e2 := below_call qhb3 e3
            have e1 := below_call qhb2 e2
            have e0 := below_call qhb1 e1
            have hrG : SetRows (q5.alloc (.cells #[(.slice qA1 (formOf L).length qc1), (.slice qA2 (theSet (orP L M)).length qc2), (.slice qA3 (theSet (andP L M)).length qc3), (.slice qA4 (theSet (lessP' L M)).length qc4), (.slice qA5 (theSet (notP most L)).length qc5)] 79)) (q5.alloc (.cells #[(.slice qA1 (formOf L).length qc1), (.slice qA2 (theSet (orP L M)).length qc2), (.slice qA3 (theSet (andP L M)).length qc3), (.slice qA4 (theSet (lessP' L M)).length qc4), (.slice qA5 (theSet (notP most L)).length qc5)] 79)).heap.size [(.slice qA1 (formOf L).length qc1), (.slice qA2 (theSet (orP L M)).length qc2), (.slice qA3 (theSet (andP L M)).length qc3), (.slice qA4 (theSet (lessP' L M)).length qc4), (.slice qA5 (theSet (notP most L)).length qc5)] (rsOf L M most) := SetRows.five (rd_up (Rd.of_own qown1) e1) (rd_up (Rd.of_own qown2) e2) (rd_up (Rd.of_own qown3) e3) (rd_up (Rd.of_own qown4) e4) (rd_up (Rd.of_own qown5) e5)
            have hoG : OwnRows (q5.alloc (.cells #[(.slice qA1 (formOf L).length qc1), (.slice qA2 (theSet (orP L M)).length qc2), (.slice qA3 (theSet (andP L M)).length qc3), (.slice qA4 (theSet (lessP' L M)).length qc4), (.slice qA5 (theSet (notP most L)).length qc5)] 79)) (mm wr.heap.size q1.heap.size q2.heap.size q3.heap.size q4.heap.size q5.heap.size) [(.slice qA1 (formOf L).length qc1), (.slice qA2 (theSet (orP L M)).length qc2), (.slice qA3 (theSet (andP L M)).length qc3), (.slice qA4 (theSet (lessP' L M)).length qc4), (.slice qA5 (theSet (notP most L)).length qc5)] (rsOf L M most) := OwnRows.five (own_up qown1 e1) (own_up qown2 e2) (own_up qown3 e3) (own_up qown4 e4) (own_up qown5 e5)
            have hmm := mm_mono qhb1.size qhb2.size qhb3.size qhb4.size qhb5.size
            have hgb := blk1 q5 (.cells #[(.slice qA1 (formOf L).length qc1), (.slice qA2 (theSet (orP L M)).length qc2), (.slice qA3 (theSet (andP L M)).length qc3), (.slice qA4 (theSet (lessP' L M)).length qc4), (.slice qA5 (theSet (notP most L)).length qc5)] 79)
            have hszG : q5.heap.size + 1 = (q5.alloc (.cells #[(.slice qA1 (formOf L).length qc1), (.slice qA2 (theSet (orP L M)).length qc2), (.slice qA3 (theSet (andP L M)).length qc3), (.slice qA4 (theSet (lessP' L M)).length qc4), (.slice qA5 (theSet (notP most L)).length qc5)] 79)).heap.size := by simp
            have hm5 : mm wr.heap.size q1.heap.size q2.heap.size q3.heap.size q4.heap.size q5.heap.size 5 = q5.heap.size := rfl
            have hm0 : mm wr.heap.size q1.heap.size q2.heap.size q3.heap.size q4.heap.size q5.heap.size 0 = wr.heap.size := rfl
            clear qown1 qhb1 qbw1
            clear qown2 qhb2 qbw2
            clear qown3 qhb3 qbw3
            clear qown4 qhb4 qbw4
            clear qown5 qhb5 qbw5
            clear e1 e2 e3 e4 e5 hbz RIN ROWN nin nown
            have HRG := Lib.hid hrG
            have HOG := Lib.hid hoG
            have HMM := Lib.hid hmm
            have HGB := Lib.hid hgb
            have HE0 := Lib.hid e0
            have HM5 := Lib.hid hm5
            have HM0 := Lib.hid hm0
            clear hrG hoG hmm hgb e0 hm5 hm0
            go_wp2_with fail
            generalize mm wr.heap.size q1.heap.size q2.heap.size q3.heap.size q4.heap.size q5.heap.size = mf at *
            generalize q5.heap.size = gb at *
            generalize q5.alloc _ = WG at *
            obtain ⟨VG, hVG⟩ : ∃ VG : List Value, VG = [(.slice qA1 (formOf L).length qc1), (.slice qA2 (theSet (orP L M)).length qc2), (.slice qA3 (theSet (andP L M)).length qc3), (.slice qA4 (theSet (lessP' L M)).length qc4), (.slice qA5 (theSet (notP most L)).length qc5)] := ⟨_, rfl⟩
            have hVGa : #[(.slice qA1 (formOf L).length qc1), (.slice qA2 (theSet (orP L M)).length qc2), (.slice qA3 (theSet (andP L M)).length qc3), (.slice qA4 (theSet (lessP' L M)).length qc4), (.slice qA5 (theSet (notP most L)).length qc5)] = VG.toArray := by rw [hVG]
            rw [← hVG] at HRG HOG
            rw [hVGa] at HGB
            clear hVG hVGa
            have hVG5 : VG.length = 5 := HRG.out.1
            have hVW5 : VW.length = 5 := HRW.out.1
            have hb0G : Below W0.heap.size W0 WG := hnx.trans (HE0.out.mono hsz)
            have hszW := HE0.out.size
            have hE : ∀ (wx : World), Below WG.heap.size WG wx → ∀ (j : Nat), j < 5 → ∃ (A B : Option Addr) (c d : Nat) (R : List SpanV), VG[j]? = some (.slice A R.length c) ∧ VW[j]? = some (.slice B R.length d) ∧ (rsOf L M most)[j]? = some R ∧ wx.cell? ⟨gb, j, none⟩ = some (.slice A R.length c) ∧ wx.cell? ⟨gw, j, none⟩ = some (.slice B R.length d) ∧ (∀ nq os, Calls Try.prog 64 #[.slice A R.length c, .slice B R.length d] (grow (redrawn wx nq) os) fun e w' => e = .returned (.bool true) ∧ Below (grow (redrawn wx nq) os).heap.size (grow (redrawn wx nq) os) w') := by
              intro wx hwx j hj
              obtain ⟨v, hv⟩ : ∃ v, VG[j]? = some v := ⟨_, List.getElem?_eq_getElem (by omega)⟩
              obtain ⟨u, hu⟩ : ∃ u, VW[j]? = some u := ⟨_, List.getElem?_eq_getElem (by omega)⟩
              obtain ⟨R, hR⟩ : ∃ R, (rsOf L M most)[j]? = some R := ⟨_, List.getElem?_eq_getElem (by rw [hRl]; exact hj)⟩
              have hw0 : Below W0.heap.size W0 wx := hb0G.trans (hwx.mono (by omega))
              have r1 := rd_up (HRG.out.2 j v R hv hR) hwx
              have r2 := rd_up (HRW.out.2 j u R hu hR) hw0
              obtain ⟨A, c, rfl, _⟩ := r1.form
              obtain ⟨B, d, rfl, _⟩ := r2.form
              refine ⟨A, B, c, d, R, hv, hu, hR, (World.cell?_of_block (a := ⟨gb, j, none⟩) (hwx.block gb (by omega))).trans ?_, (World.cell?_of_block (a := ⟨gw, j, none⟩) (hw0.block gw hgw)).trans (HCW.out j _ hu), fun nq os => ?_⟩
              · rw [cell_of_row WG gb j _ _ (0, 0) HGB.out]
                simpa using hv
              · have hq := below_regrown wx nq os
                have := refSpans_any R R _ _ (grow (redrawn wx nq) os) (rd_up r1 hq) (rd_up r2 hq) (by have := HRB.out j R hR; omega)
                rw [eqB_self] at this
                exact this
            have HE := Lib.hid hE
            clear hE
            by_cases hq0 : q = 0
            · subst hq0
              obtain rfl := hk0 rfl
              clear hk0 hk1
              go_loopw [13, 16] (fun k i wx => ∃ j : Nat, i = .int .i64 j ∧ j ≤ 5 ∧ wx.ownsRow WG.heap.size 79 1 k j (VG.take j) ∧ Below WG.heap.size WG wx) (fun _ i _ => 5 - (intOf i).toNat)
              case atStart => exact ⟨0, rfl, by omega, owns_nil _ _ _ _, Below.refl _ _⟩
              case round =>
                obtain ⟨j, rfl, hj, hown, hnx2⟩ := hrel
                by_cases hlt : j < 5
                · have hI2 : (j : Int) < 5 := by omega
                  obtain ⟨A, B, c, d, R, hv, hu, hR, g0, g1, hcon⟩ := HE.out wr hnx2 j hlt
                  have G0 := cell_regrown g0
                  have G1 := cell_regrown g1
                  have HCON := Lib.hid hcon
                  have HV := Lib.hid hv
                  clear hcon hv hu hR g0 g1
                  go_wp2
                  refine wp_region_quiet_below (by kernel_rfl) (by kernel_rfl) ?_
                  repeat (first | go_big_quiet_step ((go_at_call 64; exact Calls.regrown_of (HCON.out _ _))) | quiet_step ((go_at_call 64; exact Calls.regrown_of (HCON.out _ _))))
                  refine wpQuiet_nil ?_
                  intro _ hw'
                  obtain ⟨⟨nq, osq⟩, hw''⟩ := hw'
                  subst hw''
                  have hq := below_regrown wr nq osq
                  have own1 := owns_kept_none hown (only_of_below hq none)
                  have nx1 := hnx2.trans (hq.mono hnx2.size)
                  have sz1 := nx1.size
                  have g0' : (grow (redrawn wr nq) osq).cell? ⟨gb, j, none⟩ = some (.slice A R.length c) := G0 nq osq
                  clear G0 G1 HCON hown hnx2
                  generalize grow (redrawn wr nq) osq = W1 at *
                  clear hq
                  have htl : (VG.take j).length = j := by simp; omega
                  go_wp2_with (at_builtin; refine wpList_push (v := u13) rfl _ _ 107 rfl 79 j0 _ 1 24 Try.underlying107 hj0 hy0 hy1 hy2 rfl (by decide) (by decide) [.slice A R.length c] rfl rfl (by simp) own1 rfl (fun u hu => by simp at hu; subst hu; rfl) (by omega) sz1 nx1 (Nat.le_refl _) ?_; intro v2 w2 hown2 hb2)
                  go_roundw
                  case rel =>
                    have hown3 : w2.ownsRow WG.heap.size 79 1 v2 (j + 1) (VG.take (j + 1)) := by rw [List.take_add_one, HV.out]; exact hown2
                    repeat apply Exists.intro
                    exact ⟨⟨j + 1, rfl, by omega, hown3, hb2⟩, rfl⟩
                  case measure =>
                    change 5 - ((j : Int) + 1).toNat < 5 - (j : Int).toNat
                    omega
                · obtain rfl : j = 5 := by omega
                  have htk : VG.take 5 = VG := List.take_of_length_le (by omega)
                  rw [htk] at hown
                  have hkept : KeptAt wr u13 (rsOf L M most) := ⟨VG, Rd.of_own hown, HRG.out.up hnx2⟩
                  have hbw : Below W0.heap.size W0 wr := hb0G.trans (hnx2.mono (by omega))
                  clear hown
                  go_wp2
                  exact ⟨⟨1, by go_num, by omega, hbw, fun h => absurd h (by omega), fun _ => hkept⟩, by simp only [intOf]; omega⟩
            · obtain rfl : q = 1 := by omega
              obtain ⟨VK, hKr, hKs⟩ := hk1 (by omega)
              have hkept0 : KeptAt wr u13 (rsOf L M most) := ⟨VK, hKr, hKs⟩
              obtain ⟨bk, ok, ck, rfl, _, hbk, hkc⟩ := hKr.pos (by omega)
              clear hk0 hk1 hKr HE
              have HKEPT := Lib.hid hkept0
              clear hkept0
              have HKC := Lib.hid hkc
              have HKS := Lib.hid hKs
              have hVK5 : VK.length = 5 := hKs.1
              clear hkc hKs
              obtain ⟨wz, hwz⟩ : ∃ wz, wz = wr := ⟨_, rfl⟩
              subst hwz
              have hgbl : gb < WG.heap.size := by omega
              go_loopw [13, 16] (fun k i wx => ∃ j : Nat, i = .int .i64 j ∧ j ≤ 5 ∧ k = .slice (some ⟨bk, ok, none⟩) 5 ck ∧ GotSt WG VG gb mf j wx) (fun _ i _ => 5 - (intOf i).toNat)
              case atStart => exact ⟨0, rfl, by omega, rfl, ⟨VG, HGB.out, hVG5, fun _ _ => rfl⟩, Seg.refl _ _ _, Below.refl _ _, hgbl⟩
              case round =>
                obtain ⟨j, rfl, hj, rfl, hst⟩ := hrel
                have hb0 := hst.2.2.1
                have hbz : Below wz.heap.size wz wr := HE0.out.trans (by rw [HM0.out] at hb0; exact hb0)
                have hbW : Below W0.heap.size W0 wr := hnx.trans (hbz.mono hsz)
                have hszx := hst.2.2.2
                have hm0x : mf 0 ≤ wr.heap.size := by rw [HM0.out]; exact hbz.size
                clear hb0
                by_cases hlt : j < 5
                · have hI2 : (j : Int) < 5 := by omega
                  obtain ⟨v, hv⟩ : ∃ v, VG[j]? = some v := ⟨_, List.getElem?_eq_getElem (by omega)⟩
                  obtain ⟨u, hu⟩ : ∃ u, VW[j]? = some u := ⟨_, List.getElem?_eq_getElem (by omega)⟩
                  obtain ⟨R, hR⟩ : ∃ R, (rsOf L M most)[j]? = some R := ⟨_, List.getElem?_eq_getElem (by rw [hRl]; exact hlt)⟩
                  obtain ⟨kv, hkv⟩ : ∃ kv, VK[j]? = some kv := ⟨_, List.getElem?_eq_getElem (by omega)⟩
                  obtain ⟨ho, hgl⟩ := HOG.out j v R hv hR
                  have hmj1 := HMM.out.2 (j + 1)
                  have hmj := HMM.out.1 j
                  have hown := own_seg ho hgl hmj1 hst.2.1 (Nat.le_refl _)
                  have r1 := Rd.of_own hown
                  have r2 := rd_up ((HRW.out.2 j u R hu hR)) hbW
                  have hRb := HRB.out j R hR
                  obtain ⟨A, c, rfl, hA⟩ := owns_form hown
                  obtain ⟨B, d, rfl, _⟩ := r2.form
                  obtain ⟨⟨cs, hgbh, hcl, hci⟩, hseg, hbel, _⟩ := hst
                  have hcj : cs[j]? = some (.slice A R.length c) := (hci j (Nat.le_refl _)).trans hv
                  have g0 : wr.cell? ⟨gb, j, none⟩ = some (.slice A R.length c) := by rw [cell_of_row wr gb j _ _ (0, 0) hgbh]; simpa using hcj
                  have g1 : wr.cell? ⟨gw, j, none⟩ = some (.slice B R.length d) := (World.cell?_of_block (a := ⟨gw, j, none⟩) (hbW.block gw hgw)).trans (HCW.out j _ hu)
                  have hcon : ∀ nq os, Calls Try.prog 64 #[.slice A R.length c, .slice B R.length d] (grow (redrawn wr nq) os) fun e w' => e = .returned (.bool true) ∧ Below (grow (redrawn wr nq) os).heap.size (grow (redrawn wr nq) os) w' := by
                    intro nq os
                    have hq := below_regrown wr nq os
                    have := refSpans_any R R _ _ (grow (redrawn wr nq) os) (rd_up r1 hq) (rd_up r2 hq) (by omega)
                    rw [eqB_self] at this
                    exact this
                  have G0 := cell_regrown g0
                  have G1 := cell_regrown g1
                  have HCON := Lib.hid hcon
                  have HR := Lib.hid hR
                  have HKV := Lib.hid hkv
                  have HU := Lib.hid hu
                  have HCI := Lib.hid hci
                  have HCJ := Lib.hid hcj
                  have HOWN := Lib.hid hown
                  have HGBH := Lib.hid hgbh
                  have HSEG := Lib.hid hseg
                  have HBEL := Lib.hid hbel
                  have HGL := Lib.hid hgl
                  clear hcon hv hu hR hkv g0 g1 ho hgl r1 r2 hci hcj hown hgbh hseg hbel
                  go_wp2
                  refine wp_region_quiet_below (by kernel_rfl) (by kernel_rfl) ?_
                  repeat (first | go_big_quiet_step ((go_at_call 64; exact Calls.regrown_of (HCON.out _ _))) | quiet_step ((go_at_call 64; exact Calls.regrown_of (HCON.out _ _))))
                  refine wpQuiet_nil ?_
                  intro _ hw'
                  obtain ⟨⟨nq, osq⟩, hw''⟩ := hw'
                  subst hw''
                  have hqb := below_regrown wr nq osq
                  have hown1 := owns_kept_none HOWN.out (only_of_below hqb none)
                  have hgb1 := blk_below hqb HGBH.out
                  have hseg1 := HSEG.out.below hqb (by omega)
                  have hbel1 := HBEL.out.trans (hqb.mono hm0x)
                  have hszq := hqb.size
                  have hwz1 : Below wz.heap.size wz (grow (redrawn wr nq) osq) := hbz.trans (hqb.mono hbz.size)
                  clear G0 G1 HCON HOWN HGBH HSEG HBEL hqb hbz hbW
                  have hszx1 : gb < (grow (redrawn wr nq) osq).heap.size := by omega
                  generalize grow (redrawn wr nq) osq = W1 at *
                  clear hszq hszx hm0x
                  have HSEG1 := Lib.hid hseg1
                  have HBEL1 := Lib.hid hbel1
                  have HWZ1 := Lib.hid hwz1
                  clear hseg1 hbel1 hwz1
                  go_wp2_with fail
                  go_loopw [17] (fun t wx => ∃ q : Nat, t = .int .i64 q ∧ q ≤ R.length ∧ L3 W1 (mf j) (mf (j + 1)) gb cs (.slice A R.length c) R.length wx) (fun t _ => R.length - (intOf t).toNat)
                  case atStart => exact ⟨0, rfl, by omega, ⟨_, hown1⟩, hgb1, Seg.refl _ _ _, Below.refl _ _⟩
                  case round =>
                    clear hown1 hgb1
                    obtain ⟨q, rfl, hq, h3⟩ := hrel
                    obtain ⟨xs3, ho3⟩ := h3.1
                    have g0 : wr.cell? ⟨gb, j, none⟩ = some (.slice A R.length c) := by rw [cell_of_row wr gb j _ _ (0, 0) h3.2.1]; simpa using HCJ.out
                    by_cases hlt3 : q < R.length
                    · have hI3 : (q : Int) < (R.length : Int) := by omega
                      obtain ⟨g, rfl⟩ := hA (by omega)
                      have hgmj := (ho3.lt g rfl).1
                      have hgm1 := HGL.out g rfl
                      obtain ⟨uu, huu⟩ : ∃ uu, wr.cell? ⟨g, q * 2, none⟩ = some uu := ⟨_, (ho3.cellAt (q * 2) (by omega)).trans (List.getElem?_eq_getElem (by rw [ho3.1]; omega))⟩
                      have hfz := ho3.frozenAt (q * 2)
                      have hs3 := h3.step (i := q * 2) (u := .int .u32 99) hgmj hgm1 hmj1
                      have HS3 := Lib.hid hs3
                      clear hs3 h3 ho3
                      go_wp2
                      go_roundw
                      case rel =>
                        first
                          | exact ⟨q + 1, rfl, by omega, HS3.out⟩
                          | (repeat apply Exists.intro); exact ⟨⟨q + 1, rfl, by omega, HS3.out⟩, rfl⟩
                      case measure =>
                        change R.length - ((q : Int) + 1).toNat < R.length - (q : Int).toNat
                        omega
                    · obtain rfl : q = R.length := by omega
                      have hst4 : L4 W1 (mf j) (mf (j + 1)) gb j cs (.slice A R.length c) (R.length + 0) wr := ⟨⟨xs3, ho3⟩, fun g hg => .inl (HGL.out g hg), ⟨cs, h3.2.1, hcl, HCJ.out, fun _ _ => rfl⟩, h3.2.2.1, h3.2.2.2, lt_of_block h3.2.1⟩
                      have HST4 := Lib.hid hst4
                      clear h3 ho3 hst4
                      go_wp2_with fail
                      go_loopw [18] (fun t wx => ∃ q : Nat, t = .int .i64 q ∧ q ≤ 70 ∧ ∃ v, L4 W1 (mf j) (mf (j + 1)) gb j cs v (R.length + q) wx) (fun t _ => 70 - (intOf t).toNat)
                      case atStart => exact ⟨0, rfl, by omega, _, HST4.out⟩
                      case round =>
                        clear HST4
                        obtain ⟨q, rfl, hq, v, h4⟩ := hrel
                        have h4' := h4
                        obtain ⟨⟨xs4, ho4⟩, hoff4, ⟨cs4, hg4, hl4, hj4, hi4⟩, hs4, hb4, hlt4⟩ := h4'
                        have g0 : wr.cell? ⟨gb, j, none⟩ = some v := by rw [cell_of_row wr gb j _ _ (0, 0) hg4]; simpa using hj4
                        have hmw : mf j ≤ W1.heap.size := by omega
                        by_cases hlt5 : q < 70
                        · have hI4 : (q : Int) < 70 := by omega
                          have H4 := Lib.hid h4
                          have HI4 := Lib.hid hi4
                          have hmw2 := hb4.size
                          clear h4 hi4 hs4 hb4
                          go_wp2_with (at_builtin; refine wpList_push2 (v := v) rfl _ _ 79 rfl 37 i0 _ 2 8 Try.underlying79 hi hz0 hz1 hz2 rfl (by decide) (by decide) [.int .u32 0, .int .u32 0] rfl rfl (by simp) ho4 rfl (enc_one ⟨0, 0, by omega, by omega⟩) (by omega) (by omega) ?_; intro v2 w3 hown3 hgr hmv; obtain ⟨A2, c2, rfl, _⟩ := owns_form hown3; have hg3 : w3.heap[gb]? = some (.cells cs4.toArray 79 (0, 0)) := (hgr.block gb hlt4 (fun hh => by rcases hoff4 gb hh.symm with h | h <;> omega)).trans hg4; have y0 : w3.cell? ⟨gb, j, none⟩ = some v := (by rw [cell_of_row w3 gb j _ _ (0, 0) hg3]; simpa using hj4); have y1 := frozen_of_row w3 gb j _ _ hg3)
                          have hnew := H4.out.step hlt (by omega) hmj1 hmw hown3 hgr hmv
                          go_roundw
                          case rel =>
                            first
                              | exact ⟨q + 1, rfl, by omega, _, hnew⟩
                              | (repeat apply Exists.intro); exact ⟨⟨q + 1, rfl, by omega, _, hnew⟩, rfl⟩
                          case measure =>
                            change 70 - ((q : Int) + 1).toNat < 70 - (q : Int).toNat
                            omega
                        · obtain rfl : q = 70 := by omega
                          obtain ⟨A4, c4, rfl, _⟩ := owns_form ho4
                          have hwz4 : Below wz.heap.size wz wr := HWZ1.out.trans (hb4.mono (by rw [← HM0.out]; exact mf_le HMM.out.1 j))
                          have hbW4 : Below W0.heap.size W0 wr := hnx.trans (hwz4.mono hsz)
                          have g1 : wr.cell? ⟨gw, j, none⟩ = some (.slice B R.length d) := (World.cell?_of_block (a := ⟨gw, j, none⟩) (hbW4.block gw hgw)).trans (HCW.out j _ HU.out)
                          have r2 := rd_up (HRW.out.2 j _ R HU.out HR.out) hbW4
                          have r3 := rd_up (HKS.out.2 j kv R HKV.out HR.out) hwz4
                          obtain ⟨D, f, rfl, _⟩ := r3.form
                          have g2 : wr.cell? ⟨bk, ok + j, none⟩ = some (.slice D R.length f) := (World.cell?_of_block (a := ⟨bk, ok + j, none⟩) (hwz4.block bk hbk)).trans (HKC.out j _ HKV.out)
                          have hcon : ∀ nq os, Calls Try.prog 64 #[.slice D R.length f, .slice B R.length d] (grow (redrawn wr nq) os) fun e w' => e = .returned (.bool true) ∧ Below (grow (redrawn wr nq) os).heap.size (grow (redrawn wr nq) os) w' := by
                            intro nq os
                            have hq := below_regrown wr nq os
                            have := refSpans_any R R _ _ (grow (redrawn wr nq) os) (rd_up r3 hq) (rd_up r2 hq) (by omega)
                            rw [eqB_self] at this
                            exact this
                          have hgot : GotSt WG VG gb mf (j + 1) wr := ⟨⟨cs4, hg4, hl4, fun i hi => (hi4 i (by omega)).trans (HCI.out i (by omega))⟩, (HSEG1.out.less hmj (Nat.le_refl _)).trans hs4, HBEL1.out.trans (hb4.mono (mf_le HMM.out.1 j)), hlt4⟩
                          have hm0w : mf 0 ≤ wr.heap.size := by rw [HM0.out]; exact hwz4.size
                          have G0 := cell_regrown g0
                          have G1 := cell_regrown g1
                          have G2 := cell_regrown g2
                          have HCON := Lib.hid hcon
                          have HGOT := Lib.hid hgot
                          have hw1 : IntKind.i64.wrap ((R.length : Int) + 70) = (R.length : Int) + 70 := by rw [IntKind.wrap_i64]; omega
                          have hne1 : ((R.length : Int) + 70 != (R.length : Int) + 70) = false := by simp
                          have hI5 : (j : Int) < 5 := by omega
                          have hI6 : (0 : Int) ≤ (j : Int) := by omega
                          clear h4 ho4 hoff4 hg4 hl4 hj4 hi4 hs4 hb4 g1 g2 g0 r2 r3 hcon hgot hbW4 hwz4 hmw
                          go_wp2
                          refine wp_region_quiet_below (by kernel_rfl) (by kernel_rfl) ?_
                          repeat (first | go_big_quiet_step ((go_at_call 64; exact Calls.regrown_of (HCON.out _ _))) | quiet_step ((go_at_call 64; exact Calls.regrown_of (HCON.out _ _))))
                          refine wpQuiet_nil ?_
                          intro _ hw'
                          obtain ⟨⟨nq, osq⟩, hw''⟩ := hw'
                          subst hw''
                          have hqb := below_regrown wr nq osq
                          have hgot2 := HGOT.out.up hm0w hqb
                          clear G0 G1 G2 HCON hqb
                          generalize grow (redrawn wr nq) osq = W5 at *
                          go_wp2
                          exact ⟨⟨j + 1, by go_num, by omega, rfl, hgot2⟩, by simp only [intOf]; omega⟩
                · obtain rfl : j = 5 := by omega
                  have HB := Lib.hid hbz
                  have HBW2 := Lib.hid hbW
                  clear hst hbz hbW
                  go_wp2
                  exact ⟨⟨2, by go_num, by omega, HBW2.out, fun h => absurd h (by omega), fun _ => HKEPT.out.up HB.out⟩, by simp only [intOf]; omega⟩
          · obtain rfl : q = 2 := by omega
            have rin := own_cut st.1 rfl
            have hroom := own_room st.1
            have rown := Rd.of_own st.2.1
            have rl := (HL.out.below st.2.2).mono st.2.2.size
            have rm := (HM.out.below st.2.2).mono st.2.2.size
            have hbs := st.2.2
            have e7 : wr.cell? ⟨gi, L.length * 2, none⟩ = some (.int .u32 7) := (st.1.cellAt (L.length * 2) (by omega)).trans (scell (L := L ++ [sp77]) (k := L.length) (i := 0) (x := sp77) (by simp) rfl)
            have hgi := (st.1.lt gi rfl).2
            have c1 := refSpans_any L L _ _ wr rin rl (by omega)
            rw [eqB_self] at c1
            have hw1 : IntKind.i64.wrap ((L.length : Int) + 1) = (L.length : Int) + 1 := by rw [IntKind.wrap_i64]; omega
            have hI1 : (0 : Int) ≤ (L.length : Int) + 1 := by omega
            have hI2 : (L.length : Int) + 1 ≤ (ci : Int) := by omega
            have hI3 : (L.length : Int) < (L.length : Int) + 1 := by omega
            have hI4 : (0 : Int) ≤ (L.length : Int) := by omega
            clear hk0 hk1 st HST HRW HW HCW HRB hnx
            go_wp2_with fail
            refine c1.mono ?_
            rintro e w1 ⟨rfl, hb1⟩
            have e71 : w1.cell? ⟨gi, L.length * 2, none⟩ = some (.int .u32 7) := (hb1.cell (p := ⟨gi, L.length * 2, none⟩) hgi).trans e7
            have c2 := refSpans_any M M _ _ w1 (rd_up rown hb1) (rd_up rm hb1) (by omega)
            rw [eqB_self] at c2
            clear c1 e7
            go_wp2_with fail
            refine c2.mono ?_
            rintro e w2 ⟨rfl, hb2⟩
            have hb02 := below_call hb1 hb2
            have c3 := has_any L _ x w2 (rd_up rin hb02) (by omega)
            clear c2 e71
            go_wp2_with fail
            refine c3.mono ?_
            rintro e w3 ⟨rfl, hb3⟩
            have hb03 := below_call hb02 hb3
            have c4 := refHas_any L _ x w3 (rd_up rl hb03) (by omega)
            have hbb : (hasB L x == hasB L x) = true := by simp
            generalize hasB L x = bb at *
            clear c3
            go_wp2_with fail
            refine c4.mono ?_
            rintro e w4 ⟨rfl, rfl⟩
            have hfin : Below w.heap.size w w3 := hbs.trans (hb03.mono hbs.size)
            clear c4
            go_wp2
            go_ret
            exact ⟨rfl, hfin⟩

end Go.Proofs.Ytpljnogmfeenkaa
