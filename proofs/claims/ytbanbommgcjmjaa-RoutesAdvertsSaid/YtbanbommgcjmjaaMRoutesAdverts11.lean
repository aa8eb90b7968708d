/-
  Joined texts: Ra13, Ra14, Ra15.
-/
import Derived.Test.YtbanbommgcjmjaaMRoutesAdverts9
import Derived.Test.YtbanbommgcjmjaaMRoutesAdverts10
import Derived.Test.YtbanbommgcjmjaaMRoutesAdverts8
import Derived.Test.YtbanbommgcjmjaaMRoutesAdverts7
import Derived.Deep.AppendLies
/-
  The program's SortAdverts (written by wip/gen/genra13.py).
-/
namespace Go.Proofs.Ytbanbommgcjmjaa
open Go Go.RowKit Go.Lib Go.Sort

set_option maxRecDepth 100000 in
set_option maxHeartbeats 8000000 in
theorem progSortA_any (L : List AdX) (vl : Value) (w : World) (hl : Rd w w.heap.size 13 vl L.length (adcells L)) (hA : ∀ x ∈ L, AdOk w w.heap.size x) (hlen : L.length ≤ 1000000) :
    Calls Try.prog 13 #[vl] w (SortResO L w) := by
  obtain ⟨i0, hi, hz0, hz1, hz2⟩ := info_parts Try.infoAdvert
  obtain ⟨Al, cl, rfl, _⟩ := hl.form
  have HL := Lib.hid hl
  have HAL := Lib.hid hA
  clear hl hA
  go_enter Try.func13, Try.ntmps13
  go_wp2
  go_loopw [3, 8] (fun v i wr => ∃ (j : Nat) (R : List AdX), i = .int .i64 j ∧ j ≤ L.length ∧ Hid (R.map AdX.v = (L.take j).map AdX.v) ∧ Hid (wr.ownsRow w.heap.size 36 13 v R.length (adcells R)) ∧ Hid (Below w.heap.size w wr) ∧ Hid (∀ y ∈ R, AdG wr v.ownBlock w.heap.size y) ∧ Hid (∀ y ∈ R, AdOwn w.heap.size wr y)) (fun _ i _ => L.length - (intOf i).toNat)
  case atStart => exact ⟨0, [], rfl, by omega, (by show _ = _; simp), World.ownsRow_nil _ _ _ _, Below.refl _ _, fun y hy => absurd hy (by simp), fun y hy => absurd hy (by simp)⟩
  case round =>
    obtain ⟨j, R, rfl, hj, HS, HO, HB, HAR, HOW⟩ := hrel
    have HRJ : Hid (R.length = j) := by
      have := congrArg List.length HS.out
      simp at this
      show _ = _
      omega
    have hsz := HB.out.size
    by_cases hlt : j < L.length
    · have hI : (j : Int) < (L.length : Int) := by omega
      obtain ⟨x, hx⟩ : ∃ x, L[j]? = some x := ⟨_, List.getElem?_eq_getElem hlt⟩
      have HX := Lib.hid hx
      have HXM := Lib.hid (HAL.out x (List.mem_of_getElem? hx))
      obtain ⟨A0, c0', hv0, _⟩ := owns_form HO.out
      subst hv0
      clear hx
      obtain ⟨b, off, c', hv, _, hbB, hcell⟩ := (HL.out.below HB.out).posAt (by omega)
      injection hv with hv1 _ hv3
      subst hv1 hv3
      have f0 : wr.cell? ⟨b, off + j * 13, none⟩ = some (.int .u32 x.v.a) := hcell j 0 _ (adcell HX.out rfl)
      have f1 : wr.cell? ⟨b, off + j * 13 + 1, none⟩ = some (.int .i64 x.v.m) := hcell j 1 _ (adcell HX.out rfl)
      have f2 : wr.cell? ⟨b, off + j * 13 + 2, none⟩ = some (.int .u32 x.v.ho) := hcell j 2 _ (adcell HX.out rfl)
      have f3 : wr.cell? ⟨b, off + j * 13 + 3, none⟩ = some (.int .i64 x.v.pf) := hcell j 3 _ (adcell HX.out rfl)
      have f4 : wr.cell? ⟨b, off + j * 13 + 4, none⟩ = some (.int .i64 x.v.me) := hcell j 4 _ (adcell HX.out rfl)
      have f5 : wr.cell? ⟨b, off + j * 13 + 5, none⟩ = some x.p := hcell j 5 _ (adcell HX.out rfl)
      have f6 : wr.cell? ⟨b, off + j * 13 + 6, none⟩ = some x.o := hcell j 6 _ (adcell HX.out rfl)
      have f7 : wr.cell? ⟨b, off + j * 13 + 7, none⟩ = some (.int .u32 x.v.pe) := hcell j 7 _ (adcell HX.out rfl)
      have f8 : wr.cell? ⟨b, off + j * 13 + 8, none⟩ = some (.int .u32 x.v.id) := hcell j 8 _ (adcell HX.out rfl)
      have f9 : wr.cell? ⟨b, off + j * 13 + 9, none⟩ = some (.bool x.v.ex) := hcell j 9 _ (adcell HX.out rfl)
      have f10 : wr.cell? ⟨b, off + j * 13 + 10, none⟩ = some (.int .u32 x.v.og) := hcell j 10 _ (adcell HX.out rfl)
      have f11 : wr.cell? ⟨b, off + j * 13 + 11, none⟩ = some x.l := hcell j 11 _ (adcell HX.out rfl)
      have f12 : wr.cell? ⟨b, off + j * 13 + 12, none⟩ = some (.int .i64 x.v.ss) := hcell j 12 _ (adcell HX.out rfl)
      clear hcell
      go_upto_region 5 with (refine wpList_store_G rfl _ _ 36 rfl 13 Try.sizeOf36 wr.heap.size 0 rfl (.agg x.enc.toArray) rfl (AdX.enc ⟨av0W, none, 0, none, 0, none, 0⟩) 36 (heap_alloc_new _ _) x.enc rfl rfl (by simp [ad_len]) (aenc_one x) ?_; intro W hg1 hq1)
      have ka : W.heap[wr.heap.size]? = some (avObjW x.v x.p x.o x.l) := hg1.out
      have hr : Below wr.heap.size wr W := below_turned (below1 wr _) hq1 (by simp) (Nat.le_refl _)
      clear hg1 hq1 f0 f1 f2 f3 f4 f5 f6 f7 f8 f9 f10 f11 f12
      obtain ⟨d0, d1, d2, d3, d4, d5, d6, d7, d8, d9, d10, d11, d12⟩ := av_blkW ka
      have F5 := cell_regrown d5
      have F6 := cell_regrown d6
      have F11 := cell_regrown d11
      have ga : wr.heap.size < W.heap.size := lt_of_block ka
      clear d0 d1 d2 d3 d4 d5 d6 d7 d8 d9 d10 d11 d12
      refine wp_region_mixT 10 [(0, false), (1, false), (3, false), (4, false), (6, false), (7, false), (2, true), (9, false), (5, true), (8, true), (10, true), (11, true), (12, true), (13, true), (14, true)] (by kernel_rfl) (by kernel_rfl) ?_
      have hv0 := below_drawn W
      generalize { W with drawn := W.drawn + 1 } = V0 at *
      have hs0 : wr.heap.size + 1 ≤ V0.heap.size := Nat.le_trans ga hv0.size
      have hx0 := HXM.out.next (HB.out.trans ((hr.trans (hv0.mono hr.size)).mono hsz))
      refine mixT_take [0, 1, 3, 4, 6, 7] [_, _, _, _, _, _] rfl rfl ?_
      simp only [List.getElem_toArray, List.getElem_cons_zero, List.getElem_cons_succ]
      repeat (first | go_big_quiet_step (fail) | quiet_step (fail))
      refine wpQuiet_nil ?_
      refine mixT_bar rfl (by rfl) ?_
      simp only [List.getElem_toArray, List.getElem_cons_zero, List.getElem_cons_succ]
      go_simp
      refine (cloneU32_any x.v.pa x.p V0 hx0.p hx0.b.1).mono ?_
      rintro e V1 ⟨u0, rfl, own, hb⟩
      have q0 : NewL 23 V1 (wr.heap.size + 1) x.v.pa u0 := NewL.own own (by omega)
      have hx1 := hx0.next hb
      have hv1 := below_call hv0 hb
      have hs1 : wr.heap.size + 1 ≤ V1.heap.size := Nat.le_trans hs0 hb.size
      refine ⟨regrown_of_below hv1, ?_⟩
      clear hb own hx0 hs0 hv0
      refine mixT_take [9] [_] rfl rfl ?_
      simp only [List.getElem_toArray, List.getElem_cons_zero, List.getElem_cons_succ]
      repeat (first | go_big_quiet_step (fail) | quiet_step (fail))
      refine wpQuiet_nil ?_
      refine mixT_bar rfl (by rfl) ?_
      simp only [List.getElem_toArray, List.getElem_cons_zero, List.getElem_cons_succ]
      go_simp
      refine (cloneU32_any x.v.co x.o V1 hx1.o hx1.b.2.1).mono ?_
      rintro e V2 ⟨u1, rfl, own, hb⟩
      have q1 : NewL 23 V2 (wr.heap.size + 1) x.v.co u1 := NewL.own own (by omega)
      replace q0 := q0.next hb
      have hx2 := hx1.next hb
      have hv2 := below_call hv1 hb
      have hs2 : wr.heap.size + 1 ≤ V2.heap.size := Nat.le_trans hs1 hb.size
      refine ⟨regrown_of_below hv2, ?_⟩
      clear hb own hx1 hs1 hv1
      refine mixT_bar rfl (by rfl) ?_
      simp only [List.getElem_toArray, List.getElem_cons_zero, List.getElem_cons_succ]
      go_simp
      refine (cloneAddr_any x.v.cl x.l V2 hx2.l hx2.b.2.2).mono ?_
      rintro e V3 ⟨u2, rfl, own, hb⟩
      have q2 : NewL 24 V3 (wr.heap.size + 1) x.v.cl u2 := NewL.own own (by omega)
      replace q0 := q0.next hb
      replace q1 := q1.next hb
      have hx3 := hx2.next hb
      have hv3 := below_call hv2 hb
      have hs3 : wr.heap.size + 1 ≤ V3.heap.size := Nat.le_trans hs2 hb.size
      refine ⟨regrown_of_below hv3, ?_⟩
      clear hb own hx2 hs2 hv2
      have ka3 := blk_below hv3 ka
      have hr3 : Below wr.heap.size wr V3 := hr.trans (hv3.mono hr.size)
      obtain ⟨B0, D0, hu0, _⟩ := q0.1.1.form
      obtain ⟨B1, D1, hu1, _⟩ := q1.1.1.form
      obtain ⟨B2, D2, hu2, _⟩ := q2.1.1.form
      subst hu0 hu1 hu2
      have HXB := Lib.hid hx3.b
      clear hv3 hr ka F5 F6 F11 ga hx3 hs3
      obtain ⟨c0, c1, c2, c3, c4, c5, c6, c7, c8, c9, c10, c11, c12⟩ := av_blkW ka3
      have z := frozen_rowW ka3 5
      refine mixT_tail rfl (by rfl) (by omega) ?_
      simp only [List.getElem_toArray, List.getElem_cons_zero, List.getElem_cons_succ]
      go_simp
      have ka4 : (V3.setCell ⟨wr.heap.size, 5, none⟩ (.slice B0 x.v.pa.length D0)).heap[wr.heap.size]? = some (avObjW x.v (.slice B0 x.v.pa.length D0) x.o x.l) := aset5W ka3
      replace q0 := q0.setA (i := 5) (u := (.slice B0 x.v.pa.length D0)) (Nat.lt_succ_self _)
      replace q1 := q1.setA (i := 5) (u := (.slice B0 x.v.pa.length D0)) (Nat.lt_succ_self _)
      replace q2 := q2.setA (i := 5) (u := (.slice B0 x.v.pa.length D0)) (Nat.lt_succ_self _)
      have hr4 := hr3.setCell (p := ⟨wr.heap.size, 5, none⟩) (Nat.le_refl _) (.slice B0 x.v.pa.length D0)
      clear c0 c1 c2 c3 c4 c5 c6 c7 c8 c9 c10 c11 c12 z ka3 hr3
      generalize V3.setCell ⟨wr.heap.size, 5, none⟩ (.slice B0 x.v.pa.length D0) = V4 at *
      obtain ⟨c0, c1, c2, c3, c4, c5, c6, c7, c8, c9, c10, c11, c12⟩ := av_blkW ka4
      have z := frozen_rowW ka4 6
      refine mixT_tail rfl (by rfl) (by omega) ?_
      simp only [List.getElem_toArray, List.getElem_cons_zero, List.getElem_cons_succ]
      go_simp
      refine mixT_tail rfl (by rfl) (by omega) ?_
      simp only [List.getElem_toArray, List.getElem_cons_zero, List.getElem_cons_succ]
      go_simp
      have ka5 : (V4.setCell ⟨wr.heap.size, 6, none⟩ (.slice B1 x.v.co.length D1)).heap[wr.heap.size]? = some (avObjW x.v (.slice B0 x.v.pa.length D0) (.slice B1 x.v.co.length D1) x.l) := aset6W ka4
      replace q0 := q0.setA (i := 6) (u := (.slice B1 x.v.co.length D1)) (Nat.lt_succ_self _)
      replace q1 := q1.setA (i := 6) (u := (.slice B1 x.v.co.length D1)) (Nat.lt_succ_self _)
      replace q2 := q2.setA (i := 6) (u := (.slice B1 x.v.co.length D1)) (Nat.lt_succ_self _)
      have hr5 := hr4.setCell (p := ⟨wr.heap.size, 6, none⟩) (Nat.le_refl _) (.slice B1 x.v.co.length D1)
      clear c0 c1 c2 c3 c4 c5 c6 c7 c8 c9 c10 c11 c12 z ka4 hr4
      generalize V4.setCell ⟨wr.heap.size, 6, none⟩ (.slice B1 x.v.co.length D1) = V5 at *
      obtain ⟨c0, c1, c2, c3, c4, c5, c6, c7, c8, c9, c10, c11, c12⟩ := av_blkW ka5
      have z := frozen_rowW ka5 11
      refine mixT_tail rfl (by rfl) (by omega) ?_
      simp only [List.getElem_toArray, List.getElem_cons_zero, List.getElem_cons_succ]
      go_simp
      refine mixT_tail rfl (by rfl) (by omega) ?_
      simp only [List.getElem_toArray, List.getElem_cons_zero, List.getElem_cons_succ]
      go_simp
      have ka6 : (V5.setCell ⟨wr.heap.size, 11, none⟩ (.slice B2 x.v.cl.length D2)).heap[wr.heap.size]? = some (avObjW x.v (.slice B0 x.v.pa.length D0) (.slice B1 x.v.co.length D1) (.slice B2 x.v.cl.length D2)) := aset11W ka5
      replace q0 := q0.setA (i := 11) (u := (.slice B2 x.v.cl.length D2)) (Nat.lt_succ_self _)
      replace q1 := q1.setA (i := 11) (u := (.slice B2 x.v.cl.length D2)) (Nat.lt_succ_self _)
      replace q2 := q2.setA (i := 11) (u := (.slice B2 x.v.cl.length D2)) (Nat.lt_succ_self _)
      have hr6 := hr5.setCell (p := ⟨wr.heap.size, 11, none⟩) (Nat.le_refl _) (.slice B2 x.v.cl.length D2)
      clear c0 c1 c2 c3 c4 c5 c6 c7 c8 c9 c10 c11 c12 z ka5 hr5
      generalize V5.setCell ⟨wr.heap.size, 11, none⟩ (.slice B2 x.v.cl.length D2) = V6 at *
      refine mixT_end ?_
      obtain ⟨c0, c1, c2, c3, c4, c5, c6, c7, c8, c9, c10, c11, c12⟩ := av_blkW ka6
      have hown := owns_kept_none HO.out (only_of_below hr6 none)
      have HB6 := Lib.hid (HB.out.trans (hr6.mono hsz))
      have hsz6 := HB6.out.size
      have HY : Hid (AdG V6 (Value.slice A0 R.length c0').ownBlock w.heap.size ⟨x.v, B0, D0, B1, D1, B2, D2⟩) := by
        refine ⟨⟨q0.1.1, q1.1.1, q2.1.1, HXB.out⟩, fun k hk => ?_, fun k hk => ?_⟩
        · have hk2 := (HO.out.lt k hk).2
          exact ⟨q0.1.2 k (by omega), q1.1.2 k (by omega), q2.1.2 k (by omega)⟩
        · exact ⟨q0.1.2 k (by omega), q1.1.2 k (by omega), q2.1.2 k (by omega)⟩
      have HYO : Hid (AdOwn w.heap.size V6 ⟨x.v, B0, D0, B1, D1, B2, D2⟩) := ⟨⟨_, own_low q0.2 (by omega)⟩, ⟨_, own_low q1.2 (by omega)⟩, ⟨_, own_low q2.2 (by omega)⟩⟩
      have HOW6 : Hid (∀ y ∈ R, AdOwn w.heap.size V6 y) := fun y hy => (HOW.out y hy).next hr6
      have HR6 : Hid (∀ y ∈ R, AdG V6 (Value.slice A0 R.length c0').ownBlock w.heap.size y) := fun y hy => (HAR.out y hy).next hr6
      have HS1 : Hid ((R ++ [(⟨x.v, B0, D0, B1, D1, B2, D2⟩ : AdX)]).map AdX.v = (L.take (j + 1)).map AdX.v) := by
        show _ = _
        rw [List.take_add_one, HX.out, List.map_append, List.map_append, HS.out]
        rfl
      have HON := Lib.hid hown
      clear HO HAR HB HS hr6 q0 q1 q2 ka6 HXB HXM HX HOW
      go_wp2_with (at_builtin; refine wpList_pushG (v := .slice A0 R.length c0') rfl _ _ 32 rfl 36 i0 _ 13 136 Try.underlying32 hi hz0 hz1 hz2 rfl (by decide) (AdX.enc ⟨x.v, B0, D0, B1, D1, B2, D2⟩) rfl rfl (by simp) hown rfl (aenc_one _) (by have := HRJ.out; omega) (by have := HRJ.out; omega) hsz6 HB6.out (Nat.le_refl _) ?_; intro g2 c2 w2 hown2 hgr2 hlies2 hb2)
      refine ⟨⟨j + 1, R ++ [⟨x.v, B0, D0, B1, D1, B2, D2⟩], by go_num, by omega, HS1, ?_, hb2, ?_, ?_⟩, by simp only [intOf]; omega⟩
      · show World.ownsRow _ _ _ _ _ _ _
        rw [adcells_snoc]
        simpa using hown2
      · intro y hy
        rcases List.mem_append.1 hy with hy | hy
        · exact (HR6.out y hy).push hgr2 hlies2
        · rw [List.mem_singleton.1 hy]
          exact HY.out.push hgr2 hlies2
      · intro y hy
        rcases List.mem_append.1 hy with hy | hy
        · exact (HOW6.out y hy).turned HON.out hgr2
        · rw [List.mem_singleton.1 hy]
          exact HYO.out.turned HON.out hgr2
    · obtain rfl : j = L.length := by omega
      have hI : ¬ (L.length : Int) < (L.length : Int) := by omega
      obtain ⟨A0, c0', hv0, _⟩ := owns_form HO.out
      subst hv0
      go_wp2_with fail
      refine (sortA_any R (.slice A0 R.length c0') w.heap.size w.heap.size wr HO.out HAR.out (by have := HRJ.out; omega)).mono ?_
      rintro e w2 ⟨rfl, D, hp, hs, own2, hq2⟩
      have hDl := hp.length_eq
      have HG2 : Hid (∀ y ∈ D, AdG w2 (Value.slice A0 R.length c0').ownBlock w.heap.size y) := fun y hy => (HAR.out y (hp.mem_iff.1 hy)).grown hq2
      have HOW2 : Hid (∀ y ∈ D, AdOwn w.heap.size w2 y) := fun y hy => (HOW.out y (hp.mem_iff.1 hy)).turned HO.out hq2
      have HON2 := Lib.hid own2
      have HB2 := Lib.hid (HB.out.grown hq2 hsz (fun k hk => (HO.out.lt k hk).1))
      have hsz2 := HB2.out.size
      have HP := Lib.hid (And.intro hp hs)
      clear hq2 hp hs
      go_wp2_with fail
      refine (compactA_any D (.slice A0 R.length c0') w.heap.size w.heap.size w2 own2 HG2.out (by have := HRJ.out; omega)).mono ?_
      rintro e w3 ⟨v3, rfl, hvb, own3, hq3⟩
      have HVB := Lib.hid hvb
      have HB3 := Lib.hid (HB2.out.grown hq3 hsz2 (fun k hk => (own2.lt k hk).1))
      have HQ3 := Lib.hid hq3
      clear hvb hq3
      go_wp2
      go_ret
      obtain ⟨h1, h2⟩ := ddA_sorted HP.out.2 D.length (Nat.le_refl _)
      have hdl := ddA_len D D.length
      have hSL : R.map AdX.v = L.map AdX.v := by have := HS.out; rwa [List.take_length] at this
      refine ⟨v3, ddA D D.length, rfl, ⟨h1, fun z => ?_⟩, by have := HRJ.out; omega, own3, fun y hy => ?_, HB3.out, fun y hy => ?_⟩
      · rw [h2, List.take_length, ← hSL]
        exact (HP.out.1.map AdX.v).mem_iff
      · rw [HVB.out]
        exact (HG2.out y (ddA_mem _ y hy)).grown HQ3.out
      · exact (HOW2.out y (ddA_mem _ y hy)).turned HON2.out HQ3.out
end Go.Proofs.Ytbanbommgcjmjaa

/-
  SameAdverts of the document and of the program (written by wip/gen/genra14.py).
-/
namespace Go.Proofs.Ytbanbommgcjmjaa
open Go Go.RowKit Go.Lib Go.Sort

open Classical in
/-- Are two lists of adverts the same? -/
noncomputable def eqAB (A B : List AdX) : Bool := decide (A.map AdX.v = B.map AdX.v)
theorem eqAB_same {A B : List AdX} (h : A.map AdX.v = B.map AdX.v) : eqAB A B = true := by simp [eqAB, h]
theorem eqAB_not {A B : List AdX} (h : ¬ A.map AdX.v = B.map AdX.v) : eqAB A B = false := by simp [eqAB, h]
theorem adlist_eq {A B : List AdX} (h : A.length = B.length) (h2 : ∀ (i : Nat) (s t : AdX), A[i]? = some s → B[i]? = some t → s.v = t.v) : A.map AdX.v = B.map AdX.v := by
  apply List.ext_getElem?
  intro i
  rw [List.getElem?_map, List.getElem?_map]
  by_cases hi : i < A.length
  · have ha := List.getElem?_eq_getElem hi
    have hb := List.getElem?_eq_getElem (l := B) (i := i) (by omega)
    rw [ha, hb, Option.map_some, Option.map_some, h2 i _ _ ha hb]
  · rw [List.getElem?_eq_none (by omega), List.getElem?_eq_none (by omega)]
theorem adlist_at {A B : List AdX} {j : Nat} {s t : AdX} (h : A.map AdX.v = B.map AdX.v) (hs : A[j]? = some s) (ht : B[j]? = some t) : s.v = t.v := by
  have h1 := congrArg (fun L => L[j]?) h
  simp only [List.getElem?_map, hs, ht, Option.map_some] at h1
  injection h1
set_option maxRecDepth 100000 in
set_option maxHeartbeats 4000000 in
theorem refSameA_any (A B : List AdX) (va vb : Value) (w : World) (ha : Rd w w.heap.size 13 va A.length (adcells A)) (hb : Rd w w.heap.size 13 vb B.length (adcells B)) (hA : ∀ x ∈ A, AdOk w w.heap.size x) (hB : ∀ x ∈ B, AdOk w w.heap.size x) (hla : A.length ≤ 1099511627776) :
    Calls Try.prog 14 #[va, vb] w fun e w' => e = .returned (.bool (eqAB A B)) ∧ Below w.heap.size w w' := by
  obtain ⟨Aa, ca, rfl, _⟩ := ha.form
  obtain ⟨Ab, cb, rfl, _⟩ := hb.form
  have HA := Lib.hid ha
  have HB := Lib.hid hb
  have HOA := Lib.hid hA
  have HOB := Lib.hid hB
  clear ha hb hA hB
  go_enter Try.func14, Try.ntmps14
  by_cases hlen : A.length = B.length
  · have HLEN := Lib.hid hlen
    have hne : ((A.length : Int) != (B.length : Int)) = false := by simp [hlen]
    clear hlen
    go_wp2
    go_loopw [5] (fun i wr => ∃ j : Nat, i = .int .i64 j ∧ j ≤ A.length ∧ Hid (∀ (i : Nat) (s t : AdX), i < j → A[i]? = some s → B[i]? = some t → s.v = t.v) ∧ Hid (Below w.heap.size w wr)) (fun i _ => A.length - (intOf i).toNat)
    case atStart => exact ⟨0, rfl, by omega, (by intro i s t hi; omega : ∀ (i : Nat) (s t : AdX), i < 0 → A[i]? = some s → B[i]? = some t → s.v = t.v), Below.refl _ _⟩
    case round =>
      obtain ⟨j, rfl, hj, hsm, HN⟩ := hrel
      have hsz := HN.out.size
      by_cases hlt : j < A.length
      · have hI : (j : Int) < (A.length : Int) := by omega
        have hlt2 : j < B.length := by have := HLEN.out; omega
        have hI2 : (j : Int) < (B.length : Int) := by omega
        obtain ⟨s, hs⟩ : ∃ s, A[j]? = some s := ⟨_, List.getElem?_eq_getElem hlt⟩
        obtain ⟨t, ht⟩ : ∃ t, B[j]? = some t := ⟨_, List.getElem?_eq_getElem hlt2⟩
        obtain ⟨b, off, c', hv, _, hbB, hcell⟩ := (HA.out.below HN.out).posAt (by omega)
        injection hv with hv1 _ hv3
        subst hv1 hv3
        obtain ⟨b2, off2, c2', hv, _, hbB2, hcell2⟩ := (HB.out.below HN.out).posAt (by omega)
        injection hv with hv1 _ hv3
        subst hv1 hv3
        have f0 : wr.cell? ⟨b, off + j * 13, none⟩ = some (.int .u32 s.v.a) := hcell j 0 _ (adcell hs rfl)
        have e0 : wr.cell? ⟨b2, off2 + j * 13, none⟩ = some (.int .u32 t.v.a) := hcell2 j 0 _ (adcell ht rfl)
        have F0 := cell_regrown f0
        have E0 := cell_regrown e0
        have f1 : wr.cell? ⟨b, off + j * 13 + 1, none⟩ = some (.int .i64 s.v.m) := hcell j 1 _ (adcell hs rfl)
        have e1 : wr.cell? ⟨b2, off2 + j * 13 + 1, none⟩ = some (.int .i64 t.v.m) := hcell2 j 1 _ (adcell ht rfl)
        have F1 := cell_regrown f1
        have E1 := cell_regrown e1
        have f2 : wr.cell? ⟨b, off + j * 13 + 2, none⟩ = some (.int .u32 s.v.ho) := hcell j 2 _ (adcell hs rfl)
        have e2 : wr.cell? ⟨b2, off2 + j * 13 + 2, none⟩ = some (.int .u32 t.v.ho) := hcell2 j 2 _ (adcell ht rfl)
        have F2 := cell_regrown f2
        have E2 := cell_regrown e2
        have f3 : wr.cell? ⟨b, off + j * 13 + 3, none⟩ = some (.int .i64 s.v.pf) := hcell j 3 _ (adcell hs rfl)
        have e3 : wr.cell? ⟨b2, off2 + j * 13 + 3, none⟩ = some (.int .i64 t.v.pf) := hcell2 j 3 _ (adcell ht rfl)
        have F3 := cell_regrown f3
        have E3 := cell_regrown e3
        have f4 : wr.cell? ⟨b, off + j * 13 + 4, none⟩ = some (.int .i64 s.v.me) := hcell j 4 _ (adcell hs rfl)
        have e4 : wr.cell? ⟨b2, off2 + j * 13 + 4, none⟩ = some (.int .i64 t.v.me) := hcell2 j 4 _ (adcell ht rfl)
        have F4 := cell_regrown f4
        have E4 := cell_regrown e4
        have f5 : wr.cell? ⟨b, off + j * 13 + 5, none⟩ = some s.p := hcell j 5 _ (adcell hs rfl)
        have e5 : wr.cell? ⟨b2, off2 + j * 13 + 5, none⟩ = some t.p := hcell2 j 5 _ (adcell ht rfl)
        have F5 := cell_regrown f5
        have E5 := cell_regrown e5
        have f6 : wr.cell? ⟨b, off + j * 13 + 6, none⟩ = some s.o := hcell j 6 _ (adcell hs rfl)
        have e6 : wr.cell? ⟨b2, off2 + j * 13 + 6, none⟩ = some t.o := hcell2 j 6 _ (adcell ht rfl)
        have F6 := cell_regrown f6
        have E6 := cell_regrown e6
        have f7 : wr.cell? ⟨b, off + j * 13 + 7, none⟩ = some (.int .u32 s.v.pe) := hcell j 7 _ (adcell hs rfl)
        have e7 : wr.cell? ⟨b2, off2 + j * 13 + 7, none⟩ = some (.int .u32 t.v.pe) := hcell2 j 7 _ (adcell ht rfl)
        have F7 := cell_regrown f7
        have E7 := cell_regrown e7
        have f8 : wr.cell? ⟨b, off + j * 13 + 8, none⟩ = some (.int .u32 s.v.id) := hcell j 8 _ (adcell hs rfl)
        have e8 : wr.cell? ⟨b2, off2 + j * 13 + 8, none⟩ = some (.int .u32 t.v.id) := hcell2 j 8 _ (adcell ht rfl)
        have F8 := cell_regrown f8
        have E8 := cell_regrown e8
        have f9 : wr.cell? ⟨b, off + j * 13 + 9, none⟩ = some (.bool s.v.ex) := hcell j 9 _ (adcell hs rfl)
        have e9 : wr.cell? ⟨b2, off2 + j * 13 + 9, none⟩ = some (.bool t.v.ex) := hcell2 j 9 _ (adcell ht rfl)
        have F9 := cell_regrown f9
        have E9 := cell_regrown e9
        have f10 : wr.cell? ⟨b, off + j * 13 + 10, none⟩ = some (.int .u32 s.v.og) := hcell j 10 _ (adcell hs rfl)
        have e10 : wr.cell? ⟨b2, off2 + j * 13 + 10, none⟩ = some (.int .u32 t.v.og) := hcell2 j 10 _ (adcell ht rfl)
        have F10 := cell_regrown f10
        have E10 := cell_regrown e10
        have f11 : wr.cell? ⟨b, off + j * 13 + 11, none⟩ = some s.l := hcell j 11 _ (adcell hs rfl)
        have e11 : wr.cell? ⟨b2, off2 + j * 13 + 11, none⟩ = some t.l := hcell2 j 11 _ (adcell ht rfl)
        have F11 := cell_regrown f11
        have E11 := cell_regrown e11
        have f12 : wr.cell? ⟨b, off + j * 13 + 12, none⟩ = some (.int .i64 s.v.ss) := hcell j 12 _ (adcell hs rfl)
        have e12 : wr.cell? ⟨b2, off2 + j * 13 + 12, none⟩ = some (.int .i64 t.v.ss) := hcell2 j 12 _ (adcell ht rfl)
        have F12 := cell_regrown f12
        have E12 := cell_regrown e12
        have HS := Lib.hid hs
        have HT := Lib.hid ht
        have HSO := Lib.hid ((HOA.out s (List.mem_of_getElem? hs)).next HN.out)
        have HTO := Lib.hid ((HOB.out t (List.mem_of_getElem? ht)).next HN.out)
        have HCM := Lib.hid (fun W (hW : Below wr.heap.size wr W) => refAcmpX s t W (HSO.out.next hW) (HTO.out.next hW))
        clear hcell hcell2 hs ht f0 e0 f1 e1 f2 e2 f3 e3 f4 e4 f5 e5 f6 e6 f7 e7 f8 e8 f9 e9 f10 e10 f11 e11 f12 e12
        by_cases hc : s.v = t.v
        · have HC := Lib.hid hc
          have hneq : (cmpA s.v t.v != 0) = false := by simp [cmpA_zero.2 hc]
          clear hc
          go_wp2
          refine wp_region_quiet_below (by kernel_rfl) (by kernel_rfl) ?_
          repeat (first | go_big_quiet_step ((go_at_call 17; exact Calls.regrown_of (HCM.out _ (below_regrown _ _ _)))) | quiet_step ((go_at_call 17; exact Calls.regrown_of (HCM.out _ (below_regrown _ _ _)))))
          refine wpQuiet_nil ?_
          intro _ hw'
          obtain ⟨⟨nq, osq⟩, hw''⟩ := hw'
          subst hw''
          have hq := below_regrown wr nq osq
          go_wp2
          refine ⟨⟨j + 1, by go_num, by omega, ?_, HN.out.trans (hq.mono hsz)⟩, by simp only [intOf]; omega⟩
          intro i u v hi hu hv
          rcases Nat.lt_or_ge i j with h | h
          · exact hsm.out i u v h hu hv
          · obtain rfl : i = j := by omega
            rw [HS.out] at hu
            rw [HT.out] at hv
            injection hu with hu
            injection hv with hv
            rw [← hu, ← hv]; exact HC.out
        · have HC := Lib.hid hc
          have hneq : (cmpA s.v t.v != 0) = true := by
            have h2 : cmpA s.v t.v ≠ 0 := fun e => hc (cmpA_zero.1 e)
            simp [h2]
          clear hc
          go_wp2
          refine wp_region_quiet_below (by kernel_rfl) (by kernel_rfl) ?_
          repeat (first | go_big_quiet_step ((go_at_call 17; exact Calls.regrown_of (HCM.out _ (below_regrown _ _ _)))) | quiet_step ((go_at_call 17; exact Calls.regrown_of (HCM.out _ (below_regrown _ _ _)))))
          refine wpQuiet_nil ?_
          intro _ hw'
          obtain ⟨⟨nq, osq⟩, hw''⟩ := hw'
          subst hw''
          have hq := below_regrown wr nq osq
          go_wp2
          go_ret
          refine ⟨ret_bool (eqAB_not (fun h => ?_)).symm, HN.out.trans (hq.mono hsz)⟩
          exact HC.out (adlist_at h HS.out HT.out)
      · obtain rfl : j = A.length := by omega
        have hI : ¬ (A.length : Int) < (A.length : Int) := by omega
        go_wp2
        go_ret
        refine ⟨ret_bool ?_, HN.out⟩
        have : A.map AdX.v = B.map AdX.v := adlist_eq HLEN.out (fun i s t h1 h2 => hsm.out i s t (List.getElem?_eq_some_iff.1 h1).1 h1 h2)
        exact (eqAB_same this).symm
  · have hne : ((A.length : Int) != (B.length : Int)) = true := by simp; omega
    have HLEN := Lib.hid hlen
    clear hlen
    go_wp2
    go_ret
    exact ⟨ret_bool (eqAB_not (fun h => HLEN.out (by have := congrArg List.length h; simpa using this))).symm, Below.refl _ _⟩
set_option maxRecDepth 100000 in
set_option maxHeartbeats 4000000 in
theorem equalA_any (A B : List AdX) (va vb : Value) (w : World) (ha : Rd w w.heap.size 13 va A.length (adcells A)) (hb : Rd w w.heap.size 13 vb B.length (adcells B)) (hA : ∀ x ∈ A, AdOk w w.heap.size x) (hB : ∀ x ∈ B, AdOk w w.heap.size x) (hla : A.length ≤ 1099511627776) :
    Calls Try.prog 37 #[va, vb, .func (.func 38) #[] #[]] w fun e w' => e = .returned (.bool (eqAB A B)) ∧ Below w.heap.size w w' := by
  obtain ⟨Aa, ca, rfl, _⟩ := ha.form
  obtain ⟨Ab, cb, rfl, _⟩ := hb.form
  have HA := Lib.hid ha
  have HB := Lib.hid hb
  have HOA := Lib.hid hA
  have HOB := Lib.hid hB
  clear ha hb hA hB
  go_enter Try.func37, Try.ntmps37
  by_cases hlen : A.length = B.length
  · have HLEN := Lib.hid hlen
    have hne : ((A.length : Int) != (B.length : Int)) = false := by simp [hlen]
    clear hlen
    go_wp2
    go_loopw [17] (fun i wr => ∃ j : Nat, i = .int .i64 j ∧ j ≤ A.length ∧ Hid (∀ (i : Nat) (s t : AdX), i < j → A[i]? = some s → B[i]? = some t → s.v = t.v) ∧ Hid (Below w.heap.size w wr)) (fun i _ => A.length - (intOf i).toNat)
    case atStart => exact ⟨0, rfl, by omega, (by intro i s t hi; omega : ∀ (i : Nat) (s t : AdX), i < 0 → A[i]? = some s → B[i]? = some t → s.v = t.v), Below.refl _ _⟩
    case round =>
      obtain ⟨j, rfl, hj, hsm, HN⟩ := hrel
      have hsz := HN.out.size
      by_cases hlt : j < A.length
      · have hI : (j : Int) < (A.length : Int) := by omega
        have hlt2 : j < B.length := by have := HLEN.out; omega
        have hI2 : (j : Int) < (B.length : Int) := by omega
        obtain ⟨s, hs⟩ : ∃ s, A[j]? = some s := ⟨_, List.getElem?_eq_getElem hlt⟩
        obtain ⟨t, ht⟩ : ∃ t, B[j]? = some t := ⟨_, List.getElem?_eq_getElem hlt2⟩
        obtain ⟨b, off, c', hv, _, hbB, hcell⟩ := (HA.out.below HN.out).posAt (by omega)
        injection hv with hv1 _ hv3
        subst hv1 hv3
        obtain ⟨b2, off2, c2', hv, _, hbB2, hcell2⟩ := (HB.out.below HN.out).posAt (by omega)
        injection hv with hv1 _ hv3
        subst hv1 hv3
        have f0 : wr.cell? ⟨b, off + j * 13, none⟩ = some (.int .u32 s.v.a) := hcell j 0 _ (adcell hs rfl)
        have e0 : wr.cell? ⟨b2, off2 + j * 13, none⟩ = some (.int .u32 t.v.a) := hcell2 j 0 _ (adcell ht rfl)
        have f1 : wr.cell? ⟨b, off + j * 13 + 1, none⟩ = some (.int .i64 s.v.m) := hcell j 1 _ (adcell hs rfl)
        have e1 : wr.cell? ⟨b2, off2 + j * 13 + 1, none⟩ = some (.int .i64 t.v.m) := hcell2 j 1 _ (adcell ht rfl)
        have f2 : wr.cell? ⟨b, off + j * 13 + 2, none⟩ = some (.int .u32 s.v.ho) := hcell j 2 _ (adcell hs rfl)
        have e2 : wr.cell? ⟨b2, off2 + j * 13 + 2, none⟩ = some (.int .u32 t.v.ho) := hcell2 j 2 _ (adcell ht rfl)
        have f3 : wr.cell? ⟨b, off + j * 13 + 3, none⟩ = some (.int .i64 s.v.pf) := hcell j 3 _ (adcell hs rfl)
        have e3 : wr.cell? ⟨b2, off2 + j * 13 + 3, none⟩ = some (.int .i64 t.v.pf) := hcell2 j 3 _ (adcell ht rfl)
        have f4 : wr.cell? ⟨b, off + j * 13 + 4, none⟩ = some (.int .i64 s.v.me) := hcell j 4 _ (adcell hs rfl)
        have e4 : wr.cell? ⟨b2, off2 + j * 13 + 4, none⟩ = some (.int .i64 t.v.me) := hcell2 j 4 _ (adcell ht rfl)
        have f5 : wr.cell? ⟨b, off + j * 13 + 5, none⟩ = some s.p := hcell j 5 _ (adcell hs rfl)
        have e5 : wr.cell? ⟨b2, off2 + j * 13 + 5, none⟩ = some t.p := hcell2 j 5 _ (adcell ht rfl)
        have f6 : wr.cell? ⟨b, off + j * 13 + 6, none⟩ = some s.o := hcell j 6 _ (adcell hs rfl)
        have e6 : wr.cell? ⟨b2, off2 + j * 13 + 6, none⟩ = some t.o := hcell2 j 6 _ (adcell ht rfl)
        have f7 : wr.cell? ⟨b, off + j * 13 + 7, none⟩ = some (.int .u32 s.v.pe) := hcell j 7 _ (adcell hs rfl)
        have e7 : wr.cell? ⟨b2, off2 + j * 13 + 7, none⟩ = some (.int .u32 t.v.pe) := hcell2 j 7 _ (adcell ht rfl)
        have f8 : wr.cell? ⟨b, off + j * 13 + 8, none⟩ = some (.int .u32 s.v.id) := hcell j 8 _ (adcell hs rfl)
        have e8 : wr.cell? ⟨b2, off2 + j * 13 + 8, none⟩ = some (.int .u32 t.v.id) := hcell2 j 8 _ (adcell ht rfl)
        have f9 : wr.cell? ⟨b, off + j * 13 + 9, none⟩ = some (.bool s.v.ex) := hcell j 9 _ (adcell hs rfl)
        have e9 : wr.cell? ⟨b2, off2 + j * 13 + 9, none⟩ = some (.bool t.v.ex) := hcell2 j 9 _ (adcell ht rfl)
        have f10 : wr.cell? ⟨b, off + j * 13 + 10, none⟩ = some (.int .u32 s.v.og) := hcell j 10 _ (adcell hs rfl)
        have e10 : wr.cell? ⟨b2, off2 + j * 13 + 10, none⟩ = some (.int .u32 t.v.og) := hcell2 j 10 _ (adcell ht rfl)
        have f11 : wr.cell? ⟨b, off + j * 13 + 11, none⟩ = some s.l := hcell j 11 _ (adcell hs rfl)
        have e11 : wr.cell? ⟨b2, off2 + j * 13 + 11, none⟩ = some t.l := hcell2 j 11 _ (adcell ht rfl)
        have f12 : wr.cell? ⟨b, off + j * 13 + 12, none⟩ = some (.int .i64 s.v.ss) := hcell j 12 _ (adcell hs rfl)
        have e12 : wr.cell? ⟨b2, off2 + j * 13 + 12, none⟩ = some (.int .i64 t.v.ss) := hcell2 j 12 _ (adcell ht rfl)
        have HS := Lib.hid hs
        have HT := Lib.hid ht
        have HSO := Lib.hid ((HOA.out s (List.mem_of_getElem? hs)).next HN.out)
        have HTO := Lib.hid ((HOB.out t (List.mem_of_getElem? ht)).next HN.out)
        clear hcell hcell2 hs ht
        go_upto_region 6 with (refine wpList_store_G rfl _ _ 36 rfl 13 Try.sizeOf36 wr.heap.size 0 rfl (.agg s.enc.toArray) rfl (AdX.enc ⟨av0W, none, 0, none, 0, none, 0⟩) 36 (heap_alloc_new _ _) s.enc rfl rfl (by simp [ad_len]) (aenc_one s) ?_; intro W1 hg1 hq1)
        have ka : W1.heap[wr.heap.size]? = some (avObjW s.v s.p s.o s.l) := hg1.out
        have hr : Below wr.heap.size wr W1 := below_turned (below1 wr _) hq1 (by simp) (Nat.le_refl _)
        have hz1 : W1.heap.size = wr.heap.size + 1 ∨ wr.heap.size + 1 ≤ W1.heap.size := .inr (lt_of_block ka)
        have e0' := cell_keptW hr e0
        have e1' := cell_keptW hr e1
        have e2' := cell_keptW hr e2
        have e3' := cell_keptW hr e3
        have e4' := cell_keptW hr e4
        have e5' := cell_keptW hr e5
        have e6' := cell_keptW hr e6
        have e7' := cell_keptW hr e7
        have e8' := cell_keptW hr e8
        have e9' := cell_keptW hr e9
        have e10' := cell_keptW hr e10
        have e11' := cell_keptW hr e11
        have e12' := cell_keptW hr e12
        clear hg1 hq1 f0 e0 f1 e1 f2 e2 f3 e3 f4 e4 f5 e5 f6 e6 f7 e7 f8 e8 f9 e9 f10 e10 f11 e11 f12 e12
        go_upto_region 7 with (refine wpList_store_G rfl _ _ 36 rfl 13 Try.sizeOf36 W1.heap.size 0 rfl (.agg t.enc.toArray) rfl (AdX.enc ⟨av0W, none, 0, none, 0, none, 0⟩) 36 (heap_alloc_new _ _) t.enc rfl rfl (by simp [ad_len]) (aenc_one t) ?_; intro W2 hg2 hq2)
        have kb : W2.heap[W1.heap.size]? = some (avObjW t.v t.p t.o t.l) := hg2.out
        have hr2 : Below W1.heap.size W1 W2 := below_turned (below1 W1 _) hq2 (by simp) (Nat.le_refl _)
        have ka2 := blk_below hr2 ka
        have hbr := hr.trans (hr2.mono hr.size)
        have hbW := HN.out.trans (hbr.mono hsz)
        have HSO2 := Lib.hid (HSO.out.next hbr)
        have HTO2 := Lib.hid (HTO.out.next hbr)
        clear hg2 hq2 hz1 e0' e1' e2' e3' e4' e5' e6' e7' e8' e9' e10' e11' e12'
        obtain ⟨c0, c1, c2, c3, c4, c5, c6, c7, c8, c9, c10, c11, c12⟩ := av_blkW ka2
        obtain ⟨d0, d1, d2, d3, d4, d5, d6, d7, d8, d9, d10, d11, d12⟩ := av_blkW kb
        clear ka2 kb ka
        by_cases hc : s.v = t.v
        · have HC := Lib.hid hc
          clear hc
          go_wp2_with fail
          refine (eqL2_yes HSO2.out HTO2.out HC.out).mono ?_
          rintro e W3 ⟨rfl, hb3⟩
          have hb4 := below_call hbW hb3
          clear c0 d0 c1 d1 c2 d2 c3 d3 c4 d4 c5 d5 c6 d6 c7 d7 c8 d8 c9 d9 c10 d10 c11 d11 c12 d12
          go_wp2
          refine ⟨⟨j + 1, by go_num, by omega, ?_, hb4⟩, by simp only [intOf]; omega⟩
          intro i u v hi hu hv
          rcases Nat.lt_or_ge i j with h | h
          · exact hsm.out i u v h hu hv
          · obtain rfl : i = j := by omega
            rw [HS.out] at hu
            rw [HT.out] at hv
            injection hu with hu
            injection hv with hv
            rw [← hu, ← hv]; exact HC.out
        · have HC := Lib.hid hc
          clear hc
          go_wp2_with fail
          refine (eqL2_no HSO2.out HTO2.out HC.out).mono ?_
          rintro e W3 ⟨rfl, hb3⟩
          have hb4 := below_call hbW hb3
          clear c0 d0 c1 d1 c2 d2 c3 d3 c4 d4 c5 d5 c6 d6 c7 d7 c8 d8 c9 d9 c10 d10 c11 d11 c12 d12
          go_wp2
          go_ret
          refine ⟨ret_bool (eqAB_not (fun h => ?_)).symm, hb4⟩
          exact HC.out (adlist_at h HS.out HT.out)
      · obtain rfl : j = A.length := by omega
        have hI : ¬ (A.length : Int) < (A.length : Int) := by omega
        go_wp2
        go_ret
        refine ⟨ret_bool ?_, HN.out⟩
        have : A.map AdX.v = B.map AdX.v := adlist_eq HLEN.out (fun i s t h1 h2 => hsm.out i s t (List.getElem?_eq_some_iff.1 h1).1 h1 h2)
        exact (eqAB_same this).symm
  · have hne : ((A.length : Int) != (B.length : Int)) = true := by simp; omega
    have HLEN := Lib.hid hlen
    clear hlen
    go_wp2
    go_ret
    exact ⟨ret_bool (eqAB_not (fun h => HLEN.out (by have := congrArg List.length h; simpa using this))).symm, Below.refl _ _⟩
set_option maxRecDepth 100000 in
theorem progSameA_any (A B : List AdX) (va vb : Value) (w : World) (ha : Rd w w.heap.size 13 va A.length (adcells A)) (hb : Rd w w.heap.size 13 vb B.length (adcells B)) (hA : ∀ x ∈ A, AdOk w w.heap.size x) (hB : ∀ x ∈ B, AdOk w w.heap.size x) (hla : A.length ≤ 1099511627776) :
    Calls Try.prog 15 #[va, vb] w fun e w' => e = .returned (.bool (eqAB A B)) ∧ Below w.heap.size w w' := by
  have HE := Lib.hid (equalA_any A B va vb w ha hb hA hB hla)
  clear ha hb hA hB
  go_enter Try.func15, Try.ntmps15
  go_wp2_with fail
  refine HE.out.mono ?_
  rintro e w1 ⟨rfl, hb1⟩
  go_wp2
  go_ret
  exact ⟨rfl, hb1⟩
end Go.Proofs.Ytbanbommgcjmjaa

/-
  How the world stands while the rows that SortAdverts handed back are spoiled: only what lies in their own zone, or is new, turns; no program.
-/
namespace Go.Proofs.Ytbanbommgcjmjaa
open Go Go.RowKit Go.Lib Go.Sort

/-- Every cell holds a single value. -/
def AllOne (cs : Array Value) : Prop := ∀ u ∈ cs.toList, u.oneCell' = true
/-- What a step of the spoiling does: blocks outside of the zone stay, blocks keep their type and their size, rows of adverts stay. -/
structure Stp (lo hi S : Nat) (w w' : World) : Prop where
  os : w'.os = w.os
  tape : w'.tape = w.tape
  output : w'.output = w.output
  size : w.heap.size ≤ w'.heap.size
  out : ∀ b, b < w.heap.size → (b < lo ∨ (hi ≤ b ∧ b < S)) → w'.heap[b]? = w.heap[b]?
  shp : ∀ (b : Nat) (cs : Array Value) (t : TypeId), w.heap[b]? = some (.cells cs t (0, 0)) → ∃ cs' : Array Value, w'.heap[b]? = some (.cells cs' t (0, 0)) ∧ cs'.size = cs.size ∧ (AllOne cs → AllOne cs') ∧ (t = 36 → cs' = cs)
section
variable {lo hi S : Nat} {w w' w2 : World}
theorem Stp.refl (w : World) : Stp lo hi S w w := ⟨rfl, rfl, rfl, Nat.le_refl _, fun _ _ _ => rfl, fun _ cs _ h => ⟨cs, h, rfl, id, fun _ => rfl⟩⟩
theorem Stp.trans (h : Stp lo hi S w w') (k : Stp lo hi S w' w2) : Stp lo hi S w w2 :=
  ⟨k.os.trans h.os, k.tape.trans h.tape, k.output.trans h.output, Nat.le_trans h.size k.size, fun b hb hz => (k.out b (Nat.lt_of_lt_of_le hb h.size) hz).trans (h.out b hb hz), fun b cs t hc => by
    obtain ⟨c1, h1, h2, h3, h4⟩ := h.shp b cs t hc
    obtain ⟨c2, k1, k2, k3, k4⟩ := k.shp b c1 t h1
    exact ⟨c2, k1, k2.trans h2, k3 ∘ h3, fun e => (k4 e).trans (h4 e)⟩⟩
theorem Stp.new (h : w.grownBy w' none) : Stp lo hi S w w' :=
  ⟨h.os, h.tape, h.output, h.size, fun b hb _ => h.block b hb (by simp), fun b cs t hc => ⟨cs, (h.block b (lt_of_block hc) (by simp)).trans hc, rfl, id, fun _ => rfl⟩⟩
theorem Stp.one {g : Nat} {cs cs' : Array Value} {t : TypeId} (h : w.grownBy w' (some g)) (h1 : w.heap[g]? = some (.cells cs t (0, 0))) (h2 : w'.heap[g]? = some (.cells cs' t (0, 0))) (hs : cs'.size = cs.size) (h3 : AllOne cs → AllOne cs') (ht : t ≠ 36) (hl : lo ≤ g) (hz : g < hi ∨ S ≤ g) : Stp lo hi S w w' := by
  refine ⟨h.os, h.tape, h.output, h.size, fun b hb hzb => h.block b hb (fun e => by injection e with e; omega), fun b c t' hc => ?_⟩
  by_cases e : b = g
  · subst e
    rw [h1] at hc
    injection hc with hc
    injection hc with e1 e2
    subst e1 e2
    exact ⟨cs', h2, hs, h3, fun e => absurd e ht⟩
  · exact ⟨c, (h.block b (lt_of_block hc) (fun e2 => by injection e2 with e2; exact e e2)).trans hc, rfl, id, fun _ => rfl⟩
/-- A list in the zone that is somebody's row, whatever it holds. -/
def LOwn (lo hi S : Nat) (w : World) (t : TypeId) (v : Value) (n : Nat) : Prop := (∃ xs, w.ownsRow lo t 1 v n xs) ∧ ∀ g, v.ownBlock = some g → g < hi ∨ S ≤ g
theorem LOwn.step {t : TypeId} {v : Value} {n : Nat} (h : LOwn lo hi S w t v n) (hs : Stp lo hi S w w') : LOwn lo hi S w' t v n := by
  refine ⟨?_, h.2⟩
  obtain ⟨xs, hl, h⟩ := h.1
  rcases h with ⟨rfl, rfl⟩ | ⟨g, cap, cur, rfl, hb, hg, hnc, hcm, hcs, ht⟩
  · exact ⟨[], by simp, .inl ⟨rfl, rfl⟩⟩
  · obtain ⟨cs', h1, h2, _, _⟩ := hs.shp _ _ _ hg
    exact ⟨cs'.toList.take (n * 1), by simp; omega, .inr ⟨g, cap, cs', rfl, hb, h1, hnc, hcm, by rw [h2, hcs], rfl⟩⟩
/-- The row of adverts stays. -/
theorem Stp.row (hs : Stp lo hi S w w') {base k n : Nat} {v : Value} {xs : List Value} (h : w.ownsRow base 36 k v n xs) : w'.ownsRow base 36 k v n xs := by
  obtain ⟨hl, h⟩ := h
  rcases h with ⟨rfl, rfl⟩ | ⟨g, cap, cur, rfl, hb, hg, r⟩
  · exact ⟨hl, .inl ⟨rfl, rfl⟩⟩
  · obtain ⟨cs', h1, _, _, h4⟩ := hs.shp _ _ _ hg
    rw [h4 rfl] at h1
    exact ⟨hl, .inr ⟨g, cap, cur, rfl, hb, h1, r⟩⟩
/-- A slice of one cell that has just been laid. -/
def One (w : World) (t : TypeId) (x : Value) : Prop := ∃ (g : Nat) (cs : Array Value), x = .slice (some ⟨g, 0, none⟩) 1 1 ∧ w.heap[g]? = some (.cells cs t (0, 0)) ∧ cs.size = 1 ∧ AllOne cs
theorem One.step {t : TypeId} {x : Value} (h : One w t x) (hs : Stp lo hi S w w') : One w' t x := by
  obtain ⟨g, cs, rfl, h1, h2, h3⟩ := h
  obtain ⟨cs', k1, k2, k3, _⟩ := hs.shp _ _ _ h1
  exact ⟨g, cs', rfl, k1, k2.trans h2, k3 h3⟩
theorem One.new (w : World) (t : TypeId) (u : Value) (hu : u.oneCell' = true) : One (w.alloc (.cells #[u] t)) t (.slice (some ⟨w.heap.size, 0, none⟩) 1 1) :=
  ⟨w.heap.size, #[u], rfl, heap_alloc_new _ _, rfl, fun v hv => by
    have hv : v = u := by simpa using hv
    rw [hv]; exact hu⟩
theorem allOne_set {cs : Array Value} {k : Nat} {u : Value} (hu : u.oneCell' = true) (h : AllOne cs) : AllOne (cs.setIfInBounds k u) := by
  intro v hv
  rw [Array.toList_setIfInBounds] at hv
  rcases List.mem_or_eq_of_mem_set hv with hv | hv
  · exact h v hv
  · rw [hv]; exact hu
theorem stp_alloc (w : World) (o : Obj) : Stp lo hi S w (w.alloc o) := Stp.new (World.grownBy_alloc w o none)
/-- A store into such a list. -/
theorem stp_store {t : TypeId} {g n c k : Nat} {u : Value} (h : LOwn lo hi S w t (.slice (some ⟨g, 0, none⟩) n c) n) (ht : t ≠ 36) (hu : u.oneCell' = true) : Stp lo hi S w (w.setCell ⟨g, k, none⟩ u) := by
  obtain ⟨⟨xs, ho⟩, hz⟩ := h
  obtain ⟨cur, hg, _, _, _, _, hb⟩ := owns_block ho
  exact Stp.one (ho.stored k u).2 hg (heap_setCell_same w g k cur t u hg) (by simp) (allOne_set hu) ht hb (hz g rfl)
/-- .. one cell is appended. -/
theorem run_append_stp {P : Program} (T ty : TypeId) (e : TypeId) (i : TypeInfo) (z : Value) (ht : P.underlying T = some (.slice e)) (hi' : P.info? e = some i) (hz : i.zero = some z)
    (hsize : i.size = 1) (hby : i.bytes = 4) (hzs : z.cells.size = 1) (he : e ≠ 36)
    {v x : Value} {n : Nat} (h : LOwn lo hi S w e v n) (hx : One w e x) (hn : (n + 1) * 4 ≤ 140737488355328) (hlo : lo ≤ w.heap.size) (hS : S ≤ w.heap.size) :
    ∃ q w', (Builtin.append_ #[T, T] ty #[v, x]).run P w = .ok q w' ∧ LOwn lo hi S w' e q (n + 1) ∧ Stp lo hi S w w' ∧ (∃ A c, q = .slice A (n + 1) c) := by
  obtain ⟨⟨xs, ho⟩, hzone⟩ := h
  obtain ⟨g0, c0, rfl, hg0, hs0, h10⟩ := hx
  have hl : c0.toList.length = 1 * 1 := by simpa using hs0
  have hnews : ∀ j u, c0.toList[j]? = some u → w.cell? ((⟨g0, 0, none⟩ : Addr).add j) = some u := by
    intro j u hu
    have e : (⟨g0, 0, none⟩ : Addr).add j = ⟨g0, j, none⟩ := by simp [Addr.add]; omega
    rw [e, cell_of_row _ _ _ _ _ _ hg0]
    simpa using hu
  have h63 : n + 1 ≤ maxLen := by unfold maxLen; omega
  obtain ⟨g, cap, w', hr, h2, h3, h4, h5⟩ := run_append_lies (P := P) w T ty lo e i z 1 4 ht hi' hz hsize hby hzs (by decide) v n xs ho ⟨g0, 0, none⟩ 1 1 c0.toList hl hnews h10 (by decide) h63 hn hlo _ rfl
  refine ⟨_, w', hr, ⟨⟨_, h2⟩, fun k hk => ?_⟩, ?_, _, _, rfl⟩
  · injection hk with hk
    dsimp only at hk
    subst hk
    rcases h4 with h4 | h4
    · exact hzone _ h4
    · exact .inr (by rw [h4]; exact hS)
  · rcases ho.2 with ⟨rfl, rfl⟩ | ⟨gv, cv, cur, rfl, hbv, hgv, hncv, hcmv, hcsv, htv⟩
    · exact Stp.new h3
    · by_cases hroom : n + 1 ≤ cv
      · have hfit : n * i.size + c0.toList.length ≤ cur.size := by rw [hl, hcsv, hsize]; omega
        have hr2 := run_append_room (P := P) w T ty e i ht hi' gv n cv cur hgv ⟨g0, 0, none⟩ 1 1 c0.toList (by rw [hsize]; exact hl) hnews h10 hroom hfit
        rw [hr] at hr2
        injection hr2 with _ hw
        have h6 : w'.heap[gv]? = some (.cells (cur.toList.take (n * i.size) ++ c0.toList ++ cur.toList.drop (n * i.size + c0.toList.length)).toArray e (0, 0)) := by rw [hw]; exact setRow_heap w gv cur _ e _ hgv
        refine Stp.one (g := gv) h3 hgv h6 ?_ (fun hA u hu => ?_) he hbv (hzone gv rfl)
        · simp only [List.size_toArray, List.length_append, List.length_take, List.length_drop, Array.length_toList] at hfit ⊢
          omega
        · simp only [List.mem_append] at hu
          rcases hu with (hu | hu) | hu
          · exact hA u (List.mem_of_mem_take hu)
          · exact h10 u hu
          · exact hA u (List.mem_of_mem_drop hu)
      · have hr2 := run_append_grow (P := P) w T ty e i z ht hi' hz ⟨gv, 0, none⟩ n cv xs (by rw [ho.1, hsize]) (ho.cells (g := gv) rfl) ⟨g0, 0, none⟩ 1 1 c0.toList (by rw [hsize]; exact hl) hnews (by omega) (by unfold maxLen at h63; omega) (by rw [hby]; exact growslice_fits (by omega) hn)
        rw [hr] at hr2
        injection hr2 with _ hw
        refine Stp.new ?_
        rw [hw]
        exact ⟨rfl, rfl, rfl, by simp, fun k hk _ => heap_alloc_old w.drew _ hk⟩
end
end Go.Proofs.Ytbanbommgcjmjaa
