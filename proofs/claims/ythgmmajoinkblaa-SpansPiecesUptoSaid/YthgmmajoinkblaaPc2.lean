/-
  The walk of spans.Pieces.
-/
import Derived.Test.YthgmmajoinkblaaPc1
import Derived.Test.YthgmmajoinkblaaPcR
namespace Go.Proofs.Ythgmmajoinkblaa
open Go Go.RowKit Go.Lib Go.Sort

/-- The spans of the sets' forms. -/
noncomputable def allF (S : List SetV) : List SpanV := (setsL S).flatMap formOf
theorem allF_succ {S : List SetV} {i : Nat} {x : SetV} (h : S[i]? = some x) : allF (S.take (i + 1)) = allF (S.take i) ++ formOf x.L := by
  unfold allF setsL
  rw [List.take_add_one, h, List.map_append, List.flatMap_append]
  simp
theorem allF_len (S : List SetV) : (allF S).length ≤ (allS S).length := by
  unfold allF setsL allS
  induction S with
  | nil => simp
  | cons x r ih =>
    simp only [List.map_cons, List.flatMap_cons, List.length_append]
    have := formOf_len x.L
    omega
/-- The row that Form made is not touched. -/
def FarRow (W1 wx : World) (sb : Nat) (o : Value) (A : Option Addr) : Prop := ∀ g, A = some ⟨g, 0, none⟩ → g < W1.heap.size ∧ g ≠ sb ∧ o.ownBlock ≠ some g ∧ wx.heap[g]? = W1.heap[g]?
theorem FarRow.step {W1 wx wy : World} {sb : Nat} {o o' : Value} {A : Option Addr} (h : FarRow W1 wx sb o A) (hs : W1.heap.size ≤ wx.heap.size) (hf : Far sb o o' wx wy) : FarRow W1 wy sb o' A := fun g hg => by
  obtain ⟨a, b, c, d⟩ := h g hg
  obtain ⟨e, f⟩ := hf.kept g (Nat.lt_of_lt_of_le a hs) b c
  exact ⟨a, b, f, e.trans d⟩
theorem cell_same {w w' : World} {g i : Nat} (h : w'.heap[g]? = w.heap[g]?) : w'.cell? ⟨g, i, none⟩ = w.cell? ⟨g, i, none⟩ := by
  unfold World.cell?
  rw [h]
set_option maxRecDepth 100000 in
set_option maxHeartbeats 4000000 in
theorem pieces_any (most : Int) (S : List SetV) (vs : Value) (w : World) (hS : SetsAt w w.heap.size vs S) (hm : 0 ≤ most ∧ most < 4294967296) (hlen : (allS S).length ≤ 1073741824) (hlen2 : S.length ≤ 1024) :
    Calls Try.prog 15 #[.int .u32 most, vs] w (PiecesRes most (setsL S) w) := by
  obtain ⟨i0, hi, hz0, hz1, hz2⟩ := info_parts Try.infoSpan
  obtain ⟨A0, c0, rfl, hc0⟩ := hS.1.form
  have HS := Lib.hid hS
  have hS0 : ¬ (1024 : Int) < (S.length : Int) := by omega
  have hF := allF_len S
  clear hS
  have HB0 := Lib.hid (blk1 w (.cells #[.int .u32 most] 23))
  have HB1 := Lib.hid (blk1 (w.alloc (.cells #[.int .u32 most] 23)) (.cells #[.slice none 0 0] 27))
  go_enter Try.func15, Try.ntmps15
  go_wp2
  go_loopw [21] (fun i wr => ∃ (j : Nat) (D : List Int) (o : Value), i = .int .i64 j ∧ j ≤ S.length ∧ PSt w w.heap.size (w.heap.size + 1) most D o wr ∧ Noted most (allF (S.take j)) D) (fun i _ => S.length - (intOf i).toNat)
  case atStart => exact ⟨0, [], .slice none 0 0, rfl, by omega, ⟨by simpa using HB1.out, World.ownsRow_nil _ _ _ _, ((below1 _ _).block _ (by simp)).trans HB0.out, (below1 w _).trans ((below1 _ _).mono (by simp))⟩, Noted.nil _⟩
  case round =>
    obtain ⟨j, D, o, rfl, hj, hP, hN⟩ := hrel
    have hsz := hP.below.size
    have hsb := lt_of_block hP.cell
    by_cases hlt : j < S.length
    · have hI : (j : Int) < (S.length : Int) := by omega
      obtain ⟨x, hx⟩ : ∃ x, S[j]? = some x := ⟨_, List.getElem?_eq_getElem hlt⟩
      have hxr := (HS.out.2 x (List.mem_of_getElem? hx)).below hP.below
      have hSTEP := Lib.hid (allF_succ hx)
      obtain ⟨b, off, c', hv, _, _, hcell⟩ := (HS.out.1.below hP.below).pos (by omega)
      injection hv with hv1 _ hv3
      subst hv1 hv3
      have f0 : wr.cell? ⟨b, off + j, none⟩ = some x.v := hcell j _ (by simp [svals, hx])
      obtain ⟨Ax, cx, hxv, hcx⟩ := hxr.form
      rw [hxv] at f0
      have hle : (allF (S.take (j + 1))).length ≤ (allF S).length := by
        have e : allF S = allF (S.take (j + 1)) ++ allF (S.drop (j + 1)) := by unfold allF setsL; rw [← List.flatMap_append, ← List.map_append, List.take_append_drop]
        rw [e, List.length_append]; omega
      have hxl : x.L.length ≤ 1099511627776 := by
        have : x.L.length ≤ (allS S).length := by
          obtain ⟨A, B, e⟩ := List.append_of_mem (List.mem_of_getElem? hx)
          rw [e]; simp [allS]; omega
        omega
      rw [hSTEP.out, List.length_append] at hle
      have HFO := Lib.hid (form_any x.L (.slice Ax x.L.length cx) wr (by rw [← hxv]; exact hxr.mono hsz) hxl)
      have HP := Lib.hid hP
      have HN := Lib.hid hN
      clear hcell hx hxr hxv hP hN
      generalize allF (S.take j) = T at *
      go_wp2_with fail
      refine HFO.out.mono ?_
      rintro e W1 ⟨v1, rfl, hown1, hb1⟩
      obtain ⟨A1, c1, rfl, hA1⟩ := owns_form hown1
      have hP1 := HP.out.up hb1
      have hfr : FarRow W1 W1 (w.heap.size + 1) o (A1) := fun g hg => by
        subst hg
        have h1 := hown1.lt g rfl
        have h2 := fun hh => (HP.out.row.lt g hh).2
        exact ⟨h1.2, by omega, fun hh => by have := h2 hh; omega, rfl⟩
      have HO1 := Lib.hid hown1
      have HP1 := Lib.hid hP1
      have HFR := Lib.hid hfr
      clear hown1 hb1 hP1 hfr HP HFO
      generalize formOf x.L = F at *
      go_wp2
      go_loopw [28] (fun i wx => ∃ (k : Nat) (D' : List Int) (o' : Value), i = .int .i64 k ∧ k ≤ F.length ∧ PSt w w.heap.size (w.heap.size + 1) most D' o' wx ∧ Noted most (T ++ F.take k) D' ∧ FarRow W1 wx (w.heap.size + 1) o' A1 ∧ W1.heap.size ≤ wx.heap.size) (fun i _ => F.length - (intOf i).toNat)
      case atStart => exact ⟨0, D, o, rfl, by omega, HP1.out, by simpa using HN.out, HFR.out, Nat.le_refl _⟩
      case round =>
        obtain ⟨k, D', o', rfl, hk, hP, hN, hfr, hsz1⟩ := hrel
        have hsw := hP.below.size
        have hsb2 := lt_of_block hP.cell
        by_cases hlt2 : k < F.length
        · have hI2 : (k : Int) < (F.length : Int) := by omega
          obtain ⟨s, hs⟩ : ∃ s, F[k]? = some s := ⟨_, List.getElem?_eq_getElem hlt2⟩
          obtain ⟨g, rfl⟩ := hA1 (by omega)
          obtain ⟨b2, o2, c', hv, _, hbB, hcell⟩ := (Rd.of_own HO1.out).posAt (by omega)
          injection hv with hv1 _ hv3
          injection hv1 with hv1
          injection hv1 with hv1 hv2
          subst hv1 hv2 hv3
          have hsame := (hfr g rfl).2.2.2
          have f0 : wr.cell? ⟨g, k * 2, none⟩ = some (.int .u32 s.lo) := (cell_same hsame).trans (by simpa using hcell k 0 _ (scell hs rfl))
          have f1 : wr.cell? ⟨g, k * 2 + 1, none⟩ = some (.int .u32 s.hi) := (cell_same hsame).trans (by simpa using hcell k 1 _ (scell hs rfl))
          have hN2 := hN.snoc s
          have hDl : D'.length ≤ 1099511627776 := by have := hN.2; have : (F.take k).length ≤ F.length := by { rw [List.length_take]; omega }; simp only [List.length_append] at *; omega
          have hDl2 : (noted most D' s.lo).length ≤ 1099511627776 := by have := hN.2; have := noted_len most D' s.lo; have : (F.take k).length ≤ F.length := by { rw [List.length_take]; omega }; simp only [List.length_append] at *; omega
          have hlo := s.hlo
          have hhi := s.hhi
          have hKB := blk1 wr (.cells #[.int .u32 s.lo, .int .u32 s.hi] 44)
          have hPA := hP.up (below1 wr (.cells #[.int .u32 s.lo, .int .u32 s.hi] 44))
          have hnk : o'.ownBlock ≠ some wr.heap.size := fun hh => by have := (hP.row.lt _ hh).2; omega
          have hfA := hfr.step hsz1 (Far.up (below1 wr (.cells #[.int .u32 s.lo, .int .u32 s.hi] 44)))
          have HCUT := Lib.hid (cutP_any w _ _ _ most s.lo D' o' hPA hm (by omega) ⟨Nat.le_refl _, Nat.lt_succ_self _⟩ hDl)
          rw [List.append_assoc, ← take_snoc hs] at hN2
          have HN2 := Lib.hid hN2
          have HK := Lib.hid hKB
          have HNK := Lib.hid hnk
          have HFA := Lib.hid hfA
          have HSZ := Lib.hid hsz1
          have hw1 : s.lo % 18446744073709551616 = s.lo := by omega
          have hw2 : s.hi % 18446744073709551616 = s.hi := by omega
          have hw3 : (s.hi + 1) % 18446744073709551616 = s.hi + 1 := by omega
          clear hcell hs hP hN hN2 hDl hKB hPA hnk hfA hfr hsz1 hbB hsame
          go_wp2_with fail
          refine HCUT.out.mono ?_
          rintro e w2 ⟨rfl, o2, hP2, hF2⟩
          have hk2 := hF2.kept wr.heap.size (by simp) (by omega) HNK.out
          have kb2 := hk2.1.trans HK.out
          obtain ⟨y0, y1, _, _⟩ := two_cells kb2
          have HCUT2 := Lib.hid (cutP_any w _ _ _ most (s.hi + 1) _ o2 hP2 hm (by omega) ⟨Nat.le_refl _, Nat.lt_succ_self _⟩ hDl2)
          have HFB := Lib.hid (HFA.out.step (by have := HSZ.out; simp; omega) hF2)
          have HSB := Lib.hid (show W1.heap.size ≤ w2.heap.size by have := HSZ.out; have := hF2.size; simp at this; omega)
          clear hP2 hF2 hk2 kb2 HCUT HK HNK HFA HSZ f0 f1
          go_wp2_with fail
          refine HCUT2.out.mono ?_
          rintro e w3 ⟨rfl, o3, hP3, hF3⟩
          have HP3 := Lib.hid hP3
          have HFC := Lib.hid (HFB.out.step HSB.out hF3)
          have HSC := Lib.hid (Nat.le_trans HSB.out hF3.size)
          clear hP3 hF3
          go_wp2
          exact ⟨⟨k + 1, _, o3, by go_num, by omega, HP3.out, HN2.out, HFC.out, HSC.out⟩, by simp only [intOf]; omega⟩
        · obtain rfl : k = F.length := by omega
          rw [List.take_length] at hN
          go_wp2
          exact ⟨⟨j + 1, D', o', by go_num, by omega, hP, by rw [hSTEP.out]; exact hN⟩, by simp only [intOf]; omega⟩
    · obtain rfl : j = S.length := by omega
      rw [List.take_length] at hN
      have c6 : wr.cell? ⟨w.heap.size + 1, 0, none⟩ = some o := by rw [cell_of_row wr _ 0 _ _ (0, 0) hP.cell]; rfl
      have hDl : D.length ≤ 2147483648 := by have := hN.2; omega
      have HN := Lib.hid hN
      have HP := Lib.hid hP
      have HSORT := Lib.hid (sortU_any D o (w.heap.size + 1 + 1) wr hP.row (by omega))
      clear hN hP
      go_wp2_with fail
      refine HSORT.out.mono ?_
      rintro e w1 ⟨rfl, L', hperm, hpw, hrow, hbel⟩
      have hb1 := hbel (w.heap.size + 1 + 1) (Nat.le_refl _) hsb
      have hsz1 := hb1.size
      have hL' : L'.length = D.length := hperm.length_eq
      have k1 := (hb1.block _ (Nat.lt_succ_self _)).trans HP.out.cell
      have k2 := (hb1.block w.heap.size (by omega)).trans HP.out.box
      have c6' : w1.cell? ⟨w.heap.size + 1, 0, none⟩ = some o := by rw [cell_of_row w1 _ 0 _ _ (0, 0) k1]; rfl
      have HCOMP := Lib.hid (compactU_any L' o (w.heap.size + 1 + 1) (w.heap.size + 1 + 1) w1 hrow (by omega) (Nat.le_refl _) (by omega))
      have HMEM := Lib.hid (ddU_sorted hpw L'.length (Nat.le_refl _))
      have hbw := HP.out.below.trans (hb1.mono (by omega))
      have HL := Lib.hid (ddU_len L' L'.length)
      have HK1 := Lib.hid k1
      have HK2 := Lib.hid k2
      have HBW := Lib.hid hbw
      have HPM := Lib.hid hperm
      have HLL := Lib.hid hL'
      clear hrow hbel hpw hb1 HSORT hperm hL' k1 k2 hbw c6
      go_wp2_with fail
      refine HCOMP.out.mono ?_
      rintro e w2 ⟨v2, rfl, hrow2, hb2⟩
      obtain ⟨A2, c2, rfl, hA2⟩ := owns_form hrow2
      have hSt : StartsOf most (setsL S) (ddU L' L'.length) := HN.out.starts HMEM.out.1 (fun y => (HMEM.out.2 y).trans (by rw [List.take_length]; exact HPM.out.mem_iff))
      have hCl : (ddU L' L'.length).length ≤ 2147483648 := by have := HL.out; have := HLL.out; omega
      generalize ddU L' L'.length = C at *
      have k1 := (hb2.block _ (Nat.lt_succ_self _)).trans HK1.out
      have k2 := (hb2.block w.heap.size (by omega)).trans HK2.out
      have HROW := Lib.hid hrow2
      have HST := Lib.hid hSt
      have HB2 := Lib.hid (HBW.out.trans (hb2.mono (by omega)))
      have y0 : w2.cell? ⟨w.heap.size + 1, 0, none⟩ = some o := by rw [cell_of_row w2 _ 0 _ _ (0, 0) k1]; rfl
      have y1 : w2.frozen? ⟨w.heap.size + 1, 0, none⟩ = false := frozen_of_row w2 _ 0 _ _ k1
      have y2 : w2.cell? ⟨w.heap.size, 0, none⟩ = some (.int .u32 most) := by rw [cell_of_row w2 _ 0 _ _ (0, 0) k2]; rfl
      have hsz2 := hb2.size
      clear hrow2 hSt hb2 HCOMP c6' HMEM HL HLL HPM HN HP HBW HK1 HK2 hDl
      have HW := Lib.hid (HB2.out.setCell (p := ⟨w.heap.size + 1, 0, none⟩) (by show w.heap.size ≤ w.heap.size + 1; omega) (.slice A2 C.length c2))
      have z0 : (w2.setCell ⟨w.heap.size + 1, 0, none⟩ (.slice A2 C.length c2)).cell? ⟨w.heap.size + 1, 0, none⟩ = some (.slice A2 C.length c2) := by rw [cell_of_row _ _ 0 _ _ (0, 0) (heap_set1 k1)]; rfl
      have z1 : (w2.setCell ⟨w.heap.size + 1, 0, none⟩ (.slice A2 C.length c2)).cell? ⟨w.heap.size, 0, none⟩ = some (.int .u32 most) := by rw [cell_of_row _ _ 0 _ _ (0, 0) (set_far k2 (by show w.heap.size ≠ w.heap.size + 1; omega))]; rfl
      have HR3 := Lib.hid (owns_setOff (u := .slice A2 C.length c2) (g := w.heap.size + 1) HROW.out (by omega))
      have hsz3 : w.heap.size + 1 + 1 ≤ (w2.setCell ⟨w.heap.size + 1, 0, none⟩ (.slice A2 C.length c2)).heap.size := by simp [World.setCell]; omega
      clear HROW HB2 y2 HB0 HB1 HS k1 k2
      go_upto_if 52 with fail
      clear y0 y1
      generalize w2.setCell ⟨w.heap.size + 1, 0, none⟩ (.slice A2 C.length c2) = w3 at *
      have z2 := ((below1 w3 (.cells #[.int .u32 0, .int .u32 most] 44)).cell (p := ⟨w.heap.size + 1, 0, none⟩) (by show w.heap.size + 1 < w3.heap.size; omega)).trans z0
      by_cases hbig : 65536 ≤ C.length
      · have hB : decide ((65536 : Int) < (C.length : Int) + 1) = true := decide_eq_true (by omega)
        rw [hB]
        clear hB
        go_wp2
        go_ret2
        exact ⟨_, _, C, rfl, HST.out, .inr ⟨hbig, rfl, rfl⟩, HW.out⟩
      · have hB : decide ((65536 : Int) < (C.length : Int) + 1) = false := decide_eq_false (by omega)
        rw [hB]
        clear hB
        have hown0 : (w3.alloc (.cells #[.int .u32 0, .int .u32 most] 44)).ownsRow w3.heap.size 44 2 (.slice (some ⟨w3.heap.size, 0, none⟩) 1 1) 1 (scells (pcs most 0 [])) := by
          rw [pcs_zero hm]
          exact owns_of_block (blk1 _ _) (Nat.le_refl _) (by decide) rfl rfl rfl (Nat.le_refl _)
        have HO0 := Lib.hid hown0
        have HS3 : w.heap.size < w3.heap.size := by omega
        clear hown0
        go_wp2
        clear z2
        go_loopw [12, 58] (fun v i wr => ∃ k : Nat, i = .int .i64 k ∧ k ≤ C.length ∧ wr.ownsRow w3.heap.size 44 2 v (k + 1) (scells (pcs most 0 (C.take k))) ∧ Below w3.heap.size w3 wr) (fun _ i _ => C.length - (intOf i).toNat)
        case atStart => exact ⟨0, rfl, by omega, HO0.out, below1 _ _⟩
        case round =>
          obtain ⟨k, rfl, hk, hown, hnx⟩ := hrel
          have hsz := hnx.size
          by_cases hlt : k < C.length
          · have hI : (k : Int) < (C.length : Int) := by omega
            obtain ⟨x, hx⟩ : ∃ x, C[k]? = some x := ⟨_, List.getElem?_eq_getElem hlt⟩
            obtain ⟨hx0, hx1, _⟩ := (HST.out.2 x).1 (List.mem_of_getElem? hx)
            obtain ⟨b, off, c', hv, _, hbB, hcell⟩ := ((Rd.of_own HR3.out).below hnx).pos (by omega)
            injection hv with hv1 _ hv3
            subst hv1 hv3
            have f0 : wr.cell? ⟨b, off + k, none⟩ = some (.int .u32 x) := hcell k _ (encU_at hx)
            obtain ⟨A, t, y, hAk, hp1, hy1, hy2, hp2⟩ := pcs_step hx hx0 hx1 hm.2
            subst hAk
            have HP2 := Lib.hid hp2
            rw [hp1] at hown
            obtain ⟨A3, c3, rfl, hA3⟩ := owns_form hown
            obtain ⟨g, rfl⟩ := hA3 (by omega)
            have e1 : wr.cell? ⟨g, A.length * 2 + 1, none⟩ = some (.int .u32 t.hi) := (hown.cellAt (A.length * 2 + 1) (by omega)).trans (scell (L := A ++ [t]) (k := A.length) (i := 1) (x := t) (by simp) rfl)
            have e2 := hown.frozenAt (A.length * 2 + 1)
            have hgB := (hown.lt g rfl).1
            have hwp : (x - 1) % 4294967296 = x - 1 := by omega
            have hi1 : (0 : Int) ≤ (A.length : Int) := by omega
            have hi2 : (A.length : Int) < (A.length : Int) + 1 := by omega
            have s1 := (hown.stored (A.length * 2 + 1) (.int .u32 (x - 1))).1
            rw [show (scells (A ++ [t])).set (A.length * 2 + 1) (.int .u32 (x - 1)) = scells (A ++ [y]) by rw [← hy2]; exact scells_set hy1] at s1
            have n1 := hnx.setCell (p := ⟨g, A.length * 2 + 1, none⟩) hgB (.int .u32 (x - 1))
            have z3 := (n1.cell (p := ⟨w.heap.size, 0, none⟩) HS3).trans z1
            have S1 := Lib.hid s1
            have N1 := Lib.hid n1
            clear hx hp1 hp2 hy1 hy2 hown hnx hcell s1 n1
            go_wp2_with (at_builtin; refine wpList_push rfl _ _ 36 rfl 44 i0 _ 2 8 Try.underlying36 hi hz0 hz1 hz2 rfl (by decide) (by decide) [.int .u32 x, .int .u32 most] rfl rfl (by simp) S1.out rfl (enc_one ⟨x, most, by omega, by omega⟩) (by omega) N1.out.size N1.out (Nat.le_refl _) ?_; intro v2 w4 hown2 hb2)
            refine ⟨⟨A.length + 1, by go_num, by omega, ?_, hb2⟩, by simp only [intOf]; omega⟩
            rw [HP2.out, scells_snoc (A ++ [y])]
            exact hown2
          · obtain rfl : k = C.length := by omega
            rw [List.take_length] at hown
            go_wp2
            go_ret2
            refine ⟨_, _, C, rfl, HST.out, .inl ⟨by omega, rfl, ?_⟩, HW.out.trans (hnx.mono (by omega))⟩
            rw [pcs_len]
            exact owns_base hown (by omega)
end Go.Proofs.Ythgmmajoinkblaa
