/-
  The walks of spans.Not and spans.Less.
-/
import Derived.Test.YtpljnogmfeenkaaSp4
namespace Go.Proofs.Ytpljnogmfeenkaa
open Go Go.RowKit Go.Lib Go.Sort

set_option maxRecDepth 100000 in
set_option maxHeartbeats 4000000 in
theorem not_any (L : List SpanV) (vl : Value) (most : Int) (w : World) (hl : Rd w w.heap.size 2 vl L.length (scells L)) (hlen : L.length ≤ 1099511627776) (hm : 0 ≤ most ∧ most < 4294967296) :
    Calls Try.prog 86 #[vl, .int .u32 most] w (SetRes (theSet (notP most L)) w) := by
  obtain ⟨i0, hi, hz0, hz1, hz2⟩ := info_parts Try.infoSpan
  have hF := formOf_ok L
  have hFl := formOf_len L
  have hE := Lib.hid (theSet_not hm L)
  generalize hFF : formOf L = F at *
  have HFF := Lib.hid hFF
  clear hFF
  go_enter Try.func86, Try.ntmps86
  go_wp2_with fail
  refine (form_any L vl w hl hlen).mono ?_
  rintro e w1 ⟨v1, rfl, hown1, hb1⟩
  rw [HFF.out] at hown1
  have rd1 := Rd.of_own hown1
  obtain ⟨A1, c1, rfl, hc1⟩ := rd1.form
  have HR := Lib.hid rd1
  clear rd1 hown1
  go_wp2_with fail
  go_loopw [5, 6, 12] (fun v at' i wr => ∃ j : Nat, i = .int .i64 j ∧ j ≤ F.length ∧ at' = .int .u64 (natAt (F.take j)) ∧ wr.ownsRow w1.heap.size 37 2 v (notTo most F j).length (scells (notTo most F j)) ∧ Below w1.heap.size w1 wr) (fun _ _ i _ => F.length - (intOf i).toNat)
  case atStart => exact ⟨0, rfl, by omega, rfl, World.ownsRow_nil _ _ _ _, Below.refl _ _⟩
  case round =>
    obtain ⟨j, rfl, hj, rfl, hown, hnx⟩ := hrel
    have hat := natAt_range (F := F.take j)
    have hnl := notTo_len most F j
    have hsz := hnx.size
    have hsz1 := hb1.size
    by_cases hlt : j < F.length
    · have hI : (j : Int) < (F.length : Int) := by omega
      obtain ⟨s, hs⟩ : ∃ s, F[j]? = some s := ⟨_, List.getElem?_eq_getElem hlt⟩
      obtain ⟨b, off, c', hv, _, hbB, hcell⟩ := (HR.out.below hnx).posAt (by omega)
      injection hv with hv1 _ hv3
      subst hv1 hv3
      have f0 : wr.cell? ⟨b, off + j * 2, none⟩ = some (.int .u32 s.lo) := hcell j 0 _ (scell hs rfl)
      have f1 : wr.cell? ⟨b, off + j * 2 + 1, none⟩ = some (.int .u32 s.hi) := hcell j 1 _ (scell hs rfl)
      have hlo := s.hlo
      have hhi := s.hhi
      clear hcell
      have hstep := notTo_succ (most := most) hs
      have hstep2 := natAt_succ hs
      have hal := hF.1.at_le hs
      have hsv := hF.1.ok s (List.mem_of_getElem? hs)
      have HS1 := Lib.hid hstep
      have HS2 := Lib.hid hstep2
      clear hstep hstep2 hs
      generalize natAt (F.take j) = at0 at *
      generalize notTo most F j = O at *
      by_cases hg1 : at0 < s.lo
      · by_cases hg2 : at0 ≤ most
        · have hgap : ∃ x, gapOf at0 most s = [x] ∧ x.enc = [.int .u32 at0, .int .u32 (min (s.lo - 1) most)] := by
            unfold gapOf
            rw [dif_pos ⟨hat.1, hg1, hg2, hm.2⟩]
            exact ⟨_, rfl, rfl⟩
          have HGAP := Lib.hid hgap
          clear hgap
          have w1e : at0 % 4294967296 = at0 := by omega
          have w2e : (s.lo - 1) % 4294967296 = s.lo - 1 := by omega
          have hoff : ∀ g, u5.ownBlock = some g → g < wr.heap.size := fun g hg => (hown.lt g hg).2
          go_wp2_with (at_builtin; refine wpList_push2 (v := u5) rfl _ _ 79 rfl 37 i0 _ 2 8 Try.underlying79 hi hz0 hz1 hz2 rfl (by decide) (by decide) [.int .u32 at0, .int .u32 (min (s.lo - 1) most)] rfl rfl (by simp) (hown.alloc (.cells #[.int .u32 s.lo, .int .u32 s.hi] 37)) rfl (enc_one ⟨at0, min (s.lo - 1) most, by omega, by omega⟩) (by omega) (by simp; omega) ?_; intro v2 w2 hown2 hgr _; have kb2 : w2.heap[wr.heap.size]? = some (.cells #[.int .u32 s.lo, .int .u32 s.hi] 37 (0, 0)) := (hgr.block wr.heap.size (by simp) (fun hh => by have := hoff _ hh.symm; omega)).trans (blk1 wr _); obtain ⟨y0, y1, _, _⟩ := two_cells kb2)
          have hb2 := below_row (hnx.alloc hsz (.cells #[.int .u32 s.lo, .int .u32 s.hi] 37)) (hown.alloc (.cells #[.int .u32 s.lo, .int .u32 s.hi] 37)) hgr (by simp; omega) (Nat.le_refl _)
          refine ⟨⟨j + 1, by go_num, by omega, by rw [HS2.out], ?_, hb2⟩, by simp only [intOf]; omega⟩
          obtain ⟨x, hx, hxe⟩ := HGAP.out
          rw [HS1.out, hx, scells_snoc, List.length_append, hxe]
          exact hown2
        · have HGAP : Hid (gapOf at0 most s = []) := by
            show gapOf at0 most s = []
            unfold gapOf
            rw [dif_neg (by omega)]
          go_wp2
          refine ⟨⟨j + 1, by go_num, by omega, by rw [HS2.out], by rw [HS1.out, HGAP.out, List.append_nil]; exact hown.alloc _, hnx.alloc hsz _⟩, by simp only [intOf]; omega⟩
      · have HGAP : Hid (gapOf at0 most s = []) := by
          show gapOf at0 most s = []
          unfold gapOf
          rw [dif_neg (by omega)]
        go_wp2
        refine ⟨⟨j + 1, by go_num, by omega, by rw [HS2.out], by rw [HS1.out, HGAP.out, List.append_nil]; exact hown.alloc _, hnx.alloc hsz _⟩, by simp only [intOf]; omega⟩
    · obtain rfl : j = F.length := by omega
      rw [List.take_length] at hat ⊢
      have hall : notAll most F = notTo most F F.length ++ lastOf (natAt F) most := rfl
      have HALL := Lib.hid hall
      clear hall
      generalize notTo most F F.length = O at *
      generalize natAt F = at0 at *
      have hbw : Below w.heap.size w wr := hb1.trans (hnx.mono hsz1)
      by_cases hg2 : at0 ≤ most
      · have hgap : ∃ x, lastOf at0 most = [x] ∧ x.enc = [.int .u32 at0, .int .u32 most] := by
          unfold lastOf
          rw [dif_pos ⟨hat.1, hg2, hm.2⟩]
          exact ⟨_, rfl, rfl⟩
        have HGAP := Lib.hid hgap
        clear hgap
        have w1e : at0 % 4294967296 = at0 := by omega
        go_wp2_with (at_builtin; refine wpList_push rfl _ _ 79 rfl 37 i0 _ 2 8 Try.underlying79 hi hz0 hz1 hz2 rfl (by decide) (by decide) [.int .u32 at0, .int .u32 most] rfl rfl (by simp) hown rfl (enc_one ⟨at0, most, by omega, by omega⟩) (by omega) (by omega) (Below.refl w1.heap.size wr) (Nat.le_refl _) ?_; intro v2 w2 hown2 hb2)
        go_ret
        obtain ⟨x, hx, hxe⟩ := HGAP.out
        unfold SetRes
        rw [hE.out, HALL.out, hx, scells_snoc, List.length_append, hxe]
        exact ⟨_, rfl, owns_base hown2 hsz1, hbw.trans (hb2.mono hsz1)⟩
      · have HGAP : Hid (lastOf at0 most = []) := by
          show lastOf at0 most = []
          unfold lastOf
          rw [dif_neg (by omega)]
        go_wp2
        go_ret
        unfold SetRes
        rw [hE.out, HALL.out, HGAP.out, List.append_nil]
        exact ⟨_, rfl, owns_base hown hsz1, hbw⟩

theorem lessP (L M : List SpanV) : theSet (fun x => hasB L x && hasB (theSet (notP 4294967295 M)) x) = theSet (fun x => hasB L x && !hasB M x) := by
  congr 1
  funext x
  have h := (notAll_ok (formOf_ok M).1 (most := 4294967295) (by omega)).2 x
  rw [theSet_not (by omega), h, notP_form]
  unfold notP
  cases hx : hasB L x with
  | false => rfl
  | true =>
    obtain ⟨s, _, h1, h2⟩ := hasB_iff.1 hx
    have := s.hlo
    have := s.hhi
    have e1 : 0 ≤ x := by omega
    have e2 : x ≤ 4294967295 := by omega
    simp [e1, e2]
theorem not_len {most : Int} (hm : 0 ≤ most ∧ most < 4294967296) (L : List SpanV) : (theSet (notP most L)).length ≤ L.length + 1 := by
  rw [theSet_not hm]
  unfold notAll
  have h1 := notTo_len most (formOf L) (formOf L).length
  have h2 := formOf_len L
  have h3 : (lastOf (natAt (formOf L)) most).length ≤ 1 := by unfold lastOf; split <;> simp
  rw [List.length_append]; omega

set_option maxRecDepth 100000 in
set_option maxHeartbeats 4000000 in
theorem less_any (L M : List SpanV) (vl vm : Value) (w : World) (hl : Rd w w.heap.size 2 vl L.length (scells L)) (hm : Rd w w.heap.size 2 vm M.length (scells M)) (hlen : L.length ≤ 1048576) (hlen2 : M.length ≤ 1048574) :
    Calls Try.prog 85 #[vl, vm] w (SetRes (theSet (fun x => hasB L x && !hasB M x)) w) := by
  have hnl := not_len (most := 4294967295) (by omega) M
  have HLP := Lib.hid (lessP L M)
  have HL := Lib.hid hl
  clear hl
  go_enter Try.func85, Try.ntmps85
  go_wp2_with fail
  refine (not_any M vm 4294967295 w hm (by omega) (by omega)).mono ?_
  rintro e w1 ⟨v1, rfl, hown1, hb1⟩
  go_wp2_with fail
  refine (and_any L _ vl v1 w1 ((HL.out.below hb1).mono hb1.size) (Rd.of_own hown1) hlen (by omega)).mono ?_
  rintro e w2 ⟨v2, rfl, hown2, hb2⟩
  rw [HLP.out] at hown2
  have hsz := hb1.size
  go_wp2
  go_ret
  exact ⟨_, rfl, owns_base hown2 hsz, hb1.trans (hb2.mono hsz)⟩

end Go.Proofs.Ytpljnogmfeenkaa
