/-
  The walk of spans.And.
-/
import Derived.Test.YtpljnogmfeenkaaSp3
import Derived.Test.YtpljnogmfeenkaaKit4
namespace Go.Proofs.Ytpljnogmfeenkaa
open Go Go.RowKit Go.Lib Go.Sort

theorem meet1_yes {s t : SpanV} (h : max s.lo t.lo ≤ min s.hi t.hi) : ∃ x : SpanV, meet1 s t = [x] ∧ x.lo = max s.lo t.lo ∧ x.hi = min s.hi t.hi := by
  unfold meet1
  rw [if_pos h]
  exact ⟨_, rfl, rfl, rfl⟩
theorem meet1_no {s t : SpanV} (h : ¬ max s.lo t.lo ≤ min s.hi t.hi) : meet1 s t = [] := by
  unfold meet1
  rw [if_neg h]

set_option maxRecDepth 100000 in
set_option maxHeartbeats 4000000 in
theorem and_any (L M : List SpanV) (vl vm : Value) (w : World) (hl : Rd w w.heap.size 2 vl L.length (scells L)) (hm : Rd w w.heap.size 2 vm M.length (scells M)) (hlen : L.length ≤ 1048576) (hlen2 : M.length ≤ 1048575) :
    Calls Try.prog 84 #[vl, vm] w (SetRes (theSet (fun x => hasB L x && hasB M x)) w) := by
  obtain ⟨i0, hi, hz0, hz1, hz2⟩ := info_parts Try.infoSpan
  have hF := formOf_ok L
  have hFl := formOf_len L
  have hG := formOf_ok M
  have hGl := formOf_len M
  have hE : theSet (fun x => hasB L x && hasB M x) = formOf (meetAll (formOf L) (formOf M)) := theSet_form (fun x => by rw [hasB_meetAll, hF.2, hG.2])
  have HE := Lib.hid hE
  clear hE
  generalize hFF : formOf L = F at *
  generalize hGG : formOf M = G at *
  have hbig : ∀ j, j ≤ F.length → (meetAll (F.take j) G).length ≤ 1048576 * 1048575 := fun j hj => by
    have h1 := meetAll_len (F.take j) G
    have h2 : (F.take j).length ≤ 1048576 := by simp; omega
    exact Nat.le_trans h1 (Nat.mul_le_mul h2 (by omega))
  have HBIG := Lib.hid hbig
  have HFF := Lib.hid hFF
  have HGG := Lib.hid hGG
  clear hFF hGG hbig hF hG
  have HM := Lib.hid hm
  clear hm
  go_enter Try.func84, Try.ntmps84
  go_wp2_with fail
  refine (form_any L vl w hl (by omega)).mono ?_
  rintro e w1 ⟨v1, rfl, hown1, hb1⟩
  rw [HFF.out] at hown1
  have rd1 := Rd.of_own hown1
  obtain ⟨A1, c1, rfl, hc1⟩ := rd1.form
  have HR := Lib.hid rd1
  have HB1 := Lib.hid hb1
  have hsz1 := hb1.size
  clear rd1 hown1 hb1 hl
  go_wp2_with fail
  go_loopw [5, 14] (fun v i wr => ∃ j : Nat, i = .int .i64 j ∧ j ≤ F.length ∧ wr.ownsRow w1.heap.size 37 2 v (meetAll (F.take j) G).length (scells (meetAll (F.take j) G)) ∧ Below w1.heap.size w1 wr) (fun _ i _ => F.length - (intOf i).toNat)
  case atStart => exact ⟨0, rfl, by omega, World.ownsRow_nil _ _ _ _, Below.refl _ _⟩
  case round =>
    obtain ⟨j, rfl, hj, hown, hnx⟩ := hrel
    have hsz := hnx.size
    have hbj := HBIG.out j hj
    by_cases hlt : j < F.length
    · have hI : (j : Int) < (F.length : Int) := by omega
      obtain ⟨s, hs⟩ : ∃ s, F[j]? = some s := ⟨_, List.getElem?_eq_getElem hlt⟩
      obtain ⟨b, off, c', hv, _, hbB, hcell⟩ := (HR.out.below hnx).posAt (by omega)
      injection hv with hv1 _ hv3
      subst hv1 hv3
      have f0 : wr.cell? ⟨b, off + j * 2, none⟩ = some (.int .u32 s.lo) := hcell j 0 _ (scell hs rfl)
      have f1 : wr.cell? ⟨b, off + j * 2 + 1, none⟩ = some (.int .u32 s.hi) := hcell j 1 _ (scell hs rfl)
      have HSTEP := Lib.hid (meetAll_succ (B := G) hs)
      clear hcell hs
      generalize meetAll (F.take j) G = O at *
      have hbw : Below w.heap.size w (wr.alloc (.cells #[.int .u32 s.lo, .int .u32 s.hi] 37)) := (HB1.out.trans (hnx.mono hsz1)).alloc (by omega) _
      have hm0 : Rd (wr.alloc (.cells #[.int .u32 s.lo, .int .u32 s.hi] 37)) (wr.alloc (.cells #[.int .u32 s.lo, .int .u32 s.hi] 37)).heap.size 2 vm M.length (scells M) := (HM.out.below hbw).mono hbw.size
      have HB := Lib.hid (blk1 wr (.cells #[.int .u32 s.lo, .int .u32 s.hi] 37))
      have hownA := hown.alloc (.cells #[.int .u32 s.lo, .int .u32 s.hi] 37)
      have hnxA := hnx.alloc hsz (.cells #[.int .u32 s.lo, .int .u32 s.hi] 37)
      have hszA : (wr.alloc (.cells #[.int .u32 s.lo, .int .u32 s.hi] 37)).heap.size = wr.heap.size + 1 := by simp
      have hoff : ∀ g, u5.ownBlock = some g → g < wr.heap.size := fun g hg => (hown.lt g hg).2
      have HOFF := Lib.hid hoff
      have HO := Lib.hid hownA
      have HN := Lib.hid hnxA
      clear hown hnx hownA hnxA hbw hoff
      go_wp2_with fail
      refine (form_any M vm _ hm0 (by omega)).mono ?_
      rintro e w2 ⟨v2, rfl, hown2, hb2⟩
      rw [HGG.out] at hown2
      have own1 := owns_kept_none HO.out (only_of_below hb2 none)
      have hsz2 := hb2.size
      rw [hszA] at hsz2
      have nx1 : Below w1.heap.size w1 w2 := HN.out.trans (hb2.mono (by rw [hszA]; omega))
      have kb := blk_below hb2 HB.out
      have hform := owns_form hown2
      obtain ⟨A2, c2, rfl, hA2⟩ := hform
      have hoff2 : Off u5 wr.heap.size w2.heap.size := fun g hg => .inl (HOFF.out g hg)
      have hg2 : ∀ k t, G[k]? = some t → ∃ g2, A2 = some ⟨g2, 0, none⟩ ∧ wr.heap.size ≤ g2 ∧ g2 < w2.heap.size ∧ w2.cell? ⟨g2, k * 2, none⟩ = some (.int .u32 t.lo) ∧ w2.cell? ⟨g2, k * 2 + 1, none⟩ = some (.int .u32 t.hi) := by
        intro k t hk
        have hkl := (List.getElem?_eq_some_iff.1 hk).1
        obtain ⟨g2, rfl⟩ := hA2 (by omega)
        have h1 := hown2.lt g2 rfl
        rw [hszA] at h1
        exact ⟨g2, rfl, by omega, h1.2, (hown2.cellAt (k * 2) (by omega)).trans (by have := scell (i := 0) hk rfl; simpa using this), (hown2.cellAt (k * 2 + 1) (by omega)).trans (scell (i := 1) hk rfl)⟩
      have HG2 := Lib.hid hg2
      have KB := Lib.hid kb
      clear hown2 hb2 hg2 HO HN HB hm0 HOFF kb hA2 f0 f1
      generalize wr.heap.size = p0 at *
      go_wp2_with fail
      go_loopw [5, 21] (fun v i wx => ∃ k : Nat, i = .int .i64 k ∧ k ≤ G.length ∧ wx.ownsRow w1.heap.size 37 2 v (O ++ meetRow s (G.take k)).length (scells (O ++ meetRow s (G.take k))) ∧ Off v p0 w2.heap.size ∧ Seg p0 w2.heap.size w2 wx ∧ Below w1.heap.size w1 wx ∧ w2.heap.size ≤ wx.heap.size) (fun _ i _ => G.length - (intOf i).toNat)
      case atStart => exact ⟨0, rfl, by omega, by simpa [meetRow] using own1, hoff2, Seg.refl _ _ _, nx1, Nat.le_refl _⟩
      case round =>
        obtain ⟨k, rfl, hk, hown, hoff, hseg, hnx, hszx⟩ := hrel
        have hml := meetRow_len s (G.take k)
        have hmk : (G.take k).length ≤ k := by simp; omega
        by_cases hlt2 : k < G.length
        · have hI2 : (k : Int) < (G.length : Int) := by omega
          obtain ⟨t, ht⟩ : ∃ t, G[k]? = some t := ⟨_, List.getElem?_eq_getElem hlt2⟩
          obtain ⟨g2, rfl, hg1, hg2, e0, e1⟩ := HG2.out k t ht
          have HST2 := Lib.hid (meetRow_succ (s := s) ht)
          clear ht
          have d0 : wr.cell? ⟨g2, k * 2, none⟩ = some (.int .u32 t.lo) := (World.cell?_of_block (a := ⟨g2, k * 2, none⟩) (hseg g2 hg1 hg2)).trans e0
          have d1 : wr.cell? ⟨g2, k * 2 + 1, none⟩ = some (.int .u32 t.hi) := (World.cell?_of_block (a := ⟨g2, k * 2 + 1, none⟩) (hseg g2 hg1 hg2)).trans e1
          have kb2 : wr.heap[p0]? = some _ := (hseg p0 (Nat.le_refl _) (by omega)).trans KB.out
          obtain ⟨s0, s1, _, _⟩ := two_cells (blk_below (below1 wr (.cells #[.int .u32 t.lo, .int .u32 t.hi] 37)) kb2)
          generalize meetRow s (G.take k) = O2 at *
          have hl3 : (O ++ O2).length ≤ 1099511627776 := by rw [List.length_append]; omega
          have hsz3 := hnx.size
          clear e0 e1 kb2
          by_cases hmt : max s.lo t.lo ≤ min s.hi t.hi
          · obtain ⟨x, hx1, hx2, hx3⟩ := meet1_yes hmt
            have HX := Lib.hid (And.intro hx1 (And.intro hx2 hx3))
            have HMT := Lib.hid hmt
            have hd : decide (max s.lo t.lo ≤ min s.hi t.hi) = true := by simpa using hmt
            clear hx1 hx2 hx3 hmt
            go_wp2_with (at_builtin; refine wpList_push2 (v := u5) rfl _ _ 79 rfl 37 i0 _ 2 8 Try.underlying79 hi hz0 hz1 hz2 rfl (by decide) (by decide) [.int .u32 (max s.lo t.lo), .int .u32 (min s.hi t.hi)] rfl rfl (by simp) ((hown.alloc _).alloc _) rfl (enc_one ⟨_, _, by have := s.hlo; have := t.hlo; omega, by have := s.hhi; have := t.hhi; omega⟩) hl3 (by simp; omega) ?_; intro v2 w3 hown3 hgr hmv)
            have hex : x.enc = [.int .u32 (max s.lo t.lo), .int .u32 (min s.hi t.hi)] := by unfold SpanV.enc; rw [HX.out.2.1, HX.out.2.2]
            refine ⟨⟨k + 1, by go_num, by omega, ?_, hoff.moved hmv (by simp; omega), ((hseg.alloc hszx _).alloc (by simp; omega) _).grown hgr hoff (by simp; omega), below_row ((hnx.alloc hsz3 _).alloc (by simp; omega) _) ((hown.alloc _).alloc _) hgr (by simp; omega) (Nat.le_refl _), by have := hgr.size; simp at this; omega⟩, by simp only [intOf]; omega⟩
            rw [HST2.out, HX.out.1, ← List.append_assoc, scells_snoc, List.length_append, hex]
            exact hown3
          · have hd : decide (max s.lo t.lo ≤ min s.hi t.hi) = false := by simpa using hmt
            have HMT := Lib.hid (meet1_no hmt)
            clear hmt
            go_wp2
            exact ⟨⟨k + 1, by go_num, by omega, by rw [HST2.out, HMT.out, List.append_nil]; exact (hown.alloc _).alloc _, hoff, (hseg.alloc hszx _).alloc (by simp; omega) _, (hnx.alloc hsz3 _).alloc (by simp; omega) _, by simp; omega⟩, by simp only [intOf]; omega⟩
        · obtain rfl : k = G.length := by omega
          rw [List.take_length] at hown
          go_wp2
          exact ⟨⟨j + 1, by go_num, by omega, by rw [HSTEP.out]; exact hown, hnx⟩, by simp only [intOf]; omega⟩
    · obtain rfl : j = F.length := by omega
      rw [List.take_length] at hown hbj
      go_wp2_with fail
      refine (form_any (meetAll F G) _ _ (Rd.of_own hown) (by omega)).mono ?_
      rintro e w3 ⟨v3, rfl, hown3, hb3⟩
      go_wp2
      go_ret
      unfold SetRes
      rw [HE.out]
      exact ⟨_, rfl, owns_base hown3 (by omega), (HB1.out.trans (hnx.mono hsz1)).trans (hb3.mono (by omega))⟩

end Go.Proofs.Ytpljnogmfeenkaa
