/-
  The walk of the document's made, and of its five callers.
-/
import Derived.Test.YtcemiokdpmgonaaSp8
namespace Go.Proofs.Ytcemiokdpmgonaa
open Go Go.RowKit Go.Lib Go.Sort

set_option maxRecDepth 100000 in
set_option maxHeartbeats 4000000 in
theorem made_any (most how : Int) (L M : List SpanV) (vl vm : Value) (w : World) (hl : Rd w w.heap.size 2 vl L.length (scells L)) (hm : Rd w w.heap.size 2 vm M.length (scells M)) (hmost : 0 ≤ most ∧ most < 4294967296) (hlen : L.length ≤ 268435456) (hlen2 : M.length ≤ 268435456) :
    Calls Try.prog 12 #[.int .u32 most, vl, vm, .int .i64 how] w (SetRes (theSet (soP how most L M)) w) := by
  obtain ⟨i0, hi, hz0, hz1, hz2⟩ := info_parts Try.infoSpan
  obtain ⟨Al, cl, rfl, _⟩ := hl.form
  obtain ⟨Am, cm, rfl, _⟩ := hm.form
  have hA : allS [⟨.slice Al L.length cl, L⟩, ⟨.slice Am M.length cm, M⟩] = L ++ M := by simp [allS]
  have hsets : SetsAt (w.alloc (.cells #[.slice Al L.length cl, .slice Am M.length cm] 22)) (w.alloc (.cells #[.slice Al L.length cl, .slice Am M.length cm] 22)).heap.size (.slice (some ⟨w.heap.size, 0, none⟩) 2 2) [⟨.slice Al L.length cl, L⟩, ⟨.slice Am M.length cm, M⟩] := by
    refine ⟨Rd.of_blk (cs := #[.slice Al L.length cl, .slice Am M.length cm]) (blk1 w _) (by decide) rfl, fun x hx => ?_⟩
    simp at hx
    rcases hx with rfl | rfl
    · exact (hl.below (below1 w _)).mono (by simp)
    · exact (hm.below (below1 w _)).mono (by simp)
  have hcuts := cuts_any most [⟨.slice Al L.length cl, L⟩, ⟨.slice Am M.length cm, M⟩] _ _ hsets hmost (by rw [hA, List.length_append]; omega) (by simp)
  rw [hA] at hcuts
  have HC := Lib.hid hcuts
  have HL := Lib.hid hl
  have HM := Lib.hid hm
  clear hcuts hsets hl hm hA
  go_enter Try.func12, Try.ntmps12
  go_wp2_with fail
  refine HC.out.mono ?_
  rintro e w1 ⟨v1, C, rfl, hown1, hcut, hCl, hb1⟩
  have rd1 := Rd.of_own hown1
  obtain ⟨A1, c1, rfl, hc1⟩ := rd1.form
  have hb0 : Below w.heap.size w w1 := (below1 w _).trans (hb1.mono (by simp))
  have hsz1 := hb0.size
  rw [List.length_append] at hCl
  have HR := Lib.hid rd1
  have HB := Lib.hid hb0
  have HK := Lib.hid hcut
  clear rd1 hown1 hb1 hcut hb0 HC
  go_wp2_with fail
  go_loopw [9, 11] (fun v i wr => ∃ (j : Nat) (O : List SpanV), i = .int .i64 j ∧ j ≤ C.length ∧ O.length ≤ j ∧ MadeTo how most L M C j O ∧ wr.ownsRow w1.heap.size 30 2 v O.length (scells O) ∧ Below w1.heap.size w1 wr) (fun _ i _ => C.length - (intOf i).toNat)
  case atStart => exact ⟨0, [], rfl, by omega, by simp, MadeTo.zero HK.out, World.ownsRow_nil _ _ _ _, Below.refl _ _⟩
  case round =>
    obtain ⟨j, O, rfl, hj, hOl, hO, hown, hnx⟩ := hrel
    have hsz := hnx.size
    by_cases hlt : j < C.length
    · have hI : (j : Int) < (C.length : Int) := by omega
      obtain ⟨c, hc⟩ : ∃ c, C[j]? = some c := ⟨_, List.getElem?_eq_getElem hlt⟩
      obtain ⟨b, off, c', hv, _, hbB, hcell⟩ := (HR.out.below hnx).pos (by omega)
      injection hv with hv1 _ hv3
      subst hv1 hv3
      have f0 : wr.cell? ⟨b, off + j, none⟩ = some (.int .u32 c) := hcell j _ (encU_at hc)
      have hf1 : ∀ y, C[j + 1]? = some y → wr.cell? ⟨b, off + (j + 1), none⟩ = some (.int .u32 y) := fun y hy => hcell _ _ (encU_at hy)
      have hc0 := HK.out.2.1 c (List.mem_of_getElem? hc)
      have hbw : Below w.heap.size w wr := HB.out.trans (hnx.mono hsz1)
      have hso := so_any L M (.slice Al L.length cl) (.slice Am M.length cm) c how wr ((HL.out.below hbw).mono (by omega)) ((HM.out.below hbw).mono (by omega)) (by omega) (by omega)
      have HSO := Lib.hid hso
      have HCJ := Lib.hid hc
      have HF1 := Lib.hid hf1
      clear hso hc hf1 hcell
      have HO := Lib.hid hO
      clear hO
      go_wp2_with fail
      refine HSO.out.mono ?_
      rintro e w2 ⟨rfl, rfl⟩
      cases hs : soB how L M c with
      | false =>
        have HS := Lib.hid hs
        clear hs
        go_wp2
        exact ⟨⟨j + 1, O, by go_num, by omega, by omega, HO.out.skip hmost.1 HK.out HCJ.out HS.out, hown, hnx⟩, by simp only [intOf]; omega⟩
      | true =>
        have HS := Lib.hid hs
        clear hs
        have hend := HK.out.lt_end hmost.1 HCJ.out
        have hem : cutEnd most C (j + 1) ≤ most + 1 := by
          unfold cutEnd
          cases hn : C[j + 1]? with
          | none => exact Int.le_refl _
          | some y => have := HK.out.le hmost.1 (List.mem_of_getElem? hn); show y ≤ most + 1; omega
        go_upto_if 39 with fail
        go_cut [12] (fun s12 wx => wx = wr ∧ s12 = .int .u32 (cutEnd most C (j + 1) - 1))
        case first =>
          by_cases hl2 : j + 1 < C.length
          · obtain ⟨y, hy⟩ : ∃ y, C[j + 1]? = some y := ⟨_, List.getElem?_eq_getElem hl2⟩
            have f1 := HF1.out y hy
            have e1 : cutEnd most C (j + 1) = y := by unfold cutEnd; rw [hy]
            rw [e1] at hend hem
            have E1 := Lib.hid e1
            have hI3 : (j : Int) + 1 < (C.length : Int) := by omega
            have he : (y - 1) % 4294967296 = y - 1 := by omega
            clear hy e1
            go_wp2
            go_meet
            exact ⟨rfl, by rw [E1.out]⟩
          · have e1 : cutEnd most C (j + 1) = most + 1 := by unfold cutEnd; rw [List.getElem?_eq_none (by omega)]
            have E1 := Lib.hid e1
            have hI3 : ¬ (j : Int) + 1 < (C.length : Int) := by omega
            clear e1
            go_wp2
            go_meet
            exact ⟨rfl, by rw [E1.out]; congr 1; omega⟩
        case rest =>
          obtain ⟨rfl, rfl⟩ := hcut
          have HOWN := Lib.hid hown
          have HNX := Lib.hid hnx
          have hOh := HO.out.2.1
          have e0 : cutEnd most C j = c := by unfold cutEnd; rw [HCJ.out]
          rw [e0] at hOh
          clear e0
          have hE : ∃ E, E = cutEnd most C (j + 1) := ⟨_, rfl⟩
          obtain ⟨E, hE⟩ := hE
          rw [← hE] at hend hem
          have HE := Lib.hid hE
          rw [← hE]
          clear hE
          have F0 := cell_regrown f0
          rcases snoc_cases O with rfl | ⟨A, t, rfl⟩
          · obtain ⟨A3, c3, rfl, _⟩ := owns_form hown
            clear hown hnx hOh
            go_wp2
            refine wp_region_quiet_below (by kernel_rfl) (by kernel_rfl) ?_
            repeat (first | go_big_quiet_step (fail) | quiet_step (fail))
            refine wpQuiet_nil ?_
            intro _ hw'
            obtain ⟨⟨nq, osq⟩, hw''⟩ := hw'
            subst hw''
            have hq := below_regrown wc nq osq
            have own1 := owns_kept_none HOWN.out (only_of_below hq none)
            have nx1 := HNX.out.trans (hq.mono hsz)
            have sz1 := nx1.size
            have g0 := (hq.cell (p := ⟨b, off + j, none⟩) (by show b < _; omega)).trans f0
            clear F0 HOWN HNX f0
            generalize grow (redrawn wc nq) osq = W1 at *
            clear hq
            go_wp2_with (at_builtin; refine wpList_push rfl _ _ 22 rfl 30 i0 _ 2 8 Try.underlying22 hi hz0 hz1 hz2 rfl (by decide) (by decide) [.int .u32 c, .int .u32 (E - 1)] rfl rfl (by simp) own1 rfl (enc_one ⟨c, E - 1, by omega, by omega⟩) (by simp) (by omega) nx1 (Nat.le_refl _) ?_; intro v2 w2 hown2 hb2)
            refine ⟨⟨j + 1, [⟨c, E - 1, by omega, by omega⟩], by go_num, by omega, by simp, ?_, hown2, hb2⟩, by simp only [intOf]; omega⟩
            exact HO.out.new hmost.1 HK.out HCJ.out HS.out _ rfl (by rw [← HE.out]) (fun t ht => by simp at ht)
          · have hl1 : (A ++ [t]).length = A.length + 1 := by simp
            rw [hl1] at hown hOl
            have hthi := hOh t (List.mem_append_right _ (List.mem_singleton.2 rfl))
            have htb := t.hhi
            clear hOh
            obtain ⟨A3, c3, rfl, hA3⟩ := owns_form hown
            obtain ⟨g, rfl⟩ := hA3 (by omega)
            have e1 : wc.cell? ⟨g, A.length * 2 + 1, none⟩ = some (.int .u32 t.hi) := (hown.cellAt (A.length * 2 + 1) (by omega)).trans (scell (L := A ++ [t]) (k := A.length) (i := 1) (x := t) (by simp) rfl)
            have F1 := cell_regrown e1
            have hwp : (t.hi + 1) % 4294967296 = t.hi + 1 := by omega
            have hi1 : (0 : Int) ≤ (A.length : Int) := by omega
            have hi2 : (A.length : Int) < (A.length : Int) + 1 := by omega
            have HOWN : Hid (wc.ownsRow w1.heap.size 30 2 (.slice (some ⟨g, 0, none⟩) (A.length + 1) c3) (A.length + 1) (scells (A ++ [t]))) := hown
            clear hown hnx
            by_cases hme : t.hi + 1 = c
            · have hb1 : (t.hi + 1 == c) = true := by simp [hme]
              have hb2 : decide (0 < c) = true := by simp; omega
              have HME := Lib.hid hme
              clear hme
              go_wp2
              refine wp_region_quiet_below (by kernel_rfl) (by kernel_rfl) ?_
              repeat (first | go_big_quiet_step (fail) | quiet_step (fail))
              refine wpQuiet_nil ?_
              intro _ hw'
              obtain ⟨⟨nq, osq⟩, hw''⟩ := hw'
              subst hw''
              have hq := below_regrown wc nq osq
              have own1 := owns_kept_none HOWN.out (only_of_below hq none)
              have nx1 := HNX.out.trans (hq.mono hsz)
              have sz1 := nx1.size
              have g0 := (hq.cell (p := ⟨b, off + j, none⟩) (by show b < _; omega)).trans f0
              clear F0 HOWN HNX f0
              generalize grow (redrawn wc nq) osq = W1 at *
              clear hq
              have z1 : W1.cell? ⟨g, A.length * 2 + 1, none⟩ = some (.int .u32 t.hi) := (own1.cellAt (A.length * 2 + 1) (by omega)).trans (scell (L := A ++ [t]) (k := A.length) (i := 1) (x := t) (by simp) rfl)
              have z2 := own1.frozenAt (A.length * 2 + 1)
              have hgB := (own1.lt g rfl).1
              clear e1 F1 hwp hb1 hb2
              go_wp2
              have s1 := (own1.stored (A.length * 2 + 1) (.int .u32 (E - 1))).1
              have hEr : 0 ≤ E - 1 ∧ E - 1 < 4294967296 := by omega
              rw [show (scells (A ++ [t])).set (A.length * 2 + 1) (.int .u32 (E - 1)) = scells (A ++ [⟨t.lo, E - 1, t.hlo, hEr⟩]) from scells_set (A := A) (t := t) (y := ⟨t.lo, E - 1, t.hlo, hEr⟩) rfl] at s1
              refine ⟨⟨j + 1, A ++ [⟨t.lo, E - 1, t.hlo, hEr⟩], by go_num, by omega, by simp; omega, ?_, by rw [List.length_append]; exact s1, nx1.setCell (p := ⟨g, A.length * 2 + 1, none⟩) hgB _⟩, by simp only [intOf]; omega⟩
              exact HO.out.more hmost.1 HK.out HCJ.out HS.out _ rfl (by rw [← HE.out]) HME.out
            · have hb1 : (t.hi + 1 == c) = false := by simp [hme]
              have HME := Lib.hid hme
              clear hme
              go_wp2
              refine wp_region_quiet_below (by kernel_rfl) (by kernel_rfl) ?_
              repeat (first | go_big_quiet_step (fail) | quiet_step (fail))
              refine wpQuiet_nil ?_
              intro _ hw'
              obtain ⟨⟨nq, osq⟩, hw''⟩ := hw'
              subst hw''
              have hq := below_regrown wc nq osq
              have own1 := owns_kept_none HOWN.out (only_of_below hq none)
              have nx1 := HNX.out.trans (hq.mono hsz)
              have sz1 := nx1.size
              have g0 := (hq.cell (p := ⟨b, off + j, none⟩) (by show b < _; omega)).trans f0
              clear F0 HOWN HNX f0
              generalize grow (redrawn wc nq) osq = W1 at *
              clear hq
              clear e1 F1 hwp hb1
              go_wp2_with (at_builtin; refine wpList_push rfl _ _ 22 rfl 30 i0 _ 2 8 Try.underlying22 hi hz0 hz1 hz2 rfl (by decide) (by decide) [.int .u32 c, .int .u32 (E - 1)] rfl rfl (by simp) own1 rfl (enc_one ⟨c, E - 1, by omega, by omega⟩) (by omega) (by omega) nx1 (Nat.le_refl _) ?_; intro v2 w2 hown2 hb2)
              refine ⟨⟨j + 1, A ++ [t] ++ [⟨c, E - 1, by omega, by omega⟩], by go_num, by omega, by simp; omega, ?_, ?_, hb2⟩, by simp only [intOf]; omega⟩
              · refine HO.out.new hmost.1 HK.out HCJ.out HS.out _ rfl (by rw [← HE.out]) (fun u hu => ?_)
                have h1 := HO.out.1
                rcases List.mem_append.1 hu with hu | hu
                · have := (NF.snoc.1 h1).2.2 u hu
                  have := (NF.snoc.1 h1).2.1
                  omega
                · obtain rfl := List.mem_singleton.1 hu
                  exact HME.out
              · rw [scells_snoc (A ++ [t]), List.length_append, hl1]
                exact hown2
    · obtain rfl : j = C.length := by omega
      go_wp2
      go_ret
      unfold SetRes
      rw [← hO.last]
      exact ⟨_, rfl, owns_base hown hsz1, HB.out.trans (hnx.mono hsz1)⟩

end Go.Proofs.Ytcemiokdpmgonaa
