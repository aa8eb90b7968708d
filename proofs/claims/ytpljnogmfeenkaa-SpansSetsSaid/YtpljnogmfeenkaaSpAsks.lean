/-
  The walk of the law SpansAsks.
-/
import Derived.Test.YtpljnogmfeenkaaSp13
namespace Go.Proofs.Ytpljnogmfeenkaa
open Go Go.RowKit Go.Lib Go.Sort

theorem largeB_no {L M : List SpanV} (h : largeB L M = false) : L.length ≤ 200 ∧ M.length ≤ 200 := by
  simp [largeB] at h; omega

set_option maxRecDepth 100000 in
set_option maxHeartbeats 4000000 in
theorem lawAsks_any (L M : List SpanV) (vl vm : Value) (w : World) (hl : Rd w w.heap.size 2 vl L.length (scells L)) (hm : Rd w w.heap.size 2 vm M.length (scells M)) :
    Calls Try.prog 8 #[vl, vm] w fun e w' => e = .returned (.bool true) ∧ Below w.heap.size w w' := by
  obtain ⟨Al, cl, rfl, _⟩ := hl.form
  obtain ⟨Am, cm, rfl, _⟩ := hm.form
  have HL := Lib.hid hl
  have HM := Lib.hid hm
  clear hl hm
  cases hlg : largeB L M with
  | true =>
    have hla := large_any L M Al Am cl cm w
    rw [hlg] at hla
    go_enter Try.func8, Try.ntmps8
    go_wp2_with fail
    refine hla.mono ?_
    rintro e w1 ⟨rfl, rfl⟩
    clear hla
    go_wp2_with fail
    refine (awake02_any w).mono ?_
    rintro e w1 ⟨rfl, hb⟩
    go_wp2
    go_ret
    exact ⟨rfl, hb⟩
  | false =>
    have hla := large_any L M Al Am cl cm w
    rw [hlg] at hla
    obtain ⟨h1, h2⟩ := largeB_no hlg
    have hNF := (formOf_ok L).1
    have hFl := formOf_len L
    have c1 := refForm_any L _ w HL.out (by omega)
    have c2 : ∀ W, Below w.heap.size w W → _ := fun W hb => least_any L _ W ((HL.out.below hb).mono hb.size) (by omega)
    have c3 : ∀ W, Below w.heap.size w W → _ := fun W hb => count_any L _ W ((HL.out.below hb).mono hb.size) (by omega)
    have c4 : ∀ W, Below w.heap.size w W → _ := fun W hb => refCount_any L _ W ((HL.out.below hb).mono hb.size) (by omega)
    have c5 : ∀ W, Below w.heap.size w W → _ := fun W hb => same_any L M _ _ W ((HL.out.below hb).mono hb.size) ((HM.out.below hb).mono hb.size) (by omega) (by omega)
    have c6 : ∀ W, Below w.heap.size w W → _ := fun W hb => refForm_any M _ W ((HM.out.below hb).mono hb.size) (by omega)
    have c7 : ∀ W, Below w.heap.size w W → ∀ v F, F.length ≤ 1000 → Rd W W.heap.size 2 v F.length (scells F) → _ := fun W hb v F hF hr => same_any L F _ v W ((HL.out.below hb).mono hb.size) hr (by omega) (by omega)
    clear hlg
    generalize formOf L = F at *
    cases F with
    | nil =>
      simp only [leastOf] at c2
      have C1 := Lib.hid c1
      have C2 := Lib.hid c2
      have C3 := Lib.hid c3
      have C4 := Lib.hid c4
      have C5 := Lib.hid c5
      have C6 := Lib.hid c6
      have C7 := Lib.hid c7
      have HLA := Lib.hid hla
      have HNF := Lib.hid hNF
      clear c1 c2 c3 c4 c5 c6 c7 hla hNF
      have hcn : (cnt ([] : List SpanV) != cnt ([] : List SpanV)) = false := by simp
      generalize cnt ([] : List SpanV) = cn at *
      go_enter Try.func8, Try.ntmps8
      go_wp2_with fail
      refine HLA.out.mono ?_
      rintro e w1 ⟨rfl, rfl⟩
      go_wp2_with fail
      refine C1.out.mono ?_
      rintro e w1 ⟨v1, rfl, hown1, hb1⟩
      have hr1 := Rd.of_own hown1
      obtain ⟨A1, cc1, rfl, _⟩ := hr1.form
      have HR1 := Lib.hid hr1
      clear hr1 hown1
      go_wp2_with fail
      refine (C2.out _ hb1).mono ?_
      rintro e w2 ⟨rfl, hb2⟩
      have hbw2 := below_call hb1 hb2
      go_wp2_with fail
      refine (C3.out _ hbw2).mono ?_
      rintro e w3 ⟨rfl, hb3⟩
      have hbw3 := below_call hbw2 hb3
      go_wp2_with fail
      refine (C4.out _ hbw3).mono ?_
      rintro e w4 ⟨rfl, hb4⟩
      have hbw4 := below_call hbw3 hb4
      have hb14 := below_call (below_call hb2 hb3) hb4
      clear hb2 hb3 hb4 hbw2 hbw3
      go_wp2_with fail
      refine (C5.out _ hbw4).mono ?_
      rintro e w5 ⟨rfl, hb5⟩
      have hbw5 := below_call hbw4 hb5
      have hb15 := below_call hb14 hb5
      go_wp2_with fail
      refine (C6.out _ hbw5).mono ?_
      rintro e w6 ⟨v6, rfl, hown6, hb6⟩
      have hbw6 := below_call hbw5 hb6
      have hb16 := below_call hb15 hb6
      have hr6 := Rd.of_own hown6
      have hr16 := (HR1.out.below hb16).mono hb16.size
      have c8 := refSpans_any ([] : List SpanV) (formOf M) _ v6 w6 hr16 hr6 (by simp)
      have hFM := formOf_len M
      generalize formOf M = G at *
      have hee : (eqB ([] : List SpanV) G == eqB ([] : List SpanV) G) = true := by simp
      have C8 := Lib.hid c8
      clear hown6 hr6 c8 hr16 hb6 hb5 hb15 hbw5 hbw4 hb14
      generalize eqB ([] : List SpanV) G = eqv at *
      go_wp2_with fail
      refine C8.out.mono ?_
      rintro e w7 ⟨rfl, hb7⟩
      have hbw7 := below_call hbw6 hb7
      have hb17 := below_call hb16 hb7
      have c9 := C7.out w7 hbw7 _ ([] : List SpanV) (by simp) ((HR1.out.below hb17).mono hb17.size)
      rw [formOf_self HNF.out, eqB_self] at c9
      go_wp2_with fail
      refine c9.mono ?_
      rintro e w8 ⟨rfl, hb8⟩
      have hbw8 := below_call hbw7 hb8
      go_wp2
      go_ret
      exact ⟨rfl, hbw8⟩
    | cons s r =>
      simp only [leastOf] at c2
      have C1 := Lib.hid c1
      have C2 := Lib.hid c2
      have C3 := Lib.hid c3
      have C4 := Lib.hid c4
      have C5 := Lib.hid c5
      have C6 := Lib.hid c6
      have C7 := Lib.hid c7
      have HLA := Lib.hid hla
      have HNF := Lib.hid hNF
      clear c1 c2 c3 c4 c5 c6 c7 hla hNF
      have hcn : (cnt (s :: r) != cnt (s :: r)) = false := by simp
      generalize cnt (s :: r) = cn at *
      go_enter Try.func8, Try.ntmps8
      go_wp2_with fail
      refine HLA.out.mono ?_
      rintro e w1 ⟨rfl, rfl⟩
      go_wp2_with fail
      refine C1.out.mono ?_
      rintro e w1 ⟨v1, rfl, hown1, hb1⟩
      have hr1 := Rd.of_own hown1
      obtain ⟨A1, cc1, rfl, _⟩ := hr1.form
      obtain ⟨b, off, c', hv, _, hbB, hcell⟩ := hr1.posAt (by simp)
      injection hv with hv1 _ hv3
      subst hv1 hv3
      have f0 : w1.cell? ⟨b, off, none⟩ = some (.int .u32 s.lo) := by have := hcell 0 0 _ (scell (L := s :: r) (k := 0) (i := 0) rfl rfl); simpa using this
      have hl1 : ((s :: r).length : Int) = (r.length : Int) + 1 := by simp
      have hI2 : (0 : Int) < (r.length : Int) + 1 := by omega
      clear hcell
      have HR1 := Lib.hid hr1
      clear hr1 hown1
      go_wp2_with fail
      refine (C2.out _ hb1).mono ?_
      rintro e w2 ⟨rfl, hb2⟩
      have hbw2 := below_call hb1 hb2
      go_wp2_with fail
      refine (C3.out _ hbw2).mono ?_
      rintro e w3 ⟨rfl, hb3⟩
      have hbw3 := below_call hbw2 hb3
      go_wp2_with fail
      refine (C4.out _ hbw3).mono ?_
      rintro e w4 ⟨rfl, hb4⟩
      have hbw4 := below_call hbw3 hb4
      have hb14 := below_call (below_call hb2 hb3) hb4
      clear hb2 hb3 hb4 hbw2 hbw3
      have f1 : w4.cell? ⟨b, off, none⟩ = some (.int .u32 s.lo) := (hb14.cell (p := ⟨b, off, none⟩) hbB).trans f0
      have hne : (s.lo != s.lo) = false := by simp
      go_wp2_with fail
      refine (C5.out _ hbw4).mono ?_
      rintro e w5 ⟨rfl, hb5⟩
      have hbw5 := below_call hbw4 hb5
      have hb15 := below_call hb14 hb5
      go_wp2_with fail
      refine (C6.out _ hbw5).mono ?_
      rintro e w6 ⟨v6, rfl, hown6, hb6⟩
      have hbw6 := below_call hbw5 hb6
      have hb16 := below_call hb15 hb6
      have hr6 := Rd.of_own hown6
      have hr16 := (HR1.out.below hb16).mono hb16.size
      have c8 := refSpans_any (s :: r) (formOf M) _ v6 w6 hr16 hr6 (by simp at hFl ⊢; omega)
      have hFM := formOf_len M
      generalize formOf M = G at *
      have hee : (eqB (s :: r) G == eqB (s :: r) G) = true := by simp
      have C8 := Lib.hid c8
      clear hown6 hr6 c8 hr16 hb6 hb5 hb15 hbw5 hbw4 hb14
      generalize eqB (s :: r) G = eqv at *
      go_wp2_with fail
      refine C8.out.mono ?_
      rintro e w7 ⟨rfl, hb7⟩
      have hbw7 := below_call hbw6 hb7
      have hb17 := below_call hb16 hb7
      have c9 := C7.out w7 hbw7 _ (s :: r) (by simp at hFl ⊢; omega) ((HR1.out.below hb17).mono hb17.size)
      rw [formOf_self HNF.out, eqB_self] at c9
      go_wp2_with fail
      refine c9.mono ?_
      rintro e w8 ⟨rfl, hb8⟩
      have hbw8 := below_call hbw7 hb8
      go_wp2
      go_ret
      exact ⟨rfl, hbw8⟩

end Go.Proofs.Ytpljnogmfeenkaa
