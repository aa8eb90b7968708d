/-
  The walks of slices.Equal at spans, of the document's Spans, and of spans.Same.
-/
import Derived.Test.YthgmmajoinkblaaSp3
namespace Go.Proofs.Ythgmmajoinkblaa
open Go Go.RowKit Go.Lib Go.Sort

theorem spanEq_iff {s t : SpanV} : (s.lo = t.lo ∧ s.hi = t.hi) ↔ s = t := ⟨fun h => SpanV.eq h.1 h.2, fun h => by rw [h]; exact ⟨rfl, rfl⟩⟩
theorem list_eq_of {A B : List SpanV} (h : A.length = B.length) (h2 : ∀ (i : Nat) (s t : SpanV), A[i]? = some s → B[i]? = some t → s = t) : A = B := by
  apply List.ext_getElem? 
  intro i
  by_cases hi : i < A.length
  · have ha := List.getElem?_eq_getElem hi
    have hb := List.getElem?_eq_getElem (l := B) (i := i) (by omega)
    rw [ha, hb, h2 i _ _ ha hb]
  · rw [List.getElem?_eq_none (by omega), List.getElem?_eq_none (by omega)]
open Classical in
/-- Are two lists of spans the same? -/
noncomputable def eqB (A B : List SpanV) : Bool := decide (A = B)
open Classical in
theorem eqB_self (A : List SpanV) : eqB A A = true := by simp [eqB]
open Classical in
theorem eqB_ne {A B : List SpanV} (h : A ≠ B) : eqB A B = false := by simp [eqB, h]
/-- '!=' of two spans. -/
theorem neqSpan (a b c d : Int) (w : World) : (binOp .neq 44 (.agg #[.int .u32 a, .int .u32 b]) (.agg #[.int .u32 c, .int .u32 d])).run Try.prog w = .ok (.bool !((a == c) && (b == d))) w := by
  have hS : Try.prog.underlying 44 = some (.struct (Try.prog.fieldsOf 44)) := by kernel_rfl
  have hp : Try.prog.stoodInHeld 44 = false := by kernel_rfl
  have b1 := Try.underlying23
  have b2 := Try.isAgg23
  have b3 := Try.sizeOf23
  rw [run_neq_struct, show (10000 : Nat) = 9998 + 1 + 1 from rfl, run_equalIn_agg w (9998 + 1) 44 _ _ hS hp]
  generalize 9998 = dd
  simp only [Program.fieldsOf, Try.underlying44]
  go_simp
  by_cases h1 : a = c <;> by_cases h2 : b = d <;> simp [h1, h2]

set_option maxRecDepth 100000 in
set_option maxHeartbeats 4000000 in
theorem refSpans_any (A B : List SpanV) (va vb : Value) (w : World) (ha : Rd w w.heap.size 2 va A.length (scells A)) (hb : Rd w w.heap.size 2 vb B.length (scells B)) (hla : A.length ≤ 1099511627776) :
    Calls Try.prog 16 #[va, vb] w fun e w' => e = .returned (.bool (eqB A B)) ∧ Below w.heap.size w w' := by
  obtain ⟨Aa, ca, rfl, _⟩ := ha.form
  obtain ⟨Ab, cb, rfl, _⟩ := hb.form
  have HA := Lib.hid ha
  have HB := Lib.hid hb
  clear ha hb
  go_enter Try.func16, Try.ntmps16
  by_cases hlen : A.length = B.length
  · have HLEN := Lib.hid hlen
    have hne : ((A.length : Int) != (B.length : Int)) = false := by simp [hlen]
    clear hlen
    go_wp2
    go_loopw [5] (fun i wr => ∃ j : Nat, i = .int .i64 j ∧ j ≤ A.length ∧ Hid (∀ (i : Nat) (s t : SpanV), i < j → A[i]? = some s → B[i]? = some t → s = t) ∧ Below w.heap.size w wr) (fun i _ => A.length - (intOf i).toNat)
    case atStart => exact ⟨0, rfl, by omega, (by intro i s t hi; omega : ∀ (i : Nat) (s t : SpanV), i < 0 → A[i]? = some s → B[i]? = some t → s = t), Below.refl _ _⟩
    case round =>
      obtain ⟨j, rfl, hj, hsm, hnx⟩ := hrel
      have hsz := hnx.size
      by_cases hlt : j < A.length
      · have hI : (j : Int) < (A.length : Int) := by omega
        have hlt2 : j < B.length := by have := HLEN.out; omega
        have hI2 : (j : Int) < (B.length : Int) := by omega
        obtain ⟨s, hs⟩ : ∃ s, A[j]? = some s := ⟨_, List.getElem?_eq_getElem hlt⟩
        obtain ⟨t, ht⟩ : ∃ t, B[j]? = some t := ⟨_, List.getElem?_eq_getElem hlt2⟩
        obtain ⟨b, off, c', hv, _, hbB, hcell⟩ := (HA.out.below hnx).posAt (by omega)
        injection hv with hv1 _ hv3
        subst hv1 hv3
        obtain ⟨b2, off2, c2', hv, _, hbB2, hcell2⟩ := (HB.out.below hnx).posAt (by omega)
        injection hv with hv1 _ hv3
        subst hv1 hv3
        have f0 : wr.cell? ⟨b, off + j * 2, none⟩ = some (.int .u32 s.lo) := hcell j 0 _ (scell hs rfl)
        have f1 : wr.cell? ⟨b, off + j * 2 + 1, none⟩ = some (.int .u32 s.hi) := hcell j 1 _ (scell hs rfl)
        have f2 : wr.cell? ⟨b2, off2 + j * 2, none⟩ = some (.int .u32 t.lo) := hcell2 j 0 _ (scell ht rfl)
        have f3 : wr.cell? ⟨b2, off2 + j * 2 + 1, none⟩ = some (.int .u32 t.hi) := hcell2 j 1 _ (scell ht rfl)
        have F0 := cell_regrown f0
        have F1 := cell_regrown f1
        have F2 := cell_regrown f2
        have F3 := cell_regrown f3
        have HS := Lib.hid hs
        have HT := Lib.hid ht
        clear hcell hcell2 hs ht f0 f1 f2 f3
        have hcmp : (s = t ∧ ((s.lo == t.lo) && (s.hi == t.hi)) = true) ∨ (s ≠ t ∧ ((s.lo == t.lo) && (s.hi == t.hi)) = false) := by
          by_cases h : s = t
          · subst h; exact .inl ⟨rfl, by simp⟩
          · refine .inr ⟨h, ?_⟩
            rw [Bool.eq_false_iff]
            intro hh
            rw [Bool.and_eq_true, beq_iff_eq, beq_iff_eq] at hh
            exact h (SpanV.eq hh.1 hh.2)
        have hneq := fun W => neqSpan s.lo s.hi t.lo t.hi W
        rcases hcmp with ⟨hc1, hc2⟩ | ⟨hc1, hc2⟩
        all_goals (
          have HC := Lib.hid hc1
          rw [hc2] at hneq
          clear hc1 hc2
          go_wp2
          refine wp_region_quiet_below (by kernel_rfl) (by kernel_rfl) ?_
          repeat (first | go_big_quiet_step (fail) | quiet_step (fail))
          refine wpQuiet_nil ?_
          intro _ hw'
          obtain ⟨⟨nq, osq⟩, hw''⟩ := hw'
          subst hw''
          have hq := below_regrown wr nq osq
          go_wp2)
        · refine ⟨⟨j + 1, by go_num, by omega, ?_, hnx.trans (hq.mono hsz)⟩, by simp only [intOf]; omega⟩
          intro i u v hi hu hv
          rcases Nat.lt_or_ge i j with h | h
          · exact hsm.out i u v h hu hv
          · obtain rfl : i = j := by omega
            rw [HS.out] at hu
            rw [HT.out] at hv
            injection hu with hu
            injection hv with hv
            rw [← hu, ← hv]; exact HC.out
        · go_ret
          refine ⟨ret_bool (eqB_ne (fun h => ?_)).symm, hnx.trans (hq.mono hsz)⟩
          have h1 := HS.out
          rw [h, HT.out] at h1
          injection h1 with h1
          exact HC.out h1.symm
      · obtain rfl : j = A.length := by omega
        go_wp2
        go_ret
        refine ⟨ret_bool ?_, hnx⟩
        have : A = B := list_eq_of HLEN.out (fun i s t h1 h2 => hsm.out i s t (List.getElem?_eq_some_iff.1 h1).1 h1 h2)
        rw [this, eqB_self]
  · have hne : ((A.length : Int) != (B.length : Int)) = true := by simp; omega
    have HLEN := Lib.hid hlen
    clear hlen
    go_wp2
    go_ret
    exact ⟨ret_bool (eqB_ne (fun h => HLEN.out (by rw [h]))).symm, Below.refl _ _⟩

end Go.Proofs.Ythgmmajoinkblaa
