/-
  Joined texts: Sp12, Sp13, LawSpBack, OpenS2, ElemSp.
-/
import Derived.Test.YtmgeknghgngliaaDoorMSpansBack8
import Derived.Test.YtmgeknghgngliaaDoorMSpansBack10
import Derived.Test.YtmgeknghgngliaaDoorShelf2
import Derived.Shelf.SlicesQ.IndexFunc
import Derived.Test.YtmgeknghgngliaaDoorMSpansBack7
import Derived.SizedLaws
import Derived.Deep.Fields
/-
  The walks of slices.Equal at spans, of the document's Spans, and of spans.Same.
-/
namespace Go.Proofs.YtmgeknghgngliaaDoor
open Go Go.RowKit Go.Lib Go.Sort

theorem spanEq_iff {s t : SpanV} : (s.lo = t.lo ∧ s.hi = t.hi) ↔ s = t := ⟨fun h => SpanV.eq h.1 h.2, fun h => by rw [h]; exact ⟨rfl, rfl⟩⟩
theorem list_eq_of {A B : List SpanV} (h : A.length = B.length) (h2 : ∀ (i : Nat) (s t : SpanV), A[i]? = some s → B[i]? = some t → s = t) : A = B := by
  apply List.ext_getElem? 
  intro i
  by_cases hi : i < A.length
  · have ha := List.getElem?_eq_getElem hi
    have hb := List.getElem?_eq_getElem (l := B) (i := i) (by omega)
    rw [ha, hb, h2 i _ _ ha hb]
  · rw [List.getElem?_eq_none (by omega), List.getElem?_eq_none (by omega)]
open Classical in
/-- Are two lists of spans the same? -/
noncomputable def eqB (A B : List SpanV) : Bool := decide (A = B)
open Classical in
theorem eqB_self (A : List SpanV) : eqB A A = true := by simp [eqB]
open Classical in
theorem eqB_ne {A B : List SpanV} (h : A ≠ B) : eqB A B = false := by simp [eqB, h]
/-- '!=' of two spans. -/
theorem neqSpan (a b c d : Int) (w : World) : (binOp .neq 41 (.agg #[.int .u32 a, .int .u32 b]) (.agg #[.int .u32 c, .int .u32 d])).run Tryd.prog w = .ok (.bool !((a == c) && (b == d))) w := by
  have hS : Tryd.prog.underlying 41 = some (.struct (Tryd.prog.fieldsOf 41)) := by kernel_rfl
  have hp : Tryd.prog.stoodInHeld 41 = false := by kernel_rfl
  have b1 := Tryd.underlying22
  have b2 := Tryd.isAgg22
  have b3 := Tryd.sizeOf22
  rw [run_neq_struct, show (10000 : Nat) = 9998 + 1 + 1 from rfl, run_equalIn_agg w (9998 + 1) 41 _ _ hS hp]
  generalize 9998 = dd
  simp only [Program.fieldsOf, Tryd.underlying41]
  go_simp
  by_cases h1 : a = c <;> by_cases h2 : b = d <;> simp [h1, h2]

set_option maxRecDepth 100000 in
set_option maxHeartbeats 4000000 in
theorem refSpans_any (A B : List SpanV) (va vb : Value) (w : World) (ha : Rd w w.heap.size 2 va A.length (scells A)) (hb : Rd w w.heap.size 2 vb B.length (scells B)) (hla : A.length ≤ 1099511627776) :
    Calls Tryd.prog 27 #[va, vb] w fun e w' => e = .returned (.bool (eqB A B)) ∧ Below w.heap.size w w' := by
  obtain ⟨Aa, ca, rfl, _⟩ := ha.form
  obtain ⟨Ab, cb, rfl, _⟩ := hb.form
  have HA := Lib.hid ha
  have HB := Lib.hid hb
  clear ha hb
  go_enter Tryd.func27, Tryd.ntmps27
  by_cases hlen : A.length = B.length
  · have HLEN := Lib.hid hlen
    have hne : ((A.length : Int) != (B.length : Int)) = false := by simp [hlen]
    clear hlen
    go_wp2
    go_loopw [5] (fun i wr => ∃ j : Nat, i = .int .i64 j ∧ j ≤ A.length ∧ Hid (∀ (i : Nat) (s t : SpanV), i < j → A[i]? = some s → B[i]? = some t → s = t) ∧ Below w.heap.size w wr) (fun i _ => A.length - (intOf i).toNat)
    case atStart => exact ⟨0, rfl, by omega, (by intro i s t hi; omega : ∀ (i : Nat) (s t : SpanV), i < 0 → A[i]? = some s → B[i]? = some t → s = t), Below.refl _ _⟩
    case round =>
      obtain ⟨j, rfl, hj, hsm, hnx⟩ := hrel
      have hsz := hnx.size
      by_cases hlt : j < A.length
      · have hI : (j : Int) < (A.length : Int) := by omega
        have hlt2 : j < B.length := by have := HLEN.out; omega
        have hI2 : (j : Int) < (B.length : Int) := by omega
        obtain ⟨s, hs⟩ : ∃ s, A[j]? = some s := ⟨_, List.getElem?_eq_getElem hlt⟩
        obtain ⟨t, ht⟩ : ∃ t, B[j]? = some t := ⟨_, List.getElem?_eq_getElem hlt2⟩
        obtain ⟨b, off, c', hv, _, hbB, hcell⟩ := (HA.out.below hnx).posAt (by omega)
        injection hv with hv1 _ hv3
        subst hv1 hv3
        obtain ⟨b2, off2, c2', hv, _, hbB2, hcell2⟩ := (HB.out.below hnx).posAt (by omega)
        injection hv with hv1 _ hv3
        subst hv1 hv3
        have f0 : wr.cell? ⟨b, off + j * 2, none⟩ = some (.int .u32 s.lo) := hcell j 0 _ (scell hs rfl)
        have f1 : wr.cell? ⟨b, off + j * 2 + 1, none⟩ = some (.int .u32 s.hi) := hcell j 1 _ (scell hs rfl)
        have f2 : wr.cell? ⟨b2, off2 + j * 2, none⟩ = some (.int .u32 t.lo) := hcell2 j 0 _ (scell ht rfl)
        have f3 : wr.cell? ⟨b2, off2 + j * 2 + 1, none⟩ = some (.int .u32 t.hi) := hcell2 j 1 _ (scell ht rfl)
        have F0 := cell_regrown f0
        have F1 := cell_regrown f1
        have F2 := cell_regrown f2
        have F3 := cell_regrown f3
        have HS := Lib.hid hs
        have HT := Lib.hid ht
        clear hcell hcell2 hs ht f0 f1 f2 f3
        have hcmp : (s = t ∧ ((s.lo == t.lo) && (s.hi == t.hi)) = true) ∨ (s ≠ t ∧ ((s.lo == t.lo) && (s.hi == t.hi)) = false) := by
          by_cases h : s = t
          · subst h; exact .inl ⟨rfl, by simp⟩
          · refine .inr ⟨h, ?_⟩
            rw [Bool.eq_false_iff]
            intro hh
            rw [Bool.and_eq_true, beq_iff_eq, beq_iff_eq] at hh
            exact h (SpanV.eq hh.1 hh.2)
        have hneq := fun W => neqSpan s.lo s.hi t.lo t.hi W
        rcases hcmp with ⟨hc1, hc2⟩ | ⟨hc1, hc2⟩
        all_goals (
          have HC := Lib.hid hc1
          rw [hc2] at hneq
          clear hc1 hc2
          go_wp2
          refine wp_region_quiet_below (by kernel_rfl) (by kernel_rfl) ?_
          repeat (first | go_big_quiet_step (fail) | quiet_step (fail))
          refine wpQuiet_nil ?_
          intro _ hw'
          obtain ⟨⟨nq, osq⟩, hw''⟩ := hw'
          subst hw''
          have hq := below_regrown wr nq osq
          go_wp2)
        · refine ⟨⟨j + 1, by go_num, by omega, ?_, hnx.trans (hq.mono hsz)⟩, by simp only [intOf]; omega⟩
          intro i u v hi hu hv
          rcases Nat.lt_or_ge i j with h | h
          · exact hsm.out i u v h hu hv
          · obtain rfl : i = j := by omega
            rw [HS.out] at hu
            rw [HT.out] at hv
            injection hu with hu
            injection hv with hv
            rw [← hu, ← hv]; exact HC.out
        · go_ret
          refine ⟨ret_bool (eqB_ne (fun h => ?_)).symm, hnx.trans (hq.mono hsz)⟩
          have h1 := HS.out
          rw [h, HT.out] at h1
          injection h1 with h1
          exact HC.out h1.symm
      · obtain rfl : j = A.length := by omega
        go_wp2
        go_ret
        refine ⟨ret_bool ?_, hnx⟩
        have : A = B := list_eq_of HLEN.out (fun i s t h1 h2 => hsm.out i s t (List.getElem?_eq_some_iff.1 h1).1 h1 h2)
        rw [this, eqB_self]
  · have hne : ((A.length : Int) != (B.length : Int)) = true := by simp; omega
    have HLEN := Lib.hid hlen
    clear hlen
    go_wp2
    go_ret
    exact ⟨ret_bool (eqB_ne (fun h => HLEN.out (by rw [h]))).symm, Below.refl _ _⟩

set_option maxRecDepth 100000 in
set_option maxHeartbeats 4000000 in
theorem equalSpan_any (A B : List SpanV) (va vb : Value) (w : World) (ha : Rd w w.heap.size 2 va A.length (scells A)) (hb : Rd w w.heap.size 2 vb B.length (scells B)) (hla : A.length ≤ 1099511627776) :
    Calls Tryd.prog 72 #[va, vb] w fun e w' => e = .returned (.bool (eqB A B)) ∧ Below w.heap.size w w' := by
  obtain ⟨Aa, ca, rfl, _⟩ := ha.form
  obtain ⟨Ab, cb, rfl, _⟩ := hb.form
  have HA := Lib.hid ha
  have HB := Lib.hid hb
  clear ha hb
  go_enter Tryd.func72, Tryd.ntmps72
  by_cases hlen : A.length = B.length
  · have HLEN := Lib.hid hlen
    have hne : ((A.length : Int) != (B.length : Int)) = false := by simp [hlen]
    clear hlen
    go_wp2
    go_loopw [13] (fun i wr => ∃ j : Nat, i = .int .i64 j ∧ j ≤ A.length ∧ Hid (∀ (i : Nat) (s t : SpanV), i < j → A[i]? = some s → B[i]? = some t → s = t) ∧ Below w.heap.size w wr) (fun i _ => A.length - (intOf i).toNat)
    case atStart => exact ⟨0, rfl, by omega, (by intro i s t hi; omega : ∀ (i : Nat) (s t : SpanV), i < 0 → A[i]? = some s → B[i]? = some t → s = t), Below.refl _ _⟩
    case round =>
      obtain ⟨j, rfl, hj, hsm, hnx⟩ := hrel
      have hsz := hnx.size
      by_cases hlt : j < A.length
      · have hI : (j : Int) < (A.length : Int) := by omega
        have hlt2 : j < B.length := by have := HLEN.out; omega
        have hI2 : (j : Int) < (B.length : Int) := by omega
        obtain ⟨s, hs⟩ : ∃ s, A[j]? = some s := ⟨_, List.getElem?_eq_getElem hlt⟩
        obtain ⟨t, ht⟩ : ∃ t, B[j]? = some t := ⟨_, List.getElem?_eq_getElem hlt2⟩
        obtain ⟨b, off, c', hv, _, hbB, hcell⟩ := (HA.out.below hnx).posAt (by omega)
        injection hv with hv1 _ hv3
        subst hv1 hv3
        obtain ⟨b2, off2, c2', hv, _, hbB2, hcell2⟩ := (HB.out.below hnx).posAt (by omega)
        injection hv with hv1 _ hv3
        subst hv1 hv3
        have f0 : wr.cell? ⟨b, off + j * 2, none⟩ = some (.int .u32 s.lo) := hcell j 0 _ (scell hs rfl)
        have f1 : wr.cell? ⟨b, off + j * 2 + 1, none⟩ = some (.int .u32 s.hi) := hcell j 1 _ (scell hs rfl)
        have f2 : wr.cell? ⟨b2, off2 + j * 2, none⟩ = some (.int .u32 t.lo) := hcell2 j 0 _ (scell ht rfl)
        have f3 : wr.cell? ⟨b2, off2 + j * 2 + 1, none⟩ = some (.int .u32 t.hi) := hcell2 j 1 _ (scell ht rfl)
        have F0 := cell_regrown f0
        have F1 := cell_regrown f1
        have F2 := cell_regrown f2
        have F3 := cell_regrown f3
        have HS := Lib.hid hs
        have HT := Lib.hid ht
        clear hcell hcell2 hs ht f0 f1 f2 f3
        have hcmp : (s = t ∧ ((s.lo == t.lo) && (s.hi == t.hi)) = true) ∨ (s ≠ t ∧ ((s.lo == t.lo) && (s.hi == t.hi)) = false) := by
          by_cases h : s = t
          · subst h; exact .inl ⟨rfl, by simp⟩
          · refine .inr ⟨h, ?_⟩
            rw [Bool.eq_false_iff]
            intro hh
            rw [Bool.and_eq_true, beq_iff_eq, beq_iff_eq] at hh
            exact h (SpanV.eq hh.1 hh.2)
        have hneq := fun W => neqSpan s.lo s.hi t.lo t.hi W
        rcases hcmp with ⟨hc1, hc2⟩ | ⟨hc1, hc2⟩
        all_goals (
          have HC := Lib.hid hc1
          rw [hc2] at hneq
          clear hc1 hc2
          go_wp2
          refine wp_region_quiet_below (by kernel_rfl) (by kernel_rfl) ?_
          repeat (first | go_big_quiet_step (fail) | quiet_step (fail))
          refine wpQuiet_nil ?_
          intro _ hw'
          obtain ⟨⟨nq, osq⟩, hw''⟩ := hw'
          subst hw''
          have hq := below_regrown wr nq osq
          go_wp2)
        · refine ⟨⟨j + 1, by go_num, by omega, ?_, hnx.trans (hq.mono hsz)⟩, by simp only [intOf]; omega⟩
          intro i u v hi hu hv
          rcases Nat.lt_or_ge i j with h | h
          · exact hsm.out i u v h hu hv
          · obtain rfl : i = j := by omega
            rw [HS.out] at hu
            rw [HT.out] at hv
            injection hu with hu
            injection hv with hv
            rw [← hu, ← hv]; exact HC.out
        · go_ret
          refine ⟨ret_bool (eqB_ne (fun h => ?_)).symm, hnx.trans (hq.mono hsz)⟩
          have h1 := HS.out
          rw [h, HT.out] at h1
          injection h1 with h1
          exact HC.out h1.symm
      · obtain rfl : j = A.length := by omega
        go_wp2
        go_ret
        refine ⟨ret_bool ?_, hnx⟩
        have : A = B := list_eq_of HLEN.out (fun i s t h1 h2 => hsm.out i s t (List.getElem?_eq_some_iff.1 h1).1 h1 h2)
        rw [this, eqB_self]
  · have hne : ((A.length : Int) != (B.length : Int)) = true := by simp; omega
    have HLEN := Lib.hid hlen
    clear hlen
    go_wp2
    go_ret
    exact ⟨ret_bool (eqB_ne (fun h => HLEN.out (by rw [h]))).symm, Below.refl _ _⟩

end Go.Proofs.YtmgeknghgngliaaDoor

/-
  The walks of spans.Has, spans.Same, and of the law's large and awake.
-/
namespace Go.Proofs.YtmgeknghgngliaaDoor
open Go Go.RowKit Go.Lib Go.Sort

set_option maxHeartbeats 1000000 in
theorem hasClos_any (s : SpanV) (x : Int) (B : Nat) (w : World) (hB : w.heap[B]? = some (.cells #[.int .u32 x] 22 (0, 0))) :
    Calls Tryd.prog 101 #[.agg #[.int .u32 s.lo, .int .u32 s.hi], .pointer (some ⟨B, 0, none⟩)] w fun e w' => e = .returned (.bool (s.inB x)) ∧ Below w.heap.size w w' := by
  have hlt := lt_of_block hB
  have hne : B ≠ w.heap.size := Nat.ne_of_lt hlt
  have e0 : w.cell? ⟨B, 0, none⟩ = some (.int .u32 x) := cell_of_one hB
  clear hB
  have hbw := below1 w (.cells #[.int .u32 s.lo, .int .u32 s.hi] 41)
  have HBW := Lib.hid hbw
  clear hbw
  have hin : s.inB x = (decide (s.lo ≤ x) && decide (x ≤ s.hi)) := rfl
  rw [hin]
  clear hin
  go_enter Tryd.func101, Tryd.ntmps101
  by_cases h1 : s.lo ≤ x
  · by_cases h2 : x ≤ s.hi
    · go_wp2
      go_ret
      exact ⟨ret_bool (by simp [h1, h2]), HBW.out⟩
    · go_wp2
      go_ret
      exact ⟨ret_bool (by simp; omega), HBW.out⟩
  · go_wp2
    go_ret
    exact ⟨ret_bool (by simp; omega), HBW.out⟩
theorem hasClos_pred (x : Int) (B : Nat) (w : World) (hB : w.heap[B]? = some (.cells #[.int .u32 x] 22 (0, 0))) : PredBelow Tryd.prog 101 #[.pointer (some ⟨B, 0, none⟩)] (fun s : SpanV => .agg s.enc.toArray) (fun s => s.inB x) w := fun W s hb =>
  (hasClos_any s x B W (blk_below hb hB)).mono fun _ _ ⟨he, hb'⟩ => ⟨he, hb.trans (hb'.mono hb.size)⟩

/-- slices.IndexFunc over spans, at any length. -/
theorem indexSpan_any (L : List SpanV) (v : Value) (p : SpanV → Bool) (g : Nat) (lb : Array Value) (w : World) (eg : ∀ args w, (callFunc g args).run Tryd.prog w = .ok (.enter g args) w)
    (hp : PredBelow Tryd.prog g lb (fun x : SpanV => .agg x.enc.toArray) p w) (h : Rd w w.heap.size 2 v L.length (scells L)) (hlen : L.length ≤ 9223372036854775807) :
    Calls Tryd.prog 148 #[v, .func (.func g) #[] lb] w fun e w' => e = .returned (.int .i64 (idxP p L)) ∧ Below w.heap.size w w' := by
  by_cases h0 : L.length = 0
  · obtain ⟨A, c, rfl, hc⟩ := h.form
    have e1 : L = [] := List.eq_nil_of_length_eq_zero h0
    subst e1
    clear hp h eg
    go_enter Tryd.func148, Tryd.ntmps148
    go_wp2
    refine wp_loop_rounds 1 ?_
    rw [rounds_succ]
    go_wp2
    go_ret
    exact ⟨rfl, Below.refl _ _⟩
  · obtain ⟨b, off, c, rfl, hc, hbB, hcell⟩ := h.pos (by omega)
    have := AnyQ.slices_IndexFunc Tryd.indexSpan 2 Tryd.isAgg41 Tryd.sizeOf41 SpanV.enc span_len p g lb eg b off L.length c L w hp (Nat.le_refl _) hlen hbB (Rd.cells span_len hcell)
    rw [List.take_length] at this
    exact this
/-- slices.ContainsFunc over spans, at any length. -/
theorem containsSpan_any (L : List SpanV) (v : Value) (p : SpanV → Bool) (g : Nat) (lb : Array Value) (w : World) (eg : ∀ args w, (callFunc g args).run Tryd.prog w = .ok (.enter g args) w)
    (hp : PredBelow Tryd.prog g lb (fun x : SpanV => .agg x.enc.toArray) p w) (h : Rd w w.heap.size 2 v L.length (scells L)) (hlen : L.length ≤ 9223372036854775807) :
    Calls Tryd.prog 100 #[v, .func (.func g) #[] lb] w fun e w' => e = .returned (.bool (L.any p)) ∧ Below w.heap.size w w' := by
  by_cases h0 : L.length = 0
  · obtain ⟨A, c, rfl, hc⟩ := h.form
    have e1 : L = [] := List.eq_nil_of_length_eq_zero h0
    subst e1
    have hi := indexSpan_any [] _ p g lb w eg hp h (by simp)
    have HI := Lib.hid hi
    clear hi hp h eg
    go_enter Tryd.func100, Tryd.ntmps100
    go_wp2_with fail
    refine HI.out.mono ?_
    rintro e w1 ⟨rfl, hb⟩
    have hm : (0 : Int) ≤ idxP p [] ↔ False := by rw [idxP_nil]; decide
    go_wp2
    go_ret
    exact ⟨ret_bool (by simp), hb⟩
  · obtain ⟨b, off, c, rfl, hc, hbB, hcell⟩ := h.pos (by omega)
    have := AnyQ.slices_ContainsFunc Tryd.containsSpan 2 Tryd.isAgg41 Tryd.sizeOf41 SpanV.enc span_len p g lb eg b off L.length c L w hp (Nat.le_refl _) hlen hbB (Rd.cells span_len hcell)
    rw [List.take_length] at this
    exact this

set_option maxHeartbeats 1000000 in
theorem has_any (L : List SpanV) (vl : Value) (x : Int) (w : World) (hl : Rd w w.heap.size 2 vl L.length (scells L)) (hlen : L.length ≤ 1099511627776) :
    Calls Tryd.prog 67 #[vl, .int .u32 x] w fun e w' => e = .returned (.bool (hasB L x)) ∧ Below w.heap.size w w' := by
  have hb1 := below1 w (.cells #[.int .u32 x] 22)
  have hcon := containsSpan_any L vl (fun s => s.inB x) 101 #[.pointer (some ⟨w.heap.size, 0, none⟩)] (w.alloc (.cells #[.int .u32 x] 22)) (enters_of Tryd.func101 (by kernel_rfl) rfl) (hasClos_pred x _ _ (blk1 w _)) ((hl.below hb1).mono hb1.size) (by omega)
  have HC := Lib.hid hcon
  have HB := Lib.hid hb1
  clear hcon hl hb1
  go_enter Tryd.func67, Tryd.ntmps67
  go_wp2_with fail
  refine HC.out.mono ?_
  rintro e w1 ⟨rfl, hb⟩
  have hbw := below_call HB.out hb
  go_wp2
  go_ret
  exact ⟨rfl, hbw⟩

set_option maxHeartbeats 1000000 in
theorem spSame_any (L M : List SpanV) (vl vm : Value) (w : World) (hl : Rd w w.heap.size 2 vl L.length (scells L)) (hm : Rd w w.heap.size 2 vm M.length (scells M)) (hlen : L.length ≤ 1099511627776) (hlen2 : M.length ≤ 1099511627776) :
    Calls Tryd.prog 28 #[vl, vm] w fun e w' => e = .returned (.bool (eqB (formOf L) (formOf M))) ∧ Below w.heap.size w w' := by
  have hFl := formOf_len L
  have HM := Lib.hid hm
  clear hm
  go_enter Tryd.func28, Tryd.ntmps28
  go_wp2_with fail
  refine (form_any L vl w hl hlen).mono ?_
  rintro e w1 ⟨v1, rfl, hown1, hb1⟩
  have hr1 := Rd.of_own hown1
  go_wp2_with fail
  refine (form_any M vm w1 ((HM.out.below hb1).mono hb1.size) hlen2).mono ?_
  rintro e w2 ⟨v2, rfl, hown2, hb2⟩
  have hr2 := Rd.of_own hown2
  go_wp2_with fail
  refine (equalSpan_any _ _ v1 v2 w2 ((hr1.below hb2).mono hb2.size) hr2 (by omega)).mono ?_
  rintro e w3 ⟨rfl, hb3⟩
  have hbw := below_call (below_call hb1 hb2) hb3
  go_wp2
  go_ret
  exact ⟨rfl, hbw⟩

def largeB (L M : List SpanV) : Bool := decide (200 < L.length) || decide (200 < M.length)
set_option maxHeartbeats 1000000 in
theorem large_any (L M : List SpanV) (A1 A2 : Option Addr) (c1 c2 : Nat) (w : World) :
    Calls Tryd.prog 23 #[.slice A1 L.length c1, .slice A2 M.length c2] w fun e w' => e = .returned (.bool (largeB L M)) ∧ w = w' := by
  go_enter Tryd.func23, Tryd.ntmps23
  by_cases h1 : 200 < L.length
  · have h1' : (200 : Int) < (L.length : Int) := by omega
    go_wp2
    go_ret
    exact ⟨ret_bool (by simp [largeB, h1]), rfl⟩
  · have h1' : ¬ (200 : Int) < (L.length : Int) := by omega
    by_cases h2 : 200 < M.length
    · have h2' : (200 : Int) < (M.length : Int) := by omega
      go_wp2
      go_ret
      exact ⟨ret_bool (by simp [largeB, h2]), rfl⟩
    · have h2' : ¬ (200 : Int) < (M.length : Int) := by omega
      go_wp2
      go_ret
      exact ⟨ret_bool (by simp [largeB]; omega), rfl⟩

/-- '==' of two spans. -/
theorem eqlSpan (a b c d : Int) (w : World) : (binOp .eql 41 (.agg #[.int .u32 a, .int .u32 b]) (.agg #[.int .u32 c, .int .u32 d])).run Tryd.prog w = .ok (.bool ((a == c) && (b == d))) w := by
  have hS : Tryd.prog.underlying 41 = some (.struct (Tryd.prog.fieldsOf 41)) := by kernel_rfl
  have hp : Tryd.prog.stoodInHeld 41 = false := by kernel_rfl
  have b1 := Tryd.underlying22
  have b2 := Tryd.isAgg22
  have b3 := Tryd.sizeOf22
  rw [run_eql_struct, show (10000 : Nat) = 9998 + 1 + 1 from rfl, run_equalIn_agg w (9998 + 1) 41 _ _ hS hp]
  generalize 9998 = dd
  simp only [Program.fieldsOf, Tryd.underlying41]
  go_simp
  by_cases h1 : a = c <;> by_cases h2 : b = d <;> simp [h1, h2]
theorem formOf_self {R : List SpanV} (h : NF R) : formOf R = R := theSet_eq h (fun _ => rfl)
def sp46 : SpanV := ⟨4, 6, by omega, by omega⟩
def sp13 : SpanV := ⟨1, 3, by omega, by omega⟩
def sp16 : SpanV := ⟨1, 6, by omega, by omega⟩
theorem form46 : formOf [sp46, sp13] = [sp16] := by
  refine theSet_eq ⟨by decide, fun t ht => by simp at ht, trivial⟩ (fun x => ?_)
  rw [Bool.eq_iff_iff]
  simp [hasB, SpanV.inB, sp46, sp13, sp16]
  omega
set_option maxHeartbeats 4000000 in
theorem awake02_any (w : World) : Calls Tryd.prog 24 #[] w fun e w' => e = .returned (.bool true) ∧ Below w.heap.size w w' := by
  have hb0 := below1 w (.cells #[.int .u32 4, .int .u32 6, .int .u32 1, .int .u32 3] 41)
  have hr0 : Rd (w.alloc (.cells #[.int .u32 4, .int .u32 6, .int .u32 1, .int .u32 3] 41)) (w.alloc (.cells #[.int .u32 4, .int .u32 6, .int .u32 1, .int .u32 3] 41)).heap.size 2 (.slice (some ⟨w.heap.size, 0, none⟩) 2 2) [sp46, sp13].length (scells [sp46, sp13]) :=
    Rd.of_blk (cs := #[.int .u32 4, .int .u32 6, .int .u32 1, .int .u32 3]) (blk1 w _) (by decide) rfl
  have hf := form_any [sp46, sp13] _ _ hr0 (by decide)
  rw [form46] at hf
  have HF := Lib.hid hf
  have HB := Lib.hid hb0
  clear hf hb0 hr0
  go_enter Tryd.func24, Tryd.ntmps24
  go_wp2_with fail
  refine HF.out.mono ?_
  rintro e w1 ⟨v1, rfl, hown1, hb1⟩
  have hr1 : Rd w1 w1.heap.size 2 v1 [sp16].length (scells [sp16]) := Rd.of_own hown1
  obtain ⟨A1, c1, rfl, hA1⟩ := owns_form hown1
  obtain ⟨g, rfl⟩ := hA1 (by decide)
  have f0 : w1.cell? ⟨g, 0, none⟩ = some (.int .u32 1) := hown1.cellAt 0 (by decide)
  have f1 : w1.cell? ⟨g, 1, none⟩ = some (.int .u32 6) := hown1.cellAt 1 (by decide)
  have hbw := below_call HB.out hb1
  have hnf : NF [sp16] := ⟨by decide, fun t ht => by simp at ht, trivial⟩
  have hcnt := count_any [sp16] _ w1 hr1 (by decide)
  rw [formOf_self hnf, show cnt [sp16] = 6 from rfl] at hcnt
  have HC := Lib.hid hcnt
  have HR := Lib.hid hr1
  have HBW := Lib.hid hbw
  have heq : ∀ W, (binOp .eql 41 (.agg #[.int .u32 1, .int .u32 6]) (.agg #[.int .u32 1, .int .u32 6])).run Tryd.prog W = .ok (.bool true) W := fun W => eqlSpan 1 6 1 6 W
  clear hcnt hr1 hbw hown1 hb1 HF HB hnf
  go_wp2_with fail
  refine HC.out.mono ?_
  rintro e w2 ⟨rfl, hb2⟩
  have hbw2 := below_call HBW.out hb2
  have hr2 := (HR.out.below hb2).mono hb2.size
  have hh := has_any [sp16] _ 5 w2 hr2 (by decide)
  rw [show hasB [sp16] 5 = true from rfl] at hh
  clear HC HR HBW
  go_wp2_with fail
  refine hh.mono ?_
  rintro e w3 ⟨rfl, hb3⟩
  have hbw3 := below_call hbw2 hb3
  have hr3 := (hr2.below hb3).mono hb3.size
  have hh3 := has_any [sp16] _ 7 w3 hr3 (by decide)
  rw [show hasB [sp16] 7 = false from rfl] at hh3
  clear hh hr2 hbw2
  go_wp2_with fail
  refine hh3.mono ?_
  rintro e w4 ⟨rfl, hb4⟩
  have hbw4 := below_call hbw3 hb4
  go_wp2
  go_ret
  exact ⟨rfl, hbw4⟩

end Go.Proofs.YtmgeknghgngliaaDoor

/-
  The walk of the law SpansBack.
-/
namespace Go.Proofs.YtmgeknghgngliaaDoor
open Go Go.RowKit Go.Lib Go.Sort

theorem nf_next {F : List SpanV} {j : Nat} {s t : SpanV} (h : NF F) (hs : F[j]? = some s) (ht : F[j + 1]? = some t) : s.hi + 1 < t.lo := by
  induction F generalizing j with
  | nil => simp at hs
  | cons x r ih =>
    cases j with
    | zero =>
      simp at hs ht
      subst hs
      exact h.2.1 t (List.mem_of_getElem? ht)
    | succ j => exact ih h.2.2 (by simpa using hs) (by simpa using ht)
theorem spParse_back (L : List SpanV) (w : World) (hE : Env w) (hlen : L.length ≤ 1000) :
    Calls Tryd.prog 25 #[.string ⟨(setT (formOf L)).toArray⟩] w fun e w' => ∃ v, e = .returned (.tuple #[v, .int .i64 0]) ∧ w'.ownsRow w.heap.size 41 2 v (formOf L).length (scells (formOf L)) ∧ Below w.heap.size w w' := by
  have hl := setT_len (formOf L)
  have hf := formOf_len L
  have hs : (⟨(setT (formOf L)).toArray⟩ : ByteArray).size = (setT (formOf L)).length := rfl
  have h := spParse_any ⟨(setT (formOf L)).toArray⟩ w hE (by omega)
  have e := set_some (setP_text (formOf_NF L) (formOf_self (formOf_NF L)))
  dsimp only at h
  rw [e.1, e.2] at h
  exact h
set_option maxRecDepth 100000 in
set_option maxHeartbeats 4000000 in
theorem lawSpBack_any (L : List SpanV) (vl : Value) (s : ByteArray) (w : World) (hE : Env w) (hl : Rd w w.heap.size 2 vl L.length (scells L)) :
    Calls Tryd.prog 7 #[vl, .string s] w fun e w' => e = .returned (.bool true) ∧ Below w.heap.size w w' := by
  obtain ⟨Al, cl, rfl, _⟩ := hl.form
  have HL := Lib.hid hl
  clear hl
  have hla := large_any L [] Al none cl 0 w
  have haw := Lib.hid awake02_any
  cases hlg : largeB L [] with
  | true =>
    rw [hlg] at hla
    go_enter Tryd.func7, Tryd.ntmps7
    go_wp2_with fail
    refine hla.mono ?_
    rintro e w1 ⟨rfl, rfl⟩
    clear hla
    go_wp2_with fail
    refine (haw.out w).mono ?_
    rintro e w1 ⟨rfl, hb⟩
    go_wp2
    go_ret
    exact ⟨rfl, hb⟩
  | false =>
    rw [hlg] at hla
    have h1 : L.length ≤ 200 := by
      simp [largeB] at hlg
      omega
    clear hlg
    by_cases hs : 2000 < s.size
    · have hI : (s.size : Int) > 2000 := by omega
      go_enter Tryd.func7, Tryd.ntmps7
      go_wp2_with fail
      refine hla.mono ?_
      rintro e w1 ⟨rfl, rfl⟩
      clear hla
      go_wp2_with fail
      refine (haw.out w).mono ?_
      rintro e w1 ⟨rfl, hb⟩
      go_wp2
      go_ret
      exact ⟨rfl, hb⟩
    · have hI : ¬ (s.size : Int) > 2000 := by omega
      have c1 : ∀ W, Below w.heap.size w W → _ := fun W hb => spText_any L _ W (hE.below hb) ((HL.out.below hb).mono hb.size) (by omega)
      have c2 : ∀ W, Below w.heap.size w W → _ := fun W hb => spParse_back L W (hE.below hb) (by omega)
      have c3 : ∀ W, Below w.heap.size w W → _ := fun W hb => form_any L _ W ((HL.out.below hb).mono hb.size) (by omega)
      have hfl := formOf_len L
      have hNF := formOf_NF L
      have c5 : ∀ W v, Below w.heap.size w W → Rd W W.heap.size 2 v (formOf L).length (scells (formOf L)) → Calls Tryd.prog 28 #[.slice Al L.length cl, v] W fun e w' => e = .returned (.bool true) ∧ Below W.heap.size W w' := by
        intro W v hb hr
        have h := spSame_any L (formOf L) _ v W ((HL.out.below hb).mono hb.size) hr (by omega) (by omega)
        rw [formOf_self hNF, eqB_self] at h
        exact h
      have c4 : ∀ W v v', Rd W W.heap.size 2 v (formOf L).length (scells (formOf L)) → Rd W W.heap.size 2 v' (formOf L).length (scells (formOf L)) → Calls Tryd.prog 27 #[v, v'] W fun e w' => e = .returned (.bool true) ∧ Below W.heap.size W w' := by
        intro W v v' hr hr'
        have h := refSpans_any (formOf L) (formOf L) v v' W hr hr' (by omega)
        rw [eqB_self] at h
        exact h
      have c6 : ∀ W, Below w.heap.size w W → _ := fun W hb => spParse_any s W (hE.below hb) (by omega)
      have C1 := Lib.hid c1
      have C2 := Lib.hid c2
      have C3 := Lib.hid c3
      have C4 := Lib.hid c4
      have C5 := Lib.hid c5
      have C6 := Lib.hid c6
      have HNF := Lib.hid hNF
      clear c1 c2 c3 c4 c5 c6 hNF
      generalize hq : (⟨(setT (formOf L)).toArray⟩ : ByteArray) = q at *
      clear hq
      go_enter Tryd.func7, Tryd.ntmps7
      go_wp2_with fail
      refine hla.mono ?_
      rintro e w1 ⟨rfl, rfl⟩
      clear hla
      go_wp2_with fail
      refine (haw.out w).mono ?_
      rintro e w1 ⟨rfl, hb1⟩
      go_wp2_with fail
      refine (C1.out w1 hb1).mono ?_
      rintro e w2 ⟨rfl, hb⟩
      have hb2 := below_call hb1 hb
      clear hb hb1
      go_wp2_with fail
      refine (C2.out w2 hb2).mono ?_
      rintro e w3 ⟨v3, rfl, hown3, hb⟩
      have hb3 := below_call hb2 hb
      have hr3 := Rd.of_own hown3
      clear hb hb2 hown3
      go_wp2_with fail
      refine (show Calls _ _ _ _ (SetRes (formOf L) w3) from C3.out w3 hb3).mono ?_
      rintro e w4 ⟨v4, rfl, hown4, hb⟩
      have hb4 := below_call hb3 hb
      have hr4 := Rd.of_own hown4
      have hr34 := (hr3.below hb).mono hb.size
      clear hb hb3 hown4 hr3
      go_wp2_with fail
      refine (C4.out w4 v3 v4 hr34 hr4).mono ?_
      rintro e w5 ⟨rfl, hb⟩
      have hb5 := below_call hb4 hb
      have hr5 := (hr4.below hb).mono hb.size
      clear hb hb4 hr4 hr34
      go_wp2_with fail
      refine (C5.out w5 v4 hb5 hr5).mono ?_
      rintro e w6 ⟨rfl, hb⟩
      have hb6 := below_call hb5 hb
      have hr6 := (hr5.below hb).mono hb.size
      clear hb hb5 hr5
      obtain ⟨A4, c4, rfl, _⟩ := hr6.form
      have HR := Lib.hid hr6
      clear hr6
      generalize formOf L = F at *
      go_wp2
      go_loopw [8] (fun i wr => ∃ j : Nat, i = .int .i64 j ∧ j ≤ F.length ∧ Below w6.heap.size w6 wr) (fun i _ => F.length - (intOf i).toNat)
      case atStart => exact ⟨0, rfl, by omega, Below.refl _ _⟩
      case round =>
        obtain ⟨j, rfl, hj, hnx⟩ := hrel
        have hsz := hnx.size
        by_cases hlt : j < F.length
        · have hI2 : (j : Int) < (F.length : Int) := by omega
          obtain ⟨x, hx⟩ : ∃ x, F[j]? = some x := ⟨_, List.getElem?_eq_getElem hlt⟩
          obtain ⟨b, off, c', hv, _, hbB, hcell⟩ := (HR.out.below hnx).posAt (by omega)
          injection hv with hv1 _ hv3
          subst hv1 hv3
          have f0 : wr.cell? ⟨b, off + j * 2, none⟩ = some (.int .u32 x.lo) := hcell j 0 _ (scell hx rfl)
          have f1 : wr.cell? ⟨b, off + j * 2 + 1, none⟩ = some (.int .u32 x.hi) := hcell j 1 _ (scell hx rfl)
          have F0 := cell_regrown f0
          have F1 := cell_regrown f1
          have xlo := x.hlo
          have xhi := x.hhi
          have hlh := HNF.out.ok x (List.mem_of_getElem? hx)
          have d1 : decide (x.hi < x.lo) = false := by simp; omega
          cases j with
          | zero =>
            have F0 := cell_regrown (show wr.cell? ⟨b, off, none⟩ = some (.int .u32 x.lo) by simpa using f0)
            have F1 := cell_regrown (show wr.cell? ⟨b, off + 1, none⟩ = some (.int .u32 x.hi) by simpa using f1)
            clear hcell hx f0 f1
            go_wp2
            refine wp_region_quiet_below (by kernel_rfl) (by kernel_rfl) ?_
            repeat (first | go_big_quiet_step (fail) | quiet_step (fail))
            refine wpQuiet_nil ?_
            intro _ hw'
            obtain ⟨⟨nq, osq⟩, hw''⟩ := hw'
            subst hw''
            have hq := below_regrown wr nq osq
            go_wp2
            exact ⟨⟨1, rfl, by omega, hnx.trans (hq.mono hsz)⟩, by simp only [intOf]; omega⟩
          | succ k =>
            obtain ⟨y, hy⟩ : ∃ y, F[k]? = some y := ⟨_, List.getElem?_eq_getElem (by omega)⟩
            have g1 : wr.cell? ⟨b, off + k * 2 + 1, none⟩ = some (.int .u32 y.hi) := hcell k 1 _ (scell hy rfl)
            have G1 := cell_regrown g1
            have hyx := nf_next HNF.out hy hx
            have yhi := y.hhi
            have d2 : wrap64 (((k + 1 : Nat) : Int) - 1) = (k : Int) := by unfold wrap64; omega
            have d2' : ((k + 1 : Nat) : Int) - 1 = (k : Int) := by omega
            have d3 : (y.hi + 2) % 18446744073709551616 = y.hi + 2 := by omega
            have d4 : decide (x.lo < y.hi + 2) = false := by simp; omega
            have d5 : ((k + 1 : Nat) : Int) > 0 := by omega
            clear hcell hx hy f0 f1 g1
            go_wp2
            refine wp_region_quiet_below (by kernel_rfl) (by kernel_rfl) ?_
            repeat (first | go_big_quiet_step (fail) | quiet_step (fail))
            refine wpQuiet_nil ?_
            intro _ hw'
            obtain ⟨⟨nq, osq⟩, hw''⟩ := hw'
            subst hw''
            have hq := below_regrown wr nq osq
            go_wp2
            exact ⟨⟨k + 2, by go_num, by omega, hnx.trans (hq.mono hsz)⟩, by simp only [intOf]; omega⟩
        · obtain rfl : j = F.length := by omega
          have hI2 : ¬ (F.length : Int) < (F.length : Int) := by omega
          have hb7 := hb6.trans (hnx.mono hb6.size)
          have hEr := hE.below hb7
          have hT : ∀ W v, Below w.heap.size w W → Rd W W.heap.size 2 v (setL s.data.toList).length (scells (setL s.data.toList)) → (setL s.data.toList).length ≤ 1000000 → _ := fun W v hb hr hn => spText_any (setL s.data.toList) v W (hE.below hb) hr hn
          rw [setL_NF] at hT
          have HT := Lib.hid hT
          clear hT
          cases hO : setP s.data.toList with
          | none =>
            have hz := set_none hO
            have c6 := C6.out wr hb7
            rw [hz.1, hz.2] at c6
            have CC := Lib.hid c6
            clear c6
            go_wp2_with fail
            refine CC.out.mono ?_
            rintro e w8 ⟨v8, rfl, hown8, hb⟩
            have hb8 := below_call hb7 hb
            obtain ⟨A8, c8, rfl, _⟩ := owns_form hown8
            go_wp2
            go_ret
            exact ⟨rfl, hb8⟩
          | some M =>
            have hz := set_some hO
            have ht := (setP_form hO).2
            have c6 := C6.out wr hb7
            rw [hz.1, hz.2] at c6
            have hT := HT.out
            rw [hz.1, ht] at hT
            have CC := Lib.hid c6
            have HTT := Lib.hid hT
            clear c6 hT
            have hq : ((⟨s.data.toList.toArray⟩ : ByteArray).toList == s.toList) = true := by rw [str_mk]; simp
            have hML : M.length ≤ 1000000 := by
              have h := setL_len s.data.toList
              have hss : s.data.toList.length = s.size := Array.length_toList
              rw [hz.1] at h
              omega
            go_wp2_with fail
            refine CC.out.mono ?_
            rintro e w8 ⟨v8, rfl, hown8, hb⟩
            have hb8 := below_call hb7 hb
            have hr8 := Rd.of_own hown8
            clear hb hown8
            go_wp2_with fail
            refine (HTT.out w8 v8 hb8 hr8 hML).mono ?_
            rintro e w9 ⟨rfl, hb⟩
            have hb9 := below_call hb8 hb
            go_wp2
            go_ret
            exact ⟨rfl, hb9⟩
end Go.Proofs.YtmgeknghgngliaaDoor

/-
  Arguments opened to cells with their weights: no program in sight.
-/
namespace Go.Proofs.YtmgeknghgngliaaDoor
open Go Go.RowKit Go.ChangeShapes Go.WideShapes Go.Deep

section
variable {H : Type} {enc : TypeId × Value → H} {P : Program} {w : World} {base : Nat} {spare : Nat → Bool} {held : Bool}
/-- All of a datum's weights are within the reach. -/
def InReach (P : Program) (t : TypeId) (d : DataW H) : Prop := ∀ m ∈ d.weights P t, m ≤ reachBytes
theorem mem_weightsAll {e : TypeId} {d : DataW H} : ∀ {ds : List (DataW H)}, d ∈ ds → ∀ n ∈ d.weights P e, n ∈ DataW.weightsAll P e ds
  | [], h, _, _ => by simp at h
  | x :: ds, h, n, hn => by
    rw [DataW.weightsAll, List.mem_append]
    rcases List.mem_cons.1 h with rfl | h
    · exact .inl hn
    · exact .inr (mem_weightsAll h n hn)
theorem sub_at2 {t : TypeId} {fs : Array Field} {n : Nat} {cs : List Value} {x : DataW H × List MemPlace} (ht : P.underlying t = some (.struct fs)) (h : DataW.trod enc P w base spare held n t cs = some x) (hw : InReach P t x.1) :
    cs.length = P.cellsOf t ∧ ∃ m, ∀ (j : Nat) (f : Field) (off : Nat) (ty : TypeId) (k : Nat), fs[j]? = some f → f.offset = off → f.type = ty → P.cellsOf ty = k → ∃ y, DataW.trod enc P w base spare held m ty ((cs.drop off).take k) = some y ∧ InReach P ty y.1 := by
  obtain ⟨xs, m, _, hx, hl, hlen, hf⟩ := DataW.trod_struct ht h
  refine ⟨hl, m, fun j f off ty k hj ho hty hk => ?_⟩
  have h1 := hf j f hj
  have hjl : j < xs.length := by rw [hlen]; exact (Array.getElem?_eq_some_iff.1 hj).1
  subst ho hty hk
  refine ⟨_, h1.trans (List.getElem?_eq_getElem hjl), fun q hq => hw q ?_⟩
  rw [hx]
  simp only [DataW.weights, ht]
  exact DataW.weights_mem_each (j := j) (t := f.type) (by simpa using congrArg (Option.map (·.type)) hj) (by simp [hjl]) q hq
theorem open_rd2 {α : Type} {encV : α → List Value} {Q : α → Prop} {k : Nat} (hk : ∀ x, (encV x).length = k) (hk0 : 0 < k) {t e : TypeId} {n : Nat} {cs : List Value} {x : DataW H × List MemPlace} (ht : P.underlying t = some (.slice e)) (hC : P.cellsOf e = k)
    (hel : ∀ n cs y, DataW.trod enc P w base spare held n e cs = some y → InReach P e y.1 → ∃ r, cs = encV r ∧ Q r) (h : DataW.trod enc P w base spare held n t cs = some x) (hw : InReach P t x.1) :
    ∃ (v : Value) (L : List α), cs = [v] ∧ Rd w w.heap.size k v L.length (L.flatMap encV) ∧ L.length ≤ maxLen ∧ (∀ r ∈ L, Q r) ∧ L.length * P.bytesOf e ≤ reachBytes := by
  rcases open_slice ht h with ⟨h0, _⟩ | ⟨a, len, cap, m, n', D, Pl, hcs, _, hl, hm, hmm, hx, hi⟩
  · exact ⟨_, [], h0, ⟨none, 0, rfl, by simp, by simp, fun h => absurd h (by simp)⟩, by simp, by simp, by simp⟩
  · have hlm : len ≤ m := by rw [hmm]; split <;> omega
    have hw1 : ∀ i, i < len → InReach P e (D i) := fun i hi' q hq => by
      refine hw q ?_
      rw [hx]
      simp only [DataW.weights, ht]
      refine List.mem_cons_of_mem _ (List.mem_append_left _ (mem_weightsAll (d := D i) ?_ q hq))
      exact List.mem_map.2 ⟨i, List.mem_range.2 hi', rfl⟩
    have hw2 : len * P.bytesOf e ≤ reachBytes := by
      have := hw ((((List.range len).map D).length + ((List.range (m - len)).map fun j => D (len + j)).length) * P.bytesOf e) (by rw [hx]; simp only [DataW.weights, ht]; exact List.mem_cons_self ..)
      refine Nat.le_trans (Nat.mul_le_mul_right _ ?_) this
      simp
    obtain ⟨L, hL, hq⟩ := list_told (Q := fun i r => w.cells? base (a.add (i * k)) k = some (encV r) ∧ Q r) len (fun i hi' => by
      obtain ⟨cs', hc, ht'⟩ := hi i (by omega)
      obtain ⟨r, hr, hQ⟩ := hel _ _ _ ht' (hw1 i hi')
      rw [hC] at hc
      exact ⟨r, by rw [hc, hr], hQ⟩)
    refine ⟨_, L, hcs, ⟨some a, cap, by rw [hL], by omega, flat_len encV k hk L, fun hpos => ?_⟩, by omega, fun r hr => ?_, by rw [hL]; exact hw2⟩
    · obtain ⟨b, off, sp⟩ := a
      have hz : ∃ u, w.cell? ⟨b, off, sp⟩ = some u := by
        obtain ⟨r, hr⟩ : ∃ r, L[0]? = some r := ⟨_, List.getElem?_eq_getElem hpos⟩
        obtain ⟨_, _, hat⟩ := World.cells?_some (hq 0 r hr).1
        have h1 := hat 0 hk0
        have h2 : (encV r)[0]? = some ((encV r)[0]'(by rw [hk]; exact hk0)) := List.getElem?_eq_getElem _
        rw [h2] at h1
        refine ⟨_, Eq.trans ?_ h1⟩
        simp [Addr.add]
      obtain ⟨u0, hu0⟩ := hz
      obtain rfl := Go.Proofs.cell_spot hu0
      refine ⟨b, off, rfl, ?_, fun j u hu => ?_⟩
      · rcases Nat.lt_or_ge b w.heap.size with h | h
        · exact h
        · have hn : w.heap[b]? = none := by simp [h]
          simp [World.cell?, hn] at hu0
      · obtain ⟨i, jj, r, hj, hjj, hr, hu'⟩ := flat_inv encV k hk L j u hu
        obtain ⟨_, _, hat⟩ := World.cells?_some (hq i r hr).1
        have h1 := hat jj hjj
        rw [hu'] at h1
        have e : (Addr.add ⟨b, off, none⟩ (i * k)).add jj = ⟨b, off + j, none⟩ := by
          rw [hj]; simp only [Addr.add]
          split <;> split <;> simp_all <;> omega
        rw [← e]; exact h1
    · obtain ⟨i, hi', he⟩ := List.getElem_of_mem hr
      exact (hq i r (by rw [← he]; exact List.getElem?_eq_getElem hi')).2
end

end Go.Proofs.YtmgeknghgngliaaDoor

/-
  The cells of spans (out of Elem3).
-/
namespace Go.Proofs.YtmgeknghgngliaaDoor
open Go Go.RowKit Go.ChangeShapes Go.WideShapes Go.Deep

set_option maxHeartbeats 1000000 in
theorem elem_span {H : Type} {enc : TypeId × Value → H} {w : World} {base : Nat} {spare : Nat → Bool} {held : Bool} (n : Nat) (cs : List Value) (x : DataW H × List MemPlace) (h : DataW.trod enc Tryd.prog w base spare held n 41 cs = some x) : ∃ r : SpanV, cs = r.enc := by
  obtain ⟨l0, m0, s0⟩ := sub_at Tryd.underlying41 h
  rw [show Tryd.prog.cellsOf 41 = 2 from by kernel_rfl] at l0
  obtain ⟨c0, c1, rfl⟩ : ∃ c0 c1, cs = [c0, c1] := by
    match cs, l0 with
    | [c0, c1], _ => exact ⟨c0, c1, rfl⟩
  obtain ⟨_, g1⟩ := s0 0 _ 0 22 1 rfl rfl rfl (by kernel_rfl)
  replace g1 : DataW.trod enc Tryd.prog w base spare held m0 22 [c0] = some _ := g1
  obtain ⟨v0, e0, _, w0⟩ := DataW.trod_int Tryd.underlying22 g1
  have b0 := bounds_u32 w0
  obtain rfl := (List.cons.inj e0).1
  obtain ⟨_, g2⟩ := s0 1 _ 1 22 1 rfl rfl rfl (by kernel_rfl)
  replace g2 : DataW.trod enc Tryd.prog w base spare held m0 22 [c1] = some _ := g2
  obtain ⟨v1, e1, _, w1⟩ := DataW.trod_int Tryd.underlying22 g2
  have b1 := bounds_u32 w1
  obtain rfl := (List.cons.inj e1).1
  exact ⟨⟨v0, v1, ⟨by omega, by omega⟩, ⟨by omega, by omega⟩⟩, rfl⟩

end Go.Proofs.YtmgeknghgngliaaDoor
