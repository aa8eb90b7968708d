/-
  Joined texts: Sp11, Sp12, Sp13, LawSpTexts, OpenS2, ElemSp.
-/
import Derived.Test.YtmgeknghgngliaaGreatDoorMSpansTexts9
import Derived.Test.YtmgeknghgngliaaGreatDoorMSpansTexts8
import Derived.Test.YtmgeknghgngliaaGreatDoorShelf2
import Derived.Shelf.SlicesQ.IndexFunc
import Derived.Test.YtmgeknghgngliaaGreatDoorMSpansTexts11
import Derived.Test.YtmgeknghgngliaaGreatDoorMSpansTexts7
import Derived.SizedLaws
import Derived.Deep.Fields
/-
  The walks of spans.Count, Least, Same, of slices.Equal at spans, and of the document's Count and Spans.
-/
namespace Go.Proofs.YtmgeknghgngliaaGreatDoor
open Go Go.RowKit Go.Lib Go.Sort

theorem cnt_snoc (A : List SpanV) (s : SpanV) : cnt (A ++ [s]) = cnt A + (s.hi - s.lo + 1) := by rw [cnt_append]; simp [cnt]

set_option maxRecDepth 100000 in
set_option maxHeartbeats 4000000 in
theorem count_any (L : List SpanV) (vl : Value) (w : World) (hl : Rd w w.heap.size 2 vl L.length (scells L)) (hlen : L.length ≤ 1099511627776) :
    Calls Tryz.prog 76 #[vl] w fun e w' => e = .returned (.int .u64 (cnt (formOf L))) ∧ Below w.heap.size w w' := by
  have hF := formOf_ok L
  have hFl := formOf_len L
  generalize hFF : formOf L = F at *
  have HFF := Lib.hid hFF
  clear hFF
  go_enter Tryz.func76, Tryz.ntmps76
  go_wp2_with fail
  refine (form_any L vl w hl hlen).mono ?_
  rintro e w1 ⟨v1, rfl, hown1, hb1⟩
  rw [HFF.out] at hown1
  have rd1 := Rd.of_own hown1
  obtain ⟨A1, c1, rfl, hc1⟩ := rd1.form
  have HR := Lib.hid rd1
  have hsz1 := hb1.size
  clear rd1 hown1
  go_wp2_with fail
  go_loopw [3, 9] (fun n i wr => ∃ j : Nat, i = .int .i64 j ∧ j ≤ F.length ∧ n = .int .u64 (cnt (F.take j)) ∧ Below w1.heap.size w1 wr) (fun _ i _ => F.length - (intOf i).toNat)
  case atStart => exact ⟨0, rfl, by omega, rfl, Below.refl _ _⟩
  case round =>
    obtain ⟨j, rfl, hj, rfl, hnx⟩ := hrel
    have hsz := hnx.size
    by_cases hlt : j < F.length
    · have hI : (j : Int) < (F.length : Int) := by omega
      obtain ⟨s, hs⟩ : ∃ s, F[j]? = some s := ⟨_, List.getElem?_eq_getElem hlt⟩
      obtain ⟨b, off, c', hv, _, hbB, hcell⟩ := (HR.out.below hnx).posAt (by omega)
      injection hv with hv1 _ hv3
      subst hv1 hv3
      have f0 : wr.cell? ⟨b, off + j * 2, none⟩ = some (.int .u32 s.lo) := hcell j 0 _ (scell hs rfl)
      have f1 : wr.cell? ⟨b, off + j * 2 + 1, none⟩ = some (.int .u32 s.hi) := hcell j 1 _ (scell hs rfl)
      have hsv := hF.1.ok s (List.mem_of_getElem? hs)
      have hlo := s.hlo
      have hhi := s.hhi
      have hst := cnt_succ hs
      have hr1 := cnt_take_le hF.1 (j + 1)
      have hr0 := cnt_take_le hF.1 j
      rw [hst] at hr1
      have HST := Lib.hid hst
      clear hst hcell hs
      generalize cnt (F.take j) = n at *
      have e1 : (s.hi - s.lo) % 4294967296 = s.hi - s.lo := by omega
      have e2 : (s.hi - s.lo + 1) % 18446744073709551616 = s.hi - s.lo + 1 := by omega
      have e3 : (n + (s.hi - s.lo + 1)) % 18446744073709551616 = n + (s.hi - s.lo + 1) := by omega
      go_wp2
      exact ⟨⟨j + 1, by go_num, by omega, by rw [HST.out], hnx.alloc hsz _⟩, by simp only [intOf]; omega⟩
    · obtain rfl : j = F.length := by omega
      rw [List.take_length]
      go_wp2
      go_ret
      exact ⟨rfl, hb1.trans (hnx.mono hsz1)⟩

def leastOf (F : List SpanV) : Int × Bool := match F with | [] => (0, false) | s :: _ => (s.lo, true)
end Go.Proofs.YtmgeknghgngliaaGreatDoor

/-
  The walks of slices.Equal at spans, of the document's Spans, and of spans.Same.
-/
namespace Go.Proofs.YtmgeknghgngliaaGreatDoor
open Go Go.RowKit Go.Lib Go.Sort

theorem spanEq_iff {s t : SpanV} : (s.lo = t.lo ∧ s.hi = t.hi) ↔ s = t := ⟨fun h => SpanV.eq h.1 h.2, fun h => by rw [h]; exact ⟨rfl, rfl⟩⟩
theorem list_eq_of {A B : List SpanV} (h : A.length = B.length) (h2 : ∀ (i : Nat) (s t : SpanV), A[i]? = some s → B[i]? = some t → s = t) : A = B := by
  apply List.ext_getElem? 
  intro i
  by_cases hi : i < A.length
  · have ha := List.getElem?_eq_getElem hi
    have hb := List.getElem?_eq_getElem (l := B) (i := i) (by omega)
    rw [ha, hb, h2 i _ _ ha hb]
  · rw [List.getElem?_eq_none (by omega), List.getElem?_eq_none (by omega)]
open Classical in
/-- Are two lists of spans the same? -/
noncomputable def eqB (A B : List SpanV) : Bool := decide (A = B)
open Classical in
theorem eqB_self (A : List SpanV) : eqB A A = true := by simp [eqB]
open Classical in
theorem eqB_ne {A B : List SpanV} (h : A ≠ B) : eqB A B = false := by simp [eqB, h]
/-- '!=' of two spans. -/
theorem neqSpan (a b c d : Int) (w : World) : (binOp .neq 27 (.agg #[.int .u32 a, .int .u32 b]) (.agg #[.int .u32 c, .int .u32 d])).run Tryz.prog w = .ok (.bool !((a == c) && (b == d))) w := by
  have hS : Tryz.prog.underlying 27 = some (.struct (Tryz.prog.fieldsOf 27)) := by kernel_rfl
  have hp : Tryz.prog.stoodInHeld 27 = false := by kernel_rfl
  have b1 := Tryz.underlying22
  have b2 := Tryz.isAgg22
  have b3 := Tryz.sizeOf22
  rw [run_neq_struct, show (10000 : Nat) = 9998 + 1 + 1 from rfl, run_equalIn_agg w (9998 + 1) 27 _ _ hS hp]
  generalize 9998 = dd
  simp only [Program.fieldsOf, Tryz.underlying27]
  go_simp
  by_cases h1 : a = c <;> by_cases h2 : b = d <;> simp [h1, h2]

set_option maxRecDepth 100000 in
set_option maxHeartbeats 4000000 in
theorem refSpans_any (A B : List SpanV) (va vb : Value) (w : World) (ha : Rd w w.heap.size 2 va A.length (scells A)) (hb : Rd w w.heap.size 2 vb B.length (scells B)) (hla : A.length ≤ 1099511627776) :
    Calls Tryz.prog 30 #[va, vb] w fun e w' => e = .returned (.bool (eqB A B)) ∧ Below w.heap.size w w' := by
  obtain ⟨Aa, ca, rfl, _⟩ := ha.form
  obtain ⟨Ab, cb, rfl, _⟩ := hb.form
  have HA := Lib.hid ha
  have HB := Lib.hid hb
  clear ha hb
  go_enter Tryz.func30, Tryz.ntmps30
  by_cases hlen : A.length = B.length
  · have HLEN := Lib.hid hlen
    have hne : ((A.length : Int) != (B.length : Int)) = false := by simp [hlen]
    clear hlen
    go_wp2
    go_loopw [5] (fun i wr => ∃ j : Nat, i = .int .i64 j ∧ j ≤ A.length ∧ Hid (∀ (i : Nat) (s t : SpanV), i < j → A[i]? = some s → B[i]? = some t → s = t) ∧ Below w.heap.size w wr) (fun i _ => A.length - (intOf i).toNat)
    case atStart => exact ⟨0, rfl, by omega, (by intro i s t hi; omega : ∀ (i : Nat) (s t : SpanV), i < 0 → A[i]? = some s → B[i]? = some t → s = t), Below.refl _ _⟩
    case round =>
      obtain ⟨j, rfl, hj, hsm, hnx⟩ := hrel
      have hsz := hnx.size
      by_cases hlt : j < A.length
      · have hI : (j : Int) < (A.length : Int) := by omega
        have hlt2 : j < B.length := by have := HLEN.out; omega
        have hI2 : (j : Int) < (B.length : Int) := by omega
        obtain ⟨s, hs⟩ : ∃ s, A[j]? = some s := ⟨_, List.getElem?_eq_getElem hlt⟩
        obtain ⟨t, ht⟩ : ∃ t, B[j]? = some t := ⟨_, List.getElem?_eq_getElem hlt2⟩
        obtain ⟨b, off, c', hv, _, hbB, hcell⟩ := (HA.out.below hnx).posAt (by omega)
        injection hv with hv1 _ hv3
        subst hv1 hv3
        obtain ⟨b2, off2, c2', hv, _, hbB2, hcell2⟩ := (HB.out.below hnx).posAt (by omega)
        injection hv with hv1 _ hv3
        subst hv1 hv3
        have f0 : wr.cell? ⟨b, off + j * 2, none⟩ = some (.int .u32 s.lo) := hcell j 0 _ (scell hs rfl)
        have f1 : wr.cell? ⟨b, off + j * 2 + 1, none⟩ = some (.int .u32 s.hi) := hcell j 1 _ (scell hs rfl)
        have f2 : wr.cell? ⟨b2, off2 + j * 2, none⟩ = some (.int .u32 t.lo) := hcell2 j 0 _ (scell ht rfl)
        have f3 : wr.cell? ⟨b2, off2 + j * 2 + 1, none⟩ = some (.int .u32 t.hi) := hcell2 j 1 _ (scell ht rfl)
        have F0 := cell_regrown f0
        have F1 := cell_regrown f1
        have F2 := cell_regrown f2
        have F3 := cell_regrown f3
        have HS := Lib.hid hs
        have HT := Lib.hid ht
        clear hcell hcell2 hs ht f0 f1 f2 f3
        have hcmp : (s = t ∧ ((s.lo == t.lo) && (s.hi == t.hi)) = true) ∨ (s ≠ t ∧ ((s.lo == t.lo) && (s.hi == t.hi)) = false) := by
          by_cases h : s = t
          · subst h; exact .inl ⟨rfl, by simp⟩
          · refine .inr ⟨h, ?_⟩
            rw [Bool.eq_false_iff]
            intro hh
            rw [Bool.and_eq_true, beq_iff_eq, beq_iff_eq] at hh
            exact h (SpanV.eq hh.1 hh.2)
        have hneq := fun W => neqSpan s.lo s.hi t.lo t.hi W
        rcases hcmp with ⟨hc1, hc2⟩ | ⟨hc1, hc2⟩
        all_goals (
          have HC := Lib.hid hc1
          rw [hc2] at hneq
          clear hc1 hc2
          go_wp2
          refine wp_region_quiet_below (by kernel_rfl) (by kernel_rfl) ?_
          repeat (first | go_big_quiet_step (fail) | quiet_step (fail))
          refine wpQuiet_nil ?_
          intro _ hw'
          obtain ⟨⟨nq, osq⟩, hw''⟩ := hw'
          subst hw''
          have hq := below_regrown wr nq osq
          go_wp2)
        · refine ⟨⟨j + 1, by go_num, by omega, ?_, hnx.trans (hq.mono hsz)⟩, by simp only [intOf]; omega⟩
          intro i u v hi hu hv
          rcases Nat.lt_or_ge i j with h | h
          · exact hsm.out i u v h hu hv
          · obtain rfl : i = j := by omega
            rw [HS.out] at hu
            rw [HT.out] at hv
            injection hu with hu
            injection hv with hv
            rw [← hu, ← hv]; exact HC.out
        · go_ret
          refine ⟨ret_bool (eqB_ne (fun h => ?_)).symm, hnx.trans (hq.mono hsz)⟩
          have h1 := HS.out
          rw [h, HT.out] at h1
          injection h1 with h1
          exact HC.out h1.symm
      · obtain rfl : j = A.length := by omega
        go_wp2
        go_ret
        refine ⟨ret_bool ?_, hnx⟩
        have : A = B := list_eq_of HLEN.out (fun i s t h1 h2 => hsm.out i s t (List.getElem?_eq_some_iff.1 h1).1 h1 h2)
        rw [this, eqB_self]
  · have hne : ((A.length : Int) != (B.length : Int)) = true := by simp; omega
    have HLEN := Lib.hid hlen
    clear hlen
    go_wp2
    go_ret
    exact ⟨ret_bool (eqB_ne (fun h => HLEN.out (by rw [h]))).symm, Below.refl _ _⟩

end Go.Proofs.YtmgeknghgngliaaGreatDoor

/-
  The walks of spans.Has, spans.Same, and of the law's large and awake.
-/
namespace Go.Proofs.YtmgeknghgngliaaGreatDoor
open Go Go.RowKit Go.Lib Go.Sort

set_option maxHeartbeats 1000000 in
theorem hasClos_any (s : SpanV) (x : Int) (B : Nat) (w : World) (hB : w.heap[B]? = some (.cells #[.int .u32 x] 22 (0, 0))) :
    Calls Tryz.prog 106 #[.agg #[.int .u32 s.lo, .int .u32 s.hi], .pointer (some ⟨B, 0, none⟩)] w fun e w' => e = .returned (.bool (s.inB x)) ∧ Below w.heap.size w w' := by
  have hlt := lt_of_block hB
  have hne : B ≠ w.heap.size := Nat.ne_of_lt hlt
  have e0 : w.cell? ⟨B, 0, none⟩ = some (.int .u32 x) := cell_of_one hB
  clear hB
  have hbw := below1 w (.cells #[.int .u32 s.lo, .int .u32 s.hi] 27)
  have HBW := Lib.hid hbw
  clear hbw
  have hin : s.inB x = (decide (s.lo ≤ x) && decide (x ≤ s.hi)) := rfl
  rw [hin]
  clear hin
  go_enter Tryz.func106, Tryz.ntmps106
  by_cases h1 : s.lo ≤ x
  · by_cases h2 : x ≤ s.hi
    · go_wp2
      go_ret
      exact ⟨ret_bool (by simp [h1, h2]), HBW.out⟩
    · go_wp2
      go_ret
      exact ⟨ret_bool (by simp; omega), HBW.out⟩
  · go_wp2
    go_ret
    exact ⟨ret_bool (by simp; omega), HBW.out⟩
theorem hasClos_pred (x : Int) (B : Nat) (w : World) (hB : w.heap[B]? = some (.cells #[.int .u32 x] 22 (0, 0))) : PredBelow Tryz.prog 106 #[.pointer (some ⟨B, 0, none⟩)] (fun s : SpanV => .agg s.enc.toArray) (fun s => s.inB x) w := fun W s hb =>
  (hasClos_any s x B W (blk_below hb hB)).mono fun _ _ ⟨he, hb'⟩ => ⟨he, hb.trans (hb'.mono hb.size)⟩

/-- slices.IndexFunc over spans, at any length. -/
theorem indexSpan_any (L : List SpanV) (v : Value) (p : SpanV → Bool) (g : Nat) (lb : Array Value) (w : World) (eg : ∀ args w, (callFunc g args).run Tryz.prog w = .ok (.enter g args) w)
    (hp : PredBelow Tryz.prog g lb (fun x : SpanV => .agg x.enc.toArray) p w) (h : Rd w w.heap.size 2 v L.length (scells L)) (hlen : L.length ≤ 9223372036854775807) :
    Calls Tryz.prog 135 #[v, .func (.func g) #[] lb] w fun e w' => e = .returned (.int .i64 (idxP p L)) ∧ Below w.heap.size w w' := by
  by_cases h0 : L.length = 0
  · obtain ⟨A, c, rfl, hc⟩ := h.form
    have e1 : L = [] := List.eq_nil_of_length_eq_zero h0
    subst e1
    clear hp h eg
    go_enter Tryz.func135, Tryz.ntmps135
    go_wp2
    refine wp_loop_rounds 1 ?_
    rw [rounds_succ]
    go_wp2
    go_ret
    exact ⟨rfl, Below.refl _ _⟩
  · obtain ⟨b, off, c, rfl, hc, hbB, hcell⟩ := h.pos (by omega)
    have := AnyQ.slices_IndexFunc Tryz.indexSpan 2 Tryz.isAgg27 Tryz.sizeOf27 SpanV.enc span_len p g lb eg b off L.length c L w hp (Nat.le_refl _) hlen hbB (Rd.cells span_len hcell)
    rw [List.take_length] at this
    exact this
/-- slices.ContainsFunc over spans, at any length. -/
theorem containsSpan_any (L : List SpanV) (v : Value) (p : SpanV → Bool) (g : Nat) (lb : Array Value) (w : World) (eg : ∀ args w, (callFunc g args).run Tryz.prog w = .ok (.enter g args) w)
    (hp : PredBelow Tryz.prog g lb (fun x : SpanV => .agg x.enc.toArray) p w) (h : Rd w w.heap.size 2 v L.length (scells L)) (hlen : L.length ≤ 9223372036854775807) :
    Calls Tryz.prog 105 #[v, .func (.func g) #[] lb] w fun e w' => e = .returned (.bool (L.any p)) ∧ Below w.heap.size w w' := by
  by_cases h0 : L.length = 0
  · obtain ⟨A, c, rfl, hc⟩ := h.form
    have e1 : L = [] := List.eq_nil_of_length_eq_zero h0
    subst e1
    have hi := indexSpan_any [] _ p g lb w eg hp h (by simp)
    have HI := Lib.hid hi
    clear hi hp h eg
    go_enter Tryz.func105, Tryz.ntmps105
    go_wp2_with fail
    refine HI.out.mono ?_
    rintro e w1 ⟨rfl, hb⟩
    have hm : (0 : Int) ≤ idxP p [] ↔ False := by rw [idxP_nil]; decide
    go_wp2
    go_ret
    exact ⟨ret_bool (by simp), hb⟩
  · obtain ⟨b, off, c, rfl, hc, hbB, hcell⟩ := h.pos (by omega)
    have := AnyQ.slices_ContainsFunc Tryz.containsSpan 2 Tryz.isAgg27 Tryz.sizeOf27 SpanV.enc span_len p g lb eg b off L.length c L w hp (Nat.le_refl _) hlen hbB (Rd.cells span_len hcell)
    rw [List.take_length] at this
    exact this

set_option maxHeartbeats 1000000 in
theorem has_any (L : List SpanV) (vl : Value) (x : Int) (w : World) (hl : Rd w w.heap.size 2 vl L.length (scells L)) (hlen : L.length ≤ 1099511627776) :
    Calls Tryz.prog 77 #[vl, .int .u32 x] w fun e w' => e = .returned (.bool (hasB L x)) ∧ Below w.heap.size w w' := by
  have hb1 := below1 w (.cells #[.int .u32 x] 22)
  have hcon := containsSpan_any L vl (fun s => s.inB x) 106 #[.pointer (some ⟨w.heap.size, 0, none⟩)] (w.alloc (.cells #[.int .u32 x] 22)) (enters_of Tryz.func106 (by kernel_rfl) rfl) (hasClos_pred x _ _ (blk1 w _)) ((hl.below hb1).mono hb1.size) (by omega)
  have HC := Lib.hid hcon
  have HB := Lib.hid hb1
  clear hcon hl hb1
  go_enter Tryz.func77, Tryz.ntmps77
  go_wp2_with fail
  refine HC.out.mono ?_
  rintro e w1 ⟨rfl, hb⟩
  have hbw := below_call HB.out hb
  go_wp2
  go_ret
  exact ⟨rfl, hbw⟩

def largeB (L M : List SpanV) : Bool := decide (200 < L.length) || decide (200 < M.length)
set_option maxHeartbeats 1000000 in
theorem large_any (L M : List SpanV) (A1 A2 : Option Addr) (c1 c2 : Nat) (w : World) :
    Calls Tryz.prog 24 #[.slice A1 L.length c1, .slice A2 M.length c2] w fun e w' => e = .returned (.bool (largeB L M)) ∧ w = w' := by
  go_enter Tryz.func24, Tryz.ntmps24
  by_cases h1 : 200 < L.length
  · have h1' : (200 : Int) < (L.length : Int) := by omega
    go_wp2
    go_ret
    exact ⟨ret_bool (by simp [largeB, h1]), rfl⟩
  · have h1' : ¬ (200 : Int) < (L.length : Int) := by omega
    by_cases h2 : 200 < M.length
    · have h2' : (200 : Int) < (M.length : Int) := by omega
      go_wp2
      go_ret
      exact ⟨ret_bool (by simp [largeB, h2]), rfl⟩
    · have h2' : ¬ (200 : Int) < (M.length : Int) := by omega
      go_wp2
      go_ret
      exact ⟨ret_bool (by simp [largeB]; omega), rfl⟩

/-- '==' of two spans. -/
theorem eqlSpan (a b c d : Int) (w : World) : (binOp .eql 27 (.agg #[.int .u32 a, .int .u32 b]) (.agg #[.int .u32 c, .int .u32 d])).run Tryz.prog w = .ok (.bool ((a == c) && (b == d))) w := by
  have hS : Tryz.prog.underlying 27 = some (.struct (Tryz.prog.fieldsOf 27)) := by kernel_rfl
  have hp : Tryz.prog.stoodInHeld 27 = false := by kernel_rfl
  have b1 := Tryz.underlying22
  have b2 := Tryz.isAgg22
  have b3 := Tryz.sizeOf22
  rw [run_eql_struct, show (10000 : Nat) = 9998 + 1 + 1 from rfl, run_equalIn_agg w (9998 + 1) 27 _ _ hS hp]
  generalize 9998 = dd
  simp only [Program.fieldsOf, Tryz.underlying27]
  go_simp
  by_cases h1 : a = c <;> by_cases h2 : b = d <;> simp [h1, h2]
theorem formOf_self {R : List SpanV} (h : NF R) : formOf R = R := theSet_eq h (fun _ => rfl)
def sp46 : SpanV := ⟨4, 6, by omega, by omega⟩
def sp13 : SpanV := ⟨1, 3, by omega, by omega⟩
def sp16 : SpanV := ⟨1, 6, by omega, by omega⟩
theorem form46 : formOf [sp46, sp13] = [sp16] := by
  refine theSet_eq ⟨by decide, fun t ht => by simp at ht, trivial⟩ (fun x => ?_)
  rw [Bool.eq_iff_iff]
  simp [hasB, SpanV.inB, sp46, sp13, sp16]
  omega
set_option maxHeartbeats 4000000 in
theorem awake02_any (w : World) : Calls Tryz.prog 25 #[] w fun e w' => e = .returned (.bool true) ∧ Below w.heap.size w w' := by
  have hb0 := below1 w (.cells #[.int .u32 4, .int .u32 6, .int .u32 1, .int .u32 3] 27)
  have hr0 : Rd (w.alloc (.cells #[.int .u32 4, .int .u32 6, .int .u32 1, .int .u32 3] 27)) (w.alloc (.cells #[.int .u32 4, .int .u32 6, .int .u32 1, .int .u32 3] 27)).heap.size 2 (.slice (some ⟨w.heap.size, 0, none⟩) 2 2) [sp46, sp13].length (scells [sp46, sp13]) :=
    Rd.of_blk (cs := #[.int .u32 4, .int .u32 6, .int .u32 1, .int .u32 3]) (blk1 w _) (by decide) rfl
  have hf := form_any [sp46, sp13] _ _ hr0 (by decide)
  rw [form46] at hf
  have HF := Lib.hid hf
  have HB := Lib.hid hb0
  clear hf hb0 hr0
  go_enter Tryz.func25, Tryz.ntmps25
  go_wp2_with fail
  refine HF.out.mono ?_
  rintro e w1 ⟨v1, rfl, hown1, hb1⟩
  have hr1 : Rd w1 w1.heap.size 2 v1 [sp16].length (scells [sp16]) := Rd.of_own hown1
  obtain ⟨A1, c1, rfl, hA1⟩ := owns_form hown1
  obtain ⟨g, rfl⟩ := hA1 (by decide)
  have f0 : w1.cell? ⟨g, 0, none⟩ = some (.int .u32 1) := hown1.cellAt 0 (by decide)
  have f1 : w1.cell? ⟨g, 1, none⟩ = some (.int .u32 6) := hown1.cellAt 1 (by decide)
  have hbw := below_call HB.out hb1
  have hnf : NF [sp16] := ⟨by decide, fun t ht => by simp at ht, trivial⟩
  have hcnt := count_any [sp16] _ w1 hr1 (by decide)
  rw [formOf_self hnf, show cnt [sp16] = 6 from rfl] at hcnt
  have HC := Lib.hid hcnt
  have HR := Lib.hid hr1
  have HBW := Lib.hid hbw
  have heq : ∀ W, (binOp .eql 27 (.agg #[.int .u32 1, .int .u32 6]) (.agg #[.int .u32 1, .int .u32 6])).run Tryz.prog W = .ok (.bool true) W := fun W => eqlSpan 1 6 1 6 W
  clear hcnt hr1 hbw hown1 hb1 HF HB hnf
  go_wp2_with fail
  refine HC.out.mono ?_
  rintro e w2 ⟨rfl, hb2⟩
  have hbw2 := below_call HBW.out hb2
  have hr2 := (HR.out.below hb2).mono hb2.size
  have hh := has_any [sp16] _ 5 w2 hr2 (by decide)
  rw [show hasB [sp16] 5 = true from rfl] at hh
  clear HC HR HBW
  go_wp2_with fail
  refine hh.mono ?_
  rintro e w3 ⟨rfl, hb3⟩
  have hbw3 := below_call hbw2 hb3
  have hr3 := (hr2.below hb3).mono hb3.size
  have hh3 := has_any [sp16] _ 7 w3 hr3 (by decide)
  rw [show hasB [sp16] 7 = false from rfl] at hh3
  clear hh hr2 hbw2
  go_wp2_with fail
  refine hh3.mono ?_
  rintro e w4 ⟨rfl, hb4⟩
  have hbw4 := below_call hbw3 hb4
  go_wp2
  go_ret
  exact ⟨rfl, hbw4⟩

end Go.Proofs.YtmgeknghgngliaaGreatDoor

/-
  The walk of the law SpansTexts.
-/
namespace Go.Proofs.YtmgeknghgngliaaGreatDoor
open Go Go.RowKit Go.Lib Go.Sort

set_option maxRecDepth 100000 in
set_option maxHeartbeats 4000000 in
theorem lawSpTexts_any (L : List SpanV) (vl : Value) (s : ByteArray) (w : World) (hE : Env w) (hl : Rd w w.heap.size 2 vl L.length (scells L)) :
    Calls Tryz.prog 5 #[vl, .string s] w fun e w' => e = .returned (.bool true) ∧ Below w.heap.size w w' := by
  obtain ⟨Al, cl, rfl, _⟩ := hl.form
  have HL := Lib.hid hl
  clear hl
  have hla := large_any L [] Al none cl 0 w
  have haw := Lib.hid awake02_any
  cases hlg : largeB L [] with
  | true =>
    rw [hlg] at hla
    go_enter Tryz.func5, Tryz.ntmps5
    go_wp2_with fail
    refine hla.mono ?_
    rintro e w1 ⟨rfl, rfl⟩
    clear hla
    go_wp2_with fail
    refine (haw.out w).mono ?_
    rintro e w1 ⟨rfl, hb⟩
    go_wp2
    go_ret
    exact ⟨rfl, hb⟩
  | false =>
    rw [hlg] at hla
    have h1 : L.length ≤ 200 := by
      simp [largeB] at hlg
      omega
    clear hlg
    by_cases hs : 2000 < s.size
    · have hI : (s.size : Int) > 2000 := by omega
      go_enter Tryz.func5, Tryz.ntmps5
      go_wp2_with fail
      refine hla.mono ?_
      rintro e w1 ⟨rfl, rfl⟩
      clear hla
      go_wp2_with fail
      refine (haw.out w).mono ?_
      rintro e w1 ⟨rfl, hb⟩
      go_wp2
      go_ret
      exact ⟨rfl, hb⟩
    · have hI : ¬ (s.size : Int) > 2000 := by omega
      have hsl := setL_len s.data.toList
      have hss : s.data.toList.length = s.size := Array.length_toList
      have C1 := Lib.hid (fun W (hb : Below w.heap.size w W) => spParse_any s W (hE.below hb) (by omega))
      have C2 := Lib.hid (fun W (hb : Below w.heap.size w W) => refSpParse_any s W (hE.below hb) (by omega))
      have C3 := Lib.hid (fun W (hb : Below w.heap.size w W) => spText_any L _ W (hE.below hb) ((HL.out.below hb).mono hb.size) (by omega))
      have C4 := Lib.hid (fun W (hb : Below w.heap.size w W) => refSpText_any L _ W (hE.below hb) ((HL.out.below hb).mono hb.size) (by omega))
      have c5 : ∀ W v v', Rd W W.heap.size 2 v (setL s.data.toList).length (scells (setL s.data.toList)) → Rd W W.heap.size 2 v' (setL s.data.toList).length (scells (setL s.data.toList)) → Calls Tryz.prog 30 #[v, v'] W fun e w' => e = .returned (.bool true) ∧ Below W.heap.size W w' := by
        intro W v v' hr hr'
        have h := refSpans_any (setL s.data.toList) (setL s.data.toList) v v' W hr hr' (by omega)
        rw [eqB_self] at h
        exact h
      have C5 := Lib.hid c5
      clear c5 hsl hss
      generalize hq : (⟨(setT (formOf L)).toArray⟩ : ByteArray) = q at *
      clear hq
      generalize setL s.data.toList = M at *
      generalize setE s.data.toList = E at *
      go_enter Tryz.func5, Tryz.ntmps5
      go_wp2_with fail
      refine hla.mono ?_
      rintro e w1 ⟨rfl, rfl⟩
      clear hla
      go_wp2_with fail
      refine (C1.out w (Below.refl _ _)).mono ?_
      rintro e w1 ⟨v1, rfl, hown1, hb1⟩
      have hr1 := Rd.of_own hown1
      clear hown1
      go_wp2_with fail
      refine (C2.out w1 hb1).mono ?_
      rintro e w2 ⟨v2, rfl, hown2, hb⟩
      have hb2 := below_call hb1 hb
      have hr2 := Rd.of_own hown2
      have hr12 := (hr1.below hb).mono hb.size
      clear hb hb1 hown2 hr1
      go_wp2_with fail
      refine (C3.out w2 hb2).mono ?_
      rintro e w3 ⟨rfl, hb⟩
      have hb3 := below_call hb2 hb
      have hr3 := (hr2.below hb).mono hb.size
      have hr13 := (hr12.below hb).mono hb.size
      clear hb hb2 hr2 hr12
      go_wp2_with fail
      refine (C4.out w3 hb3).mono ?_
      rintro e w4 ⟨rfl, hb⟩
      have hb4 := below_call hb3 hb
      have hr4 := (hr3.below hb).mono hb.size
      have hr14 := (hr13.below hb).mono hb.size
      clear hb hb3 hr3 hr13
      go_wp2_with fail
      refine (C5.out w4 _ _ hr14 hr4).mono ?_
      rintro e w5 ⟨rfl, hb⟩
      have hb5 := below_call hb4 hb
      go_wp2
      go_ret
      exact ⟨rfl, hb5⟩
end Go.Proofs.YtmgeknghgngliaaGreatDoor

/-
  Arguments opened to cells with their weights: no program in sight.
-/
namespace Go.Proofs.YtmgeknghgngliaaGreatDoor
open Go Go.RowKit Go.ChangeShapes Go.WideShapes Go.Deep

section
variable {H : Type} {enc : TypeId × Value → H} {P : Program} {w : World} {base : Nat} {spare : Nat → Bool} {held : Bool}
/-- All of a datum's weights are within the reach. -/
def InReach (P : Program) (t : TypeId) (d : DataW H) : Prop := ∀ m ∈ d.weights P t, m ≤ reachBytes
theorem mem_weightsAll {e : TypeId} {d : DataW H} : ∀ {ds : List (DataW H)}, d ∈ ds → ∀ n ∈ d.weights P e, n ∈ DataW.weightsAll P e ds
  | [], h, _, _ => by simp at h
  | x :: ds, h, n, hn => by
    rw [DataW.weightsAll, List.mem_append]
    rcases List.mem_cons.1 h with rfl | h
    · exact .inl hn
    · exact .inr (mem_weightsAll h n hn)
theorem sub_at2 {t : TypeId} {fs : Array Field} {n : Nat} {cs : List Value} {x : DataW H × List MemPlace} (ht : P.underlying t = some (.struct fs)) (h : DataW.trod enc P w base spare held n t cs = some x) (hw : InReach P t x.1) :
    cs.length = P.cellsOf t ∧ ∃ m, ∀ (j : Nat) (f : Field) (off : Nat) (ty : TypeId) (k : Nat), fs[j]? = some f → f.offset = off → f.type = ty → P.cellsOf ty = k → ∃ y, DataW.trod enc P w base spare held m ty ((cs.drop off).take k) = some y ∧ InReach P ty y.1 := by
  obtain ⟨xs, m, _, hx, hl, hlen, hf⟩ := DataW.trod_struct ht h
  refine ⟨hl, m, fun j f off ty k hj ho hty hk => ?_⟩
  have h1 := hf j f hj
  have hjl : j < xs.length := by rw [hlen]; exact (Array.getElem?_eq_some_iff.1 hj).1
  subst ho hty hk
  refine ⟨_, h1.trans (List.getElem?_eq_getElem hjl), fun q hq => hw q ?_⟩
  rw [hx]
  simp only [DataW.weights, ht]
  exact DataW.weights_mem_each (j := j) (t := f.type) (by simpa using congrArg (Option.map (·.type)) hj) (by simp [hjl]) q hq
theorem open_rd2 {α : Type} {encV : α → List Value} {Q : α → Prop} {k : Nat} (hk : ∀ x, (encV x).length = k) (hk0 : 0 < k) {t e : TypeId} {n : Nat} {cs : List Value} {x : DataW H × List MemPlace} (ht : P.underlying t = some (.slice e)) (hC : P.cellsOf e = k)
    (hel : ∀ n cs y, DataW.trod enc P w base spare held n e cs = some y → InReach P e y.1 → ∃ r, cs = encV r ∧ Q r) (h : DataW.trod enc P w base spare held n t cs = some x) (hw : InReach P t x.1) :
    ∃ (v : Value) (L : List α), cs = [v] ∧ Rd w w.heap.size k v L.length (L.flatMap encV) ∧ L.length ≤ maxLen ∧ (∀ r ∈ L, Q r) ∧ L.length * P.bytesOf e ≤ reachBytes := by
  rcases open_slice ht h with ⟨h0, _⟩ | ⟨a, len, cap, m, n', D, Pl, hcs, _, hl, hm, hmm, hx, hi⟩
  · exact ⟨_, [], h0, ⟨none, 0, rfl, by simp, by simp, fun h => absurd h (by simp)⟩, by simp, by simp, by simp⟩
  · have hlm : len ≤ m := by rw [hmm]; split <;> omega
    have hw1 : ∀ i, i < len → InReach P e (D i) := fun i hi' q hq => by
      refine hw q ?_
      rw [hx]
      simp only [DataW.weights, ht]
      refine List.mem_cons_of_mem _ (List.mem_append_left _ (mem_weightsAll (d := D i) ?_ q hq))
      exact List.mem_map.2 ⟨i, List.mem_range.2 hi', rfl⟩
    have hw2 : len * P.bytesOf e ≤ reachBytes := by
      have := hw ((((List.range len).map D).length + ((List.range (m - len)).map fun j => D (len + j)).length) * P.bytesOf e) (by rw [hx]; simp only [DataW.weights, ht]; exact List.mem_cons_self ..)
      refine Nat.le_trans (Nat.mul_le_mul_right _ ?_) this
      simp
    obtain ⟨L, hL, hq⟩ := list_told (Q := fun i r => w.cells? base (a.add (i * k)) k = some (encV r) ∧ Q r) len (fun i hi' => by
      obtain ⟨cs', hc, ht'⟩ := hi i (by omega)
      obtain ⟨r, hr, hQ⟩ := hel _ _ _ ht' (hw1 i hi')
      rw [hC] at hc
      exact ⟨r, by rw [hc, hr], hQ⟩)
    refine ⟨_, L, hcs, ⟨some a, cap, by rw [hL], by omega, flat_len encV k hk L, fun hpos => ?_⟩, by omega, fun r hr => ?_, by rw [hL]; exact hw2⟩
    · obtain ⟨b, off, sp⟩ := a
      have hz : ∃ u, w.cell? ⟨b, off, sp⟩ = some u := by
        obtain ⟨r, hr⟩ : ∃ r, L[0]? = some r := ⟨_, List.getElem?_eq_getElem hpos⟩
        obtain ⟨_, _, hat⟩ := World.cells?_some (hq 0 r hr).1
        have h1 := hat 0 hk0
        have h2 : (encV r)[0]? = some ((encV r)[0]'(by rw [hk]; exact hk0)) := List.getElem?_eq_getElem _
        rw [h2] at h1
        refine ⟨_, Eq.trans ?_ h1⟩
        simp [Addr.add]
      obtain ⟨u0, hu0⟩ := hz
      obtain rfl := Go.Proofs.cell_spot hu0
      refine ⟨b, off, rfl, ?_, fun j u hu => ?_⟩
      · rcases Nat.lt_or_ge b w.heap.size with h | h
        · exact h
        · have hn : w.heap[b]? = none := by simp [h]
          simp [World.cell?, hn] at hu0
      · obtain ⟨i, jj, r, hj, hjj, hr, hu'⟩ := flat_inv encV k hk L j u hu
        obtain ⟨_, _, hat⟩ := World.cells?_some (hq i r hr).1
        have h1 := hat jj hjj
        rw [hu'] at h1
        have e : (Addr.add ⟨b, off, none⟩ (i * k)).add jj = ⟨b, off + j, none⟩ := by
          rw [hj]; simp only [Addr.add]
          split <;> split <;> simp_all <;> omega
        rw [← e]; exact h1
    · obtain ⟨i, hi', he⟩ := List.getElem_of_mem hr
      exact (hq i r (by rw [← he]; exact List.getElem?_eq_getElem hi')).2
end

end Go.Proofs.YtmgeknghgngliaaGreatDoor

/-
  The cells of spans (out of Elem3).
-/
namespace Go.Proofs.YtmgeknghgngliaaGreatDoor
open Go Go.RowKit Go.ChangeShapes Go.WideShapes Go.Deep

set_option maxHeartbeats 1000000 in
theorem elem_span {H : Type} {enc : TypeId × Value → H} {w : World} {base : Nat} {spare : Nat → Bool} {held : Bool} (n : Nat) (cs : List Value) (x : DataW H × List MemPlace) (h : DataW.trod enc Tryz.prog w base spare held n 27 cs = some x) : ∃ r : SpanV, cs = r.enc := by
  obtain ⟨l0, m0, s0⟩ := sub_at Tryz.underlying27 h
  rw [show Tryz.prog.cellsOf 27 = 2 from by kernel_rfl] at l0
  obtain ⟨c0, c1, rfl⟩ : ∃ c0 c1, cs = [c0, c1] := by
    match cs, l0 with
    | [c0, c1], _ => exact ⟨c0, c1, rfl⟩
  obtain ⟨_, g1⟩ := s0 0 _ 0 22 1 rfl rfl rfl (by kernel_rfl)
  replace g1 : DataW.trod enc Tryz.prog w base spare held m0 22 [c0] = some _ := g1
  obtain ⟨v0, e0, _, w0⟩ := DataW.trod_int Tryz.underlying22 g1
  have b0 := bounds_u32 w0
  obtain rfl := (List.cons.inj e0).1
  obtain ⟨_, g2⟩ := s0 1 _ 1 22 1 rfl rfl rfl (by kernel_rfl)
  replace g2 : DataW.trod enc Tryz.prog w base spare held m0 22 [c1] = some _ := g2
  obtain ⟨v1, e1, _, w1⟩ := DataW.trod_int Tryz.underlying22 g2
  have b1 := bounds_u32 w1
  obtain rfl := (List.cons.inj e1).1
  exact ⟨⟨v0, v1, ⟨by omega, by omega⟩, ⟨by omega, by omega⟩⟩, rfl⟩

end Go.Proofs.YtmgeknghgngliaaGreatDoor
