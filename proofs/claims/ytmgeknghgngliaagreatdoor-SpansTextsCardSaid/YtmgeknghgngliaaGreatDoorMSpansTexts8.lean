/-
  Joined texts: Sp3, SpMath4, Sp6, Kit4, Sp7.
-/
import Derived.Test.YtmgeknghgngliaaGreatDoorMSpansTexts7
import Derived.Deep.DeepCutAuto
import Derived.StillTailTactics
import Derived.Test.YtmgeknghgngliaaGreatDoorShelf2
import Derived.ArgAppend
import Derived.Laws.CopyOwn
import Derived.Test.YtmgeknghgngliaaGreatDoorProg
import Derived.Deep.RegionLaw
import Derived.Deep.CutBlock
/-
  The walk of spans.Form.
-/
namespace Go.Proofs.YtmgeknghgngliaaGreatDoor
open Go Go.RowKit Go.Lib Go.Sort

theorem Tryz.infoSpan : (Tryz.prog.info? 27).map (fun i => (i.zero, i.size, i.bytes)) = some (some (.agg #[.int .u32 0, .int .u32 0]), 2, 8) := by kernel_rfl
theorem below_drew1 {B : Nat} {a w : World} (h : Below B a w) : Below B a w.drew := ⟨h.os, h.tape, h.output, h.size, h.block⟩
/-- A new list of spans is handed back; nothing that was there has turned. -/
def SetRes (R : List SpanV) (w : World) (e : Ending) (w' : World) : Prop :=
  ∃ v, e = .returned v ∧ w'.ownsRow w.heap.size 27 2 v R.length (scells R) ∧ Below w.heap.size w w'
theorem scells_one (L : List SpanV) : ∀ u ∈ scells L, u.oneCell' = true := by
  intro u hu
  obtain ⟨r, _, hr⟩ := List.mem_flatMap.1 hu
  simp only [SpanV.enc, List.mem_cons, List.not_mem_nil, or_false] at hr
  rcases hr with rfl | rfl <;> rfl
theorem enc_one (s : SpanV) : ∀ u ∈ s.enc, u.oneCell' = true := by
  intro u hu
  simp only [SpanV.enc, List.mem_cons, List.not_mem_nil, or_false] at hu
  rcases hu with rfl | rfl <;> rfl
theorem scells_len (L : List SpanV) : (scells L).length = L.length * 2 := flat_len SpanV.enc 2 span_len L
theorem scells_append (A B : List SpanV) : scells (A ++ B) = scells A ++ scells B := by simp [scells]
theorem scells_snoc (A : List SpanV) (s : SpanV) : scells (A ++ [s]) = scells A ++ s.enc := by simp [scells]
theorem filter_succ {L : List SpanV} {j : Nat} {s : SpanV} (h : L[j]? = some s) : (L.take (j + 1)).filter okS = (L.take j).filter okS ++ (if s.lo ≤ s.hi then [s] else []) := by
  rw [List.take_add_one, h, List.filter_append]
  congr 1
  by_cases hs : s.lo ≤ s.hi <;> simp [okS, hs]
theorem filter_take_len (L : List SpanV) (j : Nat) : ((L.take j).filter okS).length ≤ j := by
  have := List.length_filter_le okS (L.take j)
  simp at this; omega
theorem scells_set {A : List SpanV} {t y : SpanV} (h : y.lo = t.lo) : (scells (A ++ [t])).set (A.length * 2 + 1) (.int .u32 y.hi) = scells (A ++ [y]) := by
  rw [scells_snoc, scells_snoc, List.set_append_right _ _ (by rw [scells_len]; omega), scells_len, show A.length * 2 + 1 - A.length * 2 = 1 by omega]
  show scells A ++ [.int .u32 t.lo, .int .u32 y.hi] = scells A ++ [.int .u32 y.lo, .int .u32 y.hi]
  rw [h]

set_option maxRecDepth 100000 in
set_option maxHeartbeats 4000000 in
theorem form_any (L : List SpanV) (vl : Value) (w : World) (hl : Rd w w.heap.size 2 vl L.length (scells L)) (hlen : L.length ≤ 1099511627776) :
    Calls Tryz.prog 75 #[vl] w (SetRes (formOf L) w) := by
  obtain ⟨i0, hi, hz0, hz1, hz2⟩ := info_parts Tryz.infoSpan
  obtain ⟨A0, c0, rfl, hc0⟩ := hl.form
  have HL := Lib.hid hl
  clear hl
  go_enter Tryz.func75, Tryz.ntmps75
  go_wp2
  go_loopw [3, 12] (fun v i wr => ∃ j : Nat, i = .int .i64 j ∧ j ≤ L.length ∧ wr.ownsRow w.heap.size 27 2 v ((L.take j).filter okS).length (scells ((L.take j).filter okS)) ∧ Below w.heap.size w wr) (fun _ i _ => L.length - (intOf i).toNat)
  case atStart => exact ⟨0, rfl, by omega, World.ownsRow_nil _ _ _ _, Below.refl _ _⟩
  case round =>
    obtain ⟨j, rfl, hj, hown, hnx⟩ := hrel
    by_cases hlt : j < L.length
    · have hI : (j : Int) < (L.length : Int) := by omega
      obtain ⟨s, hs⟩ : ∃ s, L[j]? = some s := ⟨_, List.getElem?_eq_getElem hlt⟩
      obtain ⟨b, off, c', hv, _, hbB, hcell⟩ := (HL.out.below hnx).posAt (by omega)
      injection hv with hv1 _ hv3
      subst hv1 hv3
      have f0 : wr.cell? ⟨b, off + j * 2, none⟩ = some (.int .u32 s.lo) := hcell j 0 _ (scell hs rfl)
      have f1 : wr.cell? ⟨b, off + j * 2 + 1, none⟩ = some (.int .u32 s.hi) := hcell j 1 _ (scell hs rfl)
      have hfl := filter_take_len L j
      have hsz := hnx.size
      clear hcell
      have hstep := filter_succ hs
      have hbox := below1 wr (.cells #[.int .u32 s.lo, .int .u32 s.hi] 27)
      by_cases hok : s.lo ≤ s.hi
      · rw [if_pos hok] at hstep
        go_wp2_with (at_builtin; refine wpList_push rfl _ _ 59 rfl 27 i0 _ 2 8 Tryz.underlying59 hi hz0 hz1 hz2 rfl (by decide) (by decide) [.int .u32 s.lo, .int .u32 s.hi] rfl rfl (by simp) (hown.alloc _) rfl (enc_one s) (by omega) (by simp; omega) (hnx.alloc hsz _) (Nat.le_refl _) ?_; intro v2 w2 hown2 hb2)
        refine ⟨⟨j + 1, rfl, by omega, ?_, hb2⟩, by simp only [intOf]; omega⟩
        rw [hstep, scells_snoc, List.length_append]
        exact hown2
      · rw [if_neg hok, List.append_nil] at hstep
        go_wp2
        exact ⟨⟨j + 1, rfl, by omega, by rw [hstep]; exact hown.alloc _, hnx.alloc hsz _⟩, by simp only [intOf]; omega⟩
    · have hI : ¬ (j : Int) < (L.length : Int) := by omega
      obtain rfl : j = L.length := by omega
      rw [List.take_length] at hown
      have hfl := List.length_filter_le okS L
      have hsz := hnx.size
      go_wp2_with fail
      refine (sortSpan_any _ _ _ _ hown (by omega)).mono ?_
      rintro e w1 ⟨rfl, L', hperm, hpw, hR, hbel⟩
      have hb1 : Below w.heap.size w w1 := hnx.trans (hbel _ (Nat.le_refl _) hsz)
      have hlen' : L'.length ≤ L.length := by rw [hperm.length_eq]; exact hfl
      have hF := formOf_eq hperm hpw
      have hml := mfold_len L'
      have hsz1 := hb1.size
      obtain ⟨A2, c2, rfl, hc2⟩ := hR.form
      have HF := Lib.hid hF
      have HR := Lib.hid hR
      have HB1 := Lib.hid hb1
      have HML := Lib.hid hml
      clear hown hnx hfl hperm hpw hbel hF hb1 hml hR
      go_wp2
      go_loopw [6, 30] (fun v i wr => ∃ j : Nat, i = .int .i64 j ∧ j ≤ L'.length ∧ wr.ownsRow w1.heap.size 27 2 v (mfold (L'.take j)).length (scells (mfold (L'.take j))) ∧ Below w1.heap.size w1 wr) (fun _ i _ => L'.length - (intOf i).toNat)
      case atStart => exact ⟨0, rfl, by omega, World.ownsRow_nil _ _ _ _, Below.refl _ _⟩
      case round =>
        obtain ⟨j, rfl, hj, hown, hnx⟩ := hrel
        have hsz := hnx.size
        by_cases hlt : j < L'.length
        · have hI : (j : Int) < (L'.length : Int) := by omega
          obtain ⟨s, hs⟩ : ∃ s, L'[j]? = some s := ⟨_, List.getElem?_eq_getElem hlt⟩
          obtain ⟨b, off, c', hv, _, hbB, hcell⟩ := (HR.out.below hnx).posAt (by omega)
          injection hv with hv1 _ hv3
          subst hv1 hv3
          have f0 : wr.cell? ⟨b, off + j * 2, none⟩ = some (.int .u32 s.lo) := hcell j 0 _ (scell hs rfl)
          have f1 : wr.cell? ⟨b, off + j * 2 + 1, none⟩ = some (.int .u32 s.hi) := hcell j 1 _ (scell hs rfl)
          clear hcell
          have hstep := mfold_succ hs
          have hOl := HML.out j
          generalize mfold (L'.take j) = O at *
          have hHS := Lib.hid hstep
          clear hstep hs
          have hownA := hown.alloc (.cells #[.int .u32 s.lo, .int .u32 s.hi] 27)
          have hnxA := hnx.alloc hsz (.cells #[.int .u32 s.lo, .int .u32 s.hi] 27)
          have kb := blk1 wr (.cells #[.int .u32 s.lo, .int .u32 s.hi] 27)
          have hszA : w1.heap.size ≤ (wr.alloc (.cells #[.int .u32 s.lo, .int .u32 s.hi] 27)).heap.size := by simp; omega
          have hlo := s.hlo
          have hhi := s.hhi
          rcases snoc_cases O with rfl | ⟨A, t, rfl⟩
          · obtain ⟨A3, c3, rfl, _⟩ := owns_form hown
            have HO := Lib.hid hownA
            have HN := Lib.hid hnxA
            have HK := Lib.hid kb
            obtain ⟨x0, x1, _, _⟩ := two_cells kb
            clear hown hnx hownA hnxA kb
            go_wp2
            refine wp_region_quiet_below (by kernel_rfl) (by kernel_rfl) ?_
            repeat (first | go_big_quiet_step (fail) | quiet_step (fail))
            refine wpQuiet_nil ?_
            intro _ hw'
            obtain ⟨⟨nq, osq⟩, hw''⟩ := hw'
            subst hw''
            have hq := below_regrown (wr.alloc (.cells #[.int .u32 s.lo, .int .u32 s.hi] 27)) nq osq
            have own1 := owns_kept_none HO.out (only_of_below hq none)
            have nx1 := HN.out.trans (hq.mono hszA)
            have sz1 := nx1.size
            obtain ⟨y0, y1, _, _⟩ := two_cells (blk_below hq HK.out)
            clear x0 x1 HO HN HK f0 f1
            generalize grow (redrawn (wr.alloc (.cells #[.int .u32 s.lo, .int .u32 s.hi] 27)) nq) osq = W1 at *
            clear hq
            go_wp2_with (at_builtin; refine wpList_push rfl _ _ 59 rfl 27 i0 _ 2 8 Tryz.underlying59 hi hz0 hz1 hz2 rfl (by decide) (by decide) [.int .u32 s.lo, .int .u32 s.hi] rfl rfl (by simp) own1 rfl (enc_one s) (by simp) (by omega) nx1 (Nat.le_refl _) ?_; intro v2 w2 hown2 hb2)
            refine ⟨⟨j + 1, by go_num, by omega, ?_, hb2⟩, by simp only [intOf]; omega⟩
            rw [hHS.out, mstep_nil]
            exact hown2
          · have hl1 : (A ++ [t]).length = A.length + 1 := by simp
            rw [hl1] at hown hownA hOl
            obtain ⟨A3, c3, rfl, hA3⟩ := owns_form hown
            obtain ⟨g, rfl⟩ := hA3 (by omega)
            have e1 : (wr.alloc (.cells #[.int .u32 s.lo, .int .u32 s.hi] 27)).cell? ⟨g, A.length * 2 + 1, none⟩ = some (.int .u32 t.hi) := (hownA.cellAt (A.length * 2 + 1) (by omega)).trans (scell (L := A ++ [t]) (k := A.length) (i := 1) (x := t) (by simp) rfl)
            have HO := Lib.hid hownA
            have HN := Lib.hid hnxA
            have HK := Lib.hid kb
            obtain ⟨x0, x1, _, _⟩ := two_cells kb
            have F0 := cell_regrown x0
            have F1 := cell_regrown x1
            have F2 := cell_regrown e1
            have hthi := t.hhi
            clear hown hnx hownA hnxA kb
            have hm : (t.hi == 4294967295) = true ∨ ((t.hi == 4294967295) = false ∧ (t.hi + 1) % 4294967296 = t.hi + 1 ∧ decide (s.lo ≤ t.hi + 1) = true) ∨ ((t.hi == 4294967295) = false ∧ (t.hi + 1) % 4294967296 = t.hi + 1 ∧ decide (s.lo ≤ t.hi + 1) = false) := by
              by_cases h1 : t.hi = 4294967295
              · exact .inl (by simp [h1])
              · by_cases h2 : s.lo ≤ t.hi + 1
                · exact .inr (.inl ⟨by simp [h1], by omega, by simp [h2]⟩)
                · exact .inr (.inr ⟨by simp [h1], by omega, by simp; omega⟩)
            rcases hm with hm1 | ⟨hm1, hm2, hm3⟩ | ⟨hm1, hm2, hm3⟩
            · have hmg : s.lo ≤ t.hi + 1 := by
                have := eq_of_beq hm1
                omega
              have HM := Lib.hid hmg
              clear hmg
              go_wp2
              refine wp_region_quiet_below (by kernel_rfl) (by kernel_rfl) ?_
              repeat (first | go_big_quiet_step (fail) | quiet_step (fail))
              refine wpQuiet_nil ?_
              intro _ hw'
              obtain ⟨⟨nq, osq⟩, hw''⟩ := hw'
              subst hw''
              have hq := below_regrown (wr.alloc (.cells #[.int .u32 s.lo, .int .u32 s.hi] 27)) nq osq
              have own1 := owns_kept_none HO.out (only_of_below hq none)
              have nx1 := HN.out.trans (hq.mono hszA)
              have sz1 := nx1.size
              have kb1 := blk_below hq HK.out
              obtain ⟨y0, y1, _, _⟩ := two_cells kb1
              clear F0 F1 F2 x0 x1 e1 HO HN HK f0 f1
              generalize grow (redrawn (wr.alloc (.cells #[.int .u32 s.lo, .int .u32 s.hi] 27)) nq) osq = W1 at *
              clear hq
              have z1 : W1.cell? ⟨g, A.length * 2 + 1, none⟩ = some (.int .u32 t.hi) := (own1.cellAt (A.length * 2 + 1) (by omega)).trans (scell (L := A ++ [t]) (k := A.length) (i := 1) (x := t) (by simp) rfl)
              have z2 := own1.frozenAt (A.length * 2 + 1)
              have hgB := (own1.lt g rfl).1
              have hi1 : (0 : Int) ≤ (A.length : Int) := by omega
              have hi2 : (A.length : Int) < (A.length : Int) + 1 := by omega
              have hi3 : (A.length : Int) ≤ 9223372036854775807 := by omega
              have hi4 : IntKind.i64.wrap (A.length : Int) = (A.length : Int) := by rw [IntKind.wrap_i64]; omega
              go_wp2
              go_still_tail 14, (by kernel_rfl)
              have own2 := owns_kept_none own1 (only_drew (World.grownBy.refl W1 none))
              have nx2 := below_drew1 nx1
              have z3 : W1.drew.cell? ⟨g, A.length * 2 + 1, none⟩ = some (.int .u32 t.hi) := z1
              have z4 : W1.drew.frozen? ⟨g, A.length * 2 + 1, none⟩ = false := z2
              clear own1 nx1 z1 z2 kb1 y0 y1 sz1
              change wpList _ _ _ _ _ W1.drew
              generalize W1.drew = W2 at *
              go_wp2
              have s1 := (own2.stored (A.length * 2 + 1) (.int .u32 (max t.hi s.hi))).1
              rw [show (scells (A ++ [t])).set (A.length * 2 + 1) (.int .u32 (max t.hi s.hi)) = scells (A ++ [t.reach s]) from scells_set (A := A) (t := t) (y := t.reach s) rfl] at s1
              refine ⟨⟨j + 1, by go_num, by omega, ?_, nx2.setCell (p := ⟨g, A.length * 2 + 1, none⟩) hgB _⟩, by simp only [intOf]; omega⟩
              rw [hHS.out, mstep_in HM.out, List.length_append]
              exact s1
            · have hmg : s.lo ≤ t.hi + 1 := of_decide_eq_true hm3
              have HM := Lib.hid hmg
              clear hmg
              go_wp2
              refine wp_region_quiet_below (by kernel_rfl) (by kernel_rfl) ?_
              repeat (first | go_big_quiet_step (fail) | quiet_step (fail))
              refine wpQuiet_nil ?_
              intro _ hw'
              obtain ⟨⟨nq, osq⟩, hw''⟩ := hw'
              subst hw''
              have hq := below_regrown (wr.alloc (.cells #[.int .u32 s.lo, .int .u32 s.hi] 27)) nq osq
              have own1 := owns_kept_none HO.out (only_of_below hq none)
              have nx1 := HN.out.trans (hq.mono hszA)
              have sz1 := nx1.size
              have kb1 := blk_below hq HK.out
              obtain ⟨y0, y1, _, _⟩ := two_cells kb1
              clear F0 F1 F2 x0 x1 e1 HO HN HK f0 f1
              generalize grow (redrawn (wr.alloc (.cells #[.int .u32 s.lo, .int .u32 s.hi] 27)) nq) osq = W1 at *
              clear hq
              have z1 : W1.cell? ⟨g, A.length * 2 + 1, none⟩ = some (.int .u32 t.hi) := (own1.cellAt (A.length * 2 + 1) (by omega)).trans (scell (L := A ++ [t]) (k := A.length) (i := 1) (x := t) (by simp) rfl)
              have z2 := own1.frozenAt (A.length * 2 + 1)
              have hgB := (own1.lt g rfl).1
              have hi1 : (0 : Int) ≤ (A.length : Int) := by omega
              have hi2 : (A.length : Int) < (A.length : Int) + 1 := by omega
              have hi3 : (A.length : Int) ≤ 9223372036854775807 := by omega
              have hi4 : IntKind.i64.wrap (A.length : Int) = (A.length : Int) := by rw [IntKind.wrap_i64]; omega
              go_wp2
              go_still_tail 14, (by kernel_rfl)
              have own2 := owns_kept_none own1 (only_drew (World.grownBy.refl W1 none))
              have nx2 := below_drew1 nx1
              have z3 : W1.drew.cell? ⟨g, A.length * 2 + 1, none⟩ = some (.int .u32 t.hi) := z1
              have z4 : W1.drew.frozen? ⟨g, A.length * 2 + 1, none⟩ = false := z2
              clear own1 nx1 z1 z2 kb1 y0 y1 sz1
              change wpList _ _ _ _ _ W1.drew
              generalize W1.drew = W2 at *
              go_wp2
              have s1 := (own2.stored (A.length * 2 + 1) (.int .u32 (max t.hi s.hi))).1
              rw [show (scells (A ++ [t])).set (A.length * 2 + 1) (.int .u32 (max t.hi s.hi)) = scells (A ++ [t.reach s]) from scells_set (A := A) (t := t) (y := t.reach s) rfl] at s1
              refine ⟨⟨j + 1, by go_num, by omega, ?_, nx2.setCell (p := ⟨g, A.length * 2 + 1, none⟩) hgB _⟩, by simp only [intOf]; omega⟩
              rw [hHS.out, mstep_in HM.out, List.length_append]
              exact s1
            · have hmg : ¬ s.lo ≤ t.hi + 1 := of_decide_eq_false hm3
              have HM := Lib.hid hmg
              clear hmg
              go_wp2
              refine wp_region_quiet_below (by kernel_rfl) (by kernel_rfl) ?_
              repeat (first | go_big_quiet_step (fail) | quiet_step (fail))
              refine wpQuiet_nil ?_
              intro _ hw'
              obtain ⟨⟨nq, osq⟩, hw''⟩ := hw'
              subst hw''
              have hq := below_regrown (wr.alloc (.cells #[.int .u32 s.lo, .int .u32 s.hi] 27)) nq osq
              have own1 := owns_kept_none HO.out (only_of_below hq none)
              have nx1 := HN.out.trans (hq.mono hszA)
              have sz1 := nx1.size
              have kb1 := blk_below hq HK.out
              obtain ⟨y0, y1, _, _⟩ := two_cells kb1
              clear F0 F1 F2 x0 x1 e1 HO HN HK f0 f1
              generalize grow (redrawn (wr.alloc (.cells #[.int .u32 s.lo, .int .u32 s.hi] 27)) nq) osq = W1 at *
              clear hq
              go_wp2_with (at_builtin; refine wpList_push rfl _ _ 59 rfl 27 i0 _ 2 8 Tryz.underlying59 hi hz0 hz1 hz2 rfl (by decide) (by decide) [.int .u32 s.lo, .int .u32 s.hi] rfl rfl (by simp) own1 rfl (enc_one s) (by omega) (by omega) nx1 (Nat.le_refl _) ?_; intro v2 w2 hown2 hb2)
              refine ⟨⟨j + 1, by go_num, by omega, ?_, hb2⟩, by simp only [intOf]; omega⟩
              rw [hHS.out, mstep_new (by have := HM.out; omega), scells_snoc (A ++ [t]), List.length_append, hl1]
              exact hown2
        · obtain rfl : j = L'.length := by omega
          rw [List.take_length] at hown
          go_wp2
          go_ret
          refine ⟨_, rfl, ?_, HB1.out.trans (hnx.mono hsz1)⟩
          rw [HF.out.1]
          exact owns_base hown hsz1

end Go.Proofs.YtmgeknghgngliaaGreatDoor

/-
  The document's sets: numbers put in their place, the cuts, the set that is made from cut to cut; numbers counted. No program in sight.
-/
namespace Go.Proofs.YtmgeknghgngliaaGreatDoor

/-- Rising, each once. -/
def Rising (l : List Int) : Prop := l.Pairwise (· < ·)
/-- A number's place: all before it are not greater, all from it on are. -/
theorem rising_put {l : List Int} (h : Rising l) {x : Int} {k : Nat} (h1 : ∀ y ∈ l.take k, y < x) (h2 : ∀ y ∈ l.drop k, x < y) :
    Rising (l.take k ++ x :: l.drop k) ∧ ∀ y, y ∈ l.take k ++ x :: l.drop k ↔ y ∈ l ∨ y = x := by
  constructor
  · unfold Rising at *
    rw [← List.take_append_drop k l, List.pairwise_append] at h
    refine List.pairwise_append.2 ⟨h.1, List.pairwise_cons.2 ⟨h2, h.2.1⟩, fun a ha b hb => ?_⟩
    rcases List.mem_cons.1 hb with rfl | hb
    · exact h1 a ha
    · exact h.2.2 a ha b hb
  · intro y
    have : y ∈ l ↔ y ∈ l.take k ∨ y ∈ l.drop k := by
      rw [← List.mem_append, List.take_append_drop]
    rw [this, List.mem_append, List.mem_cons]
    constructor
    · rintro (h | rfl | h)
      · exact .inl (.inl h)
      · exact .inr rfl
      · exact .inl (.inr h)
    · rintro ((h | h) | rfl)
      · exact .inl h
      · exact .inr (.inr h)
      · exact .inr (.inl rfl)
def isMark (most : Int) (s : SpanV) (y : Int) : Prop := s.lo ≤ s.hi ∧ (y = s.lo ∨ y = s.hi + 1) ∧ y ≤ most
/-- The cuts of sets: 0, and each mark. -/
def CutsOf (most : Int) (S : List SpanV) (C : List Int) : Prop := Rising C ∧ (∀ y ∈ C, 0 ≤ y ∧ y < 4294967296) ∧ ∀ y, y ∈ C ↔ y = 0 ∨ ∃ s ∈ S, isMark most s y
theorem CutsOf.head {most : Int} {S : List SpanV} {C : List Int} (h : CutsOf most S C) : ∃ r, C = 0 :: r := by
  have h0 : (0 : Int) ∈ C := (h.2.2 0).2 (.inl rfl)
  cases C with
  | nil => simp at h0
  | cons c r =>
    refine ⟨r, ?_⟩
    have hc := (h.2.1 c (List.mem_cons_self ..)).1
    rcases List.mem_cons.1 h0 with rfl | h0
    · rfl
    · have := (List.pairwise_cons.1 h.1).1 0 h0
      omega
/-- The end of the part that begins at the i-th cut. -/
def cutEnd (most : Int) (C : List Int) (i : Nat) : Int := match C[i]? with | some y => y | none => most + 1
theorem CutsOf.le {most : Int} (hm : 0 ≤ most) {S : List SpanV} {C : List Int} (h : CutsOf most S C) {y : Int} (hy : y ∈ C) : y ≤ most := by
  rcases (h.2.2 y).1 hy with rfl | ⟨s, _, hs⟩
  · exact hm
  · exact hs.2.2
theorem CutsOf.lt_end {most : Int} (hm : 0 ≤ most) {S : List SpanV} {C : List Int} (h : CutsOf most S C) {i : Nat} {c : Int} (hc : C[i]? = some c) : c < cutEnd most C (i + 1) := by
  unfold cutEnd
  cases hn : C[i + 1]? with
  | none => have := h.le hm (List.mem_of_getElem? hc); show c < most + 1; omega
  | some y =>
    obtain ⟨hi, e⟩ := List.getElem?_eq_some_iff.1 hc
    obtain ⟨hi2, e2⟩ := List.getElem?_eq_some_iff.1 hn
    have := List.pairwise_iff_getElem.1 h.1 i (i + 1) hi hi2 (by omega)
    show c < y
    omega
theorem CutsOf.none_between {most : Int} {S : List SpanV} {C : List Int} (h : CutsOf most S C) {i : Nat} {c y : Int} (hc : C[i]? = some c) (h1 : c < y) (h2 : y < cutEnd most C (i + 1)) : y ∉ C := by
  intro hy
  obtain ⟨j, hj, e⟩ := List.getElem_of_mem hy
  obtain ⟨hi, ei⟩ := List.getElem?_eq_some_iff.1 hc
  have hij : i < j := by
    rcases Nat.lt_trichotomy i j with h' | h' | h'
    · exact h'
    · subst h'; omega
    · have := List.pairwise_iff_getElem.1 h.1 j i hj hi h'; omega
  unfold cutEnd at h2
  have hn : C[i + 1]? = some C[i + 1] := List.getElem?_eq_getElem (by omega)
  rw [hn] at h2
  change y < C[i + 1] at h2
  rcases Nat.eq_or_lt_of_le (show i + 1 ≤ j from hij) with h' | h'
  · subst h'; omega
  · have := List.pairwise_iff_getElem.1 h.1 (i + 1) j (by omega) hj h'; omega
/-- From one cut to the next nothing begins and nothing ends. -/
theorem CutsOf.same {most : Int} (hm : 0 ≤ most) {S : List SpanV} {C : List Int} (h : CutsOf most S C) {L : List SpanV} (hL : ∀ s ∈ L, s ∈ S) {i : Nat} {c x : Int} (hc : C[i]? = some c) (h1 : c ≤ x) (h2 : x < cutEnd most C (i + 1)) :
    hasB L x = hasB L c := by
  have hxm : x ≤ most := by
    unfold cutEnd at h2
    cases hn : C[i + 1]? with
    | none => rw [hn] at h2; change x < most + 1 at h2; omega
    | some y => rw [hn] at h2; change x < y at h2; have := h.le hm (List.mem_of_getElem? hn); omega
  have key : ∀ s ∈ L, s.inB x = s.inB c := by
    intro s hs
    have n1 : s.lo ≤ s.hi → c < s.lo → x < s.lo := by
      intro hv hlo
      rcases Int.lt_or_le x s.lo with h' | h'
      · exact h'
      · exact absurd ((h.2.2 s.lo).2 (.inr ⟨s, hL s hs, hv, .inl rfl, by omega⟩)) (h.none_between hc hlo (by omega))
    have n2 : s.lo ≤ s.hi → c ≤ s.hi → x ≤ s.hi := by
      intro hv hhi
      rcases Int.lt_or_le s.hi x with h' | h'
      · exact absurd ((h.2.2 (s.hi + 1)).2 (.inr ⟨s, hL s hs, hv, .inr rfl, by omega⟩)) (h.none_between hc (by omega) (by omega))
      · exact h'
    rw [Bool.eq_iff_iff, inB_iff, inB_iff]
    rcases Int.lt_or_le s.hi s.lo with hv | hv
    · omega
    · have := n1 hv; have := n2 hv; omega
  have : ∀ M : List SpanV, (∀ s ∈ M, s.inB x = s.inB c) → hasB M x = hasB M c := by
    intro M
    induction M with
    | nil => intro _; rfl
    | cons s M ih =>
      intro hM
      have e1 := hM s (List.mem_cons_self ..)
      have e2 := ih (fun s hs => hM s (List.mem_cons_of_mem _ hs))
      simp only [hasB, List.any_cons] at *
      rw [e1, e2]
  exact this L key
/-- Is a number in what is made? -/
def soB (how : Int) (a b : List SpanV) (x : Int) : Bool :=
  if how = 1 then hasB a x || hasB b x else if how = 2 then hasB a x && hasB b x else if how = 3 then hasB a x && !hasB b x else !hasB a x
theorem CutsOf.so {most : Int} (hm : 0 ≤ most) {a b : List SpanV} {C : List Int} (h : CutsOf most (a ++ b) C) (how : Int) {i : Nat} {c x : Int} (hc : C[i]? = some c) (h1 : c ≤ x) (h2 : x < cutEnd most C (i + 1)) :
    soB how a b x = soB how a b c := by
  unfold soB
  rw [h.same hm (fun s hs => List.mem_append_left _ hs) hc h1 h2, h.same hm (L := b) (fun s hs => List.mem_append_right _ hs) hc h1 h2]
def soP (how most : Int) (a b : List SpanV) (x : Int) : Bool := decide (0 ≤ x) && decide (x ≤ most) && soB how a b x
/-- What has been made up to the i-th cut. -/
def MadeTo (how most : Int) (a b : List SpanV) (C : List Int) (i : Nat) (O : List SpanV) : Prop :=
  NF O ∧ (∀ t ∈ O, t.hi < cutEnd most C i) ∧ ∀ x, hasB O x = (decide (0 ≤ x) && decide (x < cutEnd most C i) && soB how a b x)
theorem MadeTo.zero {how most : Int} {a b : List SpanV} {C : List Int} (h : CutsOf most (a ++ b) C) : MadeTo how most a b C 0 [] := by
  obtain ⟨r, rfl⟩ := h.head
  refine ⟨trivial, fun t ht => by simp at ht, fun x => ?_⟩
  rw [hasB_nil]
  simp [cutEnd]
  omega
theorem MadeTo.skip {how most : Int} (hm : 0 ≤ most) {a b : List SpanV} {C : List Int} (h : CutsOf most (a ++ b) C) {i : Nat} {c : Int} (hc : C[i]? = some c) {O : List SpanV} (hO : MadeTo how most a b C i O) (hs : soB how a b c = false) : MadeTo how most a b C (i + 1) O := by
  obtain ⟨h1, h2, h3⟩ := hO
  have hlt := h.lt_end hm hc
  have e0 : cutEnd most C i = c := by unfold cutEnd; rw [hc]
  rw [e0] at h2 h3
  refine ⟨h1, fun t ht => by have := h2 t ht; omega, fun x => ?_⟩
  rw [h3]
  rcases Int.lt_or_le x c with hx | hx
  · have : x < cutEnd most C (i + 1) := by omega
    simp [hx, this]
  · rcases Int.lt_or_le x (cutEnd most C (i + 1)) with hx2 | hx2
    · rw [h.so hm how hc hx hx2, hs]; simp
    · have e1 : ¬ x < c := by omega
      have e2 : ¬ x < cutEnd most C (i + 1) := by omega
      simp [e1, e2]
theorem made_mem {how most : Int} (hm : 0 ≤ most) {a b : List SpanV} {C : List Int} (h : CutsOf most (a ++ b) C) {i : Nat} {c : Int} (hc : C[i]? = some c) (hs : soB how a b c = true) (hc0 : 0 ≤ c) (x : Int) :
    ((decide (0 ≤ x) && decide (x < c) && soB how a b x) || (decide (c ≤ x) && decide (x ≤ cutEnd most C (i + 1) - 1))) = (decide (0 ≤ x) && decide (x < cutEnd most C (i + 1)) && soB how a b x) := by
  have hlt := h.lt_end hm hc
  rcases Int.lt_or_le x c with hx | hx
  · have h1 : x < cutEnd most C (i + 1) := by omega
    have h2 : ¬ c ≤ x := by omega
    simp [hx, h1, h2]
  · have h2 : ¬ x < c := by omega
    rcases Int.lt_or_le x (cutEnd most C (i + 1)) with hx2 | hx2
    · have h3 : x ≤ cutEnd most C (i + 1) - 1 := by omega
      have h4 : 0 ≤ x := by omega
      rw [h.so hm how hc hx hx2, hs]
      simp [h2, hx, h3, hx2, h4]
    · have h3 : ¬ x ≤ cutEnd most C (i + 1) - 1 := by omega
      have h4 : ¬ x < cutEnd most C (i + 1) := by omega
      simp [h2, h3, h4]
theorem MadeTo.new {how most : Int} (hm : 0 ≤ most) {a b : List SpanV} {C : List Int} (h : CutsOf most (a ++ b) C) {i : Nat} {c : Int} (hc : C[i]? = some c) {O : List SpanV} (hO : MadeTo how most a b C i O) (hs : soB how a b c = true)
    (s : SpanV) (e1 : s.lo = c) (e2 : s.hi = cutEnd most C (i + 1) - 1) (hn : ∀ t ∈ O, t.hi + 1 ≠ c) : MadeTo how most a b C (i + 1) (O ++ [s]) := by
  obtain ⟨h1, h2, h3⟩ := hO
  have hlt := h.lt_end hm hc
  have hc0 := (h.2.1 c (List.mem_of_getElem? hc)).1
  have e0 : cutEnd most C i = c := by unfold cutEnd; rw [hc]
  rw [e0] at h2 h3
  refine ⟨NF.snoc.2 ⟨h1, by omega, fun t ht => by have := h2 t ht; have := hn t ht; omega⟩, fun t ht => ?_, fun x => ?_⟩
  · rcases List.mem_append.1 ht with ht | ht
    · have := h2 t ht; omega
    · obtain rfl := List.mem_singleton.1 ht; omega
  · rw [hasB_append, hasB_one, h3]
    have e : s.inB x = (decide (c ≤ x) && decide (x ≤ cutEnd most C (i + 1) - 1)) := by unfold SpanV.inB; rw [e1, e2]
    rw [e]
    exact made_mem hm h hc hs hc0 x
theorem MadeTo.more {how most : Int} (hm : 0 ≤ most) {a b : List SpanV} {C : List Int} (h : CutsOf most (a ++ b) C) {i : Nat} {c : Int} (hc : C[i]? = some c) {A : List SpanV} {t : SpanV} (hO : MadeTo how most a b C i (A ++ [t])) (hs : soB how a b c = true)
    (s : SpanV) (e1 : s.lo = t.lo) (e2 : s.hi = cutEnd most C (i + 1) - 1) (hn : t.hi + 1 = c) : MadeTo how most a b C (i + 1) (A ++ [s]) := by
  obtain ⟨h1, h2, h3⟩ := hO
  have hlt := h.lt_end hm hc
  have hc0 := (h.2.1 c (List.mem_of_getElem? hc)).1
  have e0 : cutEnd most C i = c := by unfold cutEnd; rw [hc]
  rw [e0] at h2 h3
  obtain ⟨k1, k2, k3⟩ := NF.snoc.1 h1
  refine ⟨NF.snoc.2 ⟨k1, by omega, fun u hu => by have := k3 u hu; omega⟩, fun u hu => ?_, fun x => ?_⟩
  · rcases List.mem_append.1 hu with hu | hu
    · have := h2 u (List.mem_append_left _ hu); omega
    · obtain rfl := List.mem_singleton.1 hu; omega
  · rw [← made_mem hm h hc hs hc0 x, ← h3, hasB_append, hasB_append, hasB_one, hasB_one, Bool.or_assoc]
    congr 1
    unfold SpanV.inB
    rw [e1, e2, Bool.eq_iff_iff]
    simp
    omega
theorem MadeTo.last {how most : Int} {a b : List SpanV} {C : List Int} {O : List SpanV} (hO : MadeTo how most a b C C.length O) : O = theSet (soP how most a b) := by
  obtain ⟨h1, _, h3⟩ := hO
  have e0 : cutEnd most C C.length = most + 1 := by unfold cutEnd; simp
  rw [e0] at h3
  symm
  refine theSet_eq h1 (fun x => ?_)
  rw [h3]
  unfold soP
  congr 2
  rw [Bool.eq_iff_iff]; simp; omega

/-- How many numbers there are. -/
def cnt (F : List SpanV) : Int := (F.map fun s => s.hi - s.lo + 1).sum
theorem cnt_append (A B : List SpanV) : cnt (A ++ B) = cnt A + cnt B := by simp [cnt]
theorem cnt_succ {F : List SpanV} {k : Nat} {s : SpanV} (h : F[k]? = some s) : cnt (F.take (k + 1)) = cnt (F.take k) + (s.hi - s.lo + 1) := by
  rw [List.take_add_one, h, cnt_append]; simp [cnt]
/-- The members below n. -/
def cntP (P : Int → Bool) (n : Nat) : Int := ((List.range n).countP fun x : Nat => P x : Nat)
theorem cntP_succ (P : Int → Bool) (n : Nat) : cntP P (n + 1) = cntP P n + (if P n then 1 else 0) := by
  unfold cntP
  rw [List.range_succ, List.countP_append]
  simp [List.countP_cons]
  split <;> simp
theorem cntP_one (s : SpanV) (hs : s.lo ≤ s.hi) : ∀ n : Nat, cntP s.inB n = if (n : Int) ≤ s.lo then 0 else if (n : Int) ≤ s.hi then n - s.lo else s.hi - s.lo + 1 := by
  intro n
  have := s.hlo
  induction n with
  | zero => simp [cntP]; omega
  | succ n ih =>
    rw [cntP_succ, ih]
    have e : (s.inB n = true) ↔ s.lo ≤ n ∧ (n : Int) ≤ s.hi := inB_iff
    by_cases h : s.inB n = true
    · rw [if_pos h]
      have := e.1 h
      repeat' split
      all_goals omega
    · rw [if_neg h]
      have h' : ¬ (s.lo ≤ n ∧ (n : Int) ≤ s.hi) := fun x => h (e.2 x)
      repeat' split
      all_goals omega
theorem cntP_add {P Q R : Int → Bool} (n : Nat) (h : ∀ x : Nat, x < n → R x = (P x || Q x) ∧ ¬ (P x = true ∧ Q x = true)) : cntP R n = cntP P n + cntP Q n := by
  induction n with
  | zero => simp [cntP]
  | succ n ih =>
    rw [cntP_succ, cntP_succ, cntP_succ, ih (fun x hx => h x (by omega))]
    obtain ⟨h1, h2⟩ := h n (by omega)
    rw [h1]
    cases hp : P n <;> cases hq : Q n <;> simp_all <;> omega
theorem cntP_le (P : Int → Bool) (n : Nat) : 0 ≤ cntP P n ∧ cntP P n ≤ n := by
  unfold cntP
  have := List.countP_le_length (p := fun x : Nat => P x) (l := List.range n)
  simp at this
  omega
theorem cntP_nil (n : Nat) : cntP (hasB []) n = 0 := by
  unfold cntP
  have : (List.range n).countP (fun x : Nat => hasB [] x) = 0 := by
    rw [List.countP_eq_zero]; intro x _; simp [hasB]
  rw [this]; rfl
theorem cnt_members {n : Nat} (hn : (n : Int) = 4294967296) : ∀ {F : List SpanV}, NF F → cnt F = cntP (hasB F) n
  | [], _ => (cntP_nil n).symm
  | s :: r, h => by
    have hs := s.hhi
    have h1 := cntP_one s h.1 n
    rw [if_neg (by have := h.1; omega), if_neg (by omega)] at h1
    have e : cnt (s :: r) = (s.hi - s.lo + 1) + cnt r := by simp [cnt]
    rw [e, cnt_members hn h.2.2, ← h1]
    symm
    refine cntP_add _ (fun x _ => ⟨rfl, ?_⟩)
    rintro ⟨h3, h4⟩
    obtain ⟨u, hu, h5, h6⟩ := hasB_iff.1 h4
    have := inB_iff.1 h3
    have := h.2.1 u hu
    omega
theorem big32 : ∃ n : Nat, (n : Int) = 4294967296 := ⟨4294967296, rfl⟩
theorem cnt_range {F : List SpanV} (h : NF F) : 0 ≤ cnt F ∧ cnt F ≤ 4294967296 := by
  obtain ⟨n, hn⟩ := big32
  rw [cnt_members hn h, ← hn]; exact cntP_le _ _
theorem cnt_take_le {F : List SpanV} (h : NF F) (k : Nat) : 0 ≤ cnt (F.take k) ∧ cnt (F.take k) ≤ 4294967296 := cnt_range (h.take k)

end Go.Proofs.YtmgeknghgngliaaGreatDoor

/-
  The walks of spans.Has, and of the document's Has and so.
-/
namespace Go.Proofs.YtmgeknghgngliaaGreatDoor
open Go Go.RowKit Go.Lib Go.Sort

theorem hasB_hit {L : List SpanV} {j : Nat} {s : SpanV} {x : Int} (h : L[j]? = some s) (h1 : s.lo ≤ x) (h2 : x ≤ s.hi) : hasB L x = true := hasB_iff.2 ⟨s, List.mem_of_getElem? h, h1, h2⟩

set_option maxRecDepth 100000 in
set_option maxHeartbeats 1000000 in
theorem refHas_any (L : List SpanV) (vl : Value) (x : Int) (w : World) (hl : Rd w w.heap.size 2 vl L.length (scells L)) (hlen : L.length ≤ 1099511627776) :
    Calls Tryz.prog 166 #[vl, .int .u32 x] w fun e w' => e = .returned (.bool (hasB L x)) ∧ w = w' := by
  obtain ⟨A0, c0, rfl, hc0⟩ := hl.form
  have HL := Lib.hid hl
  clear hl
  go_enter Tryz.func166, Tryz.ntmps166
  go_wp2
  go_loop [5] (fun i => ∃ j : Nat, i = .int .i64 j ∧ j ≤ L.length ∧ Hid (hasB L x = hasB (L.drop j) x)) (fun i => L.length - (intOf i).toNat)
  case atStart => exact ⟨0, rfl, by omega, rfl⟩
  case round =>
    obtain ⟨j, rfl, hj, hno⟩ := hrel
    by_cases hlt : j < L.length
    · have hI : (j : Int) < (L.length : Int) := by omega
      obtain ⟨s, hs⟩ : ∃ s, L[j]? = some s := ⟨_, List.getElem?_eq_getElem hlt⟩
      obtain ⟨b, off, c', hv, _, hbB, hcell⟩ := HL.out.posAt (by omega)
      injection hv with hv1 _ hv3
      subst hv1 hv3
      have f0 : w.cell? ⟨b, off + j * 2, none⟩ = some (.int .u32 s.lo) := hcell j 0 _ (scell hs rfl)
      have f1 : w.cell? ⟨b, off + j * 2 + 1, none⟩ = some (.int .u32 s.hi) := hcell j 1 _ (scell hs rfl)
      have hd : L.drop j = s :: L.drop (j + 1) := by
        obtain ⟨hj', e⟩ := List.getElem?_eq_some_iff.1 hs
        rw [List.drop_eq_getElem_cons hj', e]
      have HD := Lib.hid hd
      have HS := Lib.hid hs
      clear hcell hd hs
      by_cases h1 : s.lo ≤ x
      · by_cases h2 : x ≤ s.hi
        · go_wp2
          go_ret
          exact ⟨ret_bool (hasB_hit HS.out h1 h2).symm, rfl⟩
        · go_wp2
          refine ⟨⟨j + 1, by go_num, by omega, ?_⟩, by simp only [intOf]; omega⟩
          show _ = _
          rw [hno.out, HD.out]
          simp [hasB, SpanV.inB]
          omega
      · go_wp2
        refine ⟨⟨j + 1, by go_num, by omega, ?_⟩, by simp only [intOf]; omega⟩
        show _ = _
        rw [hno.out, HD.out]
        simp [hasB, SpanV.inB]
        omega
    · obtain rfl : j = L.length := by omega
      go_wp2
      go_ret
      refine ⟨ret_bool ?_, rfl⟩
      rw [hno.out, List.drop_length]
      rfl

set_option maxRecDepth 100000 in
set_option maxHeartbeats 10000000 in
theorem so_any (A B : List SpanV) (va vb : Value) (x how : Int) (w : World) (ha : Rd w w.heap.size 2 va A.length (scells A)) (hb : Rd w w.heap.size 2 vb B.length (scells B)) (hla : A.length ≤ 1099511627776) (hlb : B.length ≤ 1099511627776) :
    Calls Tryz.prog 138 #[va, vb, .int .u32 x, .int .i64 how] w fun e w' => e = .returned (.bool (soB how A B x)) ∧ w = w' := by
  have hca := refHas_any A va x _ ha hla
  have hcb := refHas_any B vb x _ hb hlb
  have HA := Lib.hid hca
  have HB := Lib.hid hcb
  clear hca hcb ha hb
  have hso : (how = 1 ∧ soB how A B x = (hasB A x || hasB B x)) ∨ ((how == 1) = false ∧ how = 2 ∧ soB how A B x = (hasB A x && hasB B x)) ∨ ((how == 1) = false ∧ (how == 2) = false ∧ how = 3 ∧ soB how A B x = (hasB A x && !hasB B x)) ∨ ((how == 1) = false ∧ (how == 2) = false ∧ (how == 3) = false ∧ soB how A B x = !hasB A x) := by
    unfold soB
    by_cases h1 : how = 1
    · exact .inl ⟨h1, by rw [if_pos h1]⟩
    · by_cases h2 : how = 2
      · exact .inr (.inl ⟨by simp [h1], h2, by rw [if_neg h1, if_pos h2]⟩)
      · by_cases h3 : how = 3
        · exact .inr (.inr (.inl ⟨by simp [h1], by simp [h2], h3, by rw [if_neg h1, if_neg h2, if_pos h3]⟩))
        · exact .inr (.inr (.inr ⟨by simp [h1], by simp [h2], by simp [h3], by rw [if_neg h1, if_neg h2, if_neg h3]⟩))
  go_enter Tryz.func138, Tryz.ntmps138
  rcases hso with ⟨rfl, hs⟩ | ⟨g1, rfl, hs⟩ | ⟨g1, g2, rfl, hs⟩ | ⟨g1, g2, g3, hs⟩
  all_goals (
    rw [hs]
    clear hs
    cases hA : hasB A x
    all_goals (
      have HA' := HA.out
      rw [hA] at HA'
      have HA2 := Lib.hid HA'
      clear HA' hA
      go_wp2_with fail
      refine HA2.out.mono ?_; rintro e w' ⟨rfl, rfl⟩
      go_wp2_with (go_at_call 166; refine HB.out.mono ?_; rintro e w' ⟨rfl, rfl⟩)
      go_ret
      exact ⟨by simp, rfl⟩))

end Go.Proofs.YtmgeknghgngliaaGreatDoor

/-
  Small general lemmas, the fourth text: an append tells whether its row lies where it lay; no program in sight.
-/
namespace Go.Proofs.YtmgeknghgngliaaGreatDoor
open Go Go.RowKit

theorem grown_none {w w' : World} (h : w.grownBy w' none) (r : Option Nat) : w.grownBy w' r := ⟨h.os, h.tape, h.output, h.size, fun i hi _ => h.block i hi (by simp)⟩
/-- The row lies where it lay, or in a block of its own laid since. -/
def Moved (v v' : Value) (k : Nat) : Prop := v'.ownBlock = v.ownBlock ∨ ∀ g, v'.ownBlock = some g → k ≤ g
theorem wpList_push2 {P : Program} {ops : Array Oper} {rest : List Oper} {o : Oper} {a : Act} {Q : Exit → Act → World → Prop} (hgd : o.guard = none) (s x : Operand) (t : TypeId)
    (ho : o.op = .call { callee := .builtin .append, args := #[s, x], argTypes := #[t, t] })
    (e : TypeId) (i : TypeInfo) (z : Value) (size bytes : Nat) (ht : P.underlying t = some (.slice e)) (hi : P.info? e = some i) (hz : i.zero = some z)
    (hsize : i.size = size) (hby : i.bytes = bytes) (hzs : z.cells.size = size) (hsz : 0 < size) (hb64 : bytes ≤ 64)
    {w0 : World} {base n : Nat} {v : Value} {xs : List Value} (es : List Value) (hs : a.eval s = v) {g0 : Nat} (hx : a.eval x = .slice (some ⟨g0, 0, none⟩) 1 1) (hg0 : g0 = w0.heap.size)
    (hown : w0.ownsRow base e size v n xs) (hes : es.length = size) (h1 : ∀ u ∈ es, u.oneCell' = true) (hn : n ≤ 1099511627776) (hbase : base ≤ w0.heap.size)
    (h : ∀ v' w', w'.ownsRow base e size v' (n + 1) (xs ++ es) → w0.grownBy w' v.ownBlock → Moved v v' w0.heap.size → wpList P ops Q rest (a.put o.dst v') w') : wpList P ops Q (o :: rest) a (w0.alloc (.cells es.toArray e)) := by
  subst hg0
  have hb2 : (n + 1) * bytes ≤ 140737488355328 :=
    calc (n + 1) * bytes ≤ (1099511627776 + 1) * 64 := Nat.mul_le_mul (by omega) hb64
      _ ≤ 140737488355328 := by decide
  have hownA := hown.alloc (.cells es.toArray e)
  have hgA : w0.grownBy (w0.alloc (.cells es.toArray e)) none := World.grownBy_alloc w0 _ none
  have hnew := cells_new w0 es e
  rcases hown.2 with ⟨rfl, rfl⟩ | ⟨g, cap, cur, rfl, hbg, hg, hnc, hcm, hcs, htake⟩
  · obtain rfl : xs = [] := List.eq_nil_of_length_eq_zero (by have := hown.1; omega)
    refine wpList_append_grows _ hgd s x t ho e i z size bytes ht hi hz hsize hby hzs hsz none 0 0 [] hs (fun _ => ⟨rfl, rfl⟩) (by simp) (fun b hb => by cases hb) ⟨w0.heap.size, 0, none⟩ 1 1 es hx (by omega) hnew h1 (by omega) (by unfold maxLen; omega) hb2 ?_
    intro v' w' h2 h3
    refine h v' w' (owns_base h2 (by simp; omega)) (grown_none (hgA.trans h3) _) (.inr fun g hg => ?_)
    have := (h2.lt g hg).1
    simp at this; omega
  · by_cases hroom : n + 1 ≤ cap
    · obtain ⟨w', hr, h2, h3⟩ := run_append_fits (P := P) _ base t o.type e i size ht hi hsize g n cap xs hownA ⟨w0.heap.size, 0, none⟩ 1 1 es (by omega) hnew h1 hroom
      refine wpList_plain hgd fun K hK => ?_
      unfold Oper.wp execOp
      simp only [ho, resolve, invoke, builtin, Sem.run_bind, Sem.run_pure, Result.andThen_ok, List.map_toArray, List.map_cons, List.map_nil, hs, hx, hr]
      exact hK _ _ (h _ w' h2 ((grown_none hgA _).trans h3) (.inl rfl))
    · refine wpList_append_grows _ hgd s x t ho e i z size bytes ht hi hz hsize hby hzs hsz (some ⟨g, 0, none⟩) n cap xs hs (fun hh => by cases hh) hown.1 (fun b hb j u hu => ?_) ⟨w0.heap.size, 0, none⟩ 1 1 es hx (by omega) hnew h1 (by omega) (by unfold maxLen; omega) hb2 ?_
      · injection hb with hb
        subst hb
        exact hownA.cells rfl j u hu
      · intro v' w' h2 h3
        refine h v' w' (owns_base h2 (by simp; omega)) (grown_none (hgA.trans h3) _) (.inr fun g hg => ?_)
        have := (h2.lt g hg).1
        simp at this; omega
theorem grown_setRow (w : World) (g : Nat) (cs : Array Value) : w.grownBy (w.setRow g cs) (some g) :=
  ⟨rfl, rfl, rfl, by simp, fun k _ hk => setRow_other w g k _ (fun e => hk (by simp [e]))⟩
/-- copy, as one step of a region that draws its order, into a known row: no other block turns. -/
theorem step_copy_grown {P : Program} {ops : Array Oper} {o : Oper} {a : Act} {w : World} {K : Act → World → Prop} {Q : Exit → Act → World → Prop} {E : Prop} (hgd : o.guard = none) (d s : Operand) (dT sT : TypeId)
    (ho : o.op = .call { callee := .builtin .copy, args := #[d, s], argTypes := #[dT, sT] }) (elem : TypeId) (hu : P.underlying dT = some (.slice elem)) (hsz : (P.info? elem).map (·.size) = some 1)
    (dp sp : Option Addr) (dLen dCap sLen sCap : Nat) (hd : a.eval d = .slice dp dLen dCap) (hs : a.eval s = .slice sp sLen sCap)
    (g off : Nat) (cur : List Value) (t : TypeId) (hg : w.heap[g]? = some (.cells cur.toArray t (0, 0))) (cs : List Value) (hn : cs.length = Nat.min sLen dLen)
    (hpos : 0 < cs.length → dp = some ⟨g, off, none⟩ ∧ ∃ ad, sp = some ad ∧ ∀ j v, cs[j]? = some v → w.cell? (ad.add j) = some v)
    (hfit : off + cs.length ≤ cur.length) (h1 : ∀ v ∈ cs, v.oneCell' = true)
    (h : ∀ w', Hid (w'.heap[g]? = some (.cells (splice cur off cs).toArray t (0, 0))) → w.grownBy w' (some g) → K (a.put o.dst (goInt cs.length)) w') :
    if Region.wanted o (yielded ops a.tmps) = true then Oper.wp P o a w K Q else E := by
  rw [if_pos (by simp [Region.wanted, hgd])]
  unfold Oper.wp
  rcases Nat.eq_zero_or_pos cs.length with h0 | h0
  · obtain rfl : cs = [] := List.eq_nil_of_length_eq_zero h0
    have hr := run_copy_none (P := P) w dT sT o.type elem dp sp dLen dCap sLen sCap hu hsz (by simpa using hn.symm)
    simp [execOp, ho, resolve, invoke, builtin, hd, hs, hr, Result.andThen]
    exact h w (by show _ = _; simpa [splice] using hg) (World.grownBy.refl w _)
  · obtain ⟨rfl, ad, rfl, hsrc⟩ := hpos h0
    have hr := run_copy_row (P := P) w dT sT o.type elem g off dLen dCap ad sLen sCap cur.toArray t cs hu hsz hg hn hsrc (by simpa using hfit) h1
    simp [execOp, ho, resolve, invoke, builtin, hd, hs, hr, Result.andThen]
    exact h _ (by show _ = _; simpa [splice] using setRow_heap w g _ _ t _ hg) (grown_setRow w g _)
/-- Behind an append that may have moved the row, and writes into it. -/
theorem grown_moved {v v' : Value} {w w1 w2 : World} {g : Nat} (h : w.grownBy w1 v.ownBlock) (hm : Moved v v' w.heap.size) (hv : v'.ownBlock = some g) (h2 : w1.grownBy w2 (some g)) : w.grownBy w2 v.ownBlock := by
  refine ⟨h2.os.trans h.os, h2.tape.trans h.tape, h2.output.trans h.output, Nat.le_trans h.size h2.size, fun i hi hne => ?_⟩
  refine (h2.block i (Nat.lt_of_lt_of_le hi h.size) (fun hh => ?_)).trans (h.block i hi hne)
  injection hh with hh
  rcases hm with hm | hm
  · exact hne (by rw [← hm, hv, hh])
  · have := hm g hv; omega
/-- The blocks from lo on below hi are as they were. -/
def Seg (lo hi : Nat) (a w : World) : Prop := ∀ b, lo ≤ b → b < hi → w.heap[b]? = a.heap[b]?
/-- The row lies below lo or from hi on. -/
def Off (v : Value) (lo hi : Nat) : Prop := ∀ g, v.ownBlock = some g → g < lo ∨ hi ≤ g
theorem Off.moved {v v' : Value} {lo hi k : Nat} (h : Off v lo hi) (hm : Moved v v' k) (hk : hi ≤ k) : Off v' lo hi := by
  intro g hg
  rcases hm with hm | hm
  · exact h g (hm ▸ hg)
  · exact .inr (Nat.le_trans hk (hm g hg))
theorem Seg.refl (lo hi : Nat) (a : World) : Seg lo hi a a := fun _ _ _ => rfl
theorem Seg.grown {v : Value} {lo hi : Nat} {a w w' : World} (h : Seg lo hi a w) (hg : w.grownBy w' v.ownBlock) (ho : Off v lo hi) (hs : hi ≤ w.heap.size) : Seg lo hi a w' := by
  intro b h1 h2
  refine (hg.block b (by omega) (fun hb => ?_)).trans (h b h1 h2)
  rcases ho b hb.symm with h3 | h3 <;> omega
theorem Seg.below {lo hi : Nat} {a w w' : World} (h : Seg lo hi a w) (hb : Below w.heap.size w w') (hs : hi ≤ w.heap.size) : Seg lo hi a w' :=
  fun b h1 h2 => (hb.block b (by omega)).trans (h b h1 h2)
theorem Seg.alloc {lo hi : Nat} {a w : World} (h : Seg lo hi a w) (hs : hi ≤ w.heap.size) (o : Obj) : Seg lo hi a (w.alloc o) := h.below (below1 w o) hs

end Go.Proofs.YtmgeknghgngliaaGreatDoor

/-
  The walk of the document's put: a number put in its place, once.
-/
namespace Go.Proofs.YtmgeknghgngliaaGreatDoor
open Go Go.RowKit Go.Lib Go.Sort

theorem Tryz.infoU32 : (Tryz.prog.info? 22).map (fun i => (i.zero, i.size, i.bytes)) = some (some (.int .u32 0), 1, 4) := by kernel_rfl
def encU (l : List Int) : List Value := l.map (Value.int .u32 ·)
theorem encU_len (l : List Int) : (encU l).length = l.length := by simp [encU]
theorem encU_at {l : List Int} {i : Nat} {x : Int} (h : l[i]? = some x) : (encU l)[i]? = some (.int .u32 x) := by simp [encU, h]
theorem encU_append (a b : List Int) : encU (a ++ b) = encU a ++ encU b := by simp [encU]
theorem encU_one (l : List Int) : ∀ u ∈ encU l, u.oneCell' = true := by
  intro u hu
  obtain ⟨x, _, rfl⟩ := List.mem_map.1 hu
  rfl
theorem below_drew {B : Nat} {a w : World} (h : Below B a w) : Below B a w.drew := ⟨h.os, h.tape, h.output, h.size, h.block⟩
theorem put_cells {l : List Int} {k : Nat} (hk : k ≤ l.length) {x : Int} {cur : List Value} {z : Value} (h : cur.take ((l.length + 1) * 1) = encU l ++ [z]) :
    ((splice cur (k + 1) (encU (l.drop k))).take (l.length + 1)).set k (.int .u32 x) = encU (l.take k ++ x :: l.drop k) := by
  rw [Nat.mul_one] at h
  obtain ⟨v, hv⟩ : ∃ v, cur.take (k + 1) = encU (l.take k) ++ [v] := by
    have e : cur.take (k + 1) = (encU l ++ [z]).take (k + 1) := by
      rw [← h, List.take_take]; congr 1; omega
    obtain ⟨v, hv⟩ : ∃ v, (encU l ++ [z])[k]? = some v := ⟨_, List.getElem?_eq_getElem (by simp [encU]; omega)⟩
    refine ⟨v, ?_⟩
    rw [e, List.take_add_one, hv, List.take_append_of_le_length (by rw [encU_len]; exact hk)]
    simp [encU, List.map_take]
  have hl : (encU (l.take k) ++ [v]).length = k + 1 := by simp [encU]; omega
  unfold splice
  rw [hv, ← List.append_assoc, List.take_append_of_le_length (by simp [encU]; omega), List.take_of_length_le (by simp [encU]; omega), encU_append]
  rw [List.append_assoc, List.set_append_right _ _ (by simp [encU]; omega)]
  have e0 : k - (encU (l.take k)).length = 0 := by simp [encU]; omega
  rw [e0]
  rfl
def PutRes (V : Value) (l : List Int) (x most : Int) (base : Nat) (w : World) (e : Ending) (w' : World) : Prop :=
  ∃ (v : Value) (m : List Int), e = .returned v ∧ w'.ownsRow base 22 1 v m.length (encU m) ∧ Rising m ∧ (∀ y, y ∈ m ↔ y ∈ l ∨ (y = x ∧ x ≤ most)) ∧ m.length ≤ l.length + 1 ∧ w.grownBy w' V.ownBlock

set_option maxRecDepth 100000 in
set_option maxHeartbeats 4000000 in
theorem put_any (l : List Int) (v : Value) (x most : Int) (base : Nat) (w : World) (hown : w.ownsRow base 22 1 v l.length (encU l)) (hr : Rising l) (hb : ∀ y ∈ l, 0 ≤ y ∧ y < 4294967296) (hx : 0 ≤ x ∧ x < 4294967296) (hbase : base ≤ w.heap.size) (hlen : l.length ≤ 1099511627776) :
    Calls Tryz.prog 165 #[v, .int .u32 x, .int .u32 most] w (PutRes v l x most base w) := by
  obtain ⟨i0, hi, hz0, hz1, hz2⟩ := info_parts Tryz.infoU32
  obtain ⟨A0, c0, rfl, hA0⟩ := owns_form hown
  go_enter Tryz.func165, Tryz.ntmps165
  by_cases hxm : x ≤ most
  · have HB := Lib.hid hb
    have HR := Lib.hid hr
    clear hb hr
    go_upto_block 0 with fail
    go_cut [7] (fun s7 wx => wx = w ∧ ∃ k : Nat, s7 = .int .i64 k ∧ k ≤ l.length ∧ (∀ j y, k ≤ j → l[j]? = some y → x < y) ∧ (0 < k → ∃ y, l[k - 1]? = some y ∧ y ≤ x))
    case first =>
      go_wp2_with fail
      go_loop [7] (fun i => ∃ k : Nat, i = .int .i64 k ∧ k ≤ l.length ∧ ∀ j y, k ≤ j → l[j]? = some y → x < y) (fun i => (intOf i).toNat)
      case atStart => exact ⟨l.length, rfl, by omega, fun j y hj h => by have := (List.getElem?_eq_some_iff.1 h).1; omega⟩
      case round =>
        obtain ⟨k, rfl, hk, hgt⟩ := hrel
        rcases k with _ | k
        · have HG := Lib.hid hgt
          clear hgt
          go_wp2
          go_meet
          exact ⟨rfl, 0, rfl, by omega, HG.out, fun h => absurd h (by omega)⟩
        · obtain ⟨y, hy⟩ : ∃ y, l[k]? = some y := ⟨_, List.getElem?_eq_getElem (by omega)⟩
          obtain ⟨g, rfl⟩ := hA0 (by omega)
          have e0 : w.cell? ⟨g, k, none⟩ = some (.int .u32 y) := (hown.cellAt k (by omega)).trans (encU_at hy)
          have HG := Lib.hid hgt
          have HY := Lib.hid hy
          clear hgt hy
          by_cases hxy : x < y
          · go_wp2
            go_roundw
            case rel =>
              refine ⟨k, by go_num, by omega, fun j z hj hz => ?_⟩
              rcases Nat.eq_or_lt_of_le hj with rfl | hj
              · rw [HY.out] at hz
                injection hz with hz
                omega
              · exact HG.out j z hj hz
            case measure => simp only [intOf]; omega
          · go_wp2
            go_meet
            exact ⟨rfl, k + 1, rfl, by omega, HG.out, fun _ => ⟨y, HY.out, by omega⟩⟩
    case rest =>
      obtain ⟨rfl, k, rfl, hk, hgt, hle⟩ := hcut
      have HG := Lib.hid hgt
      clear hgt
      go_upto_region 6 with fail
      go_cut [37] (fun s37 wx => wx = wc ∧ ((s37 = .bool true ∧ x ∈ l) ∨ (s37 = .bool false ∧ ∀ y ∈ l.take k, y < x)))
      case first =>
        rcases k with _ | m
        · go_wp2
          go_meet
          exact ⟨rfl, .inr ⟨rfl, by simp⟩⟩
        · obtain ⟨y, hy, hyx⟩ := hle (by omega)
          have hy' : l[m]? = some y := hy
          obtain ⟨g, rfl⟩ := hA0 (by omega)
          have e0 : wc.cell? ⟨g, m, none⟩ = some (.int .u32 y) := (hown.cellAt m (by omega)).trans (encU_at hy')
          have HY := Lib.hid hy'
          clear hy hy' hle
          by_cases hxy : y = x
          · subst hxy
            go_wp2
            go_meet
            exact ⟨rfl, .inl ⟨rfl, List.mem_of_getElem? HY.out⟩⟩
          · have hb1 : (y == x) = false := by simp [hxy]
            go_wp2
            go_meet
            refine ⟨rfl, .inr ⟨rfl, fun z hz => ?_⟩⟩
            obtain ⟨j, hj, e⟩ := List.getElem_of_mem hz
            have hj' : j < m + 1 := by simp at hj; omega
            rw [List.getElem_take] at e
            obtain ⟨hm, em⟩ := List.getElem?_eq_some_iff.1 HY.out
            rcases Nat.lt_or_ge j m with h | h
            · have := List.pairwise_iff_getElem.1 HR.out j m (by omega) hm h
              omega
            · obtain rfl : j = m := by omega
              omega
      case rest =>
        obtain ⟨rfl, hres⟩ := hcut
        rcases hres with ⟨rfl, hin⟩ | ⟨rfl, hlt⟩
        · have HI := Lib.hid hin
          clear hin hle
          go_wp2
          go_ret
          exact ⟨_, l, rfl, hown, HR.out, fun y => ⟨.inl, fun h => h.elim id (fun h => by rw [h.1]; exact HI.out)⟩, by omega, World.grownBy.refl _ _⟩
        · have hgt : ∀ y ∈ l.drop k, x < y := by
            intro y hy
            obtain ⟨j, hj, e⟩ := List.getElem_of_mem hy
            rw [List.getElem_drop] at e
            exact HG.out (k + j) y (by omega) (by rw [← e]; exact List.getElem?_eq_getElem _)
          have HP := Lib.hid (rising_put HR.out hlt hgt)
          clear hlt hgt hle
          go_wp2_with (at_builtin; refine wpList_push2 (v := .slice A0 l.length c0) rfl _ _ 46 rfl 22 i0 _ 1 4 Tryz.underlying46 hi hz0 hz1 hz2 rfl (by decide) (by decide) [.int .u32 0] rfl rfl (by simp) hown rfl (encU_one [0]) (by omega) hbase ?_; intro v2 w2 hown2 hgr hmv)
          obtain ⟨A2, c2, rfl, hA2⟩ := owns_form hown2
          obtain ⟨g2, rfl⟩ := hA2 (by omega)
          obtain ⟨cur, hg2, hc2, hcm, hcs, htk, hbg⟩ := owns_block hown2
          have hsrc : ∀ j u, (encU (l.drop k))[j]? = some u → w2.cell? ((⟨g2, k, none⟩ : Addr).add j) = some u := by
            intro j u hu
            have e : (⟨g2, k, none⟩ : Addr).add j = ⟨g2, k + j, none⟩ := by simp [Addr.add]
            have hj := (List.getElem?_eq_some_iff.1 hu).1
            rw [encU_len, List.length_drop] at hj
            rw [e, hown2.cellAt (k + j) (by omega), List.getElem?_append_left (by rw [encU_len]; omega)]
            simpa [encU] using hu
          have hcap : k + 1 + (encU (l.drop k)).length ≤ cur.toList.length := by
            rw [encU_len]; simp; omega
          have HTK := Lib.hid htk
          have HGR := Lib.hid hgr
          have HMV := Lib.hid hmv
          clear hown2 hown htk hgr hmv
          have hwr : IntKind.i64.wrap ((k : Int) + 1) = (k : Int) + 1 := by
            simp only [IntKind.wrap, IntKind.bits, IntKind.signed]
            simp
            omega
          have hi3 : (k : Int) ≤ (l.length : Int) + 1 := by omega
          have hi0 : (0 : Int) ≤ (k : Int) + 1 := by omega
          have hne : ¬ c2 = k := by omega
          go_upto_region 9 with fail
          go_cut [] (fun wx => Hid (wx.heap[g2]? = some (.cells (splice cur.toList (k + 1) (encU (l.drop k))).toArray 22 (0, 0))) ∧ w2.grownBy wx (some g2))
          case first =>
            by_cases hck : c2 = k + 1
            · subst hck
              obtain rfl : k = l.length := by omega
              have hpos : ¬ 0 < (encU (l.drop l.length)).length := by simp [encU]
              go_region_law (refine step_copy_grown rfl (.tmp 45) (.tmp 48) 46 46 rfl 22 Tryz.underlying46 (by kernel_rfl) (some ⟨g2, 0, none⟩) (some ⟨g2, l.length, none⟩) 0 0 1 1 (by go_simp) (by go_simp) g2 (l.length + 1) cur.toList 22 hg2 (encU (l.drop l.length)) (by simp [encU]) (fun h => absurd h hpos) hcap (encU_one _) ?_; intro w4 hg4 hb4)
              all_goals (go_wp2_with fail; go_meet; exact ⟨hg4, (only_drew (World.grownBy.refl w2 (some g2))).trans hb4⟩)
            · go_region_law (refine step_copy_grown rfl (.tmp 45) (.tmp 48) 46 46 rfl 22 Tryz.underlying46 (by kernel_rfl) (some ⟨g2, k + 1, none⟩) (some ⟨g2, k, none⟩) (l.length - k) (c2 - (k + 1)) (l.length + 1 - k) (c2 - k) (by go_simp) (by go_simp) g2 (k + 1) cur.toList 22 hg2 (encU (l.drop k)) (by rw [encU_len, List.length_drop]; show _ = min (l.length + 1 - k) (l.length - k); omega) (fun _ => ⟨rfl, _, rfl, hsrc⟩) hcap (encU_one _) ?_; intro w4 hg4 hb4)
              all_goals (go_wp2_with fail; go_meet; exact ⟨hg4, (only_drew (World.grownBy.refl w2 (some g2))).trans hb4⟩)
          case rest =>
            obtain ⟨hg4, hb4⟩ := hcut
            have hlen4 : (splice cur.toList (k + 1) (encU (l.drop k))).length = cur.toList.length := length_splice _ _ _ hcap
            have hcl : cur.toList.length = cur.size := Array.length_toList
            have own4 := owns_of_block (size := 1) (n := l.length + 1) (xs := (splice cur.toList (k + 1) (encU (l.drop k))).take (l.length + 1)) hg4.out hc2 hcm (by rw [List.size_toArray, hlen4, hcl, hcs]) (by simp) (by rw [List.length_take, hlen4, hcl, hcs]; omega) hbg
            have hcur := put_cells hk (x := x) HTK.out
            have s1 := own4.stored k (.int .u32 x)
            rw [hcur] at s1
            have c1 : (l.take k ++ x :: l.drop k).length = l.length + 1 := by simp; omega
            have z1 := own4.frozenAt k
            obtain ⟨u, hu⟩ : ∃ u, wc.cell? ⟨g2, k, none⟩ = some u := by
              refine ⟨_, (own4.cellAt k (by omega)).trans (List.getElem?_eq_getElem (by rw [List.length_take, hlen4, hcl, hcs]; omega))⟩
            have HS := Lib.hid s1
            have HB4 := Lib.hid hb4
            clear s1 own4 hb4 hsrc hcur hg2
            have hi5 : (k : Int) < (l.length : Int) + 1 := by omega
            go_wp2
            go_ret
            refine ⟨_, l.take k ++ x :: l.drop k, rfl, ?_, HP.out.1, fun y => (HP.out.2 y).trans ⟨fun h => h.imp id (fun h => ⟨h, hxm⟩), fun h => h.imp id (fun h => h.1)⟩, by omega, grown_moved HGR.out HMV.out rfl (HB4.out.trans HS.out.2)⟩
            rw [c1]
            exact HS.out.1
  · go_wp2
    go_ret
    exact ⟨_, l, rfl, hown, hr, fun y => ⟨.inl, fun h => h.elim id (fun h => by omega)⟩, by omega, World.grownBy.refl _ _⟩

end Go.Proofs.YtmgeknghgngliaaGreatDoor
