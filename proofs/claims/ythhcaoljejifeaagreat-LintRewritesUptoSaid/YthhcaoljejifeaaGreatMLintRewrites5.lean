/-
  Joined texts: Sp3, Rb6.
-/
import Derived.Test.YthhcaoljejifeaaGreatMLintRewrites4
import Derived.Test.YthhcaoljejifeaaGreatMLintRewrites1
import Derived.Deep.DeepCutAuto
import Derived.StillTailTactics
/-
  The walk of spans.Form.
-/
namespace Go.Proofs.YthhcaoljejifeaaGreat
open Go Go.RowKit Go.Lib Go.Sort

theorem Tryz.infoSpan : (Tryz.prog.info? 66).map (fun i => (i.zero, i.size, i.bytes)) = some (some (.agg #[.int .u32 0, .int .u32 0]), 2, 8) := by kernel_rfl
theorem below_drew1 {B : Nat} {a w : World} (h : Below B a w) : Below B a w.drew := ⟨h.os, h.tape, h.output, h.size, h.block⟩
/-- A new list of spans is handed back; nothing that was there has turned. -/
def SetRes (R : List SpanV) (w : World) (e : Ending) (w' : World) : Prop :=
  ∃ v, e = .returned v ∧ w'.ownsRow w.heap.size 66 2 v R.length (scells R) ∧ Below w.heap.size w w'
theorem enc_one (s : SpanV) : ∀ u ∈ s.enc, u.oneCell' = true := by
  intro u hu
  simp only [SpanV.enc, List.mem_cons, List.not_mem_nil, or_false] at hu
  rcases hu with rfl | rfl <;> rfl
theorem scells_len (L : List SpanV) : (scells L).length = L.length * 2 := flat_len SpanV.enc 2 span_len L
theorem scells_snoc (A : List SpanV) (s : SpanV) : scells (A ++ [s]) = scells A ++ s.enc := by simp [scells]
theorem filter_succ {L : List SpanV} {j : Nat} {s : SpanV} (h : L[j]? = some s) : (L.take (j + 1)).filter okS = (L.take j).filter okS ++ (if s.lo ≤ s.hi then [s] else []) := by
  rw [List.take_add_one, h, List.filter_append]
  congr 1
  by_cases hs : s.lo ≤ s.hi <;> simp [okS, hs]
theorem filter_take_len (L : List SpanV) (j : Nat) : ((L.take j).filter okS).length ≤ j := by
  have := List.length_filter_le okS (L.take j)
  simp at this; omega
theorem scells_set {A : List SpanV} {t y : SpanV} (h : y.lo = t.lo) : (scells (A ++ [t])).set (A.length * 2 + 1) (.int .u32 y.hi) = scells (A ++ [y]) := by
  rw [scells_snoc, scells_snoc, List.set_append_right _ _ (by rw [scells_len]; omega), scells_len, show A.length * 2 + 1 - A.length * 2 = 1 by omega]
  show scells A ++ [.int .u32 t.lo, .int .u32 y.hi] = scells A ++ [.int .u32 y.lo, .int .u32 y.hi]
  rw [h]

set_option maxRecDepth 100000 in
set_option maxHeartbeats 4000000 in
theorem form_any (L : List SpanV) (vl : Value) (w : World) (hl : Rd w w.heap.size 2 vl L.length (scells L)) (hlen : L.length ≤ 1099511627776) :
    Calls Tryz.prog 74 #[vl] w (SetRes (formOf L) w) := by
  obtain ⟨i0, hi, hz0, hz1, hz2⟩ := info_parts Tryz.infoSpan
  obtain ⟨A0, c0, rfl, hc0⟩ := hl.form
  have HL := Lib.hid hl
  clear hl
  go_enter Tryz.func74, Tryz.ntmps74
  go_wp2
  go_loopw [3, 12] (fun v i wr => ∃ j : Nat, i = .int .i64 j ∧ j ≤ L.length ∧ wr.ownsRow w.heap.size 66 2 v ((L.take j).filter okS).length (scells ((L.take j).filter okS)) ∧ Below w.heap.size w wr) (fun _ i _ => L.length - (intOf i).toNat)
  case atStart => exact ⟨0, rfl, by omega, World.ownsRow_nil _ _ _ _, Below.refl _ _⟩
  case round =>
    obtain ⟨j, rfl, hj, hown, hnx⟩ := hrel
    by_cases hlt : j < L.length
    · have hI : (j : Int) < (L.length : Int) := by omega
      obtain ⟨s, hs⟩ : ∃ s, L[j]? = some s := ⟨_, List.getElem?_eq_getElem hlt⟩
      obtain ⟨b, off, c', hv, _, hbB, hcell⟩ := (HL.out.below hnx).posAt (by omega)
      injection hv with hv1 _ hv3
      subst hv1 hv3
      have f0 : wr.cell? ⟨b, off + j * 2, none⟩ = some (.int .u32 s.lo) := hcell j 0 _ (scell hs rfl)
      have f1 : wr.cell? ⟨b, off + j * 2 + 1, none⟩ = some (.int .u32 s.hi) := hcell j 1 _ (scell hs rfl)
      have hfl := filter_take_len L j
      have hsz := hnx.size
      clear hcell
      have hstep := filter_succ hs
      have hbox := below1 wr (.cells #[.int .u32 s.lo, .int .u32 s.hi] 66)
      by_cases hok : s.lo ≤ s.hi
      · rw [if_pos hok] at hstep
        go_wp2_with (at_builtin; refine wpList_push rfl _ _ 133 rfl 66 i0 _ 2 8 Tryz.underlying133 hi hz0 hz1 hz2 rfl (by decide) (by decide) [.int .u32 s.lo, .int .u32 s.hi] rfl rfl (by simp) (hown.alloc _) rfl (enc_one s) (by omega) (by simp; omega) (hnx.alloc hsz _) (Nat.le_refl _) ?_; intro v2 w2 hown2 hb2)
        refine ⟨⟨j + 1, rfl, by omega, ?_, hb2⟩, by simp only [intOf]; omega⟩
        rw [hstep, scells_snoc, List.length_append]
        exact hown2
      · rw [if_neg hok, List.append_nil] at hstep
        go_wp2
        exact ⟨⟨j + 1, rfl, by omega, by rw [hstep]; exact hown.alloc _, hnx.alloc hsz _⟩, by simp only [intOf]; omega⟩
    · have hI : ¬ (j : Int) < (L.length : Int) := by omega
      obtain rfl : j = L.length := by omega
      rw [List.take_length] at hown
      have hfl := List.length_filter_le okS L
      have hsz := hnx.size
      go_wp2_with fail
      refine (sortSpan_any _ _ _ _ hown (by omega)).mono ?_
      rintro e w1 ⟨rfl, L', hperm, hpw, hR, hbel⟩
      have hb1 : Below w.heap.size w w1 := hnx.trans (hbel _ (Nat.le_refl _) hsz)
      have hlen' : L'.length ≤ L.length := by rw [hperm.length_eq]; exact hfl
      have hF := formOf_eq hperm hpw
      have hml := mfold_len L'
      have hsz1 := hb1.size
      obtain ⟨A2, c2, rfl, hc2⟩ := hR.form
      have HF := Lib.hid hF
      have HR := Lib.hid hR
      have HB1 := Lib.hid hb1
      have HML := Lib.hid hml
      clear hown hnx hfl hperm hpw hbel hF hb1 hml hR
      go_wp2
      go_loopw [6, 30] (fun v i wr => ∃ j : Nat, i = .int .i64 j ∧ j ≤ L'.length ∧ wr.ownsRow w1.heap.size 66 2 v (mfold (L'.take j)).length (scells (mfold (L'.take j))) ∧ Below w1.heap.size w1 wr) (fun _ i _ => L'.length - (intOf i).toNat)
      case atStart => exact ⟨0, rfl, by omega, World.ownsRow_nil _ _ _ _, Below.refl _ _⟩
      case round =>
        obtain ⟨j, rfl, hj, hown, hnx⟩ := hrel
        have hsz := hnx.size
        by_cases hlt : j < L'.length
        · have hI : (j : Int) < (L'.length : Int) := by omega
          obtain ⟨s, hs⟩ : ∃ s, L'[j]? = some s := ⟨_, List.getElem?_eq_getElem hlt⟩
          obtain ⟨b, off, c', hv, _, hbB, hcell⟩ := (HR.out.below hnx).posAt (by omega)
          injection hv with hv1 _ hv3
          subst hv1 hv3
          have f0 : wr.cell? ⟨b, off + j * 2, none⟩ = some (.int .u32 s.lo) := hcell j 0 _ (scell hs rfl)
          have f1 : wr.cell? ⟨b, off + j * 2 + 1, none⟩ = some (.int .u32 s.hi) := hcell j 1 _ (scell hs rfl)
          clear hcell
          have hstep := mfold_succ hs
          have hOl := HML.out j
          generalize mfold (L'.take j) = O at *
          have hHS := Lib.hid hstep
          clear hstep hs
          have hownA := hown.alloc (.cells #[.int .u32 s.lo, .int .u32 s.hi] 66)
          have hnxA := hnx.alloc hsz (.cells #[.int .u32 s.lo, .int .u32 s.hi] 66)
          have kb := blk1 wr (.cells #[.int .u32 s.lo, .int .u32 s.hi] 66)
          have hszA : w1.heap.size ≤ (wr.alloc (.cells #[.int .u32 s.lo, .int .u32 s.hi] 66)).heap.size := by simp; omega
          have hlo := s.hlo
          have hhi := s.hhi
          rcases snoc_cases O with rfl | ⟨A, t, rfl⟩
          · obtain ⟨A3, c3, rfl, _⟩ := owns_form hown
            have HO := Lib.hid hownA
            have HN := Lib.hid hnxA
            have HK := Lib.hid kb
            obtain ⟨x0, x1, _, _⟩ := two_cells kb
            clear hown hnx hownA hnxA kb
            go_wp2
            refine wp_region_quiet_below (by kernel_rfl) (by kernel_rfl) ?_
            repeat (first | go_big_quiet_step (fail) | quiet_step (fail))
            refine wpQuiet_nil ?_
            intro _ hw'
            obtain ⟨⟨nq, osq⟩, hw''⟩ := hw'
            subst hw''
            have hq := below_regrown (wr.alloc (.cells #[.int .u32 s.lo, .int .u32 s.hi] 66)) nq osq
            have own1 := owns_kept_none HO.out (only_of_below hq none)
            have nx1 := HN.out.trans (hq.mono hszA)
            have sz1 := nx1.size
            obtain ⟨y0, y1, _, _⟩ := two_cells (blk_below hq HK.out)
            clear x0 x1 HO HN HK f0 f1
            generalize grow (redrawn (wr.alloc (.cells #[.int .u32 s.lo, .int .u32 s.hi] 66)) nq) osq = W1 at *
            clear hq
            go_wp2_with (at_builtin; refine wpList_push rfl _ _ 133 rfl 66 i0 _ 2 8 Tryz.underlying133 hi hz0 hz1 hz2 rfl (by decide) (by decide) [.int .u32 s.lo, .int .u32 s.hi] rfl rfl (by simp) own1 rfl (enc_one s) (by simp) (by omega) nx1 (Nat.le_refl _) ?_; intro v2 w2 hown2 hb2)
            refine ⟨⟨j + 1, by go_num, by omega, ?_, hb2⟩, by simp only [intOf]; omega⟩
            rw [hHS.out, mstep_nil]
            exact hown2
          · have hl1 : (A ++ [t]).length = A.length + 1 := by simp
            rw [hl1] at hown hownA hOl
            obtain ⟨A3, c3, rfl, hA3⟩ := owns_form hown
            obtain ⟨g, rfl⟩ := hA3 (by omega)
            have e1 : (wr.alloc (.cells #[.int .u32 s.lo, .int .u32 s.hi] 66)).cell? ⟨g, A.length * 2 + 1, none⟩ = some (.int .u32 t.hi) := (hownA.cellAt (A.length * 2 + 1) (by omega)).trans (scell (L := A ++ [t]) (k := A.length) (i := 1) (x := t) (by simp) rfl)
            have HO := Lib.hid hownA
            have HN := Lib.hid hnxA
            have HK := Lib.hid kb
            obtain ⟨x0, x1, _, _⟩ := two_cells kb
            have F0 := cell_regrown x0
            have F1 := cell_regrown x1
            have F2 := cell_regrown e1
            have hthi := t.hhi
            clear hown hnx hownA hnxA kb
            have hm : (t.hi == 4294967295) = true ∨ ((t.hi == 4294967295) = false ∧ (t.hi + 1) % 4294967296 = t.hi + 1 ∧ decide (s.lo ≤ t.hi + 1) = true) ∨ ((t.hi == 4294967295) = false ∧ (t.hi + 1) % 4294967296 = t.hi + 1 ∧ decide (s.lo ≤ t.hi + 1) = false) := by
              by_cases h1 : t.hi = 4294967295
              · exact .inl (by simp [h1])
              · by_cases h2 : s.lo ≤ t.hi + 1
                · exact .inr (.inl ⟨by simp [h1], by omega, by simp [h2]⟩)
                · exact .inr (.inr ⟨by simp [h1], by omega, by simp; omega⟩)
            rcases hm with hm1 | ⟨hm1, hm2, hm3⟩ | ⟨hm1, hm2, hm3⟩
            · have hmg : s.lo ≤ t.hi + 1 := by
                have := eq_of_beq hm1
                omega
              have HM := Lib.hid hmg
              clear hmg
              go_wp2
              refine wp_region_quiet_below (by kernel_rfl) (by kernel_rfl) ?_
              repeat (first | go_big_quiet_step (fail) | quiet_step (fail))
              refine wpQuiet_nil ?_
              intro _ hw'
              obtain ⟨⟨nq, osq⟩, hw''⟩ := hw'
              subst hw''
              have hq := below_regrown (wr.alloc (.cells #[.int .u32 s.lo, .int .u32 s.hi] 66)) nq osq
              have own1 := owns_kept_none HO.out (only_of_below hq none)
              have nx1 := HN.out.trans (hq.mono hszA)
              have sz1 := nx1.size
              have kb1 := blk_below hq HK.out
              obtain ⟨y0, y1, _, _⟩ := two_cells kb1
              clear F0 F1 F2 x0 x1 e1 HO HN HK f0 f1
              generalize grow (redrawn (wr.alloc (.cells #[.int .u32 s.lo, .int .u32 s.hi] 66)) nq) osq = W1 at *
              clear hq
              have z1 : W1.cell? ⟨g, A.length * 2 + 1, none⟩ = some (.int .u32 t.hi) := (own1.cellAt (A.length * 2 + 1) (by omega)).trans (scell (L := A ++ [t]) (k := A.length) (i := 1) (x := t) (by simp) rfl)
              have z2 := own1.frozenAt (A.length * 2 + 1)
              have hgB := (own1.lt g rfl).1
              have hi1 : (0 : Int) ≤ (A.length : Int) := by omega
              have hi2 : (A.length : Int) < (A.length : Int) + 1 := by omega
              have hi3 : (A.length : Int) ≤ 9223372036854775807 := by omega
              have hi4 : IntKind.i64.wrap (A.length : Int) = (A.length : Int) := by rw [IntKind.wrap_i64]; omega
              go_wp2
              go_still_tail 14, (by kernel_rfl)
              have own2 := owns_kept_none own1 (only_drew (World.grownBy.refl W1 none))
              have nx2 := below_drew1 nx1
              have z3 : W1.drew.cell? ⟨g, A.length * 2 + 1, none⟩ = some (.int .u32 t.hi) := z1
              have z4 : W1.drew.frozen? ⟨g, A.length * 2 + 1, none⟩ = false := z2
              clear own1 nx1 z1 z2 kb1 y0 y1 sz1
              change wpList _ _ _ _ _ W1.drew
              generalize W1.drew = W2 at *
              go_wp2
              have s1 := (own2.stored (A.length * 2 + 1) (.int .u32 (max t.hi s.hi))).1
              rw [show (scells (A ++ [t])).set (A.length * 2 + 1) (.int .u32 (max t.hi s.hi)) = scells (A ++ [t.reach s]) from scells_set (A := A) (t := t) (y := t.reach s) rfl] at s1
              refine ⟨⟨j + 1, by go_num, by omega, ?_, nx2.setCell (p := ⟨g, A.length * 2 + 1, none⟩) hgB _⟩, by simp only [intOf]; omega⟩
              rw [hHS.out, mstep_in HM.out, List.length_append]
              exact s1
            · have hmg : s.lo ≤ t.hi + 1 := of_decide_eq_true hm3
              have HM := Lib.hid hmg
              clear hmg
              go_wp2
              refine wp_region_quiet_below (by kernel_rfl) (by kernel_rfl) ?_
              repeat (first | go_big_quiet_step (fail) | quiet_step (fail))
              refine wpQuiet_nil ?_
              intro _ hw'
              obtain ⟨⟨nq, osq⟩, hw''⟩ := hw'
              subst hw''
              have hq := below_regrown (wr.alloc (.cells #[.int .u32 s.lo, .int .u32 s.hi] 66)) nq osq
              have own1 := owns_kept_none HO.out (only_of_below hq none)
              have nx1 := HN.out.trans (hq.mono hszA)
              have sz1 := nx1.size
              have kb1 := blk_below hq HK.out
              obtain ⟨y0, y1, _, _⟩ := two_cells kb1
              clear F0 F1 F2 x0 x1 e1 HO HN HK f0 f1
              generalize grow (redrawn (wr.alloc (.cells #[.int .u32 s.lo, .int .u32 s.hi] 66)) nq) osq = W1 at *
              clear hq
              have z1 : W1.cell? ⟨g, A.length * 2 + 1, none⟩ = some (.int .u32 t.hi) := (own1.cellAt (A.length * 2 + 1) (by omega)).trans (scell (L := A ++ [t]) (k := A.length) (i := 1) (x := t) (by simp) rfl)
              have z2 := own1.frozenAt (A.length * 2 + 1)
              have hgB := (own1.lt g rfl).1
              have hi1 : (0 : Int) ≤ (A.length : Int) := by omega
              have hi2 : (A.length : Int) < (A.length : Int) + 1 := by omega
              have hi3 : (A.length : Int) ≤ 9223372036854775807 := by omega
              have hi4 : IntKind.i64.wrap (A.length : Int) = (A.length : Int) := by rw [IntKind.wrap_i64]; omega
              go_wp2
              go_still_tail 14, (by kernel_rfl)
              have own2 := owns_kept_none own1 (only_drew (World.grownBy.refl W1 none))
              have nx2 := below_drew1 nx1
              have z3 : W1.drew.cell? ⟨g, A.length * 2 + 1, none⟩ = some (.int .u32 t.hi) := z1
              have z4 : W1.drew.frozen? ⟨g, A.length * 2 + 1, none⟩ = false := z2
              clear own1 nx1 z1 z2 kb1 y0 y1 sz1
              change wpList _ _ _ _ _ W1.drew
              generalize W1.drew = W2 at *
              go_wp2
              have s1 := (own2.stored (A.length * 2 + 1) (.int .u32 (max t.hi s.hi))).1
              rw [show (scells (A ++ [t])).set (A.length * 2 + 1) (.int .u32 (max t.hi s.hi)) = scells (A ++ [t.reach s]) from scells_set (A := A) (t := t) (y := t.reach s) rfl] at s1
              refine ⟨⟨j + 1, by go_num, by omega, ?_, nx2.setCell (p := ⟨g, A.length * 2 + 1, none⟩) hgB _⟩, by simp only [intOf]; omega⟩
              rw [hHS.out, mstep_in HM.out, List.length_append]
              exact s1
            · have hmg : ¬ s.lo ≤ t.hi + 1 := of_decide_eq_false hm3
              have HM := Lib.hid hmg
              clear hmg
              go_wp2
              refine wp_region_quiet_below (by kernel_rfl) (by kernel_rfl) ?_
              repeat (first | go_big_quiet_step (fail) | quiet_step (fail))
              refine wpQuiet_nil ?_
              intro _ hw'
              obtain ⟨⟨nq, osq⟩, hw''⟩ := hw'
              subst hw''
              have hq := below_regrown (wr.alloc (.cells #[.int .u32 s.lo, .int .u32 s.hi] 66)) nq osq
              have own1 := owns_kept_none HO.out (only_of_below hq none)
              have nx1 := HN.out.trans (hq.mono hszA)
              have sz1 := nx1.size
              have kb1 := blk_below hq HK.out
              obtain ⟨y0, y1, _, _⟩ := two_cells kb1
              clear F0 F1 F2 x0 x1 e1 HO HN HK f0 f1
              generalize grow (redrawn (wr.alloc (.cells #[.int .u32 s.lo, .int .u32 s.hi] 66)) nq) osq = W1 at *
              clear hq
              go_wp2_with (at_builtin; refine wpList_push rfl _ _ 133 rfl 66 i0 _ 2 8 Tryz.underlying133 hi hz0 hz1 hz2 rfl (by decide) (by decide) [.int .u32 s.lo, .int .u32 s.hi] rfl rfl (by simp) own1 rfl (enc_one s) (by omega) (by omega) nx1 (Nat.le_refl _) ?_; intro v2 w2 hown2 hb2)
              refine ⟨⟨j + 1, by go_num, by omega, ?_, hb2⟩, by simp only [intOf]; omega⟩
              rw [hHS.out, mstep_new (by have := HM.out; omega), scells_snoc (A ++ [t]), List.length_append, hl1]
              exact hown2
        · obtain rfl : j = L'.length := by omega
          rw [List.take_length] at hown
          go_wp2
          go_ret
          refine ⟨_, rfl, ?_, HB1.out.trans (hnx.mono hsz1)⟩
          rw [HF.out.1]
          exact owns_base hown hsz1

end Go.Proofs.YthhcaoljejifeaaGreat

/-
  The headers whose field is in a set (written by wip/gen/genrb6.py).
-/
namespace Go.Proofs.YthhcaoljejifeaaGreat
open Go Go.RowKit Go.ChangeMaps Go.MapKept Go.Maps Go.Lib Go.Sort

/-- The field's bits are in a span. -/
def spanF (a n : Nat) (lo hi : Nat) : Fun := fun s => reachF a n lo true n s && reachF a n hi false n s
def numsF (a n M : Nat) (T : List SpanV) : Fun := fun s => T.any fun x => spanF a n x.lo.toNat (min x.hi.toNat M) s
theorem owns_le {w : World} {base n k : Nat} {e : TypeId} {v : Value} {xs : List Value} (h : w.ownsRow base e k v n xs) : n ≤ 1099511627776 * 1099511627776 ∧ (n : Int) ≤ 9223372036854775807 := by
  rcases h.2 with ⟨_, h2⟩ | ⟨g, cap, cur, _, _, _, h2, h3, _⟩
  · omega
  · unfold maxLen at h3; omega
theorem numsF_snoc (a n M : Nat) (T : List SpanV) (x : SpanV) : numsF a n M (T ++ [x]) = fun s => numsF a n M T s || spanF a n x.lo.toNat (min x.hi.toNat M) s := funext fun s => by
  simp [numsF]
theorem spanF_cut (a n lo hi u : Nat) : CutLe (spanF a n lo hi) u 9 := (reachF_cut a n lo u true n (Nat.le_refl _)).op2 (fun x y => x && y) (reachF_cut a n hi u false n (Nat.le_refl _))
theorem spanF_hang (a n lo hi : Nat) (h : a + n ≤ 104) : Hangs (spanF a n lo hi) 0 208 := (reachF_hang a n lo true h).op2 (fun x y => x && y) (reachF_hang a n hi false h)
theorem spanF_seg (a n lo hi : Nat) : Hangs (spanF a n lo hi) (2 * a) (2 * (a + n)) := ((reachF_hangs a n lo true n (Nat.le_refl _)).op2 (fun x y => x && y) (reachF_hangs a n hi false n (Nat.le_refl _))).mono (by omega) (Nat.le_refl _)
theorem spanF_wid (a n lo hi : Nat) (h : a + n ≤ 104) (hn : n ≤ 32) : Wid (spanF a n lo hi) 576 := (Wid.seg (spanF_seg a n lo hi) (by omega) (spanF_cut a n lo hi)).mono (by omega)
theorem SpRes.laid {w w1 w2 : World} {B S km : Nat} {A : Blks} {Mo : Nat} {σ : Sg} {F : Fun} {k m : Nat} {e : Ending} (h : SpRes w B S km A Mo σ F k m e w1) (hb : Below w1.heap.size w1 w2) : SpRes w B S km A Mo σ F k m e w2 := by
  obtain ⟨h1, h2⟩ := h
  rcases h2 with ⟨e1, e2, τ, e3, e4⟩ | ⟨r, τ, e1, e3, e4, e5⟩
  · exact ⟨h1.trans (e3.kept hb), .inl ⟨e1, e2, τ, e3.below hb, e4⟩⟩
  · exact ⟨h1.trans (e3.kept hb), .inr ⟨r, τ, e1, e3.below hb, e4, e5⟩⟩
section
variable {w : World} {B S km : Nat} {A : Blks} {Mo : Nat} {σ : Sg}
set_option maxRecDepth 100000
set_option maxHeartbeats 8000000
theorem numbers2_yes (h : SpOk w B S km A Mo σ) (L : List SpanV) (vl : Value) (hL : Rd w w.heap.size 2 vl L.length (scells L)) (hlen : L.length ≤ 1099511627776) (T U : List SpanV) (hR : formOf L = T ++ U) (hT : ∀ x ∈ T, x.lo ≤ 255) (hU : U = [] ∨ ∃ u U', U = u :: U' ∧ 255 < u.lo) (K : Nat)
    (hK : ∀ k, k ≤ T.length → Wid (numsF 64 8 255 (T.take k)) K) (hl : σ.N.length + T.length * (K + 608) ≤ 2147483647) :
    Calls Tryz.prog 59 #[.pointer (some ⟨S, 0, none⟩), .int .i64 2, vl] w (SpRes w B S km A Mo σ (numsF 64 8 255 T) (T.length * (K + 608)) (T.length * (K + 608))) := by
  have p0 : ∀ W : World, (W.alloc partsObj).cell? ⟨W.heap.size, 4, none⟩ = some (.int .i64 64) := fun W => (parts_at W 2 (by omega)).1
  have p1 : ∀ W : World, (W.alloc partsObj).cell? ⟨W.heap.size, 5, none⟩ = some (.int .i64 8) := fun W => (parts_at W 2 (by omega)).2
  have HS := Lib.hid h
  have HL := Lib.hid hL
  have HR := Lib.hid (And.intro hR (And.intro hT hU))
  have HK := Lib.hid hK
  have HLEN := Lib.hid hlen
  clear h hL hR hT hU hK hlen
  go_enter Tryz.func59, Tryz.ntmps59
  go_upto_region 6 with (go_at_call 72; (with_reducible refine (parts_any _).mono ?_); rintro e _ ⟨rfl, rfl⟩)
  have HB2 := Lib.hid (below2 w partsObj (.cells #[.int .i64 64, .int .i64 8] 147))
  have hk2 := blk1 (w.alloc partsObj) (.cells #[.int .i64 64, .int .i64 8] 147)
  have hs2 : (w.alloc partsObj).heap.size = w.heap.size + 1 := by simp
  rw [hs2] at hk2
  have HF2 := Lib.hid (HS.out.sp.ar.foreign_new HB2.out (k := w.heap.size + 1) (by omega) (lt_of_block hk2))
  have HNE : Hid (w.heap.size + 1 ≠ km) := Lib.hid (by have := HS.out.sp.fk.1; omega)
  have HS2 := Lib.hid (HS.out.below HB2.out)
  have HK2 := Lib.hid (HS.out.kept HB2.out)
  have HL2 := Lib.hid ((HL.out.below HB2.out).mono HB2.out.size)
  have b0 : ((w.alloc partsObj).alloc (.cells #[.int .i64 64, .int .i64 8] 147)).cell? ⟨w.heap.size + 1, 0, none⟩ = some (.int .i64 64) := cell_of_row _ _ 0 _ _ (0, 0) hk2
  have b1 : ((w.alloc partsObj).alloc (.cells #[.int .i64 64, .int .i64 8] 147)).cell? ⟨w.heap.size + 1, 1, none⟩ = some (.int .i64 8) := cell_of_row _ _ 1 _ _ (0, 0) hk2
  have HBK := Lib.hid hk2
  clear HB2 hk2 hs2 p0 p1 HS
  generalize (w.alloc partsObj).alloc (.cells #[.int .i64 64, .int .i64 8] 147) = w2 at *
  have HFM := Lib.hid (form_any L vl w2 HL2.out HLEN.out)
  rw [HR.out.1] at HFM
  have HLT : Hid (∀ k, k < T.length → ∃ x, (T ++ U)[k]? = some x ∧ T[k]? = some x ∧ x.lo ≤ 255) := Lib.hid fun k hk => by
    refine ⟨T[k], ?_, ?_, HR.out.2.1 _ (List.getElem_mem hk)⟩
    · rw [List.getElem?_append_left hk, List.getElem?_eq_getElem hk]
    · rw [List.getElem?_eq_getElem hk]
  have HEND : Hid ((T ++ U).length = T.length ∨ ∃ x, (T ++ U)[T.length]? = some x ∧ 255 < x.lo ∧ T.length < (T ++ U).length) := Lib.hid (by
    rcases HR.out.2.2 with rfl | ⟨u, U', rfl, hu⟩
    · exact .inl (by simp)
    · exact .inr ⟨u, by simp, hu, by simp⟩)
  have HTL : Hid (T.length ≤ (T ++ U).length) := Lib.hid (by simp)
  clear HR HL HL2 HLEN
  generalize T ++ U = R at *
  go_upto_region 9 with ((with_reducible refine HFM.out.mono ?_); rintro e w3 ⟨v3, rfl, ho3, hb3⟩; have HO3 := Lib.hid ho3; have HB3 := Lib.hid hb3; obtain ⟨A3, c3, hv3, hA3⟩ := owns_form ho3; subst hv3; have HA3 := Lib.hid hA3; clear hA3 ho3 hb3)
  have HS3 := Lib.hid (HS2.out.below HB3.out)
  have HK3 := Lib.hid (HK2.out.trans (HS2.out.kept HB3.out))
  have hk3 := blk_below HB3.out HBK.out
  have HF3 := Lib.hid (((HS2.out.kept HB3.out).same _ HF2.out HNE.out).2)
  have HBX : Hid (∀ W, KeptS A km w3 W → W.cell? ⟨w.heap.size + 1, 0, none⟩ = some (.int .i64 64) ∧ W.cell? ⟨w.heap.size + 1, 1, none⟩ = some (.int .i64 8)) := Lib.hid fun W hW => by
    have hk := (hW.same _ HF3.out HNE.out).1.trans hk3
    exact ⟨cell_of_row W _ 0 _ _ (0, 0) hk, cell_of_row W _ 1 _ _ (0, 0) hk⟩
  have HROW : Hid (∀ (k : Nat) (x : SpanV), R[k]? = some x → ∃ g, A3 = some ⟨g, 0, none⟩ ∧ ∀ W, KeptS A km w3 W → W.cell? ⟨g, k * 2, none⟩ = some (.int .u32 x.lo) ∧ W.cell? ⟨g, k * 2 + 1, none⟩ = some (.int .u32 x.hi)) := Lib.hid fun k x hx => by
    have hk := (List.getElem?_eq_some_iff.1 hx).1
    obtain ⟨g, rfl⟩ := HA3.out (by omega)
    have hlg := HO3.out.lt g rfl
    have hgf := HS2.out.sp.ar.foreign_new HB3.out hlg.1 hlg.2
    have hgk : g ≠ km := by have := HS2.out.sp.fk.1; omega
    refine ⟨g, rfl, fun W hW => ⟨(World.cell?_of_block (hW.same _ hgf hgk).1).trans ?_, (World.cell?_of_block (hW.same _ hgf hgk).1).trans ?_⟩⟩
    · exact (HO3.out.cellAt (k * 2) (by omega)).trans (scell (i := 0) hx rfl)
    · exact (HO3.out.cellAt (k * 2 + 1) (by omega)).trans (scell (i := 1) hx rfl)
  have hrl := (owns_le HO3.out).2
  clear HB3 hk3 HF3 HBK HO3 HA3 HF2 HS2 HK2 HFM b0 b1 HNE
  go_wp2
  go_loopw [10, 35] (fun r i wr => ∃ k : Nat, i = .int .i64 k ∧ k ≤ T.length ∧ ∃ (q : Nat) (τ : Sg), r = .int .i64 q ∧ Hid (SpOk wr B S km A Mo τ) ∧ Hid (To (k * (K + 608)) (k * (K + 608)) σ τ) ∧ Hid (Den τ q (numsF 64 8 255 (T.take k))) ∧ Hid (KeptS A km w3 wr)) (fun _ i _ => R.length - (intOf i).toNat)
  case atStart => exact ⟨0, rfl, by omega, 0, σ, rfl, HS3, Lib.hid (by rw [Nat.zero_mul]; exact To.refl σ), Lib.hid (Den.zero HS3.out.ok), Lib.hid (KeptS.refl _ _ _)⟩
  case round =>
    obtain ⟨k, rfl, hk, q, τ, rfl, HSR, HTR, HDR, HKR⟩ := hrel
    have htl := HTL.out
    by_cases hlt : k < T.length
    · have hI : (k : Int) < (R.length : Int) := by omega
      obtain ⟨x, hx, hxT, hxM⟩ := HLT.out k hlt
      obtain ⟨g, rfl, hrow⟩ := HROW.out k x hx
      obtain ⟨r0, r1⟩ := hrow wr HKR.out
      obtain ⟨lo, hlo⟩ : ∃ lo : Nat, x.lo = lo := ⟨x.lo.toNat, by have := x.hlo; omega⟩
      obtain ⟨hi, hhi⟩ : ∃ hi : Nat, x.hi = hi := ⟨x.hi.toNat, by have := x.hhi; omega⟩
      have hlb := x.hlo
      have hhb := x.hhi
      have HTK : Hid (numsF 64 8 255 (T.take (k + 1)) = fun s => numsF 64 8 255 (T.take k) s || spanF 64 8 lo (min hi 255) s) := Lib.hid (by
        rw [List.take_add_one, hxT]
        show numsF 64 8 255 (T.take k ++ [x]) = _
        rw [numsF_snoc, hlo, hhi]
        rfl)
      rw [hlo] at r0 hxM hlb
      rw [hhi] at r1 hhb
      have hl1 : (lo : Int) ≤ 4294967295 := by omega
      have hl2 : (hi : Int) ≤ 4294967295 := by omega
      have hcmp : ¬ (lo : Int) > 255 := by omega
      have hm1 : (k + 1) * (K + 608) ≤ T.length * (K + 608) := Nat.mul_le_mul_right _ hlt
      have hm2 : (k + 1) * (K + 608) = k * (K + 608) + (K + 608) := by rw [Nat.add_mul, Nat.one_mul]
      have HM := Lib.hid (And.intro hm1 hm2)
      clear hx hxT hlo hhi hrow hm1 hm2 hxM hlb hhb
      go_upto_region 11 with fail
      have hbs := below1 wr (.cells #[.int .u32 lo, .int .u32 hi] 66)
      have hks := blk1 wr (.cells #[.int .u32 lo, .int .u32 hi] 66)
      have HF4 := Lib.hid (HSR.out.sp.ar.foreign_new hbs (Nat.le_refl _) (lt_of_block hks))
      have HN4 : Hid (wr.heap.size ≠ km) := Lib.hid (by have := HSR.out.sp.fk.1; omega)
      have HS4 := Lib.hid (HSR.out.below hbs)
      have HK4 := Lib.hid (HKR.out.trans (HSR.out.kept hbs))
      have HBS : Hid (∀ W, KeptS A km (wr.alloc (.cells #[.int .u32 lo, .int .u32 hi] 66)) W → W.cell? ⟨wr.heap.size, 0, none⟩ = some (.int .u32 lo) ∧ W.cell? ⟨wr.heap.size, 1, none⟩ = some (.int .u32 hi)) := Lib.hid fun W hW => by
        have hk := (hW.same _ HF4.out HN4.out).1.trans hks
        exact ⟨cell_of_row W _ 0 _ _ (0, 0) hk, cell_of_row W _ 1 _ _ (0, 0) hk⟩
      clear hbs hks HF4 HN4 r0 r1
      generalize wr.alloc (.cells #[.int .u32 lo, .int .u32 hi] 66) = w4 at *
      obtain ⟨s0, s1⟩ := HBS.out w4 (KeptS.refl _ _ _)
      obtain ⟨b0, b1⟩ := HBX.out w4 HK4.out
      have hnl := HTR.out.nl
      have hm := HM.out
      have HRA := Lib.hid (show Calls Tryz.prog 75 #[.pointer (some ⟨S, 0, none⟩), .agg #[.int .i64 64, .int .i64 8], .int .u64 lo, .bool true] w4 (SpRes w4 B S km A Mo τ (reachF 64 8 lo true 8) (2 * 8) (2 * 8)) from reach_any HS4.out 64 8 lo true (by omega) (by omega) (by omega) (by omega))
      clear hnl hm
      go_upto_region 13 with ((with_reducible refine HRA.out.mono ?_); rintro e w5 hr5; obtain ⟨q5, c5, he5⟩ := hr5.form; have HR5 := Lib.hid hr5; subst he5; clear hr5)
      rcases HR5.out.two with ⟨rfl, rfl, hlt5, τ5, hs5, ht5⟩ | ⟨r5, τ5, rfl, rfl, hs5, ht5, hd5⟩
      · have HFIN := Lib.hid (SpRes.full (F := numsF 64 8 255 T) (HK3.out.trans (HK4.out.trans HR5.out.1)) rfl (by have := HTR.out.hl; have := HM.out; omega) hs5 ((HTR.out.trans ht5).mono (show k * (K + 608) + 2 * 8 ≤ T.length * (K + 608) by have := HM.out; omega) (show k * (K + 608) + 2 * 8 ≤ T.length * (K + 608) by have := HM.out; omega)))
        clear hlt5 hs5 ht5
        go_wp2
        go_ret2
        exact HFIN.out
      · have HS5 := Lib.hid hs5
        have HT5 := Lib.hid (HTR.out.trans ht5)
        have HD5 := Lib.hid hd5
        have HDQ5 := Lib.hid (HDR.out.to ht5 HSR.out.ok hs5.ok)
        have HKS5 := Lib.hid HR5.out.1
        have HK5 := Lib.hid (HK4.out.trans HR5.out.1)
        clear hs5 ht5 hd5 HR5 HRA s0 s1 b0 b1
        obtain ⟨s0, s1⟩ := HBS.out w5 HKS5.out
        obtain ⟨b0, b1⟩ := HBX.out w5 HK5.out
        have hnl := HT5.out.nl
        have hm := HM.out
        have HRB := Lib.hid (show Calls Tryz.prog 75 #[.pointer (some ⟨S, 0, none⟩), .agg #[.int .i64 64, .int .i64 8], .int .u64 (min (hi : Int) 255), .bool false] w5 (SpRes w5 B S km A Mo τ5 (reachF 64 8 (min hi 255) false 8) (2 * 8) (2 * 8)) from by
          rw [show min (hi : Int) 255 = ((min hi 255 : Nat) : Int) by omega]
          exact reach_any HS5.out 64 8 (min hi 255) false (by omega) (by omega) (by omega) (by omega))
        clear hnl hm
        go_upto_region 16 with ((with_reducible refine HRB.out.mono ?_); rintro e w6 hr6; obtain ⟨q6, c6, he6⟩ := hr6.form; have HR6 := Lib.hid hr6; subst he6; clear hr6)
        rcases HR6.out.two with ⟨rfl, rfl, hlt6, τ6, hs6, ht6⟩ | ⟨r6, τ6, rfl, rfl, hs6, ht6, hd6⟩
        · have HFIN := Lib.hid (SpRes.full (F := numsF 64 8 255 T) (HK3.out.trans (HK5.out.trans HR6.out.1)) rfl (by have := HT5.out.hl; have := HM.out; omega) hs6 ((HT5.out.trans ht6).mono (show k * (K + 608) + 2 * 8 + 2 * 8 ≤ T.length * (K + 608) by have := HM.out; omega) (show k * (K + 608) + 2 * 8 + 2 * 8 ≤ T.length * (K + 608) by have := HM.out; omega)))
          clear hlt6 hs6 ht6
          go_wp2
          go_ret2
          exact HFIN.out
        · have HS6 := Lib.hid hs6
          have HT6 := Lib.hid (HT5.out.trans ht6)
          have HDQ6 := Lib.hid (HDQ5.out.to ht6 HS5.out.ok hs6.ok)
          have HK6 := Lib.hid (HK5.out.trans HR6.out.1)
          have c6 := hs6.sp.c0
          have hnl := HT6.out.nl
          have hm := HM.out
          have HAN := Lib.hid (show Calls Tryz.prog 62 #[.pointer (some ⟨A.a, 0, none⟩), .int .i64 r5, .int .i64 r6] w6 (SpRes w6 B S km A Mo τ6 (spanF 64 8 lo (min hi 255)) 576 576) from hs6.and (HD5.out.to ht6 HS5.out.ok hs6.ok) hd6 (a := 576) (b := 576) (Grow.wid hs6.ok.wf.two (spanF_wid 64 8 lo (min hi 255) (by omega) (by omega))) (by omega))
          clear hs6 ht6 hd6 HR6 HRB s0 s1 b0 b1 hnl hm HS5 HT5 HD5 HDQ5 HKS5 HK5
          go_upto_region 19 with ((with_reducible refine HAN.out.mono ?_); rintro e w7 hr7; obtain ⟨q7, c7, he7⟩ := hr7.form; have HR7 := Lib.hid hr7; subst he7; clear hr7)
          rcases HR7.out.two with ⟨rfl, rfl, hlt7, τ7, hs7, ht7⟩ | ⟨r7, τ7, rfl, rfl, hs7, ht7, hd7⟩
          · have HFIN := Lib.hid (SpRes.full (F := numsF 64 8 255 T) (HK3.out.trans (HK6.out.trans HR7.out.1)) rfl (by have := HT6.out.hl; have := HM.out; omega) hs7 ((HT6.out.trans ht7).mono (show k * (K + 608) + 2 * 8 + 2 * 8 + 576 ≤ T.length * (K + 608) by have := HM.out; omega) (show k * (K + 608) + 2 * 8 + 2 * 8 + 576 ≤ T.length * (K + 608) by have := HM.out; omega)))
            clear hlt7 hs7 ht7
            go_wp2
            go_ret2
            exact HFIN.out
          · have HS7 := Lib.hid hs7
            have HT7 := Lib.hid (HT6.out.trans ht7)
            have HDQ7 := Lib.hid (HDQ6.out.to ht7 HS6.out.ok hs7.ok)
            have HK7 := Lib.hid (HK6.out.trans HR7.out.1)
            have c7 := hs7.sp.c0
            have hnl := HT7.out.nl
            have hm := HM.out
            have hwk := HK.out (k + 1) (by omega)
            rw [HTK.out] at hwk
            have HOR := Lib.hid (show Calls Tryz.prog 37 #[.pointer (some ⟨A.a, 0, none⟩), .int .i64 q, .int .i64 r7] w7 (SpRes w7 B S km A Mo τ7 (fun s => numsF 64 8 255 (T.take k) s || spanF 64 8 lo (min hi 255) s) K K) from hs7.or HDQ7.out hd7 (a := K) (b := K) (Grow.wid hs7.ok.wf.two hwk) (by omega))
            clear hs7 ht7 hd7 HR7 HAN hnl hm hwk HS6 HT6 HDQ6 HK6
            go_upto_region 22 with ((with_reducible refine HOR.out.mono ?_); rintro e w8 hr8; obtain ⟨q8, c8, he8⟩ := hr8.form; have HR8 := Lib.hid hr8; subst he8; clear hr8)
            rcases HR8.out.two with ⟨rfl, rfl, hlt8, τ8, hs8, ht8⟩ | ⟨r8, τ8, rfl, rfl, hs8, ht8, hd8⟩
            · have HFIN := Lib.hid (SpRes.full (F := numsF 64 8 255 T) (HK3.out.trans (HK7.out.trans HR8.out.1)) rfl (by have := HT7.out.hl; have := HM.out; omega) hs8 ((HT7.out.trans ht8).mono (show k * (K + 608) + 2 * 8 + 2 * 8 + 576 + K ≤ T.length * (K + 608) by have := HM.out; omega) (show k * (K + 608) + 2 * 8 + 2 * 8 + 576 + K ≤ T.length * (K + 608) by have := HM.out; omega)))
              clear hlt8 hs8 ht8
              go_wp2
              go_ret2
              exact HFIN.out
            · have HS8 := Lib.hid hs8
              have HT8 := Lib.hid ((HT7.out.trans ht8).mono (show k * (K + 608) + 2 * 8 + 2 * 8 + 576 + K ≤ (k + 1) * (K + 608) by have := HM.out; omega) (show k * (K + 608) + 2 * 8 + 2 * 8 + 576 + K ≤ (k + 1) * (K + 608) by have := HM.out; omega))
              have HD8 : Hid (Den τ8 r8 (numsF 64 8 255 (T.take (k + 1)))) := Lib.hid (by rw [HTK.out]; exact hd8)
              have HK8 := Lib.hid (HK7.out.trans HR8.out.1)
              clear hs8 ht8 hd8 HR8 HOR HS7 HT7 HDQ7 HK7
              go_wp2
              exact ⟨⟨k + 1, by go_num, by omega, r8, τ8, rfl, HS8, HT8, HD8, HK8⟩, by simp only [intOf]; omega⟩
    · obtain rfl : k = T.length := by omega
      have hfd := HDR.out
      rw [List.take_length] at hfd
      have HFIN : Hid (SpRes w B S km A Mo σ (numsF 64 8 255 T) (T.length * (K + 608)) (T.length * (K + 608)) (.returned (.tuple #[.int .i64 q, .int .i64 0])) wr) := Lib.hid ⟨HK3.out.trans HKR.out, .inr ⟨q, τ, rfl, HSR.out, HTR.out, hfd⟩⟩
      clear hfd
      rcases HEND.out with hend | ⟨x, hx, hxl, hlen⟩
      · have hI : ¬ (T.length : Int) < (R.length : Int) := by omega
        clear hend
        go_wp2
        go_ret2
        exact HFIN.out
      · have hI : (T.length : Int) < (R.length : Int) := by omega
        obtain ⟨g, rfl, hrow⟩ := HROW.out T.length x hx
        obtain ⟨r0, r1⟩ := hrow wr HKR.out
        obtain ⟨lo, hlo⟩ : ∃ lo : Nat, x.lo = lo := ⟨x.lo.toNat, by have := x.hlo; omega⟩
        obtain ⟨hi, hhi⟩ : ∃ hi : Nat, x.hi = hi := ⟨x.hi.toNat, by have := x.hhi; omega⟩
        have hlb := x.hlo
        have hhb := x.hhi
        rw [hlo] at r0 hxl hlb
        rw [hhi] at r1 hhb
        have hl1 : (lo : Int) ≤ 4294967295 := by omega
        have hl2 : (hi : Int) ≤ 4294967295 := by omega
        have hcmp : (lo : Int) > 255 := by omega
        have hbs := below1 wr (.cells #[.int .u32 lo, .int .u32 hi] 66)
        have HS4 := Lib.hid (SpRes.laid HFIN.out hbs)
        have s0 : (wr.alloc (.cells #[.int .u32 lo, .int .u32 hi] 66)).cell? ⟨wr.heap.size, 0, none⟩ = some (.int .u32 lo) := cell_of_row _ _ 0 _ _ (0, 0) (blk1 wr _)
        obtain ⟨b0, b1⟩ := HBX.out _ (HKR.out.trans (HSR.out.kept hbs))
        clear hx hrow hxl hlen hlo hhi hlb hhb hbs
        go_wp2
        go_ret2
        exact HS4.out
theorem numbers3_yes (h : SpOk w B S km A Mo σ) (L : List SpanV) (vl : Value) (hL : Rd w w.heap.size 2 vl L.length (scells L)) (hlen : L.length ≤ 1099511627776) (T U : List SpanV) (hR : formOf L = T ++ U) (hT : ∀ x ∈ T, x.lo ≤ 65535) (hU : U = [] ∨ ∃ u U', U = u :: U' ∧ 65535 < u.lo) (K : Nat)
    (hK : ∀ k, k ≤ T.length → Wid (numsF 72 16 65535 (T.take k)) K) (hl : σ.N.length + T.length * (K + 640) ≤ 2147483647) :
    Calls Tryz.prog 59 #[.pointer (some ⟨S, 0, none⟩), .int .i64 3, vl] w (SpRes w B S km A Mo σ (numsF 72 16 65535 T) (T.length * (K + 640)) (T.length * (K + 640))) := by
  have p0 : ∀ W : World, (W.alloc partsObj).cell? ⟨W.heap.size, 6, none⟩ = some (.int .i64 72) := fun W => (parts_at W 3 (by omega)).1
  have p1 : ∀ W : World, (W.alloc partsObj).cell? ⟨W.heap.size, 7, none⟩ = some (.int .i64 16) := fun W => (parts_at W 3 (by omega)).2
  have HS := Lib.hid h
  have HL := Lib.hid hL
  have HR := Lib.hid (And.intro hR (And.intro hT hU))
  have HK := Lib.hid hK
  have HLEN := Lib.hid hlen
  clear h hL hR hT hU hK hlen
  go_enter Tryz.func59, Tryz.ntmps59
  go_upto_region 6 with (go_at_call 72; (with_reducible refine (parts_any _).mono ?_); rintro e _ ⟨rfl, rfl⟩)
  have HB2 := Lib.hid (below2 w partsObj (.cells #[.int .i64 72, .int .i64 16] 147))
  have hk2 := blk1 (w.alloc partsObj) (.cells #[.int .i64 72, .int .i64 16] 147)
  have hs2 : (w.alloc partsObj).heap.size = w.heap.size + 1 := by simp
  rw [hs2] at hk2
  have HF2 := Lib.hid (HS.out.sp.ar.foreign_new HB2.out (k := w.heap.size + 1) (by omega) (lt_of_block hk2))
  have HNE : Hid (w.heap.size + 1 ≠ km) := Lib.hid (by have := HS.out.sp.fk.1; omega)
  have HS2 := Lib.hid (HS.out.below HB2.out)
  have HK2 := Lib.hid (HS.out.kept HB2.out)
  have HL2 := Lib.hid ((HL.out.below HB2.out).mono HB2.out.size)
  have b0 : ((w.alloc partsObj).alloc (.cells #[.int .i64 72, .int .i64 16] 147)).cell? ⟨w.heap.size + 1, 0, none⟩ = some (.int .i64 72) := cell_of_row _ _ 0 _ _ (0, 0) hk2
  have b1 : ((w.alloc partsObj).alloc (.cells #[.int .i64 72, .int .i64 16] 147)).cell? ⟨w.heap.size + 1, 1, none⟩ = some (.int .i64 16) := cell_of_row _ _ 1 _ _ (0, 0) hk2
  have HBK := Lib.hid hk2
  clear HB2 hk2 hs2 p0 p1 HS
  generalize (w.alloc partsObj).alloc (.cells #[.int .i64 72, .int .i64 16] 147) = w2 at *
  have HFM := Lib.hid (form_any L vl w2 HL2.out HLEN.out)
  rw [HR.out.1] at HFM
  have HLT : Hid (∀ k, k < T.length → ∃ x, (T ++ U)[k]? = some x ∧ T[k]? = some x ∧ x.lo ≤ 65535) := Lib.hid fun k hk => by
    refine ⟨T[k], ?_, ?_, HR.out.2.1 _ (List.getElem_mem hk)⟩
    · rw [List.getElem?_append_left hk, List.getElem?_eq_getElem hk]
    · rw [List.getElem?_eq_getElem hk]
  have HEND : Hid ((T ++ U).length = T.length ∨ ∃ x, (T ++ U)[T.length]? = some x ∧ 65535 < x.lo ∧ T.length < (T ++ U).length) := Lib.hid (by
    rcases HR.out.2.2 with rfl | ⟨u, U', rfl, hu⟩
    · exact .inl (by simp)
    · exact .inr ⟨u, by simp, hu, by simp⟩)
  have HTL : Hid (T.length ≤ (T ++ U).length) := Lib.hid (by simp)
  clear HR HL HL2 HLEN
  generalize T ++ U = R at *
  go_upto_region 9 with ((with_reducible refine HFM.out.mono ?_); rintro e w3 ⟨v3, rfl, ho3, hb3⟩; have HO3 := Lib.hid ho3; have HB3 := Lib.hid hb3; obtain ⟨A3, c3, hv3, hA3⟩ := owns_form ho3; subst hv3; have HA3 := Lib.hid hA3; clear hA3 ho3 hb3)
  have HS3 := Lib.hid (HS2.out.below HB3.out)
  have HK3 := Lib.hid (HK2.out.trans (HS2.out.kept HB3.out))
  have hk3 := blk_below HB3.out HBK.out
  have HF3 := Lib.hid (((HS2.out.kept HB3.out).same _ HF2.out HNE.out).2)
  have HBX : Hid (∀ W, KeptS A km w3 W → W.cell? ⟨w.heap.size + 1, 0, none⟩ = some (.int .i64 72) ∧ W.cell? ⟨w.heap.size + 1, 1, none⟩ = some (.int .i64 16)) := Lib.hid fun W hW => by
    have hk := (hW.same _ HF3.out HNE.out).1.trans hk3
    exact ⟨cell_of_row W _ 0 _ _ (0, 0) hk, cell_of_row W _ 1 _ _ (0, 0) hk⟩
  have HROW : Hid (∀ (k : Nat) (x : SpanV), R[k]? = some x → ∃ g, A3 = some ⟨g, 0, none⟩ ∧ ∀ W, KeptS A km w3 W → W.cell? ⟨g, k * 2, none⟩ = some (.int .u32 x.lo) ∧ W.cell? ⟨g, k * 2 + 1, none⟩ = some (.int .u32 x.hi)) := Lib.hid fun k x hx => by
    have hk := (List.getElem?_eq_some_iff.1 hx).1
    obtain ⟨g, rfl⟩ := HA3.out (by omega)
    have hlg := HO3.out.lt g rfl
    have hgf := HS2.out.sp.ar.foreign_new HB3.out hlg.1 hlg.2
    have hgk : g ≠ km := by have := HS2.out.sp.fk.1; omega
    refine ⟨g, rfl, fun W hW => ⟨(World.cell?_of_block (hW.same _ hgf hgk).1).trans ?_, (World.cell?_of_block (hW.same _ hgf hgk).1).trans ?_⟩⟩
    · exact (HO3.out.cellAt (k * 2) (by omega)).trans (scell (i := 0) hx rfl)
    · exact (HO3.out.cellAt (k * 2 + 1) (by omega)).trans (scell (i := 1) hx rfl)
  have hrl := (owns_le HO3.out).2
  clear HB3 hk3 HF3 HBK HO3 HA3 HF2 HS2 HK2 HFM b0 b1 HNE
  go_wp2
  go_loopw [10, 35] (fun r i wr => ∃ k : Nat, i = .int .i64 k ∧ k ≤ T.length ∧ ∃ (q : Nat) (τ : Sg), r = .int .i64 q ∧ Hid (SpOk wr B S km A Mo τ) ∧ Hid (To (k * (K + 640)) (k * (K + 640)) σ τ) ∧ Hid (Den τ q (numsF 72 16 65535 (T.take k))) ∧ Hid (KeptS A km w3 wr)) (fun _ i _ => R.length - (intOf i).toNat)
  case atStart => exact ⟨0, rfl, by omega, 0, σ, rfl, HS3, Lib.hid (by rw [Nat.zero_mul]; exact To.refl σ), Lib.hid (Den.zero HS3.out.ok), Lib.hid (KeptS.refl _ _ _)⟩
  case round =>
    obtain ⟨k, rfl, hk, q, τ, rfl, HSR, HTR, HDR, HKR⟩ := hrel
    have htl := HTL.out
    by_cases hlt : k < T.length
    · have hI : (k : Int) < (R.length : Int) := by omega
      obtain ⟨x, hx, hxT, hxM⟩ := HLT.out k hlt
      obtain ⟨g, rfl, hrow⟩ := HROW.out k x hx
      obtain ⟨r0, r1⟩ := hrow wr HKR.out
      obtain ⟨lo, hlo⟩ : ∃ lo : Nat, x.lo = lo := ⟨x.lo.toNat, by have := x.hlo; omega⟩
      obtain ⟨hi, hhi⟩ : ∃ hi : Nat, x.hi = hi := ⟨x.hi.toNat, by have := x.hhi; omega⟩
      have hlb := x.hlo
      have hhb := x.hhi
      have HTK : Hid (numsF 72 16 65535 (T.take (k + 1)) = fun s => numsF 72 16 65535 (T.take k) s || spanF 72 16 lo (min hi 65535) s) := Lib.hid (by
        rw [List.take_add_one, hxT]
        show numsF 72 16 65535 (T.take k ++ [x]) = _
        rw [numsF_snoc, hlo, hhi]
        rfl)
      rw [hlo] at r0 hxM hlb
      rw [hhi] at r1 hhb
      have hl1 : (lo : Int) ≤ 4294967295 := by omega
      have hl2 : (hi : Int) ≤ 4294967295 := by omega
      have hcmp : ¬ (lo : Int) > 65535 := by omega
      have hm1 : (k + 1) * (K + 640) ≤ T.length * (K + 640) := Nat.mul_le_mul_right _ hlt
      have hm2 : (k + 1) * (K + 640) = k * (K + 640) + (K + 640) := by rw [Nat.add_mul, Nat.one_mul]
      have HM := Lib.hid (And.intro hm1 hm2)
      clear hx hxT hlo hhi hrow hm1 hm2 hxM hlb hhb
      go_upto_region 11 with fail
      have hbs := below1 wr (.cells #[.int .u32 lo, .int .u32 hi] 66)
      have hks := blk1 wr (.cells #[.int .u32 lo, .int .u32 hi] 66)
      have HF4 := Lib.hid (HSR.out.sp.ar.foreign_new hbs (Nat.le_refl _) (lt_of_block hks))
      have HN4 : Hid (wr.heap.size ≠ km) := Lib.hid (by have := HSR.out.sp.fk.1; omega)
      have HS4 := Lib.hid (HSR.out.below hbs)
      have HK4 := Lib.hid (HKR.out.trans (HSR.out.kept hbs))
      have HBS : Hid (∀ W, KeptS A km (wr.alloc (.cells #[.int .u32 lo, .int .u32 hi] 66)) W → W.cell? ⟨wr.heap.size, 0, none⟩ = some (.int .u32 lo) ∧ W.cell? ⟨wr.heap.size, 1, none⟩ = some (.int .u32 hi)) := Lib.hid fun W hW => by
        have hk := (hW.same _ HF4.out HN4.out).1.trans hks
        exact ⟨cell_of_row W _ 0 _ _ (0, 0) hk, cell_of_row W _ 1 _ _ (0, 0) hk⟩
      clear hbs hks HF4 HN4 r0 r1
      generalize wr.alloc (.cells #[.int .u32 lo, .int .u32 hi] 66) = w4 at *
      obtain ⟨s0, s1⟩ := HBS.out w4 (KeptS.refl _ _ _)
      obtain ⟨b0, b1⟩ := HBX.out w4 HK4.out
      have hnl := HTR.out.nl
      have hm := HM.out
      have HRA := Lib.hid (show Calls Tryz.prog 75 #[.pointer (some ⟨S, 0, none⟩), .agg #[.int .i64 72, .int .i64 16], .int .u64 lo, .bool true] w4 (SpRes w4 B S km A Mo τ (reachF 72 16 lo true 16) (2 * 16) (2 * 16)) from reach_any HS4.out 72 16 lo true (by omega) (by omega) (by omega) (by omega))
      clear hnl hm
      go_upto_region 13 with ((with_reducible refine HRA.out.mono ?_); rintro e w5 hr5; obtain ⟨q5, c5, he5⟩ := hr5.form; have HR5 := Lib.hid hr5; subst he5; clear hr5)
      rcases HR5.out.two with ⟨rfl, rfl, hlt5, τ5, hs5, ht5⟩ | ⟨r5, τ5, rfl, rfl, hs5, ht5, hd5⟩
      · have HFIN := Lib.hid (SpRes.full (F := numsF 72 16 65535 T) (HK3.out.trans (HK4.out.trans HR5.out.1)) rfl (by have := HTR.out.hl; have := HM.out; omega) hs5 ((HTR.out.trans ht5).mono (show k * (K + 640) + 2 * 16 ≤ T.length * (K + 640) by have := HM.out; omega) (show k * (K + 640) + 2 * 16 ≤ T.length * (K + 640) by have := HM.out; omega)))
        clear hlt5 hs5 ht5
        go_wp2
        go_ret2
        exact HFIN.out
      · have HS5 := Lib.hid hs5
        have HT5 := Lib.hid (HTR.out.trans ht5)
        have HD5 := Lib.hid hd5
        have HDQ5 := Lib.hid (HDR.out.to ht5 HSR.out.ok hs5.ok)
        have HKS5 := Lib.hid HR5.out.1
        have HK5 := Lib.hid (HK4.out.trans HR5.out.1)
        clear hs5 ht5 hd5 HR5 HRA s0 s1 b0 b1
        obtain ⟨s0, s1⟩ := HBS.out w5 HKS5.out
        obtain ⟨b0, b1⟩ := HBX.out w5 HK5.out
        have hnl := HT5.out.nl
        have hm := HM.out
        have HRB := Lib.hid (show Calls Tryz.prog 75 #[.pointer (some ⟨S, 0, none⟩), .agg #[.int .i64 72, .int .i64 16], .int .u64 (min (hi : Int) 65535), .bool false] w5 (SpRes w5 B S km A Mo τ5 (reachF 72 16 (min hi 65535) false 16) (2 * 16) (2 * 16)) from by
          rw [show min (hi : Int) 65535 = ((min hi 65535 : Nat) : Int) by omega]
          exact reach_any HS5.out 72 16 (min hi 65535) false (by omega) (by omega) (by omega) (by omega))
        clear hnl hm
        go_upto_region 16 with ((with_reducible refine HRB.out.mono ?_); rintro e w6 hr6; obtain ⟨q6, c6, he6⟩ := hr6.form; have HR6 := Lib.hid hr6; subst he6; clear hr6)
        rcases HR6.out.two with ⟨rfl, rfl, hlt6, τ6, hs6, ht6⟩ | ⟨r6, τ6, rfl, rfl, hs6, ht6, hd6⟩
        · have HFIN := Lib.hid (SpRes.full (F := numsF 72 16 65535 T) (HK3.out.trans (HK5.out.trans HR6.out.1)) rfl (by have := HT5.out.hl; have := HM.out; omega) hs6 ((HT5.out.trans ht6).mono (show k * (K + 640) + 2 * 16 + 2 * 16 ≤ T.length * (K + 640) by have := HM.out; omega) (show k * (K + 640) + 2 * 16 + 2 * 16 ≤ T.length * (K + 640) by have := HM.out; omega)))
          clear hlt6 hs6 ht6
          go_wp2
          go_ret2
          exact HFIN.out
        · have HS6 := Lib.hid hs6
          have HT6 := Lib.hid (HT5.out.trans ht6)
          have HDQ6 := Lib.hid (HDQ5.out.to ht6 HS5.out.ok hs6.ok)
          have HK6 := Lib.hid (HK5.out.trans HR6.out.1)
          have c6 := hs6.sp.c0
          have hnl := HT6.out.nl
          have hm := HM.out
          have HAN := Lib.hid (show Calls Tryz.prog 62 #[.pointer (some ⟨A.a, 0, none⟩), .int .i64 r5, .int .i64 r6] w6 (SpRes w6 B S km A Mo τ6 (spanF 72 16 lo (min hi 65535)) 576 576) from hs6.and (HD5.out.to ht6 HS5.out.ok hs6.ok) hd6 (a := 576) (b := 576) (Grow.wid hs6.ok.wf.two (spanF_wid 72 16 lo (min hi 65535) (by omega) (by omega))) (by omega))
          clear hs6 ht6 hd6 HR6 HRB s0 s1 b0 b1 hnl hm HS5 HT5 HD5 HDQ5 HKS5 HK5
          go_upto_region 19 with ((with_reducible refine HAN.out.mono ?_); rintro e w7 hr7; obtain ⟨q7, c7, he7⟩ := hr7.form; have HR7 := Lib.hid hr7; subst he7; clear hr7)
          rcases HR7.out.two with ⟨rfl, rfl, hlt7, τ7, hs7, ht7⟩ | ⟨r7, τ7, rfl, rfl, hs7, ht7, hd7⟩
          · have HFIN := Lib.hid (SpRes.full (F := numsF 72 16 65535 T) (HK3.out.trans (HK6.out.trans HR7.out.1)) rfl (by have := HT6.out.hl; have := HM.out; omega) hs7 ((HT6.out.trans ht7).mono (show k * (K + 640) + 2 * 16 + 2 * 16 + 576 ≤ T.length * (K + 640) by have := HM.out; omega) (show k * (K + 640) + 2 * 16 + 2 * 16 + 576 ≤ T.length * (K + 640) by have := HM.out; omega)))
            clear hlt7 hs7 ht7
            go_wp2
            go_ret2
            exact HFIN.out
          · have HS7 := Lib.hid hs7
            have HT7 := Lib.hid (HT6.out.trans ht7)
            have HDQ7 := Lib.hid (HDQ6.out.to ht7 HS6.out.ok hs7.ok)
            have HK7 := Lib.hid (HK6.out.trans HR7.out.1)
            have c7 := hs7.sp.c0
            have hnl := HT7.out.nl
            have hm := HM.out
            have hwk := HK.out (k + 1) (by omega)
            rw [HTK.out] at hwk
            have HOR := Lib.hid (show Calls Tryz.prog 37 #[.pointer (some ⟨A.a, 0, none⟩), .int .i64 q, .int .i64 r7] w7 (SpRes w7 B S km A Mo τ7 (fun s => numsF 72 16 65535 (T.take k) s || spanF 72 16 lo (min hi 65535) s) K K) from hs7.or HDQ7.out hd7 (a := K) (b := K) (Grow.wid hs7.ok.wf.two hwk) (by omega))
            clear hs7 ht7 hd7 HR7 HAN hnl hm hwk HS6 HT6 HDQ6 HK6
            go_upto_region 22 with ((with_reducible refine HOR.out.mono ?_); rintro e w8 hr8; obtain ⟨q8, c8, he8⟩ := hr8.form; have HR8 := Lib.hid hr8; subst he8; clear hr8)
            rcases HR8.out.two with ⟨rfl, rfl, hlt8, τ8, hs8, ht8⟩ | ⟨r8, τ8, rfl, rfl, hs8, ht8, hd8⟩
            · have HFIN := Lib.hid (SpRes.full (F := numsF 72 16 65535 T) (HK3.out.trans (HK7.out.trans HR8.out.1)) rfl (by have := HT7.out.hl; have := HM.out; omega) hs8 ((HT7.out.trans ht8).mono (show k * (K + 640) + 2 * 16 + 2 * 16 + 576 + K ≤ T.length * (K + 640) by have := HM.out; omega) (show k * (K + 640) + 2 * 16 + 2 * 16 + 576 + K ≤ T.length * (K + 640) by have := HM.out; omega)))
              clear hlt8 hs8 ht8
              go_wp2
              go_ret2
              exact HFIN.out
            · have HS8 := Lib.hid hs8
              have HT8 := Lib.hid ((HT7.out.trans ht8).mono (show k * (K + 640) + 2 * 16 + 2 * 16 + 576 + K ≤ (k + 1) * (K + 640) by have := HM.out; omega) (show k * (K + 640) + 2 * 16 + 2 * 16 + 576 + K ≤ (k + 1) * (K + 640) by have := HM.out; omega))
              have HD8 : Hid (Den τ8 r8 (numsF 72 16 65535 (T.take (k + 1)))) := Lib.hid (by rw [HTK.out]; exact hd8)
              have HK8 := Lib.hid (HK7.out.trans HR8.out.1)
              clear hs8 ht8 hd8 HR8 HOR HS7 HT7 HDQ7 HK7
              go_wp2
              exact ⟨⟨k + 1, by go_num, by omega, r8, τ8, rfl, HS8, HT8, HD8, HK8⟩, by simp only [intOf]; omega⟩
    · obtain rfl : k = T.length := by omega
      have hfd := HDR.out
      rw [List.take_length] at hfd
      have HFIN : Hid (SpRes w B S km A Mo σ (numsF 72 16 65535 T) (T.length * (K + 640)) (T.length * (K + 640)) (.returned (.tuple #[.int .i64 q, .int .i64 0])) wr) := Lib.hid ⟨HK3.out.trans HKR.out, .inr ⟨q, τ, rfl, HSR.out, HTR.out, hfd⟩⟩
      clear hfd
      rcases HEND.out with hend | ⟨x, hx, hxl, hlen⟩
      · have hI : ¬ (T.length : Int) < (R.length : Int) := by omega
        clear hend
        go_wp2
        go_ret2
        exact HFIN.out
      · have hI : (T.length : Int) < (R.length : Int) := by omega
        obtain ⟨g, rfl, hrow⟩ := HROW.out T.length x hx
        obtain ⟨r0, r1⟩ := hrow wr HKR.out
        obtain ⟨lo, hlo⟩ : ∃ lo : Nat, x.lo = lo := ⟨x.lo.toNat, by have := x.hlo; omega⟩
        obtain ⟨hi, hhi⟩ : ∃ hi : Nat, x.hi = hi := ⟨x.hi.toNat, by have := x.hhi; omega⟩
        have hlb := x.hlo
        have hhb := x.hhi
        rw [hlo] at r0 hxl hlb
        rw [hhi] at r1 hhb
        have hl1 : (lo : Int) ≤ 4294967295 := by omega
        have hl2 : (hi : Int) ≤ 4294967295 := by omega
        have hcmp : (lo : Int) > 65535 := by omega
        have hbs := below1 wr (.cells #[.int .u32 lo, .int .u32 hi] 66)
        have HS4 := Lib.hid (SpRes.laid HFIN.out hbs)
        have s0 : (wr.alloc (.cells #[.int .u32 lo, .int .u32 hi] 66)).cell? ⟨wr.heap.size, 0, none⟩ = some (.int .u32 lo) := cell_of_row _ _ 0 _ _ (0, 0) (blk1 wr _)
        obtain ⟨b0, b1⟩ := HBX.out _ (HKR.out.trans (HSR.out.kept hbs))
        clear hx hrow hxl hlen hlo hhi hlb hhb hbs
        go_wp2
        go_ret2
        exact HS4.out
theorem numbers4_yes (h : SpOk w B S km A Mo σ) (L : List SpanV) (vl : Value) (hL : Rd w w.heap.size 2 vl L.length (scells L)) (hlen : L.length ≤ 1099511627776) (T U : List SpanV) (hR : formOf L = T ++ U) (hT : ∀ x ∈ T, x.lo ≤ 65535) (hU : U = [] ∨ ∃ u U', U = u :: U' ∧ 65535 < u.lo) (K : Nat)
    (hK : ∀ k, k ≤ T.length → Wid (numsF 88 16 65535 (T.take k)) K) (hl : σ.N.length + T.length * (K + 640) ≤ 2147483647) :
    Calls Tryz.prog 59 #[.pointer (some ⟨S, 0, none⟩), .int .i64 4, vl] w (SpRes w B S km A Mo σ (numsF 88 16 65535 T) (T.length * (K + 640)) (T.length * (K + 640))) := by
  have p0 : ∀ W : World, (W.alloc partsObj).cell? ⟨W.heap.size, 8, none⟩ = some (.int .i64 88) := fun W => (parts_at W 4 (by omega)).1
  have p1 : ∀ W : World, (W.alloc partsObj).cell? ⟨W.heap.size, 9, none⟩ = some (.int .i64 16) := fun W => (parts_at W 4 (by omega)).2
  have HS := Lib.hid h
  have HL := Lib.hid hL
  have HR := Lib.hid (And.intro hR (And.intro hT hU))
  have HK := Lib.hid hK
  have HLEN := Lib.hid hlen
  clear h hL hR hT hU hK hlen
  go_enter Tryz.func59, Tryz.ntmps59
  go_upto_region 6 with (go_at_call 72; (with_reducible refine (parts_any _).mono ?_); rintro e _ ⟨rfl, rfl⟩)
  have HB2 := Lib.hid (below2 w partsObj (.cells #[.int .i64 88, .int .i64 16] 147))
  have hk2 := blk1 (w.alloc partsObj) (.cells #[.int .i64 88, .int .i64 16] 147)
  have hs2 : (w.alloc partsObj).heap.size = w.heap.size + 1 := by simp
  rw [hs2] at hk2
  have HF2 := Lib.hid (HS.out.sp.ar.foreign_new HB2.out (k := w.heap.size + 1) (by omega) (lt_of_block hk2))
  have HNE : Hid (w.heap.size + 1 ≠ km) := Lib.hid (by have := HS.out.sp.fk.1; omega)
  have HS2 := Lib.hid (HS.out.below HB2.out)
  have HK2 := Lib.hid (HS.out.kept HB2.out)
  have HL2 := Lib.hid ((HL.out.below HB2.out).mono HB2.out.size)
  have b0 : ((w.alloc partsObj).alloc (.cells #[.int .i64 88, .int .i64 16] 147)).cell? ⟨w.heap.size + 1, 0, none⟩ = some (.int .i64 88) := cell_of_row _ _ 0 _ _ (0, 0) hk2
  have b1 : ((w.alloc partsObj).alloc (.cells #[.int .i64 88, .int .i64 16] 147)).cell? ⟨w.heap.size + 1, 1, none⟩ = some (.int .i64 16) := cell_of_row _ _ 1 _ _ (0, 0) hk2
  have HBK := Lib.hid hk2
  clear HB2 hk2 hs2 p0 p1 HS
  generalize (w.alloc partsObj).alloc (.cells #[.int .i64 88, .int .i64 16] 147) = w2 at *
  have HFM := Lib.hid (form_any L vl w2 HL2.out HLEN.out)
  rw [HR.out.1] at HFM
  have HLT : Hid (∀ k, k < T.length → ∃ x, (T ++ U)[k]? = some x ∧ T[k]? = some x ∧ x.lo ≤ 65535) := Lib.hid fun k hk => by
    refine ⟨T[k], ?_, ?_, HR.out.2.1 _ (List.getElem_mem hk)⟩
    · rw [List.getElem?_append_left hk, List.getElem?_eq_getElem hk]
    · rw [List.getElem?_eq_getElem hk]
  have HEND : Hid ((T ++ U).length = T.length ∨ ∃ x, (T ++ U)[T.length]? = some x ∧ 65535 < x.lo ∧ T.length < (T ++ U).length) := Lib.hid (by
    rcases HR.out.2.2 with rfl | ⟨u, U', rfl, hu⟩
    · exact .inl (by simp)
    · exact .inr ⟨u, by simp, hu, by simp⟩)
  have HTL : Hid (T.length ≤ (T ++ U).length) := Lib.hid (by simp)
  clear HR HL HL2 HLEN
  generalize T ++ U = R at *
  go_upto_region 9 with ((with_reducible refine HFM.out.mono ?_); rintro e w3 ⟨v3, rfl, ho3, hb3⟩; have HO3 := Lib.hid ho3; have HB3 := Lib.hid hb3; obtain ⟨A3, c3, hv3, hA3⟩ := owns_form ho3; subst hv3; have HA3 := Lib.hid hA3; clear hA3 ho3 hb3)
  have HS3 := Lib.hid (HS2.out.below HB3.out)
  have HK3 := Lib.hid (HK2.out.trans (HS2.out.kept HB3.out))
  have hk3 := blk_below HB3.out HBK.out
  have HF3 := Lib.hid (((HS2.out.kept HB3.out).same _ HF2.out HNE.out).2)
  have HBX : Hid (∀ W, KeptS A km w3 W → W.cell? ⟨w.heap.size + 1, 0, none⟩ = some (.int .i64 88) ∧ W.cell? ⟨w.heap.size + 1, 1, none⟩ = some (.int .i64 16)) := Lib.hid fun W hW => by
    have hk := (hW.same _ HF3.out HNE.out).1.trans hk3
    exact ⟨cell_of_row W _ 0 _ _ (0, 0) hk, cell_of_row W _ 1 _ _ (0, 0) hk⟩
  have HROW : Hid (∀ (k : Nat) (x : SpanV), R[k]? = some x → ∃ g, A3 = some ⟨g, 0, none⟩ ∧ ∀ W, KeptS A km w3 W → W.cell? ⟨g, k * 2, none⟩ = some (.int .u32 x.lo) ∧ W.cell? ⟨g, k * 2 + 1, none⟩ = some (.int .u32 x.hi)) := Lib.hid fun k x hx => by
    have hk := (List.getElem?_eq_some_iff.1 hx).1
    obtain ⟨g, rfl⟩ := HA3.out (by omega)
    have hlg := HO3.out.lt g rfl
    have hgf := HS2.out.sp.ar.foreign_new HB3.out hlg.1 hlg.2
    have hgk : g ≠ km := by have := HS2.out.sp.fk.1; omega
    refine ⟨g, rfl, fun W hW => ⟨(World.cell?_of_block (hW.same _ hgf hgk).1).trans ?_, (World.cell?_of_block (hW.same _ hgf hgk).1).trans ?_⟩⟩
    · exact (HO3.out.cellAt (k * 2) (by omega)).trans (scell (i := 0) hx rfl)
    · exact (HO3.out.cellAt (k * 2 + 1) (by omega)).trans (scell (i := 1) hx rfl)
  have hrl := (owns_le HO3.out).2
  clear HB3 hk3 HF3 HBK HO3 HA3 HF2 HS2 HK2 HFM b0 b1 HNE
  go_wp2
  go_loopw [10, 35] (fun r i wr => ∃ k : Nat, i = .int .i64 k ∧ k ≤ T.length ∧ ∃ (q : Nat) (τ : Sg), r = .int .i64 q ∧ Hid (SpOk wr B S km A Mo τ) ∧ Hid (To (k * (K + 640)) (k * (K + 640)) σ τ) ∧ Hid (Den τ q (numsF 88 16 65535 (T.take k))) ∧ Hid (KeptS A km w3 wr)) (fun _ i _ => R.length - (intOf i).toNat)
  case atStart => exact ⟨0, rfl, by omega, 0, σ, rfl, HS3, Lib.hid (by rw [Nat.zero_mul]; exact To.refl σ), Lib.hid (Den.zero HS3.out.ok), Lib.hid (KeptS.refl _ _ _)⟩
  case round =>
    obtain ⟨k, rfl, hk, q, τ, rfl, HSR, HTR, HDR, HKR⟩ := hrel
    have htl := HTL.out
    by_cases hlt : k < T.length
    · have hI : (k : Int) < (R.length : Int) := by omega
      obtain ⟨x, hx, hxT, hxM⟩ := HLT.out k hlt
      obtain ⟨g, rfl, hrow⟩ := HROW.out k x hx
      obtain ⟨r0, r1⟩ := hrow wr HKR.out
      obtain ⟨lo, hlo⟩ : ∃ lo : Nat, x.lo = lo := ⟨x.lo.toNat, by have := x.hlo; omega⟩
      obtain ⟨hi, hhi⟩ : ∃ hi : Nat, x.hi = hi := ⟨x.hi.toNat, by have := x.hhi; omega⟩
      have hlb := x.hlo
      have hhb := x.hhi
      have HTK : Hid (numsF 88 16 65535 (T.take (k + 1)) = fun s => numsF 88 16 65535 (T.take k) s || spanF 88 16 lo (min hi 65535) s) := Lib.hid (by
        rw [List.take_add_one, hxT]
        show numsF 88 16 65535 (T.take k ++ [x]) = _
        rw [numsF_snoc, hlo, hhi]
        rfl)
      rw [hlo] at r0 hxM hlb
      rw [hhi] at r1 hhb
      have hl1 : (lo : Int) ≤ 4294967295 := by omega
      have hl2 : (hi : Int) ≤ 4294967295 := by omega
      have hcmp : ¬ (lo : Int) > 65535 := by omega
      have hm1 : (k + 1) * (K + 640) ≤ T.length * (K + 640) := Nat.mul_le_mul_right _ hlt
      have hm2 : (k + 1) * (K + 640) = k * (K + 640) + (K + 640) := by rw [Nat.add_mul, Nat.one_mul]
      have HM := Lib.hid (And.intro hm1 hm2)
      clear hx hxT hlo hhi hrow hm1 hm2 hxM hlb hhb
      go_upto_region 11 with fail
      have hbs := below1 wr (.cells #[.int .u32 lo, .int .u32 hi] 66)
      have hks := blk1 wr (.cells #[.int .u32 lo, .int .u32 hi] 66)
      have HF4 := Lib.hid (HSR.out.sp.ar.foreign_new hbs (Nat.le_refl _) (lt_of_block hks))
      have HN4 : Hid (wr.heap.size ≠ km) := Lib.hid (by have := HSR.out.sp.fk.1; omega)
      have HS4 := Lib.hid (HSR.out.below hbs)
      have HK4 := Lib.hid (HKR.out.trans (HSR.out.kept hbs))
      have HBS : Hid (∀ W, KeptS A km (wr.alloc (.cells #[.int .u32 lo, .int .u32 hi] 66)) W → W.cell? ⟨wr.heap.size, 0, none⟩ = some (.int .u32 lo) ∧ W.cell? ⟨wr.heap.size, 1, none⟩ = some (.int .u32 hi)) := Lib.hid fun W hW => by
        have hk := (hW.same _ HF4.out HN4.out).1.trans hks
        exact ⟨cell_of_row W _ 0 _ _ (0, 0) hk, cell_of_row W _ 1 _ _ (0, 0) hk⟩
      clear hbs hks HF4 HN4 r0 r1
      generalize wr.alloc (.cells #[.int .u32 lo, .int .u32 hi] 66) = w4 at *
      obtain ⟨s0, s1⟩ := HBS.out w4 (KeptS.refl _ _ _)
      obtain ⟨b0, b1⟩ := HBX.out w4 HK4.out
      have hnl := HTR.out.nl
      have hm := HM.out
      have HRA := Lib.hid (show Calls Tryz.prog 75 #[.pointer (some ⟨S, 0, none⟩), .agg #[.int .i64 88, .int .i64 16], .int .u64 lo, .bool true] w4 (SpRes w4 B S km A Mo τ (reachF 88 16 lo true 16) (2 * 16) (2 * 16)) from reach_any HS4.out 88 16 lo true (by omega) (by omega) (by omega) (by omega))
      clear hnl hm
      go_upto_region 13 with ((with_reducible refine HRA.out.mono ?_); rintro e w5 hr5; obtain ⟨q5, c5, he5⟩ := hr5.form; have HR5 := Lib.hid hr5; subst he5; clear hr5)
      rcases HR5.out.two with ⟨rfl, rfl, hlt5, τ5, hs5, ht5⟩ | ⟨r5, τ5, rfl, rfl, hs5, ht5, hd5⟩
      · have HFIN := Lib.hid (SpRes.full (F := numsF 88 16 65535 T) (HK3.out.trans (HK4.out.trans HR5.out.1)) rfl (by have := HTR.out.hl; have := HM.out; omega) hs5 ((HTR.out.trans ht5).mono (show k * (K + 640) + 2 * 16 ≤ T.length * (K + 640) by have := HM.out; omega) (show k * (K + 640) + 2 * 16 ≤ T.length * (K + 640) by have := HM.out; omega)))
        clear hlt5 hs5 ht5
        go_wp2
        go_ret2
        exact HFIN.out
      · have HS5 := Lib.hid hs5
        have HT5 := Lib.hid (HTR.out.trans ht5)
        have HD5 := Lib.hid hd5
        have HDQ5 := Lib.hid (HDR.out.to ht5 HSR.out.ok hs5.ok)
        have HKS5 := Lib.hid HR5.out.1
        have HK5 := Lib.hid (HK4.out.trans HR5.out.1)
        clear hs5 ht5 hd5 HR5 HRA s0 s1 b0 b1
        obtain ⟨s0, s1⟩ := HBS.out w5 HKS5.out
        obtain ⟨b0, b1⟩ := HBX.out w5 HK5.out
        have hnl := HT5.out.nl
        have hm := HM.out
        have HRB := Lib.hid (show Calls Tryz.prog 75 #[.pointer (some ⟨S, 0, none⟩), .agg #[.int .i64 88, .int .i64 16], .int .u64 (min (hi : Int) 65535), .bool false] w5 (SpRes w5 B S km A Mo τ5 (reachF 88 16 (min hi 65535) false 16) (2 * 16) (2 * 16)) from by
          rw [show min (hi : Int) 65535 = ((min hi 65535 : Nat) : Int) by omega]
          exact reach_any HS5.out 88 16 (min hi 65535) false (by omega) (by omega) (by omega) (by omega))
        clear hnl hm
        go_upto_region 16 with ((with_reducible refine HRB.out.mono ?_); rintro e w6 hr6; obtain ⟨q6, c6, he6⟩ := hr6.form; have HR6 := Lib.hid hr6; subst he6; clear hr6)
        rcases HR6.out.two with ⟨rfl, rfl, hlt6, τ6, hs6, ht6⟩ | ⟨r6, τ6, rfl, rfl, hs6, ht6, hd6⟩
        · have HFIN := Lib.hid (SpRes.full (F := numsF 88 16 65535 T) (HK3.out.trans (HK5.out.trans HR6.out.1)) rfl (by have := HT5.out.hl; have := HM.out; omega) hs6 ((HT5.out.trans ht6).mono (show k * (K + 640) + 2 * 16 + 2 * 16 ≤ T.length * (K + 640) by have := HM.out; omega) (show k * (K + 640) + 2 * 16 + 2 * 16 ≤ T.length * (K + 640) by have := HM.out; omega)))
          clear hlt6 hs6 ht6
          go_wp2
          go_ret2
          exact HFIN.out
        · have HS6 := Lib.hid hs6
          have HT6 := Lib.hid (HT5.out.trans ht6)
          have HDQ6 := Lib.hid (HDQ5.out.to ht6 HS5.out.ok hs6.ok)
          have HK6 := Lib.hid (HK5.out.trans HR6.out.1)
          have c6 := hs6.sp.c0
          have hnl := HT6.out.nl
          have hm := HM.out
          have HAN := Lib.hid (show Calls Tryz.prog 62 #[.pointer (some ⟨A.a, 0, none⟩), .int .i64 r5, .int .i64 r6] w6 (SpRes w6 B S km A Mo τ6 (spanF 88 16 lo (min hi 65535)) 576 576) from hs6.and (HD5.out.to ht6 HS5.out.ok hs6.ok) hd6 (a := 576) (b := 576) (Grow.wid hs6.ok.wf.two (spanF_wid 88 16 lo (min hi 65535) (by omega) (by omega))) (by omega))
          clear hs6 ht6 hd6 HR6 HRB s0 s1 b0 b1 hnl hm HS5 HT5 HD5 HDQ5 HKS5 HK5
          go_upto_region 19 with ((with_reducible refine HAN.out.mono ?_); rintro e w7 hr7; obtain ⟨q7, c7, he7⟩ := hr7.form; have HR7 := Lib.hid hr7; subst he7; clear hr7)
          rcases HR7.out.two with ⟨rfl, rfl, hlt7, τ7, hs7, ht7⟩ | ⟨r7, τ7, rfl, rfl, hs7, ht7, hd7⟩
          · have HFIN := Lib.hid (SpRes.full (F := numsF 88 16 65535 T) (HK3.out.trans (HK6.out.trans HR7.out.1)) rfl (by have := HT6.out.hl; have := HM.out; omega) hs7 ((HT6.out.trans ht7).mono (show k * (K + 640) + 2 * 16 + 2 * 16 + 576 ≤ T.length * (K + 640) by have := HM.out; omega) (show k * (K + 640) + 2 * 16 + 2 * 16 + 576 ≤ T.length * (K + 640) by have := HM.out; omega)))
            clear hlt7 hs7 ht7
            go_wp2
            go_ret2
            exact HFIN.out
          · have HS7 := Lib.hid hs7
            have HT7 := Lib.hid (HT6.out.trans ht7)
            have HDQ7 := Lib.hid (HDQ6.out.to ht7 HS6.out.ok hs7.ok)
            have HK7 := Lib.hid (HK6.out.trans HR7.out.1)
            have c7 := hs7.sp.c0
            have hnl := HT7.out.nl
            have hm := HM.out
            have hwk := HK.out (k + 1) (by omega)
            rw [HTK.out] at hwk
            have HOR := Lib.hid (show Calls Tryz.prog 37 #[.pointer (some ⟨A.a, 0, none⟩), .int .i64 q, .int .i64 r7] w7 (SpRes w7 B S km A Mo τ7 (fun s => numsF 88 16 65535 (T.take k) s || spanF 88 16 lo (min hi 65535) s) K K) from hs7.or HDQ7.out hd7 (a := K) (b := K) (Grow.wid hs7.ok.wf.two hwk) (by omega))
            clear hs7 ht7 hd7 HR7 HAN hnl hm hwk HS6 HT6 HDQ6 HK6
            go_upto_region 22 with ((with_reducible refine HOR.out.mono ?_); rintro e w8 hr8; obtain ⟨q8, c8, he8⟩ := hr8.form; have HR8 := Lib.hid hr8; subst he8; clear hr8)
            rcases HR8.out.two with ⟨rfl, rfl, hlt8, τ8, hs8, ht8⟩ | ⟨r8, τ8, rfl, rfl, hs8, ht8, hd8⟩
            · have HFIN := Lib.hid (SpRes.full (F := numsF 88 16 65535 T) (HK3.out.trans (HK7.out.trans HR8.out.1)) rfl (by have := HT7.out.hl; have := HM.out; omega) hs8 ((HT7.out.trans ht8).mono (show k * (K + 640) + 2 * 16 + 2 * 16 + 576 + K ≤ T.length * (K + 640) by have := HM.out; omega) (show k * (K + 640) + 2 * 16 + 2 * 16 + 576 + K ≤ T.length * (K + 640) by have := HM.out; omega)))
              clear hlt8 hs8 ht8
              go_wp2
              go_ret2
              exact HFIN.out
            · have HS8 := Lib.hid hs8
              have HT8 := Lib.hid ((HT7.out.trans ht8).mono (show k * (K + 640) + 2 * 16 + 2 * 16 + 576 + K ≤ (k + 1) * (K + 640) by have := HM.out; omega) (show k * (K + 640) + 2 * 16 + 2 * 16 + 576 + K ≤ (k + 1) * (K + 640) by have := HM.out; omega))
              have HD8 : Hid (Den τ8 r8 (numsF 88 16 65535 (T.take (k + 1)))) := Lib.hid (by rw [HTK.out]; exact hd8)
              have HK8 := Lib.hid (HK7.out.trans HR8.out.1)
              clear hs8 ht8 hd8 HR8 HOR HS7 HT7 HDQ7 HK7
              go_wp2
              exact ⟨⟨k + 1, by go_num, by omega, r8, τ8, rfl, HS8, HT8, HD8, HK8⟩, by simp only [intOf]; omega⟩
    · obtain rfl : k = T.length := by omega
      have hfd := HDR.out
      rw [List.take_length] at hfd
      have HFIN : Hid (SpRes w B S km A Mo σ (numsF 88 16 65535 T) (T.length * (K + 640)) (T.length * (K + 640)) (.returned (.tuple #[.int .i64 q, .int .i64 0])) wr) := Lib.hid ⟨HK3.out.trans HKR.out, .inr ⟨q, τ, rfl, HSR.out, HTR.out, hfd⟩⟩
      clear hfd
      rcases HEND.out with hend | ⟨x, hx, hxl, hlen⟩
      · have hI : ¬ (T.length : Int) < (R.length : Int) := by omega
        clear hend
        go_wp2
        go_ret2
        exact HFIN.out
      · have hI : (T.length : Int) < (R.length : Int) := by omega
        obtain ⟨g, rfl, hrow⟩ := HROW.out T.length x hx
        obtain ⟨r0, r1⟩ := hrow wr HKR.out
        obtain ⟨lo, hlo⟩ : ∃ lo : Nat, x.lo = lo := ⟨x.lo.toNat, by have := x.hlo; omega⟩
        obtain ⟨hi, hhi⟩ : ∃ hi : Nat, x.hi = hi := ⟨x.hi.toNat, by have := x.hhi; omega⟩
        have hlb := x.hlo
        have hhb := x.hhi
        rw [hlo] at r0 hxl hlb
        rw [hhi] at r1 hhb
        have hl1 : (lo : Int) ≤ 4294967295 := by omega
        have hl2 : (hi : Int) ≤ 4294967295 := by omega
        have hcmp : (lo : Int) > 65535 := by omega
        have hbs := below1 wr (.cells #[.int .u32 lo, .int .u32 hi] 66)
        have HS4 := Lib.hid (SpRes.laid HFIN.out hbs)
        have s0 : (wr.alloc (.cells #[.int .u32 lo, .int .u32 hi] 66)).cell? ⟨wr.heap.size, 0, none⟩ = some (.int .u32 lo) := cell_of_row _ _ 0 _ _ (0, 0) (blk1 wr _)
        obtain ⟨b0, b1⟩ := HBX.out _ (HKR.out.trans (HSR.out.kept hbs))
        clear hx hrow hxl hlen hlo hhi hlb hhb hbs
        go_wp2
        go_ret2
        exact HS4.out
end
end Go.Proofs.YthhcaoljejifeaaGreat
